/- What the functions that the law reaches come to, down to the law itself. -/
import Derived.Test.YthnhdgcaolgdnaaCnStoreOrderp0
import Derived.Test.YthnhdgcaolgdnaaProg
set_option linter.unusedVariables false
set_option linter.unusedSimpArgs false
set_option maxRecDepth 100000
namespace Go.Proofs.YthnhdgcaolgdnaaAn
open Go
/- (*arras/disk.file).settle -/
theorem vc53 (a : AV) (h : Hp) (Post : AV → Hp → Prop) : vcCall Try.prog [0] 53 [(SV.vv a)] h Post = (
  ∃ I0 : Nat → Hp → Prop,
  (∃ p0, I0 p0 h) ∧
    ∀ (p1 : Nat) (h0 : Hp),
      I0 p1 h0 →
        Dup
          (onO (ptrV a) fun r0 =>
            onO (rdH h0 r0.fst (r0.snd + 2) 1) fun l0 =>
              onL [Kd.ref] l0 fun a0 =>
                onO (lenV a0) fun p2 =>
                  onB (decide ((0 : Int) < ↑p2))
                    (onO (ptrV a) fun r1 =>
                      onO (rdH h0 r1.fst (r1.snd + 2) 1) fun l1 =>
                        onL [Kd.ref] l1 fun a1 =>
                          onO (idxV a1 0 3) fun r2 =>
                            onO (rdH h0 r2.fst r2.snd 3) fun l2 =>
                              onL [Kd.bool, Kd.int IntKind.i64, Kd.ref] l2 fun lc0 n0 a2 =>
                                onO (ptrV a) fun r3 =>
                                  onO (rdH h0 r3.fst (r3.snd + 0) 1) fun l3 =>
                                    onL [Kd.ref] l3 fun a3 =>
                                      wpC Try.prog 34 [AV.agg [AV.b lc0, AV.i IntKind.i64 n0, a2], a3]
                                        (fun a4 h1 =>
                                          onRet [Sh.one Kd.ref] a4 fun a5 =>
                                            onO (ptrV a) fun r4 =>
                                              wpE (Eff.w r4.fst (r4.snd + 0) (Src.lit [a5]) none)
                                                (fun x0 h2 =>
                                                  onO (ptrV a) fun r5 =>
                                                    onO (rdH h2 r5.fst (r5.snd + 2) 1) fun l4 =>
                                                      onL [Kd.ref] l4 fun a6 =>
                                                        onO (slV a6 (some 1) none none 3) fun a7 =>
                                                          onO (ptrV a) fun r6 => wpE (Eff.w r6.fst (r6.snd + 2) (Src.lit [a7]) none) (fun x1 h3 => ∃ p3, ltN p3 p1 ∧ I0 p3 h3) h2)
                                                h1)
                                        h0)
                    (Post (AV.tup []) h0))) := by kernel_rfl
/- (*arras/disk.Disk).Crash$1 -/
theorem vc32 (x : Int) (q : Nat) (h : Hp) (Post : AV → Hp → Prop) : vcCall Try.prog [] 32 [.ii .i64 x, .vv (.p q 0)] h Post = (
  onO (ptrV (AV.p q 0)) fun r0 =>
  onO (rdH h r0.fst r0.snd 1) fun l0 =>
    onL [Kd.ref] l0 fun a0 =>
      onO (lenV a0) fun p0 =>
        onB (decide ((↑p0 : Int) = 0)) (Post (AV.i IntKind.i64 0) h)
          (onO (ptrV (AV.p q 0)) fun r1 =>
            onO (rdH h r1.fst r1.snd 1) fun l1 =>
              onL [Kd.ref] l1 fun a1 =>
                onO (idxV a1 0 1) fun r2 =>
                  onO (rdH h r2.fst r2.snd 1) fun l2 =>
                    onL [Kd.int IntKind.i64] l2 fun n0 =>
                      onO (ptrV (AV.p q 0)) fun r3 =>
                        onO (rdH h r3.fst r3.snd 1) fun l3 =>
                          onL [Kd.ref] l3 fun a2 =>
                            onO (slV a2 (some 1) none none 1) fun a3 =>
                              onO (ptrV (AV.p q 0)) fun r4 =>
                                wpE (Eff.w r4.fst r4.snd (Src.lit [a3]) none)
                                  (fun x0 h0 =>
                                    wpC Try.prog 33 [AV.i IntKind.i64 n0, AV.i IntKind.i64 x] (fun a4 h1 => onRet [Sh.one (Kd.int IntKind.i64)] a4 fun n1 => Post (AV.i IntKind.i64 n1) h1) h0)
                                  h)) := by kernel_rfl
/- arras/disk.modulo -/
theorem vc33 (a : Int) (b : Int) (h : Hp) (Post : AV → Hp → Prop) : vcCall Try.prog [] 33 [(SV.ii .i64 a), (SV.ii .i64 b)] h Post = (
  onO (intO BinOp.rem IntKind.i64 a b) fun n0 => onO (intO BinOp.add IntKind.i64 n0 b) fun n1 => onO (intO BinOp.rem IntKind.i64 n1 b) fun n2 => Post (AV.i IntKind.i64 n2) h) := by kernel_rfl
/- (arras/disk.op).do -/
theorem vc34 (a0 : Bool) (a1 : Int) (a2 : AV) (b : AV) (h : Hp) (Post : AV → Hp → Prop) : vcCall Try.prog [] 34 [(SV.ag [(SV.bb a0), (SV.ii .i64 a1), (SV.vv a2)]), (SV.vv b)] h Post = (
  ∀ (p0 : Nat),
  onB a0 (onO (slV b none (some a1) none 1) fun a0 => Post a0 h)
    (onO (lenV a2) fun p1 =>
      onO (intO BinOp.add IntKind.i64 a1 ↑p1) fun n0 =>
        onO (lenV b) fun p2 =>
          onO (intO BinOp.sub IntKind.i64 n0 ↑p2) fun n1 =>
            onB (decide (0 < n1))
              (onO (natI n1) fun p3 =>
                onC (p3.blt 32000000 && ((4 * p3 + 4000) * 1).ble (OfNat.ofNat 17179869184))
                  (wpE (Eff.app b p3 (Src.lit (zerosV [AV.i IntKind.u8 0] p3)) 1)
                    (fun x0 h0 => onO x0 fun a1_1 => onO (slV a1_1 (some a1) none none 1) fun a2_1 => onO (copyV 1 a2_1 a2) fun r0 => wpE r0.snd (fun x1 h1 => Post a1_1 h1) h0) h))
              (onO (slV b (some a1) none none 1) fun a3 => onO (copyV 1 a3 a2) fun r1 => wpE r1.snd (fun x2 h2 => Post b h2) h))) := by kernel_rfl
/- (*arras/disk.Disk).ask -/
theorem vc67 (a : AV) (b : Int) (h : Hp) (Post : AV → Hp → Prop) : vcCall Try.prog [] 67 [(SV.vv a), (SV.ii .i64 b)] h Post = (
  onO (ptrV a) fun r0 =>
  onO (rdH h r0.fst (r0.snd + 9) 1) fun l0 =>
    onL [Kd.bool] l0 fun lc0 =>
      onB lc0 (Post (AV.i IntKind.i64 10) h) (onB (decide (b < 0)) (Post (AV.i IntKind.i64 1) h) (onB (decide (3 ≤ b)) (Post (AV.i IntKind.i64 1) h) (Post (AV.i IntKind.i64 0) h)))) := by kernel_rfl
/-! ### parts -/
theorem add_cases {p g : Hp} {k : Nat} {c : List AV} (e : (p.add g).g k = some c) : p.g k = some c ∨ g.g k = some c := by
  have e : (match p.g k with | some c => some c | none => g.g k) = some c := e
  cases h : p.g k with
  | none => rw [h] at e; exact .inr e
  | some x => rw [h] at e; exact .inl e
theorem restH_le (H q : Hp) : (restH H q).le H := fun k c e => by
  have e : (match q.g k with | some _ => none | none => H.g k) = some c := e
  cases h : q.g k with
  | none => rw [h] at e; exact e
  | some x => rw [h] at e; cases e
theorem rest_none {H q : Hp} {k : Nat} (h : q.g k ≠ none) : (restH H q).g k = none := by
  show (match q.g k with | some _ => none | none => H.g k) = none
  cases e : q.g k with
  | none => exact absurd e h
  | some x => rfl
theorem rest_some {H q : Hp} {k : Nat} (h : q.g k = none) : (restH H q).g k = H.g k := by
  show (match q.g k with | some _ => none | none => H.g k) = _
  rw [h]
theorem Fresh.outer {p q H : Hp} {a : AV} {sz : Nat} {css : List (List AV)} (f : Fresh p q a sz css) (l : q.le H) (lo : p.lo = H.lo) : Fresh (restH H q) H a sz css :=
  ⟨restH_le _ _, rfl, f.row.mono l, fun b o len lo' ex z e => by
    obtain ⟨n1, n2, cs, n3, n4⟩ := f.new _ _ _ _ _ _ e
    exact ⟨rest_none (by rw [n3]; simp), by show H.lo ≤ b; rw [← lo]; exact n2, cs, l b cs n3, n4⟩⟩
theorem disj_none {q : Hp} {lo : Nat} : Disj q (Hp.none lo) := fun k c e => rfl
theorem none_disj {q : Hp} {lo : Nat} : Disj (Hp.none lo) q := fun k c e => by cases e
theorem rdBox {h : Hp} {p o n : Nat} {c r : List AV} (hp : h.g p = some c) (hs : sub? c o n = some r) : rdH h p o n = some r := by
  unfold rdH
  rw [hp]; exact hs
/-- what a call added, and what was seen of the base -/
noncomputable def moreH (h h' B : Hp) : Hp := h'.res fun k => h.g k = none ∨ B.g k ≠ none
theorem more_le {h h' B : Hp} : (moreH h h' B).le h' := Hp.res_le _ _
theorem more_base {h h' B : Hp} (b : B.le h) (l : B.le h') : B.le (moreH h h' B) := fun k c e => by
  unfold moreH
  rw [Hp.res_in (.inr (by rw [e]; simp))]; exact l _ _ e
theorem more_new {h h' B X : Hp} (l : X.le h') (d : Disj X h) : X.le (moreH h h' B) := fun k c e => by
  unfold moreH
  rw [Hp.res_in (.inl (d k c e))]; exact l _ _ e
theorem more_disj {h h' B q : Hp} (l : q.le h) (d : Disj q B) : Disj q (moreH h h' B) := fun k c e => by
  unfold moreH
  rw [Hp.res_out]
  rintro (h1 | h1)
  · rw [l k c e] at h1; cases h1
  · exact h1 (d k c e)
/-- a row of flat data in a part of its own -/
def PK {α : Type} (d : Kn α) (lo : Nat) (q : Hp) (a : AV) (l : List α) : Prop := q.lo = lo ∧ d.Own (Hp.none lo) q a l
theorem PK.row {α : Type} {d : Kn α} {lo : Nat} {q H : Hp} {a : AV} {l : List α} (p : PK d lo q a l) (le : q.le H) : d.Row H a l := p.2.row.mono le
theorem PK.outer {α : Type} {d : Kn α} (fl : d.Flat) {q H : Hp} {a : AV} {l : List α} (p : PK d H.lo q a l) (le : q.le H) : d.Own (restH H q) H a l := by
  obtain ⟨h1, p0, css, p1, p2, f, p3⟩ := p
  exact ⟨restH H q, css, Hp.le_refl _, rfl, f.outer le p2, p3.mono fun _ _ k => fl _ _ _ _ k⟩
theorem PK.of {α : Type} {d : Kn α} (fl : d.Flat) {g H : Hp} {a : AV} {l : List α} (o : d.Own g H a l) : ∃ q, q.le H ∧ Disj q g ∧ PK d g.lo q a l := by
  obtain ⟨p, css, p1, p2, f, p3⟩ := o
  obtain ⟨q, q1, q2, q3, q4, q5⟩ := f.part
  rw [p2] at q5
  exact ⟨q, q1, q2.le_right p1, q3.trans p2, Hp.none g.lo, css, Hp.le_refl _, rfl, q5, p3.mono fun _ _ k => fl _ _ _ _ k⟩
theorem PK.nil {α : Type} (d : Kn α) (lo : Nat) : PK d lo (Hp.none lo) .ns [] := ⟨rfl, Kn.Own.nil d _⟩
/-! ### rows of one's own: a beginning, written over -/
theorem Fresh.upto {g h : Hp} {a : AV} {sz : Nat} {css : List (List AV)} (f : Fresh g h a sz css) {i : Nat} (hi : i ≤ css.length) : ∃ r, slV a none (some (i : Int)) none sz = some r ∧ Fresh g h r sz (css.take i) := by
  have hrow := f.row
  have hcc := hrow.1
  have r := hrow.2
  cases a <;> first | exact r.elim | skip
  · rename_i b o len lo ex z
    obtain ⟨r1, r2, r3, r4⟩ := r
    subst r1; subst r2
    obtain ⟨n1, n2, cs, n3, n4⟩ := f.new _ _ _ _ _ _ rfl
    refine ⟨.sl b o i lo ex z, ?_, f.le, f.lo, ⟨fun c hc => hcc c (List.mem_of_mem_take hc), rfl, by simp; omega, by omega, ?_⟩, fun b' o' len' lo' ex' z' e => ?_⟩
    · show (cond (Nat.beq z z) (cond (Nat.ble 0 i && Nat.ble i lo) (some (.sl b (cond (Nat.beq lo 0) o (o + 0 * z)) (i - 0) (lo - 0) ex z)) none) none : Option AV) = _
      rw [Nat.beq_refl, cond_true, Nat.ble_eq_true_of_le (Nat.zero_le _), Nat.ble_eq_true_of_le (show i ≤ lo by omega), Nat.zero_mul, Nat.add_zero, Nat.sub_zero, Nat.sub_zero]
      cases Nat.beq lo 0 <;> rfl
    · rcases r4 with e | e
      · exact .inl (by rw [e]; simp)
      · refine .inr ?_
        have hl : (css.take i).length = i := by simp; omega
        rw [hl]
        have hle : i * z ≤ css.length * z := Nat.mul_le_mul_right _ hi
        obtain ⟨c, e1, e2⟩ := bind_some' e
        unfold rdH
        rw [e1, Option.bind_some]
        obtain ⟨rfl', e3⟩ := sub_at e2
        rw [sub_mk (by omega)]
        congr 1
        have hft : css.flatten.take (i * z) = (css.take i).flatten := by
          have : ∀ (css : List (List AV)) (i : Nat), (∀ c ∈ css, c.length = z) → css.flatten.take (i * z) = (css.take i).flatten := by
            intro css
            induction css with
            | nil => intro i _; simp
            | cons c css ih =>
              intro i hc
              cases i with
              | zero => simp
              | succ i =>
                have h0 := hc c (by simp)
                rw [List.flatten_cons, List.take_succ_cons, List.flatten_cons, Nat.succ_mul, Nat.add_comm, ← h0, List.take_length_add_append, h0, ih i fun c hc' => hc c (by simp [hc'])]
          exact this css i hcc
        rw [← hft, rfl', List.take_take, Nat.min_eq_left hle]
    · injection e with e1 e2 e3 e4 e5 e6
      subst e1; subst e2; subst e4
      exact ⟨n1, n2, cs, n3, n4⟩
  · have r : css = [] := r
    subst r
    have : i = 0 := by simpa using hi
    subst this
    exact ⟨.ns, rfl, by simpa using f⟩
  · have r : css = [] := r
    subst r
    have : i = 0 := by simpa using hi
    subst this
    exact ⟨_, rfl, by simpa using f⟩
theorem Kn.Own.upto {α : Type} {d : Kn α} {g h : Hp} {a : AV} {l : List α} (o : d.Own g h a l) {i sz : Nat} (hsz : d.sz = sz) (hi : i ≤ l.length) : ∃ r, slV a none (some (i : Int)) none sz = some r ∧ d.Own g h r (l.take i) := by
  subst hsz
  obtain ⟨p, css, p1, p2, f, p3⟩ := o
  obtain ⟨r, e1, e2⟩ := f.upto (i := i) (by rw [← p3.length]; exact hi)
  exact ⟨r, e1, p, _, p1, p2, e2, p3.take i⟩
theorem splice_mid {c N : List AV} {o n d : Nat} (hd : d + N.length ≤ n) (hl : o + n ≤ c.length) : ((splice c (o + d) N).drop o).take n = ((c.drop o).take n).take d ++ (N ++ ((c.drop o).take n).drop (d + N.length)) := by
  have h1 : sub? c o n = some ((c.drop o).take n) := sub_mk hl
  have h2 := sub_splice_in (d := d) (new := N) h1 hd
  rw [sub_mk (by rw [splice_len _ _ _ (by omega)]; exact hl)] at h2
  have h3 := Option.some.inj h2
  rw [h3]
  unfold splice
  simp only [List.append_assoc]
/-- what may be copied: as many as are seen -/
theorem lenA_of {a : AV} {n : Nat} (h : lenV a = some n) : lenA a = some n := by
  cases a <;> first | exact h | (cases h)
/-- elements copied over, at a place -/
theorem Kn.Own.over {α : Type} {d : Kn α} (fl : d.Flat) {g h : Hp} {a x : AV} {l m : List α} {i : Nat} (o : d.Own g h a l) (hsz : d.sz = 1) (rx : d.Row h x m) (hi : i + m.length ≤ l.length) {Post : Option AV → Hp → Prop}
    (k : ∀ h', d.Own g h' a (l.take i ++ (m ++ l.drop (i + m.length))) → (∀ v, Post v h')) : onO (slV a (some (i : Int)) none none 1) fun a3 => onO (copyV 1 a3 x) fun r1 => wpE r1.2 Post h := by
  obtain ⟨p, css, p1, p2, f, p3⟩ := o
  obtain ⟨css2, r1, r2⟩ := rx
  rw [hsz] at f r1
  have hl := p3.length
  have hm := r2.length
  have hrow := f.row
  have hcc := hrow.1
  have r := hrow.2
  have one : ∀ (css : List (List AV)), (∀ c ∈ css, c.length = 1) → css.flatten.length = css.length := fun css hc => by
    have := flat_len (sz := 1) hc
    omega
  -- nothing to copy
  by_cases h0 : m.length = 0
  · have hm0 : m = [] := List.length_eq_zero_iff.1 h0
    have hc0 : css2 = [] := List.length_eq_zero_iff.1 (by omega)
    subst hm0; subst hc0
    have hsame : l.take i ++ ([] ++ l.drop (i + ([] : List α).length)) = l := by simp
    rw [hsame] at k
    have hlen : lenA x = some 0 := lenA_of r1.len
    obtain ⟨r', e1, e2⟩ := Raw.slice hrow (lo := some (i : Int)) (hi := none) (i := i) (j := css.length) rfl rfl (by simp at hi; omega) (Nat.le_refl _) (fun _ => trivial)
    refine onO.mk e1 ?_
    have hk : ∀ v, Post v h := k h ⟨p, css, p1, p2, by rw [hsz]; exact f, p3⟩
    have hr' := e2.2
    cases r' <;> first | exact hr'.elim | skip
    · rename_i b o len lo ex z
      obtain ⟨z1, z2, _⟩ := hr'
      subst z1
      refine onO.mk (a := (0, Eff.q (.i .i64 0))) ?_ (wpE.q (hk _))
      show ((lenA x).bind fun n => cond (Nat.beq 1 1) (cond (Nat.beq (Nat.min n len) 0) _ _) none) = _
      rw [hlen, Option.bind_some, Nat.beq_refl, cond_true, show Nat.min 0 len = 0 from Nat.zero_min _]
      rfl
    · refine onO.mk (a := (0, Eff.q (.i .i64 0))) ?_ (wpE.q (hk _))
      show ((lenA x).bind fun n => some (0, Eff.q (.i .i64 0))) = _
      rw [hlen]; rfl
    · refine onO.mk (a := (0, Eff.q (.i .i64 0))) ?_ (wpE.q (hk _))
      show ((lenA x).bind fun n => some (0, Eff.q (.i .i64 0))) = _
      rw [hlen]; rfl
  have hcne : css ≠ [] := by
    intro e
    have e2 : css.length = 0 := by rw [e]; rfl
    omega
  cases a <;> first | exact r.elim | exact absurd r hcne | skip
  rename_i b o len lo ex z
  obtain ⟨q1, q2, q3, q4⟩ := r
  subst q1
  obtain ⟨n1, n2, cs, n3, n4⟩ := f.new _ _ _ _ _ _ rfl
  have q5 : sub? cs o (css.length * 1) = some css.flatten := by
    rcases q4 with e | e
    · exact absurd e hcne
    · unfold rdH at e; rw [n3] at e; exact e
  obtain ⟨e6, h6⟩ := sub_at q5
  have hlo : h.lo ≤ b := by rw [f.lo]; exact n2
  obtain ⟨s, s1, s2⟩ := r1.src
  have hne : css2.length ≠ 0 := by omega
  -- where it comes from
  have hsrc : ∃ xb xo xl xc xe, x = .sl xb xo xl xc xe 1 ∧ xl = css2.length ∧ rdH h xb xo (css2.length * 1) = some css2.flatten := by
    have rr := r1.2
    cases x <;> first | exact rr.elim | (have rr : css2 = [] := rr; rw [rr] at hne; simp at hne; done) | skip
    obtain ⟨t1, t2, t3, t4⟩ := rr
    subst t1
    refine ⟨_, _, _, _, _, rfl, t2, ?_⟩
    rcases t4 with e | e
    · rw [e] at hne; simp at hne
    · exact e
  obtain ⟨xb, xo, xl, xc, xe, rfl, rfl, hrd⟩ := hsrc
  have hsl : slV (.sl b o len lo ex 1) (some (i : Int)) none none 1 = some (.sl b (cond (Nat.beq lo i) o (o + i * 1)) (len - i) (lo - i) ex 1) := by
    show (cond (Nat.beq 1 1) (cond (Nat.ble i len && Nat.ble len lo) _ none) none : Option AV) = _
    rw [Nat.beq_refl, cond_true, Nat.ble_eq_true_of_le (show i ≤ len by omega), Nat.ble_eq_true_of_le q3]; rfl
  have hlne : Nat.beq lo i = false := by
    cases hx : Nat.beq lo i with
    | false => rfl
    | true => have := beq_eq' hx; omega
  rw [hlne, cond_false] at hsl
  refine onO.mk hsl (onO.mk (a := (css2.length, Eff.w b (o + i * 1) (.mem xb xo (css2.length * 1)) (some (.i .i64 (.ofNat css2.length))))) ?_ ?_)
  · show ((some css2.length : Option Nat).bind fun n => cond (Nat.beq 1 1) (cond (Nat.beq (Nat.min n (len - i)) 0) _ ((srcN 1 (Nat.min n (len - i)) (.sl xb xo css2.length xc xe 1)).map fun src => (Nat.min n (len - i), Eff.w b (o + i * 1) src (some (.i .i64 (.ofNat (Nat.min n (len - i)))))))) none) = _
    rw [Option.bind_some, Nat.beq_refl, cond_true, show Nat.min css2.length (len - i) = css2.length from Nat.min_eq_left (by omega)]
    have hb0 : Nat.beq css2.length 0 = false := by
      cases hx : Nat.beq css2.length 0 with
      | false => rfl
      | true => exact absurd (beq_eq' hx) hne
    rw [hb0, cond_false]
    rfl
  · have lc1 := one css2 r1.1
    refine wpE.w n3 hlo hrd (by omega) (Kn.all_sc r2) (k _ ⟨p, css.take i ++ (css2 ++ css.drop (i + css2.length)), p1, p2, ?_, ?_⟩ _)
    · rw [hsz]
      have hlen : (css.take i ++ (css2 ++ css.drop (i + css2.length))).length = len := by simp; omega
      have fl1 : ∀ (css : List (List AV)) (i : Nat), (∀ c ∈ css, c.length = 1) → (css.take i).flatten = css.flatten.take i ∧ (css.drop i).flatten = css.flatten.drop i := by
        intro css
        induction css with
        | nil => intro i _; simp
        | cons c css ih =>
          intro i hc
          have hc1 := hc c (by simp)
          obtain ⟨x, rfl⟩ : ∃ x, c = [x] := List.length_eq_one_iff.1 hc1
          cases i with
          | zero => simp
          | succ i =>
            obtain ⟨h1, h2⟩ := ih i fun c hc' => hc c (by simp [hc'])
            simp [h1, h2]
      refine ⟨fun k c e => ?_, f.lo, ⟨fun c hc => ?_, rfl, hlen.symm, q3, .inr ?_⟩, fun b' o' len' lo' ex' z' e => ?_⟩
      · by_cases hk : k = b
        · rw [hk, n1] at e; cases e
        · rw [Hp.put_ne _ _ hk]; exact f.le k c e
      · rcases List.mem_append.1 hc with hc | hc
        · exact hcc c (List.mem_of_mem_take hc)
        · rcases List.mem_append.1 hc with hc | hc
          · exact r1.1 c hc
          · exact hcc c (List.mem_of_mem_drop hc)
      · unfold rdH
        rw [Hp.put_same, Option.bind_some, hlen, sub_mk (by rw [splice_len _ _ _ (by omega)]; omega)]
        congr 1
        have hll : css.length = len := q2.symm
        rw [Nat.mul_one, Nat.mul_one, splice_mid (by omega) (by omega)]
        rw [hll, Nat.mul_one] at e6
        rw [← e6, List.flatten_append, List.flatten_append, (fl1 css i hcc).1, (fl1 css _ hcc).2, lc1]
      · injection e with e1 e2 e3 e4 e5 e6
        subst e1; subst e2; subst e4
        exact ⟨n1, n2, _, Hp.put_same _ _ _, by rw [splice_len _ _ _ (by omega)]; exact n4⟩
    · rw [← hm]
      exact (p3.take i).append ((r2.mono fun _ _ k => fl _ _ _ _ k).append (p3.drop _))
theorem one_le {h : Hp} {p lo : Nat} {c : List AV} (e : h.g p = some c) : (Hp.one p c lo).le h := fun k x hk => by
  have hk : (if k = p then some c else none) = some x := hk
  by_cases h : k = p
  · rw [if_pos h] at hk; rw [h, e]; exact hk
  · rw [if_neg h] at hk; cases hk
theorem disj_one {q : Hp} {p lo : Nat} {c : List AV} (e : q.g p = none) : Disj q (Hp.one p c lo) := fun k x hk => by
  show (if k = p then some c else none) = none
  exact if_neg fun h => by rw [h, e] at hk; cases hk
def updQ (Q : Nat → Hp) (i : Nat) (q : Hp) : Nat → Hp := fun j => if j = i then q else Q j
theorem updQ_same {Q : Nat → Hp} {i : Nat} {q : Hp} : updQ Q i q i = q := if_pos rfl
theorem updQ_ne {Q : Nat → Hp} {i j : Nat} {q : Hp} (e : j ≠ i) : updQ Q i q j = Q j := if_neg e
structure Sep (lo : Nat) (F : Hp) (Q : Nat → Hp) (h : Hp) : Prop where
  hlo : h.lo = lo
  fle : F.le h
  flo : F.lo = lo
  le : ∀ i, (Q i).le h
  lo : ∀ i, (Q i).lo = lo
  df : ∀ i, Disj (Q i) F
  dd : ∀ i j, i ≠ j → Disj (Q i) (Q j)
namespace Sep
variable {lo : Nat} {F : Hp} {Q : Nat → Hp} {h h' : Hp}
theorem step (s : Sep lo F Q h) (i : Nat) {q' : Hp} (r : (restH h (Q i)).le h') (l : h'.lo = lo) (q1 : q'.le h') (q2 : Disj q' (restH h (Q i))) (q3 : q'.lo = lo) : Sep lo F (updQ Q i q') h' := by
  have fr : F.le (restH h (Q i)) := le_rest s.fle (s.df i)
  have qr : ∀ j, j ≠ i → (Q j).le (restH h (Q i)) := fun j e => le_rest (s.le j) (s.dd i j (Ne.symm e))
  refine ⟨l, Hp.le_trans fr r, s.flo, fun j => ?_, fun j => ?_, fun j => ?_, fun j k e => ?_⟩
  · by_cases e : j = i
    · subst e; rw [updQ_same]; exact q1
    · rw [updQ_ne e]; exact Hp.le_trans (qr j e) r
  · by_cases e : j = i
    · subst e; rw [updQ_same, q3]
    · rw [updQ_ne e, s.lo]
  · by_cases e : j = i
    · subst e; rw [updQ_same]; exact q2.le_right fr
    · rw [updQ_ne e]; exact s.df j
  · by_cases e1 : j = i
    · subst e1; rw [updQ_same, updQ_ne (Ne.symm e)]; exact q2.le_right (qr k (Ne.symm e))
    · by_cases e2 : k = i
      · subst e2; rw [updQ_same, updQ_ne e1]; exact (q2.le_right (qr j e1)).symm
      · rw [updQ_ne e1, updQ_ne e2]; exact s.dd j k e
theorem grow (s : Sep lo F Q h) (l : h.le h') (e : h'.lo = h.lo) : Sep lo F Q h' :=
  ⟨e.trans s.hlo, Hp.le_trans s.fle l, s.flo, fun i => Hp.le_trans (s.le i) l, s.lo, s.df, s.dd⟩
theorem frz (s : Sep lo F Q h) (l : h.le h') (e : h'.lo = h.lo) : Sep lo (moreH h h' F) Q h' :=
  ⟨e.trans s.hlo, more_le, e.trans s.hlo, fun i => Hp.le_trans (s.le i) l, s.lo, fun i => more_disj (s.le i) (s.df i), s.dd⟩
theorem fgrow (s : Sep lo F Q h) (l : h.le h') : F.le (moreH h h' F) := more_base s.fle (Hp.le_trans s.fle l)
theorem new (s : Sep lo F Q h) (i : Nat) (l : h.le h') (e : h'.lo = h.lo) {q' : Hp} (q1 : q'.le h') (q2 : Disj q' h) (q3 : q'.lo = lo) : Sep lo F (updQ Q i q') h' :=
  s.step i (Hp.le_trans (restH_le _ _) l) (e.trans s.hlo) q1 (q2.le_right (restH_le _ _)) q3
theorem drop (s : Sep lo F Q h) (i : Nat) : Sep lo F (updQ Q i (Hp.none lo)) h :=
  s.new i (Hp.le_refl _) rfl (none_le _ _) (none_disj) rfl
theorem box (s : Sep lo F Q h) {i p : Nat} {c : List AV} (e : Q i = Hp.one p c lo) : h.g p = some c := s.le i p c (by rw [e]; exact if_pos rfl)
theorem put (s : Sep lo F Q h) {i p : Nat} {c : List AV} (e : Q i = Hp.one p c lo) (c' : List AV) : Sep lo F (updQ Q i (Hp.one p c' lo)) (h.put p c') := by
  refine s.step i (fun k x hk => ?_) s.hlo (one_le (Hp.put_same _ _ _)) (disj_one ?_).symm rfl
  · by_cases ek : k = p
    · subst ek
      rw [rest_none (by rw [e]; show (if k = k then some c else none) ≠ none; rw [if_pos rfl]; simp)] at hk; cases hk
    · rw [Hp.put_ne _ _ ek]; exact restH_le _ _ k x hk
  · exact rest_none (by rw [e]; show (if p = p then some c else none) ≠ none; rw [if_pos rfl]; simp)
theorem alloc (s : Sep lo F Q h) (i : Nat) {p : Nat} (hp : h.g p = none) (c : List AV) : Sep lo F (updQ Q i (Hp.one p c lo)) (h.put p c) :=
  s.new i (Hp.le_put hp) rfl (one_le (Hp.put_same _ _ _)) (disj_one hp).symm rfl
theorem own (s : Sep lo F Q h) {α : Type} {d : Kn α} (fl : d.Flat) {i : Nat} {a : AV} {l : List α} (p : PK d lo (Q i) a l) : d.Own (restH h (Q i)) h a l := by
  rw [← s.hlo] at p
  exact p.outer fl (s.le i)
theorem back (s : Sep lo F Q h) {α : Type} {d : Kn α} (fl : d.Flat) {i : Nat} {a : AV} {l : List α} (o : d.Own (restH h (Q i)) h' a l) : ∃ q', Sep lo F (updQ Q i q') h' ∧ PK d lo q' a l := by
  obtain ⟨q, q1, q2, q3⟩ := PK.of fl o
  have q3 : PK d h.lo q a l := q3
  rw [s.hlo] at q3
  exact ⟨q, s.step i o.le (o.lo.trans s.hlo) q1 q2 q3.1, q3⟩
theorem row (s : Sep lo F Q h) {α : Type} {d : Kn α} {i : Nat} {a : AV} {l : List α} (p : PK d lo (Q i) a l) : d.Row h a l := p.row (s.le i)
/-- a row that is new, as a part -/
theorem fresh (s : Sep lo F Q h) (i : Nat) {α : Type} {d : Kn α} (fl : d.Flat) {a : AV} {l : List α} (o : d.Own h h' a l) : ∃ q', Sep lo F (updQ Q i q') h' ∧ PK d lo q' a l := by
  obtain ⟨q, q1, q2, q3⟩ := PK.of fl o
  rw [s.hlo] at q3
  exact ⟨q, s.new i o.le o.lo q1 q2 q3.1, q3⟩
end Sep
/-- a row that is new, frozen -/
theorem Kn.Own.frozen {α : Type} {d : Kn α} (fl : d.Flat) {h h' F : Hp} {a : AV} {l : List α} (o : d.Own h h' a l) : d.Row (moreH h h' F) a l := by
  obtain ⟨q, q1, q2, q3⟩ := PK.of fl o
  exact q3.row (more_new q1 q2)
/-! ### a beginning left out -/
theorem Fresh.from {g h : Hp} {a : AV} {sz : Nat} {css : List (List AV)} (f : Fresh g h a sz css) {i : Nat} (hi : i ≤ css.length) : ∃ r, slV a (some (i : Int)) none none sz = some r ∧ Fresh g h r sz (css.drop i) := by
  obtain ⟨r', e1, e2⟩ := Raw.slice f.row (lo := some (i : Int)) (hi := none) (i := i) (j := css.length) rfl rfl hi (Nat.le_refl _) (fun _ => trivial)
  rw [List.take_of_length_le (by simp)] at e2
  refine ⟨r', e1, f.le, f.lo, e2, fun b o len cap ex z e => ?_⟩
  subst e
  have r := f.row.2
  cases a <;> first | exact r.elim | skip
  · rename_i b0 o0 len0 cap0 ex0 z0
    obtain ⟨z1, z2, z3, z4⟩ := r
    subst z1
    obtain ⟨n1, n2, cs, n3, n4⟩ := f.new _ _ _ _ _ _ rfl
    have hs : slV (.sl b0 o0 len0 cap0 ex0 z0) (some (i : Int)) none none z0 = some (.sl b0 (cond (Nat.beq cap0 i) o0 (o0 + i * z0)) (len0 - i) (cap0 - i) ex0 z0) := by
      show (cond (Nat.beq z0 z0) (cond (Nat.ble i len0 && Nat.ble len0 cap0) _ none) none : Option AV) = _
      rw [Nat.beq_refl, cond_true, Nat.ble_eq_true_of_le (show i ≤ len0 by omega), Nat.ble_eq_true_of_le z3]; rfl
    rw [hs] at e1
    injection e1 with e1
    injection e1 with e1 e7 e3 e4 e5 e6
    subst e1; subst e7; subst e4
    refine ⟨n1, n2, cs, n3, ?_⟩
    have hc : i * z0 + (cap0 - i) * z0 = cap0 * z0 := by rw [← Nat.add_mul]; congr 1; omega
    cases Nat.beq cap0 i with
    | true => show o0 + _ ≤ _; omega
    | false => show o0 + i * z0 + _ ≤ _; omega
  · have r : css = [] := r
    subst r
    have : i = 0 := by simpa using hi
    subst this
    cases (e1 : some AV.ns = some (AV.sl b o len cap ex z))
  · rename_i x
    have r : css = [] := r
    subst r
    have : i = 0 := by simpa using hi
    subst this
    cases (e1 : some (AV.e x) = some (AV.sl b o len cap ex z))
theorem Kn.Own.from {α : Type} {d : Kn α} {g h : Hp} {a : AV} {l : List α} (o : d.Own g h a l) {i sz : Nat} (hsz : d.sz = sz) (hi : i ≤ l.length) : ∃ r, slV a (some (i : Int)) none none sz = some r ∧ d.Own g h r (l.drop i) := by
  subst hsz
  obtain ⟨p, css, p1, p2, f, p3⟩ := o
  obtain ⟨r, e1, e2⟩ := f.from (i := i) (by rw [← p3.length]; exact hi)
  exact ⟨r, e1, p, _, p1, p2, e2, p3.drop i⟩
/-- an element's cells as they are -/
def kRw (sz : Nat) : Kn (List AV) := ⟨sz, fun _ x c => c = x ∧ x.length = sz ∧ x.all AV.sc = true, fun _ k => k, fun k => by rw [k.1]; exact k.2.1, fun k => by rw [k.1]; exact k.2.2⟩
theorem kRw_flat {sz : Nat} : (kRw sz).Flat := fun _ _ _ _ k => k
theorem kRw_all {sz : Nat} {h : Hp} : ∀ {xs css : List (List AV)}, All2 ((kRw sz).K h) xs css → css = xs
  | [], _, .nil => rfl
  | _ :: _, _, .cons k t => by rw [k.1, kRw_all t]
theorem kRw_mk {α : Type} {d : Kn α} {h h' : Hp} : ∀ {l : List α} {css : List (List AV)}, All2 (d.K h) l css → All2 ((kRw d.sz).K h') css css
  | [], _, .nil => .nil
  | _ :: _, _, .cons k t => .cons ⟨rfl, d.len k, d.sc k⟩ (kRw_mk t)
def RowP {α : Type} (d : Kn α) (F : Hp) (lo : Nat) (q : Hp) (a : AV) (l : List α) : Prop := ∃ css, PK (kRw d.sz) lo q a css ∧ All2 (d.K F) l css
section
variable {α : Type} {d : Kn α} {lo : Nat} {F F' q h h' : Hp} {Q : Nat → Hp} {a : AV} {l : List α}
theorem RowP.nil : RowP d F lo (Hp.none lo) .ns [] := ⟨[], PK.nil _ _, .nil⟩
theorem RowP.mono (r : RowP d F lo q a l) (le : F.le F') : RowP d F' lo q a l := by
  obtain ⟨css, r1, r2⟩ := r
  exact ⟨css, r1, r2.mono fun _ _ k => d.mono le k⟩
theorem RowP.row (r : RowP d F lo q a l) (qh : q.le h) (fh : F.le h) : d.Row h a l := by
  obtain ⟨css, r1, r2⟩ := r
  obtain ⟨css', w1, w2⟩ := r1.row qh
  have := kRw_all w2
  subst this
  exact ⟨_, w1, r2.mono fun _ _ k => d.mono fh k⟩
theorem Sep.rows (s : Sep lo F Q h) {i : Nat} (r : RowP d F lo (Q i) a l) : d.Row h a l := r.row (s.le i) s.fle
theorem Sep.app1 (s : Sep lo F Q h) {i sz : Nat} (r : RowP d F lo (Q i) a l) (hsz : d.sz = sz) {x : α} {c : List AV} (hx : d.K F x c) (hb : l.length + 1 < 32000000) {Post : Option AV → Hp → Prop}
    (k : ∀ r h' q', Sep lo F (updQ Q i q') h' → RowP d F lo q' r (l ++ [x]) → Post (some r) h') : wpE (.app a 1 (.lit c) sz) Post h := by
  obtain ⟨css, r1, r2⟩ := r
  have hl := r2.length
  refine (s.own kRw_flat r1).app1 (x := c) hsz kRw_flat ⟨rfl, d.len hx, d.sc hx⟩ (by omega) fun r' h' o' => ?_
  obtain ⟨q', s', p'⟩ := s.back kRw_flat o'
  exact k _ _ _ s' ⟨_, p', r2.append (.cons hx .nil)⟩
theorem RowP.from {i sz : Nat} (r : RowP d F lo q a l) (hsz : d.sz = sz) (hi : i ≤ l.length) : ∃ r', slV a (some (i : Int)) none none sz = some r' ∧ RowP d F lo q r' (l.drop i) := by
  obtain ⟨css, ⟨e1, r1⟩, r2⟩ := r
  have hl := r2.length
  obtain ⟨r', e2, o'⟩ := r1.from (i := i) hsz (by omega)
  exact ⟨r', e2, _, ⟨e1, o'⟩, r2.drop i⟩
end
/-! ### plain -/
structure DOp where
  cut : Bool
  pos : Nat
  b : List Nat
def doF (f : List Nat) (o : DOp) : List Nat := if o.cut = true then f.take o.pos else f.take o.pos ++ (o.b ++ f.drop (o.pos + o.b.length))
def runs : List Nat → List DOp → Prop
  | _, [] => True
  | f, o :: os => o.pos ≤ f.length ∧ (doF f o).length ≤ 4194304 ∧ runs (doF f o) os
structure DFile where
  kept : List Nat
  ops : List DOp
def DFile.seen (f : DFile) : List Nat := f.ops.foldl doF f.kept
def DFile.ok (f : DFile) : Prop := f.kept.length ≤ 4194304 ∧ runs f.kept f.ops
structure Dk where
  f : List DFile
  off : Bool
  armed : Bool
  left : Int
theorem runs_snoc {o : DOp} : ∀ {os : List DOp} {f : List Nat}, runs f os → o.pos ≤ (os.foldl doF f).length → (doF (os.foldl doF f) o).length ≤ 4194304 → runs f (os ++ [o])
  | [], f, _, h1, h2 => ⟨h1, h2, trivial⟩
  | x :: os, f, ⟨r1, r2, r3⟩, h1, h2 => ⟨r1, r2, runs_snoc r3 h1 h2⟩
theorem runs_len : ∀ {os : List DOp} {f : List Nat}, runs f os → f.length ≤ 4194304 → (os.foldl doF f).length ≤ 4194304
  | [], f, _, h => h
  | x :: os, f, ⟨r1, r2, r3⟩, h => runs_len (f := doF f x) r3 r2
theorem DFile.ok.seen {f : DFile} (h : f.ok) : f.seen.length ≤ 4194304 := runs_len h.2 h.1
theorem doF_cut {f : List Nat} {o : DOp} (h : o.cut = true) : doF f o = f.take o.pos := if_pos h
theorem doF_put {f : List Nat} {o : DOp} (h : o.cut = false) : doF f o = f.take o.pos ++ (o.b ++ f.drop (o.pos + o.b.length)) := if_neg (by rw [h]; simp)
theorem doF_len {f : List Nat} {o : DOp} (h : o.cut = false) (hp : o.pos ≤ f.length) : (doF f o).length = max f.length (o.pos + o.b.length) := by
  rw [doF_put h]; simp only [List.length_append, List.length_take, List.length_drop]; omega
def kDop : Kn DOp := ⟨3, fun h o c => ∃ a, c = [.b o.cut, .i .i64 (o.pos : Nat), a] ∧ Kn.byte.Row h a o.b,
  fun l ⟨a, h1, h2⟩ => ⟨a, h1, h2.mono l⟩, fun ⟨a, h1, h2⟩ => by rw [h1]; rfl, fun ⟨a, h1, h2⟩ => by rw [h1]; show (true && (true && (a.sc && true))) = true; rw [h2.sc]; rfl⟩
/-! ### one change -/
theorem zeros_row {h : Hp} : ∀ n : Nat, ∃ css : List (List AV), All2 (Kn.byte.K h) (List.replicate n 0) css ∧ zerosV [AV.i .u8 0] n = css.flatten
  | 0 => ⟨[], .nil, rfl⟩
  | n + 1 => by
    obtain ⟨css, h1, h2⟩ := zeros_row (h := h) n
    exact ⟨[.i .u8 0] :: css, .cons ⟨rfl, by omega⟩ h1, congrArg (fun l => [AV.i .u8 0] ++ l) h2⟩
section
variable {g h : Hp} {a b r : AV} {f : List Nat} {Post : AV → Hp → Prop}
theorem c23 {l : List Nat} (ra : Kn.byte.Row h a l) (hb : l.length ≤ 4194304) (k : ∀ r h', Kn.byte.Own h h' r l → Post r h') : wpC Try.prog 23 [a] Post h := by
  refine call_sound (args := [.vv a]) (cuts := []) ⟨ra.sc, trivial⟩ ?_
  rw [vc23]
  exact clone_body ra rfl byte_flat (by omega) (Nat.ble_eq_true_of_le (by omega)) k
theorem c34 {o : DOp} (ow : Kn.byte.Own g h b f) (rb : Kn.byte.Row g r o.b) (hp : o.pos ≤ f.length) (hm : (doF f o).length ≤ 4194304) (hf : f.length ≤ 4194304)
    (k : ∀ a' h', Kn.byte.Own g h' a' (doF f o) → Post a' h') : wpC Try.prog 34 [.agg [.b o.cut, .i .i64 (o.pos : Nat), r], b] Post h := by
  refine call_sound (args := [.ag [.bb o.cut, .ii .i64 (o.pos : Nat), .vv r], .vv b]) (cuts := []) ⟨⟨trivial, trivial, rb.sc, trivial⟩, ow.sc, trivial⟩ ?_
  rw [vc34]
  intro _
  cases hc : o.cut with
  | true =>
    obtain ⟨r', e1, o'⟩ := ow.upto (i := o.pos) rfl hp
    rw [doF_cut hc] at k
    exact onB.pos rfl (onO.mk e1 (k _ _ o'))
  | false =>
    have hl := doF_len hc hp
    rw [hl] at hm
    rw [doF_put hc] at k
    have rb' := rb.mono ow.le
    refine onB.neg rfl (onO.mk rb'.len (onO.mk (add64 (by omega) (by omega)) (onO.mk ow.row.len (onO.mk (sub64 (by omega) (by omega)) (onB.dec (fun e => ?_) (fun e => ?_))))))
    · obtain ⟨n, hn⟩ : ∃ n : Nat, ((o.pos : Nat) : Int) + (o.b.length : Nat) - (f.length : Nat) = (n : Int) := ⟨o.pos + o.b.length - f.length, by omega⟩
      rw [hn]
      obtain ⟨css, z1, z2⟩ := zeros_row (h := h) n
      refine onO.mk (natI_of (n := n)) (onC.mk ?_ ?_)
      · show (Nat.blt n 32000000 && Nat.ble ((4 * n + 4000) * 1) 17179869184) = true
        rw [blt_of (by omega), Nat.ble_eq_true_of_le (by omega)]; rfl
      · refine ow.app rfl byte_flat z1 (src := .lit (zerosV [AV.i .u8 0] n)) (by show some _ = _; rw [z2]) (by simp) (by omega) fun a1 h1 o1 => onO.mk rfl ?_
        have hlen : (f ++ List.replicate n 0).length = o.pos + o.b.length := by simp; omega
        refine o1.over byte_flat rfl (rb.mono o1.le) (by omega) fun h2 o2 v => k _ _ ?_
        have e1 : (f ++ List.replicate n 0).take o.pos = f.take o.pos := List.take_append_of_le_length (by omega)
        have e2 : (f ++ List.replicate n 0).drop (o.pos + o.b.length) = [] := List.drop_of_length_le (by omega)
        have e3 : f.drop (o.pos + o.b.length) = [] := List.drop_of_length_le (by omega)
        rw [e1, e2] at o2
        rw [e3]; exact o2
    · exact ow.over byte_flat rfl rb' (by omega) fun h2 o2 v => k _ _ o2
end
/-! ### a disk in memory -/
def dkC (a : Nat → AV) (D : Dk) : List AV := [a 0, a 1, a 2, a 3, a 4, a 5, a 6, a 7, a 8, .b D.off, .b D.armed, .i .i64 D.left]
structure DkA (lo : Nat) (F : Hp) (Q : Nat → Hp) (B p : Nat) (a : Nat → AV) (D : Dk) : Prop where
  box : Q B = Hp.one p (dkC a D) lo
  plo : lo ≤ p
  len : D.f.length = 3
  ok : ∀ (n : Nat) f, D.f[n]? = some f → f.ok
  kept : ∀ (n : Nat) f, D.f[n]? = some f → PK Kn.byte lo (Q (B + (3 * n + 1))) (a (3 * n)) f.kept
  seen : ∀ (n : Nat) f, D.f[n]? = some f → PK Kn.byte lo (Q (B + (3 * n + 2))) (a (3 * n + 1)) f.seen
  ops : ∀ (n : Nat) f, D.f[n]? = some f → RowP kDop F lo (Q (B + (3 * n + 3))) (a (3 * n + 2)) f.ops
  left : D.armed = true → D.off = false → 1 ≤ D.left ∧ D.left < 9223372036854775808
def Upd (B n : Nat) (Q Q' : Nat → Hp) : Prop := ∀ j, j < B ∨ B + n ≤ j → Q' j = Q j
theorem Upd.refl {B n : Nat} {Q : Nat → Hp} : Upd B n Q Q := fun _ _ => rfl
theorem Upd.trans {B n : Nat} {Q Q1 Q2 : Nat → Hp} (a : Upd B n Q Q1) (b : Upd B n Q1 Q2) : Upd B n Q Q2 := fun j h => (b j h).trans (a j h)
theorem Upd.put {B n i : Nat} {Q Q1 : Nat → Hp} {q : Hp} (a : Upd B n Q Q1) (h : i < n) : Upd B n Q (updQ Q1 (B + i) q) := fun j hj => by
  rw [updQ_ne (by omega)]; exact a j hj
theorem Upd.put0 {B n : Nat} {Q Q1 : Nat → Hp} {q : Hp} (a : Upd B n Q Q1) (h : 0 < n) : Upd B n Q (updQ Q1 B q) := a.put (i := 0) h
section
variable {lo B p : Nat} {F F' h h' : Hp} {Q Q' : Nat → Hp} {a : Nat → AV} {D : Dk} {Post : AV → Hp → Prop}
theorem DkA.get (d : DkA lo F Q B p a D) {n : Nat} (hn : n < 3) : ∃ f, D.f[n]? = some f := get_lt (by rw [d.len]; exact hn)
theorem DkA.lt (d : DkA lo F Q B p a D) {n : Nat} {f : DFile} (h : D.f[n]? = some f) : n < 3 := by rw [← d.len]; exact (List.getElem?_eq_some_iff.1 h).1
theorem DkA.fmono (d : DkA lo F Q B p a D) (l : F.le F') : DkA lo F' Q B p a D := ⟨d.box, d.plo, d.len, d.ok, d.kept, d.seen, fun n f e => (d.ops n f e).mono l, d.left⟩
theorem DkA.same (d : DkA lo F Q B p a D) (e : ∀ j, B ≤ j → j < B + 10 → Q' j = Q j) : DkA lo F Q' B p a D :=
  ⟨by rw [e B (by omega) (by omega)]; exact d.box, d.plo, d.len, d.ok, fun n f h => by have := d.lt h; rw [e _ (by omega) (by omega)]; exact d.kept n f h,
    fun n f h => by have := d.lt h; rw [e _ (by omega) (by omega)]; exact d.seen n f h, fun n f h => by have := d.lt h; rw [e _ (by omega) (by omega)]; exact d.ops n f h, d.left⟩
/-- its own words changed -/
theorem DkA.put {D' : Dk} (d : DkA lo F Q B p a D) (e : D'.f = D.f) (l : D'.armed = true → D'.off = false → 1 ≤ D'.left ∧ D'.left < 9223372036854775808) : DkA lo F (updQ Q B (Hp.one p (dkC a D') lo)) B p a D' :=
  ⟨updQ_same, d.plo, by rw [e]; exact d.len, by rw [e]; exact d.ok, by rw [e]; exact fun n f h => by rw [updQ_ne (by omega)]; exact d.kept n f h,
    by rw [e]; exact fun n f h => by rw [updQ_ne (by omega)]; exact d.seen n f h, by rw [e]; exact fun n f h => by rw [updQ_ne (by omega)]; exact d.ops n f h, l⟩
theorem dk_cell (s : Sep lo F Q h) (e : Q B = Hp.one p (dkC a D) lo) {n k : Nat} (hn : n < 3) (hk : k < 3) : rdH h p (0 + 0 + n * 3 + k) 1 = some [a (3 * n + k)] := by
  refine rdBox (s.box e) ?_
  match n, k, hn, hk with
  | 0, 0, _, _ => rfl
  | 0, 1, _, _ => rfl
  | 0, 2, _, _ => rfl
  | 1, 0, _, _ => rfl
  | 1, 1, _, _ => rfl
  | 1, 2, _, _ => rfl
  | 2, 0, _, _ => rfl
  | 2, 1, _, _ => rfl
  | 2, 2, _, _ => rfl
def updA (a : Nat → AV) (i : Nat) (v : AV) : Nat → AV := fun j => if j = i then v else a j
theorem updA_same {a : Nat → AV} {i : Nat} {v : AV} : updA a i v i = v := if_pos rfl
theorem updA_ne {a : Nat → AV} {i j : Nat} {v : AV} (e : j ≠ i) : updA a i v j = a j := if_neg e
theorem dk_splice {n k : Nat} (hn : n < 3) (hk : k < 3) {v : AV} : splice (dkC a D) (0 + 0 + n * 3 + k) [v] = dkC (updA a (3 * n + k) v) D := by
  match n, k, hn, hk with
  | 0, 0, _, _ => rfl
  | 0, 1, _, _ => rfl
  | 0, 2, _, _ => rfl
  | 1, 0, _, _ => rfl
  | 1, 1, _, _ => rfl
  | 1, 2, _, _ => rfl
  | 2, 0, _, _ => rfl
  | 2, 1, _, _ => rfl
  | 2, 2, _, _ => rfl
/-- one of its row's words written -/
theorem dk_put (s : Sep lo F Q h) (e : Q B = Hp.one p (dkC a D) lo) (hlo : lo ≤ p) {n k : Nat} (hn : n < 3) (hk : k < 3) {v : AV} (hv : v.sc = true) {Post : Option AV → Hp → Prop}
    (kk : ∀ h', Sep lo F (updQ Q B (Hp.one p (dkC (updA a (3 * n + k) v) D) lo)) h' → Post none h') : wpE (.w p (0 + 0 + n * 3 + k) (.lit [v]) none) Post h := by
  refine wpE.w (s.box e) (by rw [s.hlo]; exact hlo) (new := [v]) rfl (by show _ + 1 ≤ 12; omega) (by simp [hv]) (kk _ ?_)
  rw [dk_splice hn hk]
  exact s.put e _
theorem dk_word (s : Sep lo F Q h) (d : DkA lo F Q B p a D) : rdH h p (0 + 9) 1 = some [.b D.off] ∧ rdH h p (0 + 10) 1 = some [.b D.armed] ∧ rdH h p (0 + 11) 1 = some [.i .i64 D.left] :=
  ⟨rdBox (s.box d.box) rfl, rdBox (s.box d.box) rfl, rdBox (s.box d.box) rfl⟩
def askR (D : Dk) (n : Int) : Int := if D.off = true then 10 else if n < 0 then 1 else if 3 ≤ n then 1 else 0
def callD (D : Dk) : Dk := if D.armed = true ∧ D.off = false then { D with left := D.left - 1, off := decide (D.left - 1 < 1) } else D
theorem askR_ok {n : Int} (h : askR D n = 0) : D.off = false ∧ ∃ m : Nat, n = (m : Int) ∧ m < 3 := by
  unfold askR at h
  cases ho : D.off with
  | true => rw [ho] at h; simp at h
  | false =>
    rw [ho] at h
    by_cases h1 : n < 0
    · simp [h1] at h
    · by_cases h2 : 3 ≤ n
      · simp [h1, h2] at h
      · exact ⟨rfl, n.toNat, by omega, by omega⟩
theorem onL.b1 {c : Bool} {K : Bool → Prop} (k : K c) : onL [Kd.bool] [.b c] K := k
theorem c67 {n : Int} (s : Sep lo F Q h) (d : DkA lo F Q B p a D) (k : Post (.i .i64 (askR D n)) h) : wpC Try.prog 67 [.p p 0, .i .i64 n] Post h := by
  refine call_sound (args := [.vv (.p p 0), .ii .i64 n]) (cuts := []) ⟨rfl, trivial, trivial⟩ ?_
  rw [vc67]
  refine onO.mk rfl (onO.mk (dk_word s d).1 (onL.b1 ?_))
  unfold askR at k
  cases ho : D.off with
  | true => rw [ho] at k; exact onB.pos rfl k
  | false =>
    rw [ho] at k
    refine onB.neg rfl (onB.dec (fun h1 => ?_) fun h1 => onB.dec (fun h2 => ?_) fun h2 => ?_)
    · simpa [h1] using k
    · simpa [h1, h2] using k
    · simpa [h1, h2] using k
theorem callD_f : (callD D).f = D.f := by unfold callD; split <;> rfl
theorem callD_left (l : D.armed = true → D.off = false → 1 ≤ D.left ∧ D.left < 9223372036854775808) : (callD D).armed = true → (callD D).off = false → 1 ≤ (callD D).left ∧ (callD D).left < 9223372036854775808 := by
  unfold callD
  split
  · rename_i e
    intro _ h2
    have := l e.1 e.2
    have : ¬ D.left - 1 < 1 := of_decide_eq_false h2
    show 1 ≤ D.left - 1 ∧ D.left - 1 < _
    omega
  · exact l
theorem c51 {n : Int} (s : Sep lo F Q h) (d : DkA lo F Q B p a D) (k : ∀ Q' h', Sep lo F Q' h' → DkA lo F Q' B p a (callD D) → Upd B 10 Q Q' → Post (.i .i64 (askR (callD D) n)) h') : wpC Try.prog 51 [.p p 0, .i .i64 n] Post h := by
  refine call_sound (args := [.vv (.p p 0), .ii .i64 n]) (cuts := []) ⟨rfl, trivial, trivial⟩ ?_
  rw [vc51]
  obtain ⟨w1, w2, w3⟩ := dk_word s d
  have hsame : ¬ (D.armed = true ∧ D.off = false) → wpC Try.prog 67 [.p p 0, .i .i64 n] (fun a1 h3 => onRet [Sh.one (Kd.int .i64)] a1 fun n4 => Post (.i .i64 n4) h3) h := fun e => by
    have ec : callD D = D := if_neg e
    rw [ec] at k
    exact c67 s d (onRet.i (k Q h s d Upd.refl))
  refine onO.mk rfl (onO.mk w2 (onL.b1 (onB.mk (fun ha => ?_) fun ha => hsame fun e => by rw [ha] at e; cases e.1)))
  refine onO.mk rfl (onO.mk w1 (onL.b1 (onB.not (fun ho => ?_) fun ho => hsame fun e => by rw [ho] at e; cases e.2)))
  have hl := d.left ha ho
  have ec : callD D = { D with left := D.left - 1, off := decide (D.left - 1 < 1) } := if_pos ⟨ha, ho⟩
  have plo : h.lo ≤ p := by rw [s.hlo]; exact d.plo
  refine onO.mk rfl (onO.mk w3 (onL.i1 (onO.mk (sub64 (by omega) (by omega)) (onO.mk rfl (wpE.w (s.box d.box) plo (new := [.i .i64 (D.left - 1)]) rfl (by show _ + 1 ≤ 12; omega) rfl ?_)))))
  have s1 := s.put d.box (dkC a { D with left := D.left - 1 })
  have e1 : splice (dkC a D) (0 + 11) [.i .i64 (D.left - 1)] = dkC a { D with left := D.left - 1 } := rfl
  rw [e1]
  have b1 : updQ Q B (Hp.one p (dkC a { D with left := D.left - 1 }) lo) B = Hp.one p (dkC a { D with left := D.left - 1 }) lo := updQ_same
  refine onO.mk rfl (onO.mk (rdBox (s1.box b1) rfl) (onL.i1 (onO.mk rfl (wpE.w (s1.box b1) (by rw [s1.hlo]; exact d.plo) (new := [.b (decide (D.left - 1 < 1))]) rfl (by show _ + 1 ≤ 12; omega) rfl ?_))))
  have e2 : splice (dkC a { D with left := D.left - 1 }) (0 + 9) [.b (decide (D.left - 1 < 1))] = dkC a { D with left := D.left - 1, off := decide (D.left - 1 < 1) } := rfl
  rw [e2, ← ec]
  have s2 := s1.put b1 (dkC a (callD D))
  have d2 : DkA lo F (updQ (updQ Q B (Hp.one p (dkC a { D with left := D.left - 1 }) lo)) B (Hp.one p (dkC a (callD D)) lo)) B p a (callD D) :=
    (d.put callD_f (callD_left d.left)).same fun j _ _ => by
      by_cases e : j = B
      · subst e; rw [updQ_same, updQ_same]
      · rw [updQ_ne e, updQ_ne e, updQ_ne e]
  exact c67 s2 d2 (onRet.i (k _ _ s2 d2 ((Upd.refl.put0 (by omega)).put0 (by omega))))
end
theorem natLt_nat {n m : Nat} (h : n < m) : natLt (n : Int) m = some n := by
  have := natLt_pos (i := (n : Int)) (n := m) (by omega) (by omega)
  simpa using this
theorem set_self {α : Type} {l : List α} {n : Nat} {x : α} (h : l[n]? = some x) : l.set n x = l := by
  apply List.ext_getElem?
  intro i
  rw [List.getElem?_set]
  split
  · rename_i e
    subst e
    rw [if_pos (List.getElem?_eq_some_iff.1 h).1, h]
  · rfl
theorem onL.dop {c : Bool} {n : Int} {r : AV} (hr : r.sc = true) {K : Bool → Int → AV → Prop} (k : K c n r) : onL [Kd.bool, Kd.int .i64, Kd.ref] [.b c, .i .i64 n, r] K := onRef.mk hr k
theorem PK.sc {α : Type} {d : Kn α} {lo : Nat} {q : Hp} {a : AV} {l : List α} (p : PK d lo q a l) : a.sc = true := p.2.sc
theorem RowP.sc {α : Type} {d : Kn α} {F : Hp} {lo : Nat} {q : Hp} {a : AV} {l : List α} (p : RowP d F lo q a l) : a.sc = true := by
  obtain ⟨css, p1, p2⟩ := p
  exact p1.sc
section
variable {lo B p : Nat} {F F' h h' : Hp} {Q Q' : Nat → Hp} {a a' : Nat → AV} {D : Dk} {Post : AV → Hp → Prop} {n : Nat} {f f' : DFile}
theorem Sep.idx (s : Sep lo F Q h) {α : Type} {d : Kn α} {i j sz : Nat} {b : AV} {l : List α} {x : α} (r : RowP d F lo (Q i) b l) (hsz : d.sz = sz) (hx : l[j]? = some x) : ∃ bb oo c, idxV b (j : Int) sz = some (bb, oo) ∧ rdH h bb oo sz = some c ∧ d.K F x c := by
  subst hsz
  obtain ⟨css, r1, r2⟩ := r
  obtain ⟨c, hc⟩ := get_lt (l := css) (k := j) (by rw [← r2.length]; exact (List.getElem?_eq_some_iff.1 hx).1)
  obtain ⟨bb, oo, c', e1, e2, e3⟩ := (s.row r1).idx (i := (j : Int)) (x := c) (Int.natCast_nonneg j) (by simpa using hc)
  have e3 : c' = c := e3.1
  subst e3
  exact ⟨bb, oo, c', e1, e2, r2.get2 hx hc⟩
theorem DkA.file (d : DkA lo F Q B p a D) (hn : D.f[n]? = some f) (bx : Q' B = Hp.one p (dkC a' D) lo) (eq : ∀ j, 0 < j → j < 10 → j ≠ 3 * n + 1 → j ≠ 3 * n + 2 → j ≠ 3 * n + 3 → Q' (B + j) = Q (B + j))
    (ea : ∀ j, j ≠ 3 * n → j ≠ 3 * n + 1 → j ≠ 3 * n + 2 → a' j = a j) (ok : f'.ok) (k1 : PK Kn.byte lo (Q' (B + (3 * n + 1))) (a' (3 * n)) f'.kept) (k2 : PK Kn.byte lo (Q' (B + (3 * n + 2))) (a' (3 * n + 1)) f'.seen)
    (k3 : RowP kDop F lo (Q' (B + (3 * n + 3))) (a' (3 * n + 2)) f'.ops) : DkA lo F Q' B p a' { D with f := D.f.set n f' } := by
  have hn3 := d.lt hn
  have key : ∀ (m : Nat) (g : DFile), (D.f.set n f')[m]? = some g → (m = n ∧ g = f') ∨ (m ≠ n ∧ D.f[m]? = some g) := fun m g e => by
    by_cases em : m = n
    · subst em
      rw [List.getElem?_set_self (by rw [d.len]; exact hn3)] at e
      injection e with e
      exact .inl ⟨rfl, e.symm⟩
    · rw [List.getElem?_set_ne (Ne.symm em)] at e
      exact .inr ⟨em, e⟩
  refine ⟨bx, d.plo, by show (D.f.set n f').length = 3; rw [List.length_set]; exact d.len, fun m g e => ?_, fun m g e => ?_, fun m g e => ?_, fun m g e => ?_, d.left⟩
  · rcases key m g e with ⟨rfl, rfl⟩ | ⟨e1, e2⟩
    · exact ok
    · exact d.ok m g e2
  · rcases key m g e with ⟨rfl, rfl⟩ | ⟨e1, e2⟩
    · exact k1
    · have := d.lt e2
      rw [eq _ (by omega) (by omega) (by omega) (by omega) (by omega), ea _ (by omega) (by omega) (by omega)]; exact d.kept m g e2
  · rcases key m g e with ⟨rfl, rfl⟩ | ⟨e1, e2⟩
    · exact k2
    · have := d.lt e2
      rw [eq _ (by omega) (by omega) (by omega) (by omega) (by omega), ea _ (by omega) (by omega) (by omega)]; exact d.seen m g e2
  · rcases key m g e with ⟨rfl, rfl⟩ | ⟨e1, e2⟩
    · exact k3
    · have := d.lt e2
      rw [eq _ (by omega) (by omega) (by omega) (by omega) (by omega), ea _ (by omega) (by omega) (by omega)]; exact d.ops m g e2
theorem seen_snoc {o : DOp} : (⟨f.kept, f.ops ++ [o]⟩ : DFile).seen = doF f.seen o := by
  show (f.ops ++ [o]).foldl doF f.kept = _
  rw [List.foldl_append]; rfl
theorem c52 {o : DOp} {r : AV} (s : Sep lo F Q h) (d : DkA lo F Q B p a D) (hn : D.f[n]? = some f) (hp : o.pos ≤ f.seen.length) (hm : (doF f.seen o).length ≤ 4194304) (rb : Kn.byte.Row F r o.b) (hb : f.ops.length + 1 < 32000000)
    (k : ∀ a' Q' h', Sep lo F Q' h' → DkA lo F Q' B p a' { D with f := D.f.set n ⟨f.kept, f.ops ++ [o]⟩ } → Upd B 10 Q Q' → Post (.i .i64 0) h') :
    wpC Try.prog 52 [.p p 0, .i .i64 (n : Nat), .agg [.b o.cut, .i .i64 (o.pos : Nat), r]] Post h := by
  have hn3 := d.lt hn
  refine call_sound (args := [.vv (.p p 0), .ii .i64 n, .ag [.bb o.cut, .ii .i64 (o.pos : Nat), .vv r]]) (cuts := []) ⟨rfl, trivial, ⟨trivial, trivial, rb.sc, trivial⟩, trivial⟩ ?_
  rw [vc52]
  intro _
  have ps := d.seen n f hn
  have ok := d.ok n f hn
  refine onO.mk rfl (onO.mk (natLt_nat hn3) (onO.mk (dk_cell s d.box hn3 (by omega)) (onL.r1 ps.sc ?_)))
  refine c34 (s.own byte_flat ps) (rb.mono (le_rest s.fle (s.df _))) hp hm ok.seen fun a2 h1 o1 => onRet.r o1.sc ?_
  obtain ⟨q1, s1, p1⟩ := s.back byte_flat o1
  have b1 : updQ Q (B + (3 * n + 2)) q1 B = Hp.one p (dkC a D) lo := by rw [updQ_ne (by omega)]; exact d.box
  refine dk_put s1 b1 d.plo hn3 (by omega) p1.sc fun h2 s2 => ?_
  refine onO.mk (dk_cell s2 updQ_same hn3 (by omega)) ?_
  rw [updA_ne (by omega)]
  have ro := d.ops n f hn
  have ro2 : RowP kDop F lo (updQ (updQ Q (B + (3 * n + 2)) q1) B (Hp.one p (dkC (updA a (3 * n + 1) a2) D) lo) (B + (3 * n + 3))) (a (3 * n + 2)) f.ops := by
    rw [updQ_ne (by omega), updQ_ne (by omega)]; exact ro
  refine onL.r1 ro.sc fun _ => s2.app1 ro2 rfl (x := o) (c := [.b o.cut, .i .i64 (o.pos : Nat), r]) ⟨r, rfl, rb⟩ hb fun a4 h3 q3 s3 r3 => onO.mk rfl ?_
  refine dk_put s3 (by rw [updQ_ne (by omega)]; exact updQ_same) d.plo hn3 (by omega) r3.sc fun h4 s4 => k (updA (updA a (3 * n + 1) a2) (3 * n + 2) a4) _ h4 s4 (d.file hn updQ_same ?_ ?_ ?_ ?_ ?_ ?_) ?_
  · intro j j1 j2 j3 j4 j5
    rw [updQ_ne (by omega), updQ_ne (by omega), updQ_ne (by omega), updQ_ne (by omega)]
  · intro j j1 j2 j3
    rw [updA_ne j3, updA_ne j2]
  · exact ⟨ok.1, runs_snoc ok.2 hp hm⟩
  · rw [updQ_ne (by omega), updQ_ne (by omega), updQ_ne (by omega), updQ_ne (by omega), updA_ne (by omega), updA_ne (by omega)]
    exact d.kept n f hn
  · rw [updQ_ne (by omega), updQ_ne (by omega), updQ_ne (by omega), updQ_same, updA_ne (by omega), updA_same, seen_snoc]
    exact p1
  · rw [updQ_ne (by omega), updQ_same, updA_same]
    exact r3
  · exact (((Upd.refl.put (by omega)).put0 (by omega)).put (by omega)).put0 (by omega)
theorem c53 (s : Sep lo F Q h) (d : DkA lo F Q B p a D) (hn : D.f[n]? = some f) (hb : f.ops.length < 32000000)
    (k : ∀ a' Q' h', Sep lo F Q' h' → DkA lo F Q' B p a' { D with f := D.f.set n ⟨f.seen, []⟩ } → Upd B 10 Q Q' → Post (.tup []) h') :
    wpC Try.prog 53 [.p p (0 + 0 + n * 3)] Post h := by
  have hn3 := d.lt hn
  refine call_sound (args := [.vv (.p p (0 + 0 + n * 3))]) (cuts := [0]) ⟨rfl, trivial⟩ ?_
  rw [vc53]
  refine ⟨fun m h' => ∃ a' Q' f', Sep lo F Q' h' ∧ DkA lo F Q' B p a' { D with f := D.f.set n f' } ∧ Upd B 10 Q Q' ∧ f'.seen = f.seen ∧ m = f'.ops.length, ⟨f.ops.length, a, Q, f, s, by rw [set_self hn]; exact d, Upd.refl, rfl, rfl⟩, ?_⟩
  rintro m h0 ⟨a1, Q1, f1, s1, d1, u1, hs, rfl⟩
  have hn1 : ({ D with f := D.f.set n f1 } : Dk).f[n]? = some f1 := List.getElem?_set_self (by rw [d.len]; exact hn3)
  have ro := d1.ops n f1 hn1
  have ok := d1.ok n f1 hn1
  refine Dup.mk (onO.mk rfl (onO.mk (dk_cell s1 d1.box hn3 (by omega)) (onL.r1 ro.sc (onO.mk (s1.rows ro).len ?_))))
  cases ho : f1.ops with
  | nil =>
    refine onB.neg (by simp) (k a1 Q1 h0 s1 ?_ u1)
    have : f1 = ⟨f.seen, []⟩ := by
      obtain ⟨fk, fo⟩ := f1
      have ho : fo = [] := ho
      subst ho
      have hs : fk = f.seen := hs
      rw [hs]
    rw [← this]; exact d1
  | cons o os =>
    refine onB.pos (decide_eq_true (by simp)) ?_
    rw [ho] at ro
    obtain ⟨bb, oo, c, e1, e2, r, rfl, rb⟩ := s1.idx ro (sz := 3) rfl (j := 0) (x := o) rfl
    have pk := d1.kept n f1 hn1
    have ok2 := ok.2
    rw [ho] at ok2
    refine onO.mk rfl (onO.mk (dk_cell s1 d1.box hn3 (by omega)) (onL.r1 ro.sc (onO.mk e1 (onO.mk e2 (onL.dop rb.sc (onO.mk rfl (onO.mk (dk_cell s1 d1.box hn3 (by omega)) (onL.r1 pk.sc ?_))))))))
    refine c34 (s1.own byte_flat pk) (rb.mono (le_rest s1.fle (s1.df _))) ok2.1 ok2.2.1 ok.1 fun a5 h2 o2 => onRet.r o2.sc ?_
    obtain ⟨q2, s2, p2⟩ := s1.back byte_flat o2
    have b2 : updQ Q1 (B + (3 * n + 1)) q2 B = Hp.one p (dkC a1 D) lo := by rw [updQ_ne (by omega)]; exact d1.box
    refine onO.mk rfl (dk_put s2 b2 d.plo hn3 (by omega) p2.sc fun h3 s3 => ?_)
    refine onO.mk rfl (onO.mk (dk_cell s3 updQ_same hn3 (by omega)) ?_)
    rw [show (3 * n + 0) = 3 * n from rfl, updA_ne (by omega)]
    obtain ⟨r', e3, r3⟩ := ro.from (i := 1) (sz := 3) rfl (by simp)
    refine onL.r1 ro.sc (onO.mk e3 (onO.mk rfl (dk_put s3 updQ_same d.plo hn3 (by omega) r3.sc fun h4 s4 => ⟨os.length, by show os.length < (o :: os).length; simp, updA (updA a1 (3 * n) a5) (3 * n + 2) r', _, ⟨doF f1.kept o, os⟩, s4, ?_, ?_, ?_, rfl⟩)))
    · have := d1.file (f' := ⟨doF f1.kept o, os⟩) (a' := updA (updA a1 (3 * n) a5) (3 * n + 2) r') (Q' := updQ (updQ (updQ Q1 (B + (3 * n + 1)) q2) B (Hp.one p (dkC (updA a1 (3 * n) a5) D) lo)) B (Hp.one p (dkC (updA (updA a1 (3 * n) a5) (3 * n + 2) r') D) lo)) hn1 updQ_same (fun j j1 j2 j3 j4 j5 => ?_) (fun j j1 j2 j3 => ?_) ⟨ok2.2.1, ok2.2.2⟩ ?_ ?_ ?_
      · rw [show ({ D with f := D.f.set n f1 } : Dk).f.set n ⟨doF f1.kept o, os⟩ = D.f.set n ⟨doF f1.kept o, os⟩ from List.set_set ..] at this
        exact this
      · rw [updQ_ne (by omega), updQ_ne (by omega), updQ_ne (by omega)]
      · rw [updA_ne j3, updA_ne j1]
      · rw [updQ_ne (by omega), updQ_ne (by omega), updQ_same, updA_ne (by omega), updA_same]; exact p2
      · rw [updQ_ne (by omega), updQ_ne (by omega), updQ_ne (by omega), updA_ne (by omega), updA_ne (by omega)]
        have e : (⟨doF f1.kept o, os⟩ : DFile).seen = f1.seen := by
          show os.foldl doF (doF f1.kept o) = f1.ops.foldl doF f1.kept
          rw [ho]; rfl
        rw [e]; exact d1.seen n f1 hn1
      · rw [updQ_ne (by omega), updQ_ne (by omega), updQ_ne (by omega), updA_same]; exact r3
    · exact ((u1.put (by omega)).put0 (by omega)).put0 (by omega)
    · rw [← hs]
      show os.foldl doF (doF f1.kept o) = f1.ops.foldl doF f1.kept
      rw [ho]; rfl
/-! ### what is asked of it -/
def fileD (D : Dk) (n : Int) : DFile := D.f[n.toNat]?.getD ⟨[], []⟩
theorem fileD_get {n : Nat} {f : DFile} (h : D.f[n]? = some f) : fileD D (n : Int) = f := by
  unfold fileD
  rw [Int.toNat_natCast, h]; rfl
theorem DkA.fileD (d : DkA lo F Q B p a D) {n : Nat} (hn : n < 3) : D.f[n]? = some (fileD D (n : Int)) := by
  obtain ⟨f, hf⟩ := d.get hn
  rw [fileD_get hf]; exact hf
def sizeR (D : Dk) (n : Int) : Int × Int := if askR D n = 0 then (((fileD D n).seen.length : Nat), 0) else (0, askR D n)
theorem c47 {n : Int} (s : Sep lo F Q h) (d : DkA lo F Q B p a D) (k : Post (.tup [.i .i64 (sizeR D n).1, .i .i64 (sizeR D n).2]) h) : wpC Try.prog 47 [.p p 0, .i .i64 n] Post h := by
  refine call_sound (args := [.vv (.p p 0), .ii .i64 n]) (cuts := []) ⟨rfl, trivial, trivial⟩ ?_
  rw [vc47]
  refine c67 s d (onRet.i (onB.ndec (fun e => ?_) fun e => ?_))
  · unfold sizeR at k
    rw [if_neg e] at k; exact k
  · obtain ⟨_, m, rfl, hm⟩ := askR_ok e
    have hf := d.fileD hm
    unfold sizeR at k
    rw [if_pos e] at k
    exact onO.mk rfl (onO.mk (natLt_nat hm) (onO.mk (dk_cell s d.box hm (by omega)) (onL.r1 (d.seen m _ hf).sc (onO.mk (s.row (d.seen m _ hf)).len k))))
def putD (D : Dk) (n : Int) (o : DOp) : Dk := { D with f := D.f.set n.toNat ⟨(fileD D n).kept, (fileD D n).ops ++ [o]⟩ }
def writeR (D : Dk) (n at' : Int) (b : List Nat) : Int × Dk :=
  if askR (callD D) n = 0 then (if at' < 0 ∨ ((fileD (callD D) n).seen.length : Int) < at' ∨ 4194304 - at' < (b.length : Int) then (2, callD D) else (0, putD (callD D) n ⟨false, at'.toNat, b⟩)) else (askR (callD D) n, callD D)
def Few (D : Dk) (N : Nat) : Prop := ∀ f ∈ D.f, f.ops.length ≤ N
theorem Few.get {N : Nat} (w : Few D N) (h : D.f[n]? = some f) : f.ops.length ≤ N := w f (List.mem_of_getElem? h)
/-- a row in view V, seen wherever just this disk changed -/
def Vw (lo B : Nat) (F : Hp) (Q : Nat → Hp) (V : Hp) : Prop := ∀ F' Q' h', F.le F' → Sep lo F' Q' h' → Upd B 10 Q Q' → V.le h'
theorem Vw.frz : Vw lo B F Q F := fun _ _ _ l s _ => Hp.le_trans l s.fle
theorem Vw.part {j : Nat} (hj : j < B ∨ B + 10 ≤ j) : Vw lo B F Q (Q j) := fun _ Q' _ _ s u => by
  rw [← u j hj]; exact s.le j
theorem callD_few {N : Nat} (w : Few D N) : Few (callD D) N := by unfold Few; rw [callD_f]; exact w
theorem c45 {n at' : Int} {b : AV} {l : List Nat} {V : Hp} (s : Sep lo F Q h) (d : DkA lo F Q B p a D) (hv : Vw lo B F Q V) (rb : Kn.byte.Row V b l) (hb : Few D 31000000) (h1 : -9223372036854775808 ≤ at') (h2 : at' < 9223372036854775808)
    (k : ∀ F' a' Q' h', F.le F' → Sep lo F' Q' h' → DkA lo F' Q' B p a' (writeR D n at' l).2 → Upd B 10 Q Q' → Post (.i .i64 (writeR D n at' l).1) h') :
    wpC Try.prog 45 [.p p 0, .i .i64 n, .i .i64 at', b] Post h := by
  refine call_sound (args := [.vv (.p p 0), .ii .i64 n, .ii .i64 at', .vv b]) (cuts := []) ⟨rfl, trivial, trivial, rb.sc, trivial⟩ ?_
  rw [vc45]
  refine c51 s d fun Q1 h0 s1 d1 u1 => onRet.i ?_
  have rb1 := rb.mono (hv F Q1 h0 (Hp.le_refl _) s1 u1)
  unfold writeR at k
  refine onB.ndec (fun e => by rw [if_neg e] at k; exact k F a Q1 h0 (Hp.le_refl _) s1 d1 u1) fun e => ?_
  rw [if_pos e] at k
  obtain ⟨_, m, rfl, hm⟩ := askR_ok e
  have hf := d1.fileD hm
  have ok := (d1.ok m _ hf).seen
  refine onB.dec (fun lc1 => by rw [if_pos (.inl lc1)] at k; exact k F a Q1 h0 (Hp.le_refl _) s1 d1 u1) fun lc1 => ?_
  refine onO.mk rfl (onO.mk (natLt_nat hm) (onO.mk (dk_cell s1 d1.box hm (by omega)) (onL.r1 (d1.seen m _ hf).sc (onO.mk (s1.row (d1.seen m _ hf)).len ?_))))
  refine onB.dec (fun lc2 => by rw [if_pos (.inr (.inl lc2))] at k; exact k F a Q1 h0 (Hp.le_refl _) s1 d1 u1) fun lc2 => ?_
  refine onO.mk rb1.len (onO.mk (sub64 (by omega) (by omega)) ?_)
  refine onB.dec (fun lc3 => by rw [if_pos (.inr (.inr lc3))] at k; exact k F a Q1 h0 (Hp.le_refl _) s1 d1 u1) fun lc3 => ?_
  rw [if_neg (by omega)] at k
  obtain ⟨x, rfl⟩ := Int.eq_ofNat_of_zero_le (a := at') (by omega)
  refine c23 rb1 (by omega) fun r h2 o2 => onRet.r o2.sc ?_
  have fg := s1.fgrow o2.le
  have few := (callD_few hb).get hf
  have hp : (⟨false, x, l⟩ : DOp).pos ≤ (fileD (callD D) m).seen.length := by show x ≤ _; omega
  have hl := doF_len (o := ⟨false, x, l⟩) rfl hp
  refine c52 (o := ⟨false, x, l⟩) (s1.frz o2.le o2.lo) (d1.fmono fg) hf hp (by rw [hl]; show max _ (x + l.length) ≤ _; omega) (o2.frozen byte_flat) (by omega) fun a3 Q3 h3 s3 d3 u3 => onRet.i (k _ a3 Q3 h3 fg s3 d3 (u1.trans u3))
def syncR (D : Dk) (n : Int) : Int × Dk := if askR (callD D) n = 0 then (0, { callD D with f := D.f.set n.toNat ⟨(fileD D n).seen, []⟩ }) else (askR (callD D) n, callD D)
theorem callD_file {n : Int} : fileD (callD D) n = fileD D n := by unfold fileD; rw [callD_f]
theorem c39 {n : Int} (s : Sep lo F Q h) (d : DkA lo F Q B p a D) (hb : Few D 31000000)
    (k : ∀ a' Q' h', Sep lo F Q' h' → DkA lo F Q' B p a' (syncR D n).2 → Upd B 10 Q Q' → Post (.i .i64 (syncR D n).1) h') : wpC Try.prog 39 [.p p 0, .i .i64 n] Post h := by
  refine call_sound (args := [.vv (.p p 0), .ii .i64 n]) (cuts := []) ⟨rfl, trivial, trivial⟩ ?_
  rw [vc39]
  refine c51 s d fun Q1 h0 s1 d1 u1 => onRet.i ?_
  unfold syncR at k
  refine onB.ndec (fun e => by rw [if_neg e] at k; exact k a Q1 h0 s1 d1 u1) fun e => ?_
  rw [if_pos e] at k
  obtain ⟨_, m, rfl, hm⟩ := askR_ok e
  have hf := d1.fileD hm
  have few := (callD_few hb).get hf
  refine onO.mk rfl (onO.mk (natLt_nat hm) (c53 s1 d1 hf (by omega) fun a2 Q2 h2 s2 d2 u2 => onTup.z (k a2 Q2 h2 s2 ?_ (u1.trans u2))))
  rw [callD_file, callD_f] at d2
  exact d2
end
/- (*arras/disk.Disk).Read -/
theorem vc48 (a : AV) (b : Int) (c : Int) (d : Int) (h : Hp) (Post : AV → Hp → Prop) : vcCall Try.prog [] 48 [(SV.vv a), (SV.ii .i64 b), (SV.ii .i64 c), (SV.ii .i64 d)] h Post = (
  wpC Try.prog 67 [a, AV.i IntKind.i64 b]
  (fun a0 h0 =>
    onRet [Sh.one (Kd.int IntKind.i64)] a0 fun n0 =>
      onB (!decide (n0 = 0)) (Post (AV.tup [AV.ns, AV.i IntKind.i64 n0]) h0)
        (onO (ptrV a) fun r0 =>
          onO (natLt b 3) fun p0 =>
            onO (rdH h0 r0.fst (r0.snd + 0 + p0 * 3 + 1) 1) fun l0 =>
              onL [Kd.ref] l0 fun a1 =>
                onB (decide (d < 0)) (Post (AV.tup [AV.ns, AV.i IntKind.i64 1]) h0)
                  (onB (decide (c < 0)) (Post (AV.tup [AV.ns, AV.i IntKind.i64 2]) h0)
                    (onO (lenV a1) fun p1 =>
                      onB (decide ((↑p1 : Int) < d)) (Post (AV.tup [AV.ns, AV.i IntKind.i64 2]) h0)
                        (onO (lenV a1) fun p2 =>
                          onO (intO BinOp.sub IntKind.i64 (↑p2) d) fun n1 =>
                            onB (decide (n1 < c)) (Post (AV.tup [AV.ns, AV.i IntKind.i64 2]) h0)
                              (onO (intO BinOp.add IntKind.i64 c d) fun n2 =>
                                onO (slV a1 (some c) (some n2) none 1) fun a2 =>
                                  wpC Try.prog 23 [a2] (fun a3 h1 => onRet [Sh.one Kd.ref] a3 fun a4 => Post (AV.tup [a4, AV.i IntKind.i64 0]) h1) h0))))))
  h) := by kernel_rfl
/- (*arras/disk.Disk).Cut -/
theorem vc38 (a : AV) (b : Int) (c : Int) (h : Hp) (Post : AV → Hp → Prop) : vcCall Try.prog [] 38 [(SV.vv a), (SV.ii .i64 b), (SV.ii .i64 c)] h Post = (
  wpC Try.prog 51 [a, AV.i IntKind.i64 b]
  (fun a0 h0 =>
    onRet [Sh.one (Kd.int IntKind.i64)] a0 fun n0 =>
      onB (!decide (n0 = 0)) (Post (AV.i IntKind.i64 n0) h0)
        (onB (decide (c < 0)) (Post (AV.i IntKind.i64 2) h0)
          (onO (ptrV a) fun r0 =>
            onO (natLt b 3) fun p0 =>
              onO (rdH h0 r0.fst (r0.snd + 0 + p0 * 3 + 1) 1) fun l0 =>
                onL [Kd.ref] l0 fun a1 =>
                  onO (lenV a1) fun p1 =>
                    onB (decide ((↑p1 : Int) < c)) (Post (AV.i IntKind.i64 2) h0)
                      (wpC Try.prog 52 [a, AV.i IntKind.i64 b, AV.agg [AV.b true, AV.i IntKind.i64 c, AV.ns]]
                        (fun a2 h1 => onRet [Sh.one (Kd.int IntKind.i64)] a2 fun n1 => Post (AV.i IntKind.i64 n1) h1) h0))))
  h) := by kernel_rfl
theorem Kn.Row.sl {α : Type} {d : Kn α} {h : Hp} {a : AV} {l : List α} (r : d.Row h a l) {sz : Nat} (hsz : d.sz = sz) {i j : Nat} (h1 : i ≤ j) (h2 : j ≤ l.length) {lo hi : Option Int} (hlo : natO 0 lo = some i) (hhi : natO l.length hi = some j) :
    ∃ r', slV a lo hi none sz = some r' ∧ d.Row h r' ((l.drop i).take (j - i)) := by
  subst hsz
  obtain ⟨css, r1, r2⟩ := r
  have hl := r2.length
  obtain ⟨r', e1, e2⟩ := r1.slice hlo (by rw [← hl]; exact hhi) h1 (by omega) (fun _ => trivial)
  exact ⟨r', e1, _, e2, (r2.drop i).take (j - i)⟩
section
variable {lo B p : Nat} {F F' h h' : Hp} {Q Q' : Nat → Hp} {a a' : Nat → AV} {D : Dk} {Post : AV → Hp → Prop}
def cutR (D : Dk) (n k : Int) : Int × Dk :=
  if askR (callD D) n = 0 then (if k < 0 ∨ ((fileD (callD D) n).seen.length : Int) < k then (2, callD D) else (0, putD (callD D) n ⟨true, k.toNat, []⟩)) else (askR (callD D) n, callD D)
theorem ns_row {F : Hp} : Kn.byte.Row F .ns [] := ⟨[], ⟨fun _ h => (by cases h), rfl⟩, .nil⟩
theorem c38 {n k' : Int} (s : Sep lo F Q h) (d : DkA lo F Q B p a D) (hb : Few D 31000000)
    (k : ∀ a' Q' h', Sep lo F Q' h' → DkA lo F Q' B p a' (cutR D n k').2 → Upd B 10 Q Q' → Post (.i .i64 (cutR D n k').1) h') : wpC Try.prog 38 [.p p 0, .i .i64 n, .i .i64 k'] Post h := by
  refine call_sound (args := [.vv (.p p 0), .ii .i64 n, .ii .i64 k']) (cuts := []) ⟨rfl, trivial, trivial, trivial⟩ ?_
  rw [vc38]
  refine c51 s d fun Q1 h0 s1 d1 u1 => onRet.i ?_
  unfold cutR at k
  refine onB.ndec (fun e => by rw [if_neg e] at k; exact k a Q1 h0 s1 d1 u1) fun e => ?_
  rw [if_pos e] at k
  obtain ⟨_, m, rfl, hm⟩ := askR_ok e
  have hf := d1.fileD hm
  have ok := (d1.ok m _ hf).seen
  refine onB.dec (fun lc1 => by rw [if_pos (.inl lc1)] at k; exact k a Q1 h0 s1 d1 u1) fun lc1 => ?_
  refine onO.mk rfl (onO.mk (natLt_nat hm) (onO.mk (dk_cell s1 d1.box hm (by omega)) (onL.r1 (d1.seen m _ hf).sc (onO.mk (s1.row (d1.seen m _ hf)).len ?_))))
  refine onB.dec (fun lc2 => by rw [if_pos (.inr lc2)] at k; exact k a Q1 h0 s1 d1 u1) fun lc2 => ?_
  rw [if_neg (by omega)] at k
  obtain ⟨x, rfl⟩ := Int.eq_ofNat_of_zero_le (a := k') (by omega)
  have few := (callD_few hb).get hf
  refine c52 (o := ⟨true, x, []⟩) s1 d1 hf (by show x ≤ _; omega) (by rw [doF_cut rfl, List.length_take]; show min x _ ≤ _; omega) ns_row (by omega) fun a3 Q3 h3 s3 d3 u3 => onRet.i (k a3 Q3 h3 s3 d3 (u1.trans u3))
/-- bytes of a file -/
def readR' (D : Dk) (n at' k : Int) : List Nat × Int :=
  if askR D n = 0 then (if k < 0 then ([], 1) else if at' < 0 ∨ ((fileD D n).seen.length : Int) < k ∨ ((fileD D n).seen.length : Int) - k < at' then ([], 2) else ((((fileD D n).seen.drop at'.toNat).take k.toNat), 0)) else ([], askR D n)
theorem c48 {n at' k' : Int} (s : Sep lo F Q h) (d : DkA lo F Q B p a D) (k : ∀ r h', Kn.byte.Own h h' r (readR' D n at' k').1 → Post (.tup [r, .i .i64 (readR' D n at' k').2]) h') :
    wpC Try.prog 48 [.p p 0, .i .i64 n, .i .i64 at', .i .i64 k'] Post h := by
  refine call_sound (args := [.vv (.p p 0), .ii .i64 n, .ii .i64 at', .ii .i64 k']) (cuts := []) ⟨rfl, trivial, trivial, trivial, trivial⟩ ?_
  rw [vc48]
  unfold readR' at k
  refine c67 s d (onRet.i (onB.ndec (fun e => by rw [if_neg e] at k; exact k _ _ (Kn.Own.nil _ _)) fun e => ?_))
  rw [if_pos e] at k
  obtain ⟨_, m, rfl, hm⟩ := askR_ok e
  have hf := d.fileD hm
  have ok := (d.ok m _ hf).seen
  have row := s.row (d.seen m _ hf)
  refine onO.mk rfl (onO.mk (natLt_nat hm) (onO.mk (dk_cell s d.box hm (by omega)) (onL.r1 (d.seen m _ hf).sc ?_)))
  refine onB.dec (fun c => by rw [if_pos c] at k; exact k _ _ (Kn.Own.nil _ _)) fun c => ?_
  rw [if_neg c] at k
  refine onB.dec (fun lc1 => by rw [if_pos (.inl lc1)] at k; exact k _ _ (Kn.Own.nil _ _)) fun lc1 => ?_
  refine onO.mk row.len (onB.dec (fun lc2 => by rw [if_pos (.inr (.inl lc2))] at k; exact k _ _ (Kn.Own.nil _ _)) fun lc2 => ?_)
  refine onO.mk row.len (onO.mk (sub64 (by omega) (by omega)) (onB.dec (fun lc3 => by rw [if_pos (.inr (.inr lc3))] at k; exact k _ _ (Kn.Own.nil _ _)) fun lc3 => ?_))
  rw [if_neg (by omega)] at k
  obtain ⟨x, rfl⟩ := Int.eq_ofNat_of_zero_le (a := at') (by omega)
  obtain ⟨y, rfl⟩ := Int.eq_ofNat_of_zero_le (a := k') (by omega)
  obtain ⟨r, e1, e2⟩ := row.sl rfl (sz := 1) (i := x) (j := x + y) (lo := some ((x : Nat) : Int)) (hi := some ((x + y : Nat) : Int)) (by omega) (by omega) rfl rfl
  refine onO.mk (add64 (by omega) (by omega)) (onO.mk (a := r) e1 ?_)
  rw [show x + y - x = y by omega] at e2
  exact c23 e2 (by simp; omega) fun r2 h2 o2 => onRet.r o2.sc (k _ _ o2)
/-! ### rows of bytes, each in memory of its own -/
def kBs : Kn (List Nat) := Kn.slice Kn.byte 1
structure CellsE (lo : Nat) (q : Hp) (a : AV) (l : List (List Nat)) (q0 : Hp) (qs : Nat → Hp) (rs : List AV) : Prop where
  qlo : q.lo = lo
  row : PK (kRw 1) lo q0 a (rs.map fun r => [r])
  le0 : q0.le q
  len : rs.length = l.length
  le : ∀ i, (qs i).le q
  d0 : ∀ i, Disj (qs i) q0
  dd : ∀ i j, i ≠ j → Disj (qs i) (qs j)
  el : ∀ (i : Nat) x r, l[i]? = some x → rs[i]? = some r → PK Kn.byte lo (qs i) r x ∧ x.length ≤ 4194304
def CellsP (lo : Nat) (q : Hp) (a : AV) (l : List (List Nat)) : Prop := ∃ q0 qs rs, CellsE lo q a l q0 qs rs
theorem CellsP.nil {lo : Nat} : CellsP lo (Hp.none lo) .ns [] :=
  ⟨Hp.none lo, fun _ => Hp.none lo, [], rfl, PK.nil _ _, Hp.le_refl _, rfl, fun _ => Hp.le_refl _, fun _ => none_disj, fun _ _ _ => none_disj, fun i x r e => by simp at e⟩
theorem CellsP.sc {lo : Nat} {q : Hp} {a : AV} {l : List (List Nat)} (c : CellsP lo q a l) : a.sc = true := by
  obtain ⟨q0, qs, rs, c⟩ := c
  exact c.row.sc
theorem CellsP.view {lo : Nat} {q H : Hp} {a : AV} {l : List (List Nat)} (c : CellsP lo q a l) (le : q.le H) : kBs.Row H a l := by
  obtain ⟨q0, qs, rs, c⟩ := c
  obtain ⟨css, r1, r2⟩ := c.row.row (Hp.le_trans c.le0 le)
  have := kRw_all r2
  subst this
  refine ⟨_, r1, All2.of_get (by rw [List.length_map, c.len]) fun i x y hx hy => ?_⟩
  rw [List.getElem?_map] at hy
  cases hr : rs[i]? with
  | none => rw [hr] at hy; cases hy
  | some r =>
    rw [hr] at hy
    injection hy with hy
    subst hy
    obtain ⟨e1, e2⟩ := c.el i x r hx hr
    exact ⟨r, rfl, e1.row (Hp.le_trans (c.le i) le), by omega⟩
theorem add_le {p g H : Hp} (h1 : p.le H) (h2 : g.le H) : (p.add g).le H := fun k c e => (add_cases e).elim (h1 k c) (h2 k c)
theorem add_disj {p g H : Hp} (h1 : Disj p H) (h2 : Disj g H) : Disj (p.add g) H := fun k c e => (add_cases e).elim (h1 k c) (h2 k c)
theorem updQ_updQ {Q : Nat → Hp} {i : Nat} {x y : Hp} : updQ (updQ Q i x) i y = updQ Q i y := funext fun j => by
  by_cases e : j = i
  · subst e; rw [updQ_same, updQ_same]
  · rw [updQ_ne e, updQ_ne e, updQ_ne e]
theorem updQ_self {Q : Nat → Hp} {i : Nat} : updQ Q i (Q i) = Q := funext fun j => by
  by_cases e : j = i
  · subst e; rw [updQ_same]
  · rw [updQ_ne e]
/-- two parts as one -/
theorem Sep.merge (s : Sep lo F Q h) {i j : Nat} (hij : i ≠ j) : Sep lo F (updQ (updQ Q j (Hp.none lo)) i ((Q i).add (Q j))) h := by
  have key : ∀ m, m ≠ i → updQ (updQ Q j (Hp.none lo)) i ((Q i).add (Q j)) m = (if m = j then Hp.none lo else Q m) := fun m e => by rw [updQ_ne e]; rfl
  refine ⟨s.hlo, s.fle, s.flo, fun m => ?_, fun m => ?_, fun m => ?_, fun m k e => ?_⟩
  · by_cases e1 : m = i
    · subst e1; rw [updQ_same]; exact add_le (s.le _) (s.le _)
    · rw [key m e1]; split
      · exact none_le _ _
      · exact s.le m
  · by_cases e1 : m = i
    · subst e1; rw [updQ_same]; exact s.lo j
    · rw [key m e1]; split
      · rfl
      · exact s.lo m
  · by_cases e1 : m = i
    · subst e1; rw [updQ_same]; exact add_disj (s.df _) (s.df _)
    · rw [key m e1]; split
      · exact none_disj
      · exact s.df m
  · have one : ∀ k, k ≠ i → Disj ((Q i).add (Q j)) (if k = j then Hp.none lo else Q k) := fun k e => by
      split
      · exact disj_none
      · rename_i e2; exact add_disj (s.dd i k (Ne.symm e)) (s.dd j k (Ne.symm e2))
    by_cases e1 : m = i
    · subst e1; rw [updQ_same, key k (Ne.symm e)]; exact one k (Ne.symm e)
    · by_cases e2 : k = i
      · subst e2; rw [updQ_same, key m e1]; exact (one m e1).symm
      · rw [key m e1, key k e2]
        split
        · exact none_disj
        · split
          · exact disj_none
          · exact s.dd m k e
theorem Sep.cellsApp (s : Sep lo F Q h) {i j : Nat} (hij : i ≠ j) {b r : AV} {l : List (List Nat)} {x : List Nat} (c : CellsP lo (Q i) b l) (e : PK Kn.byte lo (Q j) r x) (hx : x.length ≤ 4194304) (hb : l.length + 1 < 32000000) {Post : Option AV → Hp → Prop}
    (k : ∀ a' h' q', Sep lo F (updQ (updQ Q j (Hp.none lo)) i q') h' → CellsP lo q' a' (l ++ [x]) → Post (some a') h') : wpE (.app b 1 (.lit [r]) 1) Post h := by
  obtain ⟨q0, qs, rs, c⟩ := c
  have hq0 : q0.le h := Hp.le_trans c.le0 (s.le i)
  have row : PK (kRw 1) h.lo q0 b (rs.map fun r => [r]) := by rw [s.hlo]; exact c.row
  refine (row.outer kRw_flat hq0).app1 (x := [r]) (c := [r]) rfl kRw_flat ⟨rfl, rfl, by simp [e.sc]⟩ (by rw [List.length_map, c.len]; exact hb) fun a' h' o' => ?_
  obtain ⟨q0', z1, z2, z3⟩ := PK.of kRw_flat o'
  have z3 : PK (kRw 1) h.lo q0' a' (rs.map (fun r => [r]) ++ [[r]]) := z3
  rw [s.hlo] at z3
  have s' := s.merge hij
  have q0X : q0.le ((Q i).add (Q j)) := Hp.le_trans c.le0 (Hp.le_left _ _)
  have xh : ((Q i).add (Q j)).le h := add_le (s.le _) (s.le _)
  have r1 : (restH h ((Q i).add (Q j))).le (restH h q0) := fun k cc hk => by
    cases hq : q0.g k with
    | some y => rw [rest_none (by rw [q0X k y hq]; simp)] at hk; cases hk
    | none =>
      rw [rest_some hq]
      exact restH_le _ _ k cc hk
  have r2 : (restH ((Q i).add (Q j)) q0).le (restH h q0) := fun k cc hk => by
    cases hq : q0.g k with
    | some y => rw [rest_none (by rw [hq]; simp)] at hk; cases hk
    | none => rw [rest_some hq] at hk ⊢; exact xh k cc hk
  have oo := o'.le
  have dz : Disj q0' (restH ((Q i).add (Q j)) q0) := z2.le_right r2
  have s2 := s'.step i (q' := (restH ((Q i).add (Q j)) q0).add q0') (h' := h') (by rw [updQ_same]; exact Hp.le_trans r1 oo) (o'.lo.trans s.hlo) (add_le (Hp.le_trans r2 oo) z1)
    (by
      rw [updQ_same]
      refine add_disj (fun k cc hk => ?_) (z2.le_right r1)
      exact rest_none (by rw [restH_le _ _ k cc hk]; simp)) z3.1
  rw [updQ_updQ] at s2
  refine k _ _ _ s2 ⟨q0', fun m => if m = l.length then Q j else qs m, rs ++ [r], z3.1, by rw [List.map_append]; exact z3, Hp.le_right dz.symm, by simp [c.len], fun m => ?_, fun m => ?_, fun m n e2 => ?_, fun m y t hy ht => ?_⟩
  · refine Hp.le_trans ?_ (Hp.le_left _ _)
    by_cases em : m = l.length
    · rw [if_pos em]
      exact le_rest (Hp.le_right (s.dd i j hij)) ((s.dd i j hij).le_left c.le0)
    · rw [if_neg em]
      exact le_rest (Hp.le_trans (c.le m) (Hp.le_left _ _)) (c.d0 m).symm
  · have : (if m = l.length then Q j else qs m).le (restH ((Q i).add (Q j)) q0) := by
      by_cases em : m = l.length
      · rw [if_pos em]
        exact le_rest (Hp.le_right (s.dd i j hij)) ((s.dd i j hij).le_left c.le0)
      · rw [if_neg em]
        exact le_rest (Hp.le_trans (c.le m) (Hp.le_left _ _)) (c.d0 m).symm
    exact dz.symm.le_left this
  · by_cases em : m = l.length
    · have en : n ≠ l.length := fun en => e2 (em.trans en.symm)
      simp only [if_pos em, if_neg en]
      exact (s.dd j i (Ne.symm hij)).le_right (c.le n)
    · by_cases en : n = l.length
      · simp only [if_neg em, if_pos en]
        exact (s.dd i j hij).le_left (c.le m)
      · simp only [if_neg em, if_neg en]; exact c.dd m n e2
  · by_cases em : m = l.length
    · subst em
      simp only [if_pos rfl]
      rw [List.getElem?_append_right (by omega)] at hy
      rw [List.getElem?_append_right (by rw [c.len]; omega), c.len] at ht
      simp at hy ht
      subst hy; subst ht
      exact ⟨e, hx⟩
    · simp only [if_neg em]
      have hlt : m < l.length := by
        have := (List.getElem?_eq_some_iff.1 hy).1
        simp at this; omega
      rw [List.getElem?_append_left hlt] at hy
      rw [List.getElem?_append_left (by rw [c.len]; exact hlt)] at ht
      exact c.el m y t hy ht
end
theorem remK {k : IntKind} {a b : Int} (h : b ≠ 0) : intO .rem k a b = some (a.tmod b) := by
  have : eqI b 0 = false := by
    cases b with
    | ofNat n => cases n with
      | zero => exact absurd rfl h
      | succ n => rfl
    | negSucc n => rfl
  unfold intO intA
  simp only [this, cond_false]
theorem tmod_bounds {a b : Int} (hb : 0 < b) : -b < a.tmod b ∧ a.tmod b < b := by
  have h1 := Int.tmod_lt_of_pos a hb
  have h2 : -b < a.tmod b := by
    have := Int.tmod_lt_of_pos (-a) hb
    rw [Int.neg_tmod] at this
    omega
  exact ⟨h2, h1⟩
theorem tmod_mod {a b : Int} : (a.tmod b) % b = a % b := by
  conv => rhs; rw [← Int.tmod_add_mul_tdiv a b]
  rw [Int.add_mul_emod_self_left]
section
variable {lo B p : Nat} {F F' h h' : Hp} {Q Q' : Nat → Hp} {a a' : Nat → AV} {D : Dk} {Post : AV → Hp → Prop}
theorem c33 {x : Int} {n : Nat} (h0 : 0 < n) (hn : n < 100000000) (k : Post (.i .i64 (x % (n : Int))) h) : wpC Try.prog 33 [.i .i64 x, .i .i64 (n : Nat)] Post h := by
  refine call_sound (args := [.ii .i64 x, .ii .i64 (n : Nat)]) (cuts := []) ⟨trivial, trivial, trivial⟩ ?_
  rw [vc33]
  have hb := tmod_bounds (a := x) (b := (n : Int)) (by omega)
  have hb2 := tmod_bounds (a := x.tmod n + n) (b := (n : Int)) (by omega)
  refine onO.mk (remK (by omega)) (onO.mk (add64 (by omega) (by omega)) (onO.mk (remK (by omega)) ?_))
  have e : (x.tmod n + n).tmod n = x % (n : Int) := by
    rw [Int.tmod_eq_emod_of_nonneg (by omega), Int.add_emod_right]
    exact tmod_mod
  rw [e]; exact k
/-- the next of what is picked, of n -/
def nextP (ps : List Int) (n : Nat) : Nat × List Int := match ps with
  | [] => (0, [])
  | p :: ps => ((p % (n : Int)).toNat, ps)
theorem nextP_lt {ps : List Int} {n : Nat} (h : 0 < n) : (nextP ps n).1 < n := by
  unfold nextP
  cases ps with
  | nil => exact h
  | cons p ps =>
    have h1 := Int.emod_nonneg p (show (n : Int) ≠ 0 by omega)
    have h2 := Int.emod_lt_of_pos p (show (0 : Int) < (n : Int) by omega)
    show (p % (n : Int)).toNat < n
    omega
def tornF (f : DFile) (p : Nat) (ps : List Int) : List Nat × List Int := match f.ops[p]? with
  | none => ((f.ops.take p).foldl doF f.kept, ps)
  | some o => if o.cut = true then ((f.ops.take p).foldl doF f.kept, ps) else
      (doF ((f.ops.take p).foldl doF f.kept) ⟨false, o.pos, o.b.take (nextP ps (o.b.length + 1)).1⟩, (nextP ps (o.b.length + 1)).2)
def crashF (f : DFile) (ps : List Int) : List Nat × List Int := tornF f (nextP ps (f.ops.length + 1)).1 (nextP ps (f.ops.length + 1)).2
def crashL : List DFile → List Int → List (List Nat)
  | [], _ => []
  | f :: fs, ps => (crashF f ps).1 :: crashL fs (crashF f ps).2
def crashS : List DFile → List Int → List Int
  | [], ps => ps
  | f :: fs, ps => crashS fs (crashF f ps).2
theorem crash_snoc {f : DFile} : ∀ {l : List DFile} {ps : List Int}, crashL (l ++ [f]) ps = crashL l ps ++ [(crashF f (crashS l ps)).1] ∧ crashS (l ++ [f]) ps = (crashF f (crashS l ps)).2
  | [], ps => ⟨rfl, rfl⟩
  | g :: l, ps => by
    have := crash_snoc (f := f) (l := l) (ps := (crashF g ps).2)
    exact ⟨by show _ :: crashL (l ++ [f]) _ = _ :: crashL l _ ++ _; rw [this.1]; rfl, this.2⟩
theorem crashL_len : ∀ {l : List DFile} {ps : List Int}, (crashL l ps).length = l.length
  | [], _ => rfl
  | f :: l, ps => by show (crashL l _).length + 1 = _; rw [crashL_len]; rfl
theorem runs_take {os : List DOp} : ∀ {f : List Nat} (n : Nat), runs f os → runs f (os.take n) := by
  induction os with
  | nil => intro f n _; simp; exact trivial
  | cons o os ih =>
    intro f n h
    cases n with
    | zero => exact trivial
    | succ n => exact ⟨h.1, h.2.1, ih n h.2.2⟩
theorem runs_at {os : List DOp} {o : DOp} : ∀ {f : List Nat} {n : Nat}, runs f os → os[n]? = some o → o.pos ≤ ((os.take n).foldl doF f).length ∧ (doF ((os.take n).foldl doF f) o).length ≤ 4194304 := by
  induction os with
  | nil => intro f n _ h; simp at h
  | cons x os ih =>
    intro f n h hn
    cases n with
    | zero =>
      simp at hn
      subst hn
      exact ⟨h.1, h.2.1⟩
    | succ n => exact ih (f := doF f x) h.2.2 (by simpa using hn)
theorem tornF_len {f : DFile} (ok : f.ok) {p : Nat} {ps : List Int} : (tornF f p ps).1.length ≤ 4194304 := by
  have h1 := runs_len (runs_take p ok.2) ok.1
  unfold tornF
  split
  · exact h1
  · rename_i o ho
    split
    · exact h1
    · rename_i hc
      obtain ⟨h2, h3⟩ := runs_at ok.2 ho
      have hc : o.cut = false := by simpa using hc
      rw [doF_len hc h2] at h3
      rw [doF_len rfl (by exact h2)]
      simp only [List.length_take]
      omega
theorem crashF_len {f : DFile} (ok : f.ok) {ps : List Int} : (crashF f ps).1.length ≤ 4194304 := tornF_len ok
/-! ### the power goes -/
theorem c32 {i q n : Nat} {r : AV} {ps : List Int} (s : Sep lo F Q h) (e : Q i = Hp.one q [r] lo) (plo : lo ≤ q) (row : Kn.int.Row F r ps) (h0 : 0 < n) (hn : n < 100000000)
    (k : ∀ r' h', Sep lo F (updQ Q i (Hp.one q [r'] lo)) h' → Kn.int.Row F r' (nextP ps n).2 → Post (.i .i64 ((nextP ps n).1 : Nat)) h') : wpC Try.prog 32 [.i .i64 (n : Nat), .p q 0] Post h := by
  refine call_sound (args := [.ii .i64 (n : Nat), .vv (.p q 0)]) (cuts := []) ⟨trivial, rfl, trivial⟩ ?_
  rw [vc32]
  have rd : rdH h q 0 1 = some [r] := rdBox (s.box e) rfl
  have row' := row.mono s.fle
  refine onO.mk rfl (onO.mk rd (onL.r1 row.sc (onO.mk row'.len ?_)))
  cases ps with
  | nil =>
    refine onB.pos (decide_eq_true rfl) (k r h ?_ row)
    rw [← e, updQ_self]; exact s
  | cons x ps =>
    refine onB.neg (decide_eq_false (by simp; omega)) (onO.mk rfl (onO.mk rd (onL.r1 row.sc ?_)))
    refine int0 (k := 0) row' rfl (onO.mk rfl (onO.mk rd (onL.r1 row.sc ?_)))
    obtain ⟨r', e1, e2⟩ := row.sl rfl (sz := 1) (i := 1) (j := (x :: ps).length) (lo := some 1) (hi := none) (by simp) (Nat.le_refl _) rfl rfl
    have e2 : Kn.int.Row F r' ps := by simpa using e2
    refine onO.mk e1 (onO.mk rfl (wpE.w (s.box e) (by rw [s.hlo]; exact plo) (new := [r']) rfl (by show _ + 1 ≤ 1; omega) (by simp [e2.sc]) ?_))
    have s1 := s.put e [r']
    rw [show splice [r] 0 [r'] = [r'] from rfl]
    refine c33 h0 hn (onRet.i ?_)
    have : ((x % (n : Int)).toNat : Int) = x % (n : Int) := Int.toNat_of_nonneg (Int.emod_nonneg x (by omega))
    have k2 := k r' _ s1 e2
    rw [show ((nextP (x :: ps) n).1 : Int) = ((x % (n : Int)).toNat : Int) from rfl, this] at k2
    exact k2
theorem RowP.upto {α : Type} {d : Kn α} {q : Hp} {b : AV} {l : List α} {i sz : Nat} (r : RowP d F lo q b l) (hsz : d.sz = sz) (hi : i ≤ l.length) : ∃ r', slV b none (some (i : Int)) none sz = some r' ∧ RowP d F lo q r' (l.take i) := by
  obtain ⟨css, ⟨e1, r1⟩, r2⟩ := r
  have hl := r2.length
  obtain ⟨r', e2, o'⟩ := r1.upto (i := i) hsz (by omega)
  exact ⟨r', e2, _, ⟨e1, o'⟩, r2.take i⟩
def Upd2 (B n C m : Nat) (Q Q' : Nat → Hp) : Prop := ∀ j, (j < B ∨ B + n ≤ j) → (j < C ∨ C + m ≤ j) → Q' j = Q j
theorem DkA.same' (d : DkA lo F Q B p a D) {C : Nat} (hC : C + 3 ≤ B ∨ B + 10 ≤ C) (e : ∀ j, (j < C ∨ C + 3 ≤ j) → Q' j = Q j) : DkA lo F Q' B p a D := d.same fun j h1 h2 => e j (by omega)
/-- one file, the power gone -/
theorem take_succ_fold {f : List Nat} {os : List DOp} {n : Nat} {o : DOp} (h : os[n]? = some o) : (os.take (n + 1)).foldl doF f = doF ((os.take n).foldl doF f) o := by
  rw [take_succ' h, List.foldl_append]; rfl
theorem c21 {C : Nat} {b : AV} {ps : List Int} (s : Sep lo F Q h) (d : DkA lo F Q B p a D) (hC : C + 3 ≤ B ∨ B + 10 ≤ C) (row : Kn.int.Row F b ps) (hb : Few D 31000000)
    (k : ∀ r Q' h', Sep lo F Q' h' → DkA lo F Q' B p a { D with off := true } → CellsP lo (Q' (C + 1)) r (crashL D.f ps) → Upd2 B 10 C 3 Q Q' → Post r h') : wpC Try.prog 21 [.p p 0, b] Post h := by
  refine call_sound (args := [.vv (.p p 0), .vv b]) (cuts := []) ⟨rfl, row.sc, trivial⟩ ?_
  rw [vc21]
  intro p0 hp0 hplo
  have hplo : lo ≤ p0 := by rw [← s.hlo]; exact hplo
  have s0 := (((s.drop (C + 1)).drop (C + 2)).alloc C hp0 [b])
  refine ⟨fun m a0 n0 h' => ∃ (j : Nat) (Q1 : Nat → Hp) (r : AV), n0 = j ∧ j ≤ 3 ∧ m = 3 - j ∧ Sep lo F Q1 h' ∧ (∀ i, (i < C ∨ C + 3 ≤ i) → Q1 i = Q i) ∧ Q1 C = Hp.one p0 [r] lo ∧ Kn.int.Row F r (crashS (D.f.take j) ps) ∧ CellsP lo (Q1 (C + 1)) a0 (crashL (D.f.take j) ps),
    ⟨3, 0, _, b, rfl, by omega, rfl, s0, fun i hi => by rw [updQ_ne (by omega), updQ_ne (by omega), updQ_ne (by omega)], updQ_same, by simpa [crashS] using row, by rw [updQ_ne (by omega), updQ_ne (by omega), updQ_same]; exact CellsP.nil⟩, ?_⟩
  rintro m h0 a0 ha0 _ ⟨j, Q1, r, rfl, hj, rfl, s1, u1, e1, row1, cl⟩
  have d1 := d.same' hC u1
  refine onB.dec (fun e => ?_) fun e => ?_
  · have hj3 : j < 3 := by omega
    obtain ⟨f, hf⟩ := d.get hj3
    have pk := d1.kept j f hf
    have ro := d1.ops j f hf
    have ok := d.ok j f hf
    have few := hb.get hf
    refine onO.mk rfl (onO.mk (natLt_nat hj3) (onO.mk (dk_cell s1 d1.box hj3 (by omega)) (onL.r1 pk.sc ?_)))
    refine c23 (s1.row pk) ok.1 fun a3 h1 o1 => onRet.r o1.sc ?_
    obtain ⟨qt, s2, pt⟩ := s1.fresh (C + 2) byte_flat o1
    have u2 : ∀ i, (i < C ∨ C + 3 ≤ i) → updQ Q1 (C + 2) qt i = Q i := fun i hi => by rw [updQ_ne (by omega)]; exact u1 i hi
    have d2 := d.same' hC u2
    have ro2 := d2.ops j f hf
    refine onO.mk rfl (onO.mk (natLt_nat hj3) (onO.mk (dk_cell s2 d2.box hj3 (by omega)) (onL.r1 ro.sc ⟨?_, ?_⟩)))
    · exact onO.mk (dk_cell s1 d1.box hj3 (by omega)) (dk_cell s2 d2.box hj3 (by omega))
    have e2 : updQ Q1 (C + 2) qt C = Hp.one p0 [r] lo := by rw [updQ_ne (by omega)]; exact e1
    refine onO.mk (s2.rows ro2).len (onO.mk (a := ((f.ops.length + 1 : Nat) : Int)) (inc64 (by omega)) ?_)
    refine c32 s2 e2 hplo row1 (by omega) (by omega) fun r3 h3 s3 row3 => onRet.i ?_
    generalize hP : nextP (crashS (D.f.take j) ps) (f.ops.length + 1) = P at *
    have hPlt : P.1 < f.ops.length + 1 := by rw [← hP]; exact nextP_lt (by omega)
    obtain ⟨a6, e6, r6⟩ := ro2.upto (i := P.1) (sz := 3) rfl (by omega)
    have u3 : ∀ i, (i < C ∨ C + 3 ≤ i) → updQ (updQ Q1 (C + 2) qt) C (Hp.one p0 [r3] lo) i = Q i := fun i hi => by rw [updQ_ne (by omega)]; exact u2 i hi
    have hBj : B + (3 * j + 3) ≠ C ∧ B + (3 * j + 3) ≠ C + 2 := by omega
    have rowi : ∀ {Qx : Nat → Hp} {hx}, Sep lo F Qx hx → (∀ i, (i < C ∨ C + 3 ≤ i) → Qx i = Q i) → RowP kDop F lo (Qx (B + (3 * j + 3))) a6 (f.ops.take P.1) ∧ RowP kDop F lo (Qx (B + (3 * j + 3))) (a (3 * j + 2)) f.ops := fun sx ux => by
      have e := (u2 (B + (3 * j + 3)) (by omega)).symm.trans (by rfl)
      rw [ux _ (by omega), ← u2 _ (by omega)]
      exact ⟨r6, ro2⟩
    have htk : (f.ops.take P.1).length = P.1 := by simp; omega
    refine onO.mk e6 (onO.mk (by rw [(s3.rows (rowi s3 u3).1).len, htk]) ?_)
    refine ⟨fun m a7 n3 h' => ∃ (i : Nat) (Q4 : Nat → Hp), n3 = i ∧ i ≤ P.1 ∧ m = P.1 - i ∧ Sep lo F Q4 h' ∧ (∀ i, (i < C ∨ C + 3 ≤ i) → Q4 i = Q i) ∧ Q4 C = Hp.one p0 [r3] lo ∧ Q4 (C + 1) = Q1 (C + 1) ∧ PK Kn.byte lo (Q4 (C + 2)) a7 ((f.ops.take i).foldl doF f.kept),
      ⟨P.1, 0, _, rfl, by omega, rfl, s3, u3, updQ_same, by rw [updQ_ne (by omega), updQ_ne (by omega)], by rw [updQ_ne (by omega), updQ_same]; exact pt⟩, ?_⟩
    rintro m4 h4 a7 ha7 _ ⟨i, Q4, rfl, hi, rfl, s4, u4, eC, eC1, p4⟩
    have hlen4 : ((f.ops.take i).foldl doF f.kept).length ≤ 4194304 := runs_len (runs_take i ok.2) ok.1
    -- the result, one more file behind
    have done : ∀ {Q5 : Nat → Hp} {h5 : Hp} {x : List Nat} {bx : AV} {rs : List Int} {rr : AV}, Sep lo F Q5 h5 → (∀ i, (i < C ∨ C + 3 ≤ i) → Q5 i = Q i) → Q5 C = Hp.one p0 [rr] lo → Kn.int.Row F rr rs → Q5 (C + 1) = Q1 (C + 1) → PK Kn.byte lo (Q5 (C + 2)) bx x →
        crashF f (crashS (D.f.take j) ps) = (x, rs) → wpE (Eff.app a0 1 (Src.lit [bx]) 1) (fun x0 h7 => onO x0 fun a16 => onO (intO BinOp.add IntKind.i64 (j : Int) 1) fun n9 => ∃ p15, ltN p15 (3 - j) ∧ ∃ (j : Nat) (Q1 : Nat → Hp) (r : AV), n9 = j ∧ j ≤ 3 ∧ p15 = 3 - j ∧ Sep lo F Q1 h7 ∧ (∀ i, (i < C ∨ C + 3 ≤ i) → Q1 i = Q i) ∧ Q1 C = Hp.one p0 [r] lo ∧ Kn.int.Row F r (crashS (D.f.take j) ps) ∧ CellsP lo (Q1 (C + 1)) a16 (crashL (D.f.take j) ps)) h5 := by
      intro Q5 h5 x bx rs rr s5 u5 e5 w5 lc5 p5 hx
      have cs := crash_snoc (f := f) (l := D.f.take j) (ps := ps)
      rw [← take_succ' hf, hx] at cs
      rw [← lc5] at cl
      have hxl : x.length ≤ 4194304 := by have := crashF_len ok (ps := crashS (D.f.take j) ps); rw [hx] at this; exact this
      refine s5.cellsApp (i := C + 1) (j := C + 2) (by omega) cl p5 hxl (by rw [crashL_len]; simp; omega) fun a' h' q' s' c' => onO.mk rfl (onO.mk (inc64 (by omega)) ⟨_, by show 3 - (j + 1) < 3 - j; omega, j + 1, _, rr, rfl, by omega, rfl, s', fun i hi => ?_, ?_, ?_, ?_⟩)
      · rw [updQ_ne (by omega), updQ_ne (by omega)]; exact u5 i hi
      · rw [updQ_ne (by omega), updQ_ne (by omega)]; exact e5
      · rw [cs.2]; exact w5
      · rw [updQ_same, cs.1]; exact c'
    have hcrash : crashF f (crashS (D.f.take j) ps) = tornF f P.1 P.2 := by unfold crashF; rw [hP]
    refine onB.dec (fun e => ?_) fun e => ?_
    · have hiP : i < P.1 := by omega
      obtain ⟨o, ho⟩ := get_lt (l := f.ops) (k := i) (by omega)
      have hot : (f.ops.take P.1)[i]? = some o := by rw [List.getElem?_take_of_lt hiP]; exact ho
      obtain ⟨bb, oo, c, g1, g2, r', rfl, rb⟩ := s4.idx (rowi s4 u4).1 (sz := 3) rfl hot
      obtain ⟨w1, w2⟩ := runs_at ok.2 ho
      refine onO.mk g1 (onO.mk g2 (onL.dop rb.sc fun _ => ?_))
      refine c34 (s4.own byte_flat p4) (rb.mono (le_rest s4.fle (s4.df _))) w1 w2 hlen4 fun a9 h5 o5 => onRet.r o5.sc (onO.mk (inc64 (by omega)) ?_)
      obtain ⟨q5, s5, p5⟩ := s4.back byte_flat o5
      refine ⟨_, by show P.1 - (i + 1) < P.1 - i; omega, i + 1, _, rfl, by omega, rfl, s5, fun i hi => by rw [updQ_ne (by omega)]; exact u4 i hi, by rw [updQ_ne (by omega)]; exact eC, by rw [updQ_ne (by omega)]; exact eC1, ?_⟩
      rw [updQ_same, take_succ_fold ho]; exact p5
    · have hiP : i = P.1 := by omega
      subst hiP
      refine onO.mk (s4.rows (rowi s4 u4).2).len (onB.dec (fun e2 => ?_) fun e2 => ?_)
      · obtain ⟨o, ho⟩ := get_lt (l := f.ops) (k := P.1) (by omega)
        obtain ⟨bb, oo, c, g1, g2, r', rfl, rb⟩ := s4.idx (rowi s4 u4).2 (sz := 3) rfl ho
        have g0 : rdH h4 bb (oo + 0) 1 = some [.b o.cut] := rdH_sub g2 rfl
        obtain ⟨w1, w2⟩ := runs_at ok.2 ho
        refine onO.mk g1 (onO.mk g0 (onL.b1 (onB.not (fun hc => ?_) fun hc => fun _ => ?_)))
        · refine onO.mk g1 (onO.mk g2 (onL.dop rb.sc fun _ => ?_))
          have hw := w2
          rw [doF_len hc w1] at hw
          refine onO.mk (rb.mono s4.fle).len (onO.mk (a := ((o.b.length + 1 : Nat) : Int)) (inc64 (by omega)) ?_)
          refine c32 s4 eC hplo row3 (by omega) (by omega) fun r5 h5 s5 row5 => onRet.i ?_
          generalize hM : nextP P.2 (o.b.length + 1) = M at *
          have hMlt : M.1 < o.b.length + 1 := by rw [← hM]; exact nextP_lt (by omega)
          obtain ⟨a13, g3, rb3⟩ := rb.sl rfl (sz := 1) (i := 0) (j := M.1) (lo := none) (hi := some ((M.1 : Nat) : Int)) (by omega) (by omega) rfl rfl
          have rb3 : Kn.byte.Row F a13 (o.b.take M.1) := by simpa using rb3
          have p5 : PK Kn.byte lo (updQ Q4 C (Hp.one p0 [r5] lo) (C + 2)) a7 ((f.ops.take P.1).foldl doF f.kept) := by rw [updQ_ne (by omega)]; exact p4
          have hl2 : (doF ((f.ops.take P.1).foldl doF f.kept) ⟨false, o.pos, o.b.take M.1⟩).length ≤ 4194304 := by
            rw [doF_len (o := ⟨false, o.pos, o.b.take M.1⟩) rfl w1]; simp only [List.length_take]; omega
          refine onO.mk g3 ?_
          rw [hc]
          refine c34 (o := ⟨false, o.pos, o.b.take M.1⟩) (s5.own byte_flat p5) (rb3.mono (le_rest s5.fle (s5.df _))) w1 hl2 hlen4 fun a15 h6 o6 => onRet.r o6.sc fun _ => ?_
          obtain ⟨q6, s6, p6⟩ := s5.back byte_flat o6
          refine done (rs := M.2) (rr := r5) s6 (fun i hi => by rw [updQ_ne (by omega), updQ_ne (by omega)]; exact u4 i hi) (by rw [updQ_ne (by omega)]; exact updQ_same) row5 (by rw [updQ_ne (by omega), updQ_ne (by omega)]; exact eC1) (by rw [updQ_same]; exact p6) ?_
          rw [hcrash]
          unfold tornF
          rw [ho]
          simp only [hc, Bool.false_eq_true, if_false, hM]
        · refine done (rs := P.2) (rr := r3) s4 u4 eC row3 eC1 p4 ?_
          rw [hcrash]
          unfold tornF
          rw [ho]
          simp only [hc, if_true]
      · intro _
        refine done (rs := P.2) (rr := r3) s4 u4 eC row3 eC1 p4 ?_
        rw [hcrash]
        unfold tornF
        rw [List.getElem?_eq_none (by omega)]
  · have hj3 : j = 3 := by omega
    subst hj3
    have hpl : h0.lo ≤ p := by rw [s1.hlo]; exact d.plo
    refine onO.mk rfl (wpE.w (s1.box d1.box) hpl (new := [.b true]) rfl (by show _ + 1 ≤ 12; omega) rfl ?_)
    have s5 := s1.put d1.box (dkC a { D with off := true })
    rw [show splice (dkC a D) (0 + 9) [.b true] = dkC a { D with off := true } from rfl]
    refine k a0 _ _ s5 (d1.put rfl fun _ h => (by cases h)) ?_ fun i h1 h2 => ?_
    · rw [updQ_ne (by omega)]
      rw [show D.f.take 3 = D.f from List.take_of_length_le (by rw [d.len]; exact Nat.le_refl _)] at cl
      exact cl
    · rw [updQ_ne (by omega)]; exact u1 i h2
end
section
variable {lo B p : Nat} {F F' g h h' : Hp} {Q Q' : Nat → Hp} {a a' : Nat → AV} {D : Dk} {Post : AV → Hp → Prop} {b r : AV} {l : List (List Nat)} {x : List Nat}
/-! ### read -/
theorem cells0 (row : kBs.Row h b l) {j : Nat} (hx : l[j]? = some x) {K : AV → Prop} (k : ∀ r, Kn.byte.Row h r x → x.length ≤ 140737488351232 → K r) : onO (idxV b (j : Int) 1) fun r0 => onO (rdH h r0.1 r0.2 1) fun l0 => onL [Kd.ref] l0 K := by
  obtain ⟨bb, oo, cc, e1, e2, r, rfl, e3, e4⟩ := row.idx (i := (j : Int)) (x := x) (Int.natCast_nonneg j) (by simpa using hx)
  refine onO.mk e1 (onO.mk e2 (onL.r1 e3.sc (k r e3 (by omega))))
def newOk (l : List (List Nat)) : Bool := (decide (l.length = 0) || decide (l.length = 3)) && l.all fun x => decide (x.length ≤ 4194304)
end
section
variable {lo B p : Nat} {F F' g h h' : Hp} {Q Q' : Nat → Hp} {a a' : Nat → AV} {D : Dk} {Post : AV → Hp → Prop} {b r : AV} {l : List (List Nat)} {x : List Nat}
def dkOf (l : List (List Nat)) : Dk := ⟨[⟨l.getD 0 [], []⟩, ⟨l.getD 1 [], []⟩, ⟨l.getD 2 [], []⟩], false, false, 0⟩
structure NewI (lo B : Nat) (F : Hp) (Q : Nat → Hp) (l : List (List Nat)) (j : Nat) (A : Nat → AV) (Q1 : Nat → Hp) (h : Hp) : Prop where
  s : Sep lo F Q1 h
  u : Upd B 10 Q Q1
  one : ∀ m, m < j → PK Kn.byte lo (Q1 (B + (3 * m + 1))) (A (3 * m)) (l.getD m []) ∧ PK Kn.byte lo (Q1 (B + (3 * m + 2))) (A (3 * m + 1)) (l.getD m []) ∧ (l.getD m []).length ≤ 4194304
  two : ∀ m, j ≤ m → m < 3 → A (3 * m) = .ns ∧ A (3 * m + 1) = .ns ∧ Q1 (B + (3 * m + 1)) = Hp.none lo ∧ Q1 (B + (3 * m + 2)) = Hp.none lo
  ops : ∀ m, m < 3 → A (3 * m + 2) = .ns ∧ Q1 (B + (3 * m + 3)) = Hp.none lo
theorem Sep.clear (s : Sep lo F Q h) (S : Nat → Prop) [DecidablePred S] : Sep lo F (fun i => if S i then Hp.none lo else Q i) h :=
  ⟨s.hlo, s.fle, s.flo, fun i => by
    show (if S i then Hp.none lo else Q i).le h
    split
    · exact none_le _ _
    · exact s.le i, fun i => by
    show (if S i then Hp.none lo else Q i).lo = lo
    split
    · rfl
    · exact s.lo i, fun i => by
    show Disj (if S i then Hp.none lo else Q i) F
    split
    · exact none_disj
    · exact s.df i, fun i j e => by
    show Disj (if S i then Hp.none lo else Q i) (if S j then Hp.none lo else Q j)
    split
    · exact none_disj
    · split
      · exact disj_none
      · exact s.dd i j e⟩
theorem NewI.start (s : Sep lo F Q h) : ∃ Q1, NewI lo B F Q l 0 (fun _ => .ns) Q1 h :=
  ⟨_, s.clear fun i => B ≤ i ∧ i < B + 10, fun j hj => if_neg (by omega), fun m hm => absurd hm (by omega), fun m _ hm => ⟨rfl, rfl, if_pos (by omega), if_pos (by omega)⟩, fun m hm => ⟨rfl, if_pos (by omega)⟩⟩
theorem NewI.step {j : Nat} {A : Nat → AV} {Q1 : Nat → Hp} {h1 h2 : Hp} {r1 r2 : AV} (n : NewI lo B F Q l j A Q1 h) (hj : j < 3) (hx : l[j]? = some x) (hxl : x.length ≤ 4194304) (o1 : Kn.byte.Own h h1 r1 x) (o2 : Kn.byte.Own h1 h2 r2 x) :
    ∃ Q2, NewI lo B F Q l (j + 1) (updA (updA A (3 * j) r1) (3 * j + 1) r2) Q2 h2 := by
  obtain ⟨q1, s1, p1⟩ := n.s.fresh (B + (3 * j + 1)) byte_flat o1
  obtain ⟨q2, s2, p2⟩ := s1.fresh (B + (3 * j + 2)) byte_flat o2
  have hg : l.getD j [] = x := by rw [List.getD_eq_getElem?_getD, hx]; rfl
  refine ⟨_, s2, (n.u.put (by omega)).put (by omega), fun m hm => ?_, fun m h1 h2 => ?_, fun m hm => ?_⟩
  · by_cases e : m = j
    · subst e
      rw [updQ_ne (by omega), updQ_same, updQ_same, updA_ne (by omega), updA_same, updA_same, hg]
      exact ⟨p1, p2, hxl⟩
    · rw [updQ_ne (by omega), updQ_ne (by omega), updQ_ne (by omega), updQ_ne (by omega), updA_ne (by omega), updA_ne (by omega), updA_ne (by omega), updA_ne (by omega)]
      exact n.one m (by omega)
  · rw [updQ_ne (by omega), updQ_ne (by omega), updQ_ne (by omega), updQ_ne (by omega), updA_ne (by omega), updA_ne (by omega), updA_ne (by omega), updA_ne (by omega)]
    exact n.two m (by omega) h2
  · rw [updQ_ne (by omega), updQ_ne (by omega), updA_ne (by omega), updA_ne (by omega)]
    exact n.ops m hm
theorem dkOf_get {n : Nat} {f : DFile} (h : (dkOf l).f[n]? = some f) : n < 3 ∧ f = ⟨l.getD n [], []⟩ := by
  unfold dkOf at h
  match n, h with
  | 0, h => exact ⟨by omega, by simpa using h.symm⟩
  | 1, h => exact ⟨by omega, by simpa using h.symm⟩
  | 2, h => exact ⟨by omega, by simpa using h.symm⟩
  | n + 3, h => simp at h
theorem NewI.done {j : Nat} {A : Nat → AV} {Q1 : Nat → Hp} (n : NewI lo B F Q l j A Q1 h) (hj : ∀ m, j ≤ m → m < 3 → l.getD m [] = []) {p : Nat} (hp : h.g p = none) (hlo : h.lo ≤ p) :
    ∃ Q2, Sep lo F Q2 (h.put p (dkC A (dkOf l))) ∧ DkA lo F Q2 B p A (dkOf l) ∧ Upd B 10 Q Q2 := by
  have row : ∀ m, m < 3 → PK Kn.byte lo (Q1 (B + (3 * m + 1))) (A (3 * m)) (l.getD m []) ∧ PK Kn.byte lo (Q1 (B + (3 * m + 2))) (A (3 * m + 1)) (l.getD m []) ∧ (l.getD m []).length ≤ 4194304 := fun m hm => by
    by_cases e : m < j
    · exact n.one m e
    · obtain ⟨e1, e2, e3, e4⟩ := n.two m (by omega) hm
      rw [e1, e2, e3, e4, hj m (by omega) hm]
      exact ⟨PK.nil _ _, PK.nil _ _, by simp⟩
  refine ⟨_, n.s.alloc B hp (dkC A (dkOf l)), ⟨updQ_same, by rw [← n.s.hlo]; exact hlo, rfl, fun m f hf => ?_, fun m f hf => ?_, fun m f hf => ?_, fun m f hf => ?_, fun e _ => by cases e⟩, n.u.put0 (by omega)⟩
  · obtain ⟨h1, rfl⟩ := dkOf_get hf
    exact ⟨(row m h1).2.2, trivial⟩
  · obtain ⟨h1, rfl⟩ := dkOf_get hf
    rw [updQ_ne (by omega)]; exact (row m h1).1
  · obtain ⟨h1, rfl⟩ := dkOf_get hf
    rw [updQ_ne (by omega)]; exact (row m h1).2.1
  · obtain ⟨h1, rfl⟩ := dkOf_get hf
    rw [updQ_ne (by omega), (n.ops m h1).1, (n.ops m h1).2]; exact RowP.nil
theorem c13 {V : Hp} (s : Sep lo F Q h) (hv : Vw lo B F Q V) (ra : kBs.Row V b l) (hn : l.length < 31000000)
    (k1 : newOk l = false → ∀ Q' h', Sep lo F Q' h' → Upd B 10 Q Q' → Post (.tup [.np, .i .i64 1]) h')
    (k2 : newOk l = true → ∀ p a Q' h', Sep lo F Q' h' → DkA lo F Q' B p a (dkOf l) → Upd B 10 Q Q' → Post (.tup [.p p 0, .i .i64 0]) h') : wpC Try.prog 13 [b] Post h := by
  refine call_sound (args := [.vv b]) (cuts := []) ⟨ra.sc, trivial⟩ ?_
  rw [vc13]
  intro p0
  have ra0 : kBs.Row h b l := ra.mono (hv F Q h (Hp.le_refl _) s Upd.refl)
  obtain ⟨Q0, n0⟩ := NewI.start (B := B) (l := l) s
  refine onO.mk ra0.len (onB.ndec (fun e => ?_) (fun e => ?_))
  · refine onO.mk ra0.len (onB.ndec (fun e2 => ?_) (fun e2 => onO.mk ra0.len ?_))
    · refine k1 ?_ Q h s Upd.refl
      unfold newOk
      rw [decide_eq_false (by omega), decide_eq_false (by omega)]; rfl
    have e2 : l.length = 3 := by omega
    refine ⟨fun m r n0 n1 x1 x2 x3 x4 x5 x6 x7 x8 x9 lc0 lc1 n2 h' => ∃ (j : Nat) (A : Nat → AV) (Q1 : Nat → Hp), n1 = j ∧ j ≤ 3 ∧ m = 3 - j ∧ x1 = A 0 ∧ x2 = A 1 ∧ x3 = A 2 ∧ x4 = A 3 ∧ x5 = A 4 ∧ x6 = A 5 ∧ x7 = A 6 ∧ x8 = A 7 ∧ x9 = A 8 ∧ lc0 = false ∧ lc1 = false ∧ n2 = 0 ∧ NewI lo B F Q l j A Q1 h',
      ⟨3, 0, _, Q0, rfl, by omega, rfl, rfl, rfl, rfl, rfl, rfl, rfl, rfl, rfl, rfl, rfl, rfl, rfl, n0⟩, ?_⟩
    rintro m h1 a0 _ z0 z1 a1 _ a2 _ a3 _ a4 _ a5 _ a6 _ a7 _ a8 _ a9 _ lc0 lc1 z2 ⟨j, A, Q1, rfl, hj, rfl, rfl, rfl, rfl, rfl, rfl, rfl, rfl, rfl, rfl, rfl, rfl, rfl, ni⟩
    have ra1 : kBs.Row h1 b l := ra.mono (hv F Q1 h1 (Hp.le_refl _) ni.s ni.u)
    refine onB.dec (fun e => ?_) (fun e => fun hp hlo => ?_)
    · have hj3 : j < 3 := by omega
      obtain ⟨x, hx⟩ := get_lt (l := l) (k := j) (by omega)
      refine cells0 ra1 hx fun r w1 _ => onO.mk w1.len (onB.dec (fun e3 => ?_) fun e3 => ?_)
      · refine k1 ?_ Q1 h1 ni.s ni.u
        unfold newOk
        rw [Bool.and_eq_false_iff]
        right
        rw [List.all_eq_false]
        exact ⟨x, List.mem_of_getElem? hx, by simp; omega⟩
      · refine c23 w1 (by omega) fun r1 h2 o1 => onRet.r o1.sc (c23 (w1.mono o1.le) (by omega) fun r2 h3 o2 => onRet.r o2.sc (onO.mk (natLt_nat hj3) ?_))
        obtain ⟨Q2, ni2⟩ := ni.step hj3 hx (by omega) o1 o2
        have fin : ∀ (A' : Nat → AV), A' = updA (updA A (3 * j) r1) (3 * j + 1) r2 → onO (intO BinOp.add IntKind.i64 (j : Int) 1) fun n3 => ∃ p9, ltN p9 (3 - j) ∧ ∃ (j : Nat) (B' : Nat → AV) (Q1 : Nat → Hp), n3 = j ∧ j ≤ 3 ∧ p9 = 3 - j ∧ A' 0 = B' 0 ∧ A' 1 = B' 1 ∧ A' 2 = B' 2 ∧ A' 3 = B' 3 ∧ A' 4 = B' 4 ∧ A' 5 = B' 5 ∧ A' 6 = B' 6 ∧ A' 7 = B' 7 ∧ A' 8 = B' 8 ∧ false = false ∧ false = false ∧ (0 : Int) = 0 ∧ NewI lo B F Q l j B' Q1 h3 := fun A' e =>
          onO.mk (inc64 (by omega)) ⟨_, by show 3 - (j + 1) < 3 - j; omega, j + 1, A', Q2, rfl, by omega, rfl, rfl, rfl, rfl, rfl, rfl, rfl, rfl, rfl, rfl, rfl, rfl, rfl, by rw [e]; exact ni2⟩
        refine ⟨⟨⟨trivial, fun e0 => ?_⟩, fun e0 => ?_⟩, fun e0 => ?_⟩
        · subst e0
          exact onO.mk (natLt_nat hj3) ⟨⟨⟨trivial, fun _ => fin _ rfl⟩, fun e => absurd e (by omega)⟩, fun e => absurd e (by omega)⟩
        · subst e0
          exact onO.mk (natLt_nat hj3) ⟨⟨⟨trivial, fun e => absurd e (by omega)⟩, fun _ => fin _ rfl⟩, fun e => absurd e (by omega)⟩
        · subst e0
          exact onO.mk (natLt_nat hj3) ⟨⟨⟨trivial, fun e => absurd e (by omega)⟩, fun e => absurd e (by omega)⟩, fun _ => fin _ rfl⟩
    · have hj3 : j = 3 := by omega
      subst hj3
      obtain ⟨Q2, s2, d2, u2⟩ := ni.done (fun m h1 h2 => absurd h1 (by omega)) hp hlo
      refine k2 ?_ _ A Q2 _ s2 d2 u2
      unfold newOk
      rw [decide_eq_true e2, Bool.or_true, Bool.true_and, List.all_eq_true]
      intro x hx
      obtain ⟨m, hm⟩ := List.getElem?_of_mem hx
      have hm3 : m < 3 := by rw [← e2]; exact (List.getElem?_eq_some_iff.1 hm).1
      have := (ni.one m hm3).2.2
      rw [List.getD_eq_getElem?_getD, hm] at this
      exact decide_eq_true this
  · have e : l = [] := List.length_eq_zero_iff.1 (by omega)
    subst e
    refine onO.mk ra0.len ?_
    refine ⟨fun m r n0 n1 x1 x2 x3 x4 x5 x6 x7 x8 x9 lc0 lc1 n2 h' => n1 = 0 ∧ x1 = .ns ∧ x2 = .ns ∧ x3 = .ns ∧ x4 = .ns ∧ x5 = .ns ∧ x6 = .ns ∧ x7 = .ns ∧ x8 = .ns ∧ x9 = .ns ∧ lc0 = false ∧ lc1 = false ∧ n2 = 0 ∧ h' = h,
      ⟨3, rfl, rfl, rfl, rfl, rfl, rfl, rfl, rfl, rfl, rfl, rfl, rfl, rfl, rfl⟩, ?_⟩
    rintro m h1 a0 _ z0 z1 a1 _ a2 _ a3 _ a4 _ a5 _ a6 _ a7 _ a8 _ a9 _ lc0 lc1 z2 ⟨rfl, rfl, rfl, rfl, rfl, rfl, rfl, rfl, rfl, rfl, rfl, rfl, rfl, rfl⟩
    refine onB.neg rfl fun hp hlo => ?_
    obtain ⟨Q2, s2, d2, u2⟩ := n0.done (fun m _ _ => by simp) hp hlo
    exact k2 rfl _ _ Q2 _ s2 d2 u2
end
def kChg : Kn DOp := ⟨3, fun h o c => ∃ a, c = [.i .i64 (if o.cut = true then 0 else (o.pos : Int)), .i .i64 (if o.cut = true then (o.pos : Int) else -1), a] ∧ Kn.byte.Row h a o.b,
  fun l ⟨a, h1, h2⟩ => ⟨a, h1, h2.mono l⟩, fun ⟨a, h1, h2⟩ => by rw [h1]; rfl, fun ⟨a, h1, h2⟩ => by rw [h1]; show (true && (true && (a.sc && true))) = true; rw [h2.sc]; rfl⟩
def rfC (a : Nat → AV) (D : Dk) : List AV := [a 0, a 1, a 2, a 3, a 4, a 5, a 6, a 7, a 8, .b D.off, .i .i64 D.left, .b D.armed]
structure RfA (lo : Nat) (F : Hp) (Q : Nat → Hp) (B p : Nat) (a : Nat → AV) (D : Dk) : Prop where
  box : Q B = Hp.one p (rfC a D) lo
  plo : lo ≤ p
  len : D.f.length = 3
  ok : ∀ (n : Nat) f, D.f[n]? = some f → f.ok
  kept : ∀ (n : Nat) f, D.f[n]? = some f → Kn.byte.Row F (a (3 * n)) f.kept
  seen : ∀ (n : Nat) f, D.f[n]? = some f → Kn.byte.Row F (a (3 * n + 1)) f.seen
  ops : ∀ (n : Nat) f, D.f[n]? = some f → RowP kChg F lo (Q (B + (n + 1))) (a (3 * n + 2)) f.ops
  left : D.armed = true → D.off = false → 1 ≤ D.left ∧ D.left < 9223372036854775808
section
variable {lo B p : Nat} {F F' g h h' : Hp} {Q Q' : Nat → Hp} {a a' : Nat → AV} {D D' : Dk} {Post : AV → Hp → Prop} {b r : AV} {l : List (List Nat)} {f f' : List Nat}
theorem RfA.get (d : RfA lo F Q B p a D) {n : Nat} (hn : n < 3) : ∃ f, D.f[n]? = some f := get_lt (by rw [d.len]; exact hn)
theorem RfA.lt (d : RfA lo F Q B p a D) {n : Nat} {f : DFile} (h : D.f[n]? = some f) : n < 3 := by rw [← d.len]; exact (List.getElem?_eq_some_iff.1 h).1
theorem RfA.fmono (d : RfA lo F Q B p a D) (l : F.le F') : RfA lo F' Q B p a D := ⟨d.box, d.plo, d.len, d.ok, fun n f e => (d.kept n f e).mono l, fun n f e => (d.seen n f e).mono l, fun n f e => (d.ops n f e).mono l, d.left⟩
theorem RfA.same (d : RfA lo F Q B p a D) (e : ∀ j, B ≤ j → j < B + 4 → Q' j = Q j) : RfA lo F Q' B p a D :=
  ⟨by rw [e B (by omega) (by omega)]; exact d.box, d.plo, d.len, d.ok, d.kept, d.seen, fun n f h => by have := d.lt h; rw [e _ (by omega) (by omega)]; exact d.ops n f h, d.left⟩
theorem RfA.put (d : RfA lo F Q B p a D) (e : D'.f = D.f) (l : D'.armed = true → D'.off = false → 1 ≤ D'.left ∧ D'.left < 9223372036854775808) : RfA lo F (updQ Q B (Hp.one p (rfC a D') lo)) B p a D' :=
  ⟨updQ_same, d.plo, by rw [e]; exact d.len, by rw [e]; exact d.ok, by rw [e]; exact d.kept, by rw [e]; exact d.seen, by rw [e]; exact fun n f h => by rw [updQ_ne (by omega)]; exact d.ops n f h, l⟩
theorem RfA.fileD (d : RfA lo F Q B p a D) {n : Nat} (hn : n < 3) : D.f[n]? = some (fileD D (n : Int)) := by
  obtain ⟨f, hf⟩ := d.get hn
  rw [fileD_get hf]; exact hf
/-- its own words changed, in steps -/
theorem RfA.chg (d : RfA lo F Q B p a D) {D' : Dk} {Q1 : Nat → Hp} (e : D'.f = D.f) (l : D'.armed = true → D'.off = false → 1 ≤ D'.left ∧ D'.left < 9223372036854775808) (e1 : Q1 B = Hp.one p (rfC a D') lo) (e2 : ∀ j, j ≠ B → Q1 j = Q j) : RfA lo F Q1 B p a D' :=
  (d.put e l).same fun j _ _ => by
    by_cases ej : j = B
    · subst ej; rw [updQ_same, e1]
    · rw [updQ_ne ej, e2 j ej]
theorem RfA.file {n : Nat} {f f' : DFile} (d : RfA lo F Q B p a D) (fl : F.le F') (hn : D.f[n]? = some f) (bx : Q' B = Hp.one p (rfC a' D) lo) (eq : ∀ j, 0 < j → j < 4 → j ≠ n + 1 → Q' (B + j) = Q (B + j))
    (ea : ∀ j, j ≠ 3 * n → j ≠ 3 * n + 1 → j ≠ 3 * n + 2 → a' j = a j) (ok : f'.ok) (k1 : Kn.byte.Row F' (a' (3 * n)) f'.kept) (k2 : Kn.byte.Row F' (a' (3 * n + 1)) f'.seen)
    (k3 : RowP kChg F' lo (Q' (B + (n + 1))) (a' (3 * n + 2)) f'.ops) : RfA lo F' Q' B p a' { D with f := D.f.set n f' } := by
  have hn3 := d.lt hn
  have d := d.fmono fl
  have key : ∀ (m : Nat) (g : DFile), (D.f.set n f')[m]? = some g → (m = n ∧ g = f') ∨ (m ≠ n ∧ D.f[m]? = some g) := fun m g e => by
    by_cases em : m = n
    · subst em
      rw [List.getElem?_set_self (by rw [d.len]; exact hn3)] at e
      injection e with e
      exact .inl ⟨rfl, e.symm⟩
    · rw [List.getElem?_set_ne (Ne.symm em)] at e
      exact .inr ⟨em, e⟩
  refine ⟨bx, d.plo, by show (D.f.set n f').length = 3; rw [List.length_set]; exact d.len, fun m g e => ?_, fun m g e => ?_, fun m g e => ?_, fun m g e => ?_, d.left⟩
  · rcases key m g e with ⟨rfl, rfl⟩ | ⟨e1, e2⟩
    · exact ok
    · exact d.ok m g e2
  · rcases key m g e with ⟨rfl, rfl⟩ | ⟨e1, e2⟩
    · exact k1
    · rw [ea _ (by omega) (by omega) (by omega)]; exact d.kept m g e2
  · rcases key m g e with ⟨rfl, rfl⟩ | ⟨e1, e2⟩
    · exact k2
    · rw [ea _ (by omega) (by omega) (by omega)]; exact d.seen m g e2
  · rcases key m g e with ⟨rfl, rfl⟩ | ⟨e1, e2⟩
    · exact k3
    · have := d.lt e2
      rw [eq _ (by omega) (by omega) (by omega), ea _ (by omega) (by omega) (by omega)]; exact d.ops m g e2
end
section
variable {lo B p : Nat} {F F' g h h' : Hp} {Q Q' : Nat → Hp} {a a' : Nat → AV} {D D' : Dk} {Post : AV → Hp → Prop} {b r : AV} {l : List (List Nat)} {f f' : List Nat}
theorem onL.chg {m n : Int} {r : AV} (hr : r.sc = true) {K : Int → Int → AV → Prop} (k : K m n r) : onL [Kd.int .i64, Kd.int .i64, Kd.ref] [.i .i64 m, .i .i64 n, r] K := onRef.mk hr k
/-! ### a new one -/
structure NewR (lo B : Nat) (F0 F : Hp) (Q : Nat → Hp) (l : List (List Nat)) (j : Nat) (A : Nat → AV) (h : Hp) : Prop where
  fle : F0.le F
  s : Sep lo F Q h
  one : ∀ m, m < j → Kn.byte.Row F (A (3 * m)) (l.getD m []) ∧ Kn.byte.Row F (A (3 * m + 1)) (l.getD m []) ∧ A (3 * m + 2) = .ns
  two : ∀ m, j ≤ m → m < 3 → A (3 * m) = .ns ∧ A (3 * m + 1) = .ns ∧ A (3 * m + 2) = .ns
theorem NewR.step {j : Nat} {A : Nat → AV} {F0 h1 h2 : Hp} {r1 r2 : AV} {x : List Nat} (n : NewR lo B F0 F Q l j A h) (hj : j < 3) (hx : l[j]? = some x) (o1 : Kn.byte.Own h h1 r1 x) (o2 : Kn.byte.Own h1 h2 r2 x) :
    NewR lo B F0 (moreH h1 h2 (moreH h h1 F)) Q l (j + 1) (updA (updA (updA A (3 * j) r1) (3 * j + 1) r2) (3 * j + 2) .ns) h2 := by
  have f1 := n.s.fgrow o1.le
  have s1 := n.s.frz o1.le o1.lo
  have f2 := s1.fgrow o2.le
  have hg : l.getD j [] = x := by rw [List.getD_eq_getElem?_getD, hx]; rfl
  refine ⟨Hp.le_trans n.fle (Hp.le_trans f1 f2), s1.frz o2.le o2.lo, fun m hm => ?_, fun m h1 h2 => ?_⟩
  · by_cases e : m = j
    · subst e
      rw [updA_ne (by omega), updA_ne (by omega), updA_same, updA_ne (by omega), updA_same, updA_same, hg]
      exact ⟨(o1.frozen byte_flat).mono f2, o2.frozen byte_flat, rfl⟩
    · rw [updA_ne (by omega), updA_ne (by omega), updA_ne (by omega), updA_ne (by omega), updA_ne (by omega), updA_ne (by omega), updA_ne (by omega), updA_ne (by omega), updA_ne (by omega)]
      obtain ⟨w1, w2, w3⟩ := n.one m (by omega)
      exact ⟨w1.mono (Hp.le_trans f1 f2), w2.mono (Hp.le_trans f1 f2), w3⟩
  · rw [updA_ne (by omega), updA_ne (by omega), updA_ne (by omega), updA_ne (by omega), updA_ne (by omega), updA_ne (by omega), updA_ne (by omega), updA_ne (by omega), updA_ne (by omega)]
    exact n.two m (by omega) h2
theorem NewR.done {j : Nat} {A : Nat → AV} {F0 : Hp} (n : NewR lo B F0 F Q l j A h) (hl : ∀ x ∈ l, x.length ≤ 4194304) (hj : ∀ m, j ≤ m → m < 3 → l.getD m [] = []) {p : Nat} (hp : h.g p = none) (hlo : h.lo ≤ p) :
    ∃ Q2, Sep lo F Q2 (h.put p (rfC A (dkOf l))) ∧ RfA lo F Q2 B p A (dkOf l) ∧ Upd B 4 Q Q2 := by
  have row : ∀ m, m < 3 → Kn.byte.Row F (A (3 * m)) (l.getD m []) ∧ Kn.byte.Row F (A (3 * m + 1)) (l.getD m []) ∧ A (3 * m + 2) = .ns := fun m hm => by
    by_cases e : m < j
    · exact n.one m e
    · obtain ⟨e1, e2, e3⟩ := n.two m (by omega) hm
      rw [e1, e2, e3, hj m (by omega) hm]
      exact ⟨ns_row, ns_row, rfl⟩
  have hlen : ∀ m, (l.getD m []).length ≤ 4194304 := fun m => by
    rw [List.getD_eq_getElem?_getD]
    cases hm : l[m]? with
    | none => simp
    | some x => exact hl x (List.mem_of_getElem? hm)
  have s1 := ((n.s.clear fun i => B ≤ i ∧ i < B + 4).alloc B hp (rfC A (dkOf l)))
  refine ⟨_, s1, ⟨updQ_same, by rw [← n.s.hlo]; exact hlo, rfl, fun m f hf => ?_, fun m f hf => ?_, fun m f hf => ?_, fun m f hf => ?_, fun e _ => by cases e⟩, fun i hi => ?_⟩
  · obtain ⟨h1, rfl⟩ := dkOf_get hf
    exact ⟨hlen m, trivial⟩
  · obtain ⟨h1, rfl⟩ := dkOf_get hf
    exact (row m h1).1
  · obtain ⟨h1, rfl⟩ := dkOf_get hf
    exact (row m h1).2.1
  · obtain ⟨h1, rfl⟩ := dkOf_get hf
    rw [(row m h1).2.2, updQ_ne (by omega), if_pos (by omega)]; exact RowP.nil
  · rw [updQ_ne (by omega), if_neg (by omega)]
end
theorem wpE.m {b : Nat} {v : AV} {Post : Option AV → Hp → Prop} {h : Hp} {c : List AV} (hb : h.g b = some c) (hlo : h.lo ≤ b) (k : Post (some v) h) : wpE (.m b v) Post h := fun H F =>
  ⟨some v, H, h, by
    show (cond (Nat.ble H.low b) ((H.get b).map fun _ => (some v, H)) none) = _
    rw [F.lo, Nat.ble_eq_true_of_le hlo, (F.get b c hb).1]; rfl, ⟨F, Nat.le_refl _, fun _ _ _ => rfl, fun _ e => .inl e, rfl⟩, k⟩
section
variable {lo B p : Nat} {F F' g h h' : Hp} {Q Q' : Nat → Hp} {a a' : Nat → AV} {D D' : Dk} {Post : AV → Hp → Prop} {b r : AV} {l : List (List Nat)} {f f' : List Nat}
/-- all of it frozen -/
theorem Sep.start (h : Hp) : Sep h.lo h (fun _ => Hp.none h.lo) h := ⟨rfl, Hp.le_refl _, rfl, fun _ => none_le _ _, fun _ => rfl, fun _ => none_disj, fun _ _ _ => none_disj⟩
theorem ns_rows : kBs.Row h .ns [] := ⟨[], ⟨fun _ h => (by cases h), rfl⟩, .nil⟩
theorem ns_ints : Kn.int.Row h .ns [] := ⟨[], ⟨fun _ h => (by cases h), rfl⟩, .nil⟩
theorem few0 {N : Nat} : Few (dkOf l) N := by
  unfold Few dkOf
  intro f hf
  simp at hf
  rcases hf with rfl | rfl | rfl <;> simp
theorem few_put {N : Nat} {n : Nat} {f : DFile} (w : Few D N) (hf : f.ops.length ≤ N) : Few { D with f := D.f.set n f } N := fun g hg => by
  rcases List.mem_or_eq_of_mem_set hg with h | h
  · exact w g h
  · rw [h]; exact hf
theorem fileD_few {N : Nat} {n : Int} (w : Few D N) : (fileD D n).ops.length ≤ N := by
  unfold fileD
  cases e : D.f[n.toNat]? with
  | none => simp
  | some f => exact w f (List.mem_of_getElem? e)
theorem Few.mono {N M : Nat} (w : Few D N) (h : N ≤ M) : Few D M := fun f hf => Nat.le_trans (w f hf) h
theorem putD_few {N : Nat} {n : Int} {o : DOp} (w : Few D N) : Few (putD D n o) (N + 1) :=
  few_put (w.mono (by omega)) (by have := fileD_few (n := n) w; simp; omega)
theorem writeR_few {N : Nat} {n x : Int} {y : List Nat} (w : Few D N) : Few (writeR D n x y).2 (N + 1) := by
  unfold writeR
  split
  · split
    · exact (callD_few w).mono (by omega)
    · exact putD_few (callD_few w)
  · exact (callD_few w).mono (by omega)
theorem cutR_few {N : Nat} {n x : Int} (w : Few D N) : Few (cutR D n x).2 (N + 1) := by
  unfold cutR
  split
  · split
    · exact (callD_few w).mono (by omega)
    · exact putD_few (callD_few w)
  · exact (callD_few w).mono (by omega)
theorem syncR_few {N : Nat} {n : Int} (w : Few D N) : Few (syncR D n).2 N := by
  unfold syncR
  split
  · have := few_put (n := n.toNat) (f := ⟨(fileD D n).seen, []⟩) (callD_few w) (by simp)
    rw [callD_f] at this; exact this
  · exact callD_few w
end
section
variable {lo : Nat} {F0 F h : Hp} {Q : Nat → Hp} {x y : AV} {E : Dk} {N : Nat} {Post : AV → Hp → Prop}
theorem newOk_crash {ps : List Int} (len : E.f.length = 3) (ok : ∀ (n : Nat) f, E.f[n]? = some f → f.ok) : newOk (crashL E.f ps) = true := by
  unfold newOk
  rw [crashL_len, len]
  show (true && _) = true
  rw [Bool.true_and, List.all_eq_true]
  have : ∀ (fs : List DFile) (ps : List Int), (∀ f ∈ fs, f.ok) → ∀ x ∈ crashL fs ps, x.length ≤ 4194304 := by
    intro fs
    induction fs with
    | nil => intro ps _ x hx; cases hx
    | cons f fs ih =>
      intro ps hf x hx
      rcases List.mem_cons.1 hx with rfl | hx
      · exact crashF_len (hf f (by simp))
      · exact ih _ (fun g hg => hf g (by simp [hg])) x hx
  intro x hx
  refine decide_eq_true (this E.f ps (fun f hf => ?_) x hx)
  obtain ⟨n, hn⟩ := List.getElem?_of_mem hf
  exact ok n f hn
theorem fileD_len {n : Int} (ok : ∀ (n : Nat) f, E.f[n]? = some f → f.ok) : (fileD E n).seen.length ≤ 4194304 := by
  unfold fileD
  cases e : E.f[n.toNat]? with
  | none => show ([] : List Nat).length ≤ _; simp
  | some f => exact (ok _ f e).seen
end
/- arras/log.Open -/
theorem vc15 (a : AV) (h : Hp) (Post : AV → Hp → Prop) : vcCall Try.prog [] 15 [(SV.vv a)] h Post = (
  onO (nilP a) fun lc0 =>
  onB lc0 (Post (AV.tup [AV.np, AV.i IntKind.i64 1]) h)
    (∀ (p0 : Nat),
      h.g p0 = none →
        h.lo.le p0 →
          wpC Try.prog 24 [AV.p p0 0]
            (fun a0 h0 => onRet [Sh.one (Kd.int IntKind.i64)] a0 fun n0 => onB (!decide (n0 = 0)) (Post (AV.tup [AV.np, AV.i IntKind.i64 n0]) h0) (Post (AV.tup [AV.p p0 0, AV.i IntKind.i64 0]) h0))
            (h.put p0 [a, AV.ns, AV.i IntKind.i64 0, AV.i IntKind.i64 0, AV.i IntKind.i64 0, AV.b false]))) := by kernel_rfl
/- arras/arraslaw13.Disk -/
theorem vc4  (h : Hp) (Post : AV → Hp → Prop) : vcCall Try.prog [] 4 [] h Post = (
  wpC Try.prog 13 [AV.ns]
  (fun a0 h0 =>
    onTup [Sh.one Kd.ref, Sh.one (Kd.int IntKind.i64)] a0 fun a1 n0 =>
      wpC Try.prog 14 [AV.i IntKind.i64 n0] (fun a2 h1 => onRet [Sh.one (Kd.int IntKind.i64)] a2 fun n1 => onB (!decide (n1 = 0)) (Post AV.np h1) (Post a1 h1)) h0)
  h) := by kernel_rfl
/- arras/arraslaw13.num -/
theorem vc14 (a : Int) (h : Hp) (Post : AV → Hp → Prop) : vcCall Try.prog [] 14 [(SV.ii .i64 a)] h Post = (
  Post (AV.i IntKind.i64 a) h) := by kernel_rfl
/- (*arras/log.Log).Append -/
theorem vc28 (a : AV) (b : List Nat) (h : Hp) (Post : AV → Hp → Prop) : vcCall Try.prog [] 28 [(SV.vv a), (SV.ss b)] h Post = (
  onO (ptrV a) fun r0 =>
  onO (rdH h r0.fst (r0.snd + 5) 1) fun l0 =>
    onL [Kd.bool] l0 fun lc0 =>
      onB lc0 (Post (AV.i IntKind.i64 10) h)
        (onB (decide ((4096 : Int) < ↑b.length)) (Post (AV.i IntKind.i64 1) h)
          (onO (intO BinOp.add IntKind.i64 (↑b.length) 16) fun n0 =>
            onO (ptrV a) fun r1 =>
              onO (rdH h r1.fst (r1.snd + 2) 1) fun l1 =>
                onL [Kd.int IntKind.i64] l1 fun n1 =>
                  onO (intO BinOp.sub IntKind.i64 2097152 n1) fun n2 =>
                    onB (decide (n2 < n0)) (Post (AV.i IntKind.i64 5) h)
                      (∀ (p0 : Nat),
                        h.g p0 = none →
                          h.lo.le p0 →
                            wpC Try.prog 43 [AV.sl p0 0 1 1 true 1]
                              (fun a0 h0 =>
                                onRet [Sh.one Kd.ref] a0 fun a1 =>
                                  onO (ptrV a) fun r2 =>
                                    onO (rdH h0 r2.fst (r2.snd + 0) 1) fun l2 =>
                                      onL [Kd.ref] l2 fun a2 =>
                                        onO (ptrV a) fun r3 =>
                                          onO (rdH h0 r3.fst (r3.snd + 3) 1) fun l3 =>
                                            onL [Kd.int IntKind.i64] l3 fun n3 =>
                                              onO (ptrV a) fun r4 =>
                                                onO (rdH h0 r4.fst (r4.snd + 4) 1) fun l4 =>
                                                  onL [Kd.int IntKind.i64] l4 fun n4 =>
                                                    wpC Try.prog 45 [a2, AV.i IntKind.i64 n3, AV.i IntKind.i64 n4, a1]
                                                      (fun a3 h1 =>
                                                        onRet [Sh.one (Kd.int IntKind.i64)] a3 fun n5 =>
                                                          wpC Try.prog 44 [a, AV.i IntKind.i64 n5]
                                                            (fun a4 h2 =>
                                                              onRet [Sh.one (Kd.int IntKind.i64)] a4 fun n6 =>
                                                                onB (!decide (n6 = 0)) (Post (AV.i IntKind.i64 n6) h2)
                                                                  (onO (ptrV a) fun r5 =>
                                                                    onO (rdH h2 r5.fst (r5.snd + 1) 1) fun l5 =>
                                                                      onL [Kd.ref] l5 fun a5 =>
                                                                        ∀ (p1 : Nat),
                                                                          wpE (Eff.app a5 1 (Src.lit [AV.s b]) 1)
                                                                            (fun x0 h3 =>
                                                                              onO x0 fun a6 =>
                                                                                onO (ptrV a) fun r6 =>
                                                                                  onO (rdH h3 r6.fst (r6.snd + 2) 1) fun l6 =>
                                                                                    onL [Kd.int IntKind.i64] l6 fun n7 =>
                                                                                      sameH h2 h3 r6.fst (r6.snd + 2) 1 ∧
                                                                                        onO (intO BinOp.add IntKind.i64 n7 ↑b.length) fun n8 =>
                                                                                          onO (intO BinOp.add IntKind.i64 n8 16) fun n9 =>
                                                                                            onO (ptrV a) fun r7 =>
                                                                                              onO (rdH h3 r7.fst (r7.snd + 4) 1) fun l7 =>
                                                                                                onL [Kd.int IntKind.i64] l7 fun n10 =>
                                                                                                  sameH h2 h3 r7.fst (r7.snd + 4) 1 ∧
                                                                                                    onO (lenV a1) fun p2 =>
                                                                                                      onO (intO BinOp.add IntKind.i64 n10 ↑p2) fun n11 =>
                                                                                                        onO (ptrV a) fun r8 =>
                                                                                                          wpE (Eff.w r8.fst (r8.snd + 1) (Src.lit [a6]) none)
                                                                                                            (fun x1 h4 =>
                                                                                                              onO (ptrV a) fun r9 =>
                                                                                                                wpE (Eff.w r9.fst (r9.snd + 2) (Src.lit [AV.i IntKind.i64 n9]) none)
                                                                                                                  (fun x2 h5 =>
                                                                                                                    onO (ptrV a) fun r10 =>
                                                                                                                      wpE (Eff.w r10.fst (r10.snd + 4) (Src.lit [AV.i IntKind.i64 n11]) none)
                                                                                                                        (fun x3 h6 => Post (AV.i IntKind.i64 0) h6) h5)
                                                                                                                  h4)
                                                                                                            h3)
                                                                            h2))
                                                            h1)
                                                      h0)
                              (h.put p0 [AV.s b]))))) := by kernel_rfl
/- (*arras/log.Log).All -/
theorem vc16 (a : AV) (h : Hp) (Post : AV → Hp → Prop) : vcCall Try.prog [] 16 [(SV.vv a)] h Post = (
  onO (ptrV a) fun r0 => onO (rdH h r0.fst (r0.snd + 1) 1) fun l0 => onL [Kd.ref] l0 fun a0 => wpC Try.prog 25 [a0] (fun a1 h0 => onRet [Sh.one Kd.ref] a1 fun a2 => Post a2 h0) h) := by kernel_rfl
/- arras/arraslaw13.Again -/
theorem vc9 (a : AV) (b : AV) (h : Hp) (Post : AV → Hp → Prop) : vcCall Try.prog [] 9 [(SV.vv a), (SV.vv b)] h Post = (
  wpC Try.prog 21 [a, b]
  (fun a0 h0 =>
    onRet [Sh.one Kd.ref] a0 fun a1 =>
      wpC Try.prog 13 [a1]
        (fun a2 h1 =>
          onTup [Sh.one Kd.ref, Sh.one (Kd.int IntKind.i64)] a2 fun a3 n0 =>
            wpC Try.prog 14 [AV.i IntKind.i64 n0] (fun a4 h2 => onRet [Sh.one (Kd.int IntKind.i64)] a4 fun n1 => onB (!decide (n1 = 0)) (Post AV.np h2) (Post a3 h2)) h1)
        h0)
  h) := by kernel_rfl
/- (*arras/log.Log).Sync -/
theorem vc29 (a : AV) (h : Hp) (Post : AV → Hp → Prop) : vcCall Try.prog [] 29 [(SV.vv a)] h Post = (
  onO (ptrV a) fun r0 =>
  onO (rdH h r0.fst (r0.snd + 5) 1) fun l0 =>
    onL [Kd.bool] l0 fun lc0 =>
      onB lc0 (Post (AV.i IntKind.i64 10) h)
        (onO (ptrV a) fun r1 =>
          onO (rdH h r1.fst (r1.snd + 0) 1) fun l1 =>
            onL [Kd.ref] l1 fun a0 =>
              onO (ptrV a) fun r2 =>
                onO (rdH h r2.fst (r2.snd + 3) 1) fun l2 =>
                  onL [Kd.int IntKind.i64] l2 fun n0 =>
                    wpC Try.prog 39 [a0, AV.i IntKind.i64 n0]
                      (fun a1 h0 =>
                        onRet [Sh.one (Kd.int IntKind.i64)] a1 fun n1 =>
                          wpC Try.prog 44 [a, AV.i IntKind.i64 n1] (fun a2 h1 => onRet [Sh.one (Kd.int IntKind.i64)] a2 fun n2 => Post (AV.i IntKind.i64 n2) h1) h0)
                      h)) := by kernel_rfl
/- arras/store.Open -/
theorem vc5 (a : AV) (h : Hp) (Post : AV → Hp → Prop) : vcCall Try.prog [0] 5 [(SV.vv a)] h Post = (
  wpC Try.prog 15 [a]
  (fun a0 h0 =>
    onTup [Sh.one Kd.ref, Sh.one (Kd.int IntKind.i64)] a0 fun a1 n0 =>
      onB (!decide (n0 = 0)) (Post (AV.tup [AV.np, AV.i IntKind.i64 n0]) h0)
        (∀ (p0 : Nat),
          wpC Try.prog 16 [a1]
            (fun a2 h1 =>
              onRet [Sh.one Kd.ref] a2 fun a3 =>
                h1.g p0 = none →
                  h1.lo.le p0 →
                    ∃ I0 : Nat → AV → AV → Int → Hp → Prop,
                      (∃ p1, I0 p1 a3 AV.np 0 (h1.put p0 [a1, AV.ns, AV.i IntKind.i64 0, AV.b false])) ∧
                        ∀ (p2 : Nat) (h2 : Hp) (a4 : AV),
                          a4.sc = true →
                            ∀ (a5 : AV),
                              a5.sc = true →
                                ∀ (n1 : Int),
                                  I0 p2 a4 a5 n1 h2 →
                                    Dup
                                      (onO (lenV a4) fun p3 =>
                                        onB (decide ((↑p3 : Int) = 0)) (Post (AV.tup [AV.p p0 0, AV.i IntKind.i64 0]) h2)
                                          (onO (idxV a4 0 1) fun r0 =>
                                            onO (rdH h2 r0.fst r0.snd 1) fun l0 =>
                                              onL [Kd.str] l0 fun l1 =>
                                                wpC Try.prog 17 [AV.p p0 0, AV.s l1]
                                                  (fun a6 h3 =>
                                                    onRet [Sh.one Kd.bool] a6 fun lc0 =>
                                                      onB lc0 (onO (slV a4 (some 1) none none 1) fun a7 => ∃ p4, ltN p4 p2 ∧ I0 p4 a7 a5 n1 h3) (Post (AV.tup [AV.np, AV.i IntKind.i64 1]) h3))
                                                  h2)))
            h0))
  h) := by kernel_rfl
/- arras/arraslaw24.num -/
theorem vc6 (a : Int) (h : Hp) (Post : AV → Hp → Prop) : vcCall Try.prog [] 6 [(SV.ii .i64 a)] h Post = (
  Post (AV.i IntKind.i64 a) h) := by kernel_rfl
/- (*arras/store.Store).Ops -/
theorem vc11 (a : AV) (h : Hp) (Post : AV → Hp → Prop) : vcCall Try.prog [] 11 [(SV.vv a)] h Post = (
  onO (ptrV a) fun r0 => onO (rdH h r0.fst (r0.snd + 1) 1) fun l0 => onL [Kd.ref] l0 fun a0 => wpC Try.prog 20 [a0] (fun a1 h0 => onRet [Sh.one Kd.ref] a1 fun a2 => Post a2 h0) h) := by kernel_rfl
/- arras/arraslaw24.wakes -/
theorem vc12  (h : Hp) (Post : AV → Hp → Prop) : vcCall Try.prog [] 12 [] h Post = (
  wpC Try.prog 4 []
  (fun a0 h0 =>
    onRet [Sh.one Kd.ref] a0 fun a1 =>
      wpC Try.prog 5 [a1]
        (fun a2 h1 =>
          onTup [Sh.one Kd.ref, Sh.one (Kd.int IntKind.i64)] a2 fun a3 n0 =>
            wpC Try.prog 6 [AV.i IntKind.i64 n0]
              (fun a4 h2 =>
                onRet [Sh.one (Kd.int IntKind.i64)] a4 fun n1 =>
                  onB (!decide (n1 = 0)) (Post (AV.b false) h2)
                    (onO (nilP a3) fun lc0 =>
                      onB lc0 (Post (AV.b false) h2)
                        (wpC Try.prog 7 []
                          (fun a5 h3 =>
                            onRet
                              [Sh.agg
                                  [Kd.int IntKind.i64, Kd.int IntKind.i64, Kd.int IntKind.i64, Kd.ref, Kd.int IntKind.i64, Kd.int IntKind.i64, Kd.int IntKind.i64, Kd.int IntKind.i64,
                                    Kd.int IntKind.i64, Kd.str, Kd.int IntKind.i64, Kd.int IntKind.i64]]
                              a5 fun n2 n3 n4 a6 n5 n6 n7 n8 n9 l0 n10 n11 =>
                              ∀ (p0 : Nat),
                                h3.g p0 = none →
                                  h3.lo.le p0 →
                                    wpC Try.prog 8 [a3, AV.sl p0 0 1 1 true 12]
                                      (fun a7 h4 =>
                                        onRet [Sh.one (Kd.int IntKind.i64)] a7 fun n12 =>
                                          wpC Try.prog 6 [AV.i IntKind.i64 n12]
                                            (fun a8 h5 =>
                                              onRet [Sh.one (Kd.int IntKind.i64)] a8 fun n13 =>
                                                onB (decide (n13 = 0))
                                                  (wpC Try.prog 11 [a3]
                                                    (fun a9 h6 =>
                                                      onRet [Sh.one Kd.ref] a9 fun a10 =>
                                                        wpC Try.prog 7 []
                                                          (fun a11 h7 =>
                                                            onRet
                                                              [Sh.agg
                                                                  [Kd.int IntKind.i64, Kd.int IntKind.i64, Kd.int IntKind.i64, Kd.ref, Kd.int IntKind.i64, Kd.int IntKind.i64, Kd.int IntKind.i64,
                                                                    Kd.int IntKind.i64, Kd.int IntKind.i64, Kd.str, Kd.int IntKind.i64, Kd.int IntKind.i64]]
                                                              a11 fun n14 n15 n16 a12 n17 n18 n19 n20 n21 l1 n22 n23 =>
                                                              ∀ (p1 : Nat),
                                                                h7.g p1 = none →
                                                                  h7.lo.le p1 →
                                                                    wpC Try.prog 10 [a10, AV.sl p1 0 1 1 true 12] (fun a13 h8 => onRet [Sh.one Kd.bool] a13 fun lc1 => Post (AV.b lc1) h8)
                                                                      (h7.put p1
                                                                        [AV.i IntKind.i64 n14, AV.i IntKind.i64 n15, AV.i IntKind.i64 n16, a12, AV.i IntKind.i64 n17, AV.i IntKind.i64 n18,
                                                                          AV.i IntKind.i64 n19, AV.i IntKind.i64 n20, AV.i IntKind.i64 n21, AV.s l1, AV.i IntKind.i64 n22, AV.i IntKind.i64 n23]))
                                                          h6)
                                                    h5)
                                                  (Post (AV.b false) h5))
                                            h4)
                                      (h3.put p0
                                        [AV.i IntKind.i64 n2, AV.i IntKind.i64 n3, AV.i IntKind.i64 n4, a6, AV.i IntKind.i64 n5, AV.i IntKind.i64 n6, AV.i IntKind.i64 n7, AV.i IntKind.i64 n8,
                                          AV.i IntKind.i64 n9, AV.s l0, AV.i IntKind.i64 n10, AV.i IntKind.i64 n11]))
                          h2)))
              h1)
        h0)
  h) := by kernel_rfl
/- (*arras/store.Store).Append -/
theorem vc8 (a : AV) (b : AV) (h : Hp) (Post : AV → Hp → Prop) : vcCall Try.prog [] 8 [(SV.vv a), (SV.vv b)] h Post = (
  onO (ptrV a) fun r0 =>
  onO (rdH h r0.fst (r0.snd + 3) 1) fun l0 =>
    onL [Kd.bool] l0 fun lc0 =>
      onB lc0 (Post (AV.i IntKind.i64 10) h)
        (wpC Try.prog 18 [b]
          (fun a0 h0 =>
            onTup [Sh.one Kd.ref, Sh.one (Kd.int IntKind.i64), Sh.one (Kd.int IntKind.i64)] a0 fun a1 n0 n1 =>
              onB (!decide (n1 = 0)) (Post (AV.i IntKind.i64 n1) h0)
                (onO (ptrV a) fun r1 =>
                  onO (rdH h0 r1.fst (r1.snd + 2) 1) fun l1 =>
                    onL [Kd.int IntKind.i64] l1 fun n2 =>
                      onO (intO BinOp.sub IntKind.i64 2097152 n2) fun n3 =>
                        onB (decide (n3 < n0)) (Post (AV.i IntKind.i64 5) h0)
                          (wpC Try.prog 19 [a, a1]
                            (fun a2 h1 =>
                              onRet [Sh.one (Kd.int IntKind.i64)] a2 fun n4 =>
                                onB (!decide (n4 = 0)) (onO (ptrV a) fun r2 => wpE (Eff.w r2.fst (r2.snd + 3) (Src.lit [AV.b true]) none) (fun x0 h2 => Post (AV.i IntKind.i64 n4) h2) h1)
                                  (onO (ptrV a) fun r3 =>
                                    onO (rdH h1 r3.fst (r3.snd + 1) 1) fun l2 =>
                                      onL [Kd.ref] l2 fun a3 =>
                                        wpC Try.prog 20 [b]
                                          (fun a4 h3 =>
                                            onRet [Sh.one Kd.ref] a4 fun a5 =>
                                              sameH h1 h3 r3.fst (r3.snd + 1) 1 ∧
                                                onO (srcV 12 a5) fun r4 =>
                                                  onC (((4 * r4.fst + 4000) * 120).ble (OfNat.ofNat 17179869184))
                                                    (wpE (Eff.app a3 r4.fst r4.snd 12)
                                                      (fun x1 h4 =>
                                                        onO x1 fun a6 =>
                                                          onO (ptrV a) fun r5 =>
                                                            onO (rdH h4 r5.fst (r5.snd + 2) 1) fun l3 =>
                                                              onL [Kd.int IntKind.i64] l3 fun n5 =>
                                                                sameH h3 h4 r5.fst (r5.snd + 2) 1 ∧
                                                                  sameH h1 h3 r5.fst (r5.snd + 2) 1 ∧
                                                                    onO (intO BinOp.add IntKind.i64 n5 n0) fun n6 =>
                                                                      onO (ptrV a) fun r6 =>
                                                                        wpE (Eff.w r6.fst (r6.snd + 1) (Src.lit [a6]) none)
                                                                          (fun x2 h5 =>
                                                                            onO (ptrV a) fun r7 =>
                                                                              wpE (Eff.w r7.fst (r7.snd + 2) (Src.lit [AV.i IntKind.i64 n6]) none) (fun x3 h6 => Post (AV.i IntKind.i64 0) h6) h5)
                                                                          h4)
                                                      h3))
                                          h1))
                            h0)))
          h)) := by kernel_rfl
/- arras/op.OwnAll -/
theorem vc20 (a : AV) (h : Hp) (Post : AV → Hp → Prop) : vcCall Try.prog [] 20 [(SV.vv a)] h Post = (
  wpC Try.prog 30 [a]
  (fun a0 h0 =>
    onRet [Sh.one Kd.ref] a0 fun a1 =>
      onO (lenV a1) fun p0 =>
        ∃ I0 : Nat → Int → Hp → Prop,
          (∃ p1, I0 p1 0 h0) ∧
            ∀ (p2 : Nat) (h1 : Hp) (n0 : Int),
              I0 p2 n0 h1 →
                onB (decide (n0 < ↑p0))
                  (onO (idxV a1 n0 12) fun r0 =>
                    onO (rdH h1 r0.fst r0.snd 12) fun l0 =>
                      onL
                        [Kd.int IntKind.i64, Kd.int IntKind.i64, Kd.int IntKind.i64, Kd.ref, Kd.int IntKind.i64, Kd.int IntKind.i64, Kd.int IntKind.i64, Kd.int IntKind.i64, Kd.int IntKind.i64, Kd.str,
                          Kd.int IntKind.i64, Kd.int IntKind.i64]
                        l0 fun n1 n2 n3 a2 n4 n5 n6 n7 n8 l1 n9 n10 =>
                        wpC Try.prog 31
                          [AV.agg
                              [AV.i IntKind.i64 n1, AV.i IntKind.i64 n2, AV.i IntKind.i64 n3, a2, AV.i IntKind.i64 n4, AV.i IntKind.i64 n5, AV.i IntKind.i64 n6, AV.i IntKind.i64 n7,
                                AV.i IntKind.i64 n8, AV.s l1, AV.i IntKind.i64 n9, AV.i IntKind.i64 n10]]
                          (fun a3 h2 =>
                            onRet
                              [Sh.agg
                                  [Kd.int IntKind.i64, Kd.int IntKind.i64, Kd.int IntKind.i64, Kd.ref, Kd.int IntKind.i64, Kd.int IntKind.i64, Kd.int IntKind.i64, Kd.int IntKind.i64,
                                    Kd.int IntKind.i64, Kd.str, Kd.int IntKind.i64, Kd.int IntKind.i64]]
                              a3 fun n11 n12 n13 a4 n14 n15 n16 n17 n18 l2 n19 n20 =>
                              onO (idxV a1 n0 12) fun r1 =>
                                wpE
                                  (Eff.w r1.fst r1.snd
                                    (Src.lit
                                      [AV.i IntKind.i64 n11, AV.i IntKind.i64 n12, AV.i IntKind.i64 n13, a4, AV.i IntKind.i64 n14, AV.i IntKind.i64 n15, AV.i IntKind.i64 n16, AV.i IntKind.i64 n17,
                                        AV.i IntKind.i64 n18, AV.s l2, AV.i IntKind.i64 n19, AV.i IntKind.i64 n20])
                                    none)
                                  (fun x0 h3 => onO (intO BinOp.add IntKind.i64 n0 1) fun n21 => ∃ p3, ltN p3 p2 ∧ I0 p3 n21 h3) h2)
                          h1)
                  (Post a1 h1))
  h) := by kernel_rfl
/- (*arras/log.Log).load -/
theorem vc24 (a : AV) (h : Hp) (Post : AV → Hp → Prop) : vcCall Try.prog [12999999,
 24000004] 24 [(SV.vv a)] h Post = (
  wpC Try.prog 36 [a, AV.i IntKind.i64 2]
  (fun a0 h0 =>
    onTup [Sh.one Kd.ref, Sh.one (Kd.int IntKind.i64)] a0 fun a1 n0 =>
      onB (!decide (n0 = 0)) (Post (AV.i IntKind.i64 n0) h0)
        (onO (lenV a1) fun p0 =>
          ∃ I0 : Hp → Prop,
            onB (decide ((0 : Int) < ↑p0))
                (onO (lenV a1) fun p1 =>
                  onO (intO BinOp.sub IntKind.i64 (↑p1) 1) fun n1 =>
                    onO (idxV a1 n1 1) fun r0 =>
                      onO (rdH h0 r0.fst r0.snd 1) fun l0 =>
                        onL [Kd.int IntKind.u8] l0 fun n2 =>
                          onO (intO BinOp.and IntKind.u8 n2 1) fun n3 =>
                            onO (wrO IntKind.i64 n3) fun n4 => onO (ptrV a) fun r1 => wpE (Eff.w r1.fst (r1.snd + 3) (Src.lit [AV.i IntKind.i64 n4]) none) (fun x0 h1 => I0 h1) h0)
                (I0 h0) ∧
              ∀ (h2 : Hp),
                I0 h2 →
                  onO (ptrV a) fun r2 =>
                    onO (rdH h2 r2.fst (r2.snd + 3) 1) fun l1 =>
                      onL [Kd.int IntKind.i64] l1 fun n5 =>
                        wpC Try.prog 36 [a, AV.i IntKind.i64 n5]
                          (fun a2 h3 =>
                            onTup [Sh.one Kd.ref, Sh.one (Kd.int IntKind.i64)] a2 fun a3 n6 =>
                              onB (!decide (n6 = 0)) (Post (AV.i IntKind.i64 n6) h3)
                                (wpC Try.prog 37 [a, a3]
                                  (fun a4 h4 =>
                                    onTup [] a4
                                      (onO (ptrV a) fun r3 =>
                                        onO (rdH h4 r3.fst (r3.snd + 4) 1) fun l2 =>
                                          onL [Kd.int IntKind.i64] l2 fun n7 =>
                                            onO (lenV a3) fun p2 =>
                                              ∃ I1 : Int → Hp → Prop,
                                                onB (decide (n7 < ↑p2))
                                                    (onO (ptrV a) fun r4 =>
                                                      onO (rdH h4 r4.fst (r4.snd + 0) 1) fun l3 =>
                                                        onL [Kd.ref] l3 fun a5 =>
                                                          onO (ptrV a) fun r5 =>
                                                            onO (rdH h4 r5.fst (r5.snd + 3) 1) fun l4 =>
                                                              onL [Kd.int IntKind.i64] l4 fun n8 =>
                                                                onO (ptrV a) fun r6 =>
                                                                  onO (rdH h4 r6.fst (r6.snd + 4) 1) fun l5 =>
                                                                    onL [Kd.int IntKind.i64] l5 fun n9 =>
                                                                      wpC Try.prog 38 [a5, AV.i IntKind.i64 n8, AV.i IntKind.i64 n9]
                                                                        (fun a6 h5 => onRet [Sh.one (Kd.int IntKind.i64)] a6 fun n10 => I1 n10 h5) h4)
                                                    (I1 n6 h4) ∧
                                                  ∀ (h6 : Hp) (n11 : Int),
                                                    I1 n11 h6 →
                                                      onO (ptrV a) fun r7 =>
                                                        onO (rdH h6 r7.fst (r7.snd + 3) 1) fun l6 =>
                                                          onL [Kd.int IntKind.i64] l6 fun n12 =>
                                                            ∃ I2 : Nat → Int → Int → Hp → Prop,
                                                              (∃ p3, I2 p3 n11 0 h6) ∧
                                                                ∀ (p4 : Nat) (h7 : Hp) (n13 n14 : Int),
                                                                  I2 p4 n13 n14 h7 →
                                                                    onB (decide (n14 < 2))
                                                                      (onO (natLt n14 2) fun p5 =>
                                                                        (True ∧
                                                                            (p5 = 0 →
                                                                              onB (decide (n13 = 0))
                                                                                (onO (ptrV a) fun r8 =>
                                                                                  onO (rdH h7 r8.fst (r8.snd + 0) 1) fun l7 =>
                                                                                    onL [Kd.ref] l7 fun a7 =>
                                                                                      wpC Try.prog 39 [a7, AV.i IntKind.i64 n12]
                                                                                        (fun a8 h8 =>
                                                                                          onRet [Sh.one (Kd.int IntKind.i64)] a8 fun n15 =>
                                                                                            onO (intO BinOp.add IntKind.i64 n14 1) fun n16 => ∃ p6, ltN p6 p4 ∧ I2 p6 n15 n16 h8)
                                                                                        h7)
                                                                                (onO (intO BinOp.add IntKind.i64 n14 1) fun n17 => ∃ p7, ltN p7 p4 ∧ I2 p7 n13 n17 h7))) ∧
                                                                          (p5 = 1 →
                                                                            onB (decide (n13 = 0))
                                                                              (onO (ptrV a) fun r9 =>
                                                                                onO (rdH h7 r9.fst (r9.snd + 0) 1) fun l8 =>
                                                                                  onL [Kd.ref] l8 fun a9 =>
                                                                                    wpC Try.prog 39 [a9, AV.i IntKind.i64 2]
                                                                                      (fun a10 h9 =>
                                                                                        onRet [Sh.one (Kd.int IntKind.i64)] a10 fun n18 =>
                                                                                          onO (intO BinOp.add IntKind.i64 n14 1) fun n19 => ∃ p8, ltN p8 p4 ∧ I2 p8 n18 n19 h9)
                                                                                      h7)
                                                                              (onO (intO BinOp.add IntKind.i64 n14 1) fun n20 => ∃ p9, ltN p9 p4 ∧ I2 p9 n13 n20 h7)))
                                                                      (Post (AV.i IntKind.i64 n13) h7)))
                                  h3))
                          h2))
  h) := by kernel_rfl
/- arras/log.lay -/
theorem vc43 (a : AV) (h : Hp) (Post : AV → Hp → Prop) : vcCall Try.prog [] 43 [(SV.vv a)] h Post = (
  onO (lenV a) fun p0 =>
  ∃ I0 : Nat → AV → Int → Hp → Prop,
    (∃ p1, I0 p1 AV.ns 0 h) ∧
      ∀ (p2 : Nat) (h0 : Hp) (a0 : AV),
        a0.sc = true →
          ∀ (n0 : Int),
            I0 p2 a0 n0 h0 →
              onB (decide (n0 < ↑p0))
                (onO (idxV a n0 1) fun r0 =>
                  onO (rdH h0 r0.fst r0.snd 1) fun l0 =>
                    onL [Kd.str] l0 fun l1 =>
                      onO (wrO IntKind.u32 ↑l1.length) fun n1 =>
                        wpC Try.prog 66 [a0, AV.i IntKind.u32 n1]
                          (fun a1 h1 =>
                            onRet [Sh.one Kd.ref] a1 fun a2 =>
                              ∀ (p3 : Nat),
                                h1.g p3 = none →
                                  h1.lo.le p3 →
                                    wpC Try.prog 50 [AV.i IntKind.u32 0, AV.sl p3 0 l1.length l1.length false 1]
                                      (fun a3 h2 =>
                                        onRet [Sh.one (Kd.int IntKind.u32)] a3 fun n2 =>
                                          wpC Try.prog 66 [a2, AV.i IntKind.u32 n2]
                                            (fun a4 h3 =>
                                              onRet [Sh.one Kd.ref] a4 fun a5 =>
                                                onO (srcV 1 (AV.s l1)) fun r1 =>
                                                  onC (((4 * r1.fst + 4000) * 1).ble (OfNat.ofNat 17179869184))
                                                    (wpE (Eff.app a5 r1.fst r1.snd 1) (fun x0 h4 => onO x0 fun a6 => onO (intO BinOp.add IntKind.i64 n0 1) fun n3 => ∃ p4, ltN p4 p2 ∧ I0 p4 a6 n3 h4)
                                                      h3))
                                            h2)
                                      (h1.put p3 (bytesV l1)))
                          h0)
                (Post a0 h0)) := by kernel_rfl
/- (*arras/log.Log).did -/
theorem vc44 (a : AV) (b : Int) (h : Hp) (Post : AV → Hp → Prop) : vcCall Try.prog [] 44 [(SV.vv a), (SV.ii .i64 b)] h Post = (
  onO (ptrV a) fun r0 => wpE (Eff.w r0.fst (r0.snd + 5) (Src.lit [AV.b !decide (b = 0)]) none) (fun x0 h0 => Post (AV.i IntKind.i64 b) h0) h) := by kernel_rfl
/- slices.Clone[[]string,string] -/
theorem vc25 (a : AV) (h : Hp) (Post : AV → Hp → Prop) : vcCall Try.prog [] 25 [(SV.vv a)] h Post = (
  onO (nilSl a) fun lc0 =>
  onB lc0 (Post AV.ns h)
    (∀ (p0 : Nat),
      h.g p0 = none →
        h.lo.le p0 →
          onO (srcV 1 a) fun r0 =>
            onC (((4 * r0.fst + 4000) * 16).ble (OfNat.ofNat 17179869184)) (wpE (Eff.app (AV.sl p0 0 0 0 true 1) r0.fst r0.snd 1) (fun x0 h0 => onO x0 fun a0 => Post a0 h0) (h.put p0 [])))) := by kernel_rfl
/- (*arras/store.Store).read -/
theorem vc17 (a : AV) (b : List Nat) (h : Hp) (Post : AV → Hp → Prop) : vcCall Try.prog [] 17 [(SV.vv a), (SV.ss b)] h Post = (
  ∀ (p0 : Nat),
  h.g p0 = none →
    h.lo.le p0 →
      wpC Try.prog 26 [AV.sl p0 0 b.length b.length false 1]
        (fun a0 h0 =>
          onTup
            [Sh.agg
                [Kd.int IntKind.i64, Kd.int IntKind.i64, Kd.int IntKind.i64, Kd.ref, Kd.int IntKind.i64, Kd.int IntKind.i64, Kd.int IntKind.i64, Kd.int IntKind.i64, Kd.int IntKind.i64, Kd.str,
                  Kd.int IntKind.i64, Kd.int IntKind.i64],
              Sh.one (Kd.int IntKind.i64), Sh.one (Kd.int IntKind.i64)]
            a0 fun n0 n1 n2 a1 n3 n4 n5 n6 n7 l0 n8 n9 n10 n11 =>
            ∀ (p1 : Nat),
              onB (!decide (n11 = 0)) (Post (AV.b false) h0)
                (onB (!decide (n10 = ↑b.length)) (Post (AV.b false) h0)
                  (onO (ptrV a) fun r0 =>
                    onO (rdH h0 r0.fst (r0.snd + 1) 1) fun l1 =>
                      onL [Kd.ref] l1 fun a2 =>
                        ∀ (p2 : Nat),
                          wpE
                            (Eff.app a2 1
                              (Src.lit
                                [AV.i IntKind.i64 n0, AV.i IntKind.i64 n1, AV.i IntKind.i64 n2, a1, AV.i IntKind.i64 n3, AV.i IntKind.i64 n4, AV.i IntKind.i64 n5, AV.i IntKind.i64 n6,
                                  AV.i IntKind.i64 n7, AV.s l0, AV.i IntKind.i64 n8, AV.i IntKind.i64 n9])
                              12)
                            (fun x0 h1 =>
                              onO x0 fun a3 =>
                                onO (ptrV a) fun r1 =>
                                  onO (rdH h1 r1.fst (r1.snd + 2) 1) fun l2 =>
                                    onL [Kd.int IntKind.i64] l2 fun n12 =>
                                      sameH h0 h1 r1.fst (r1.snd + 2) 1 ∧
                                        onO (intO BinOp.add IntKind.i64 n12 ↑b.length) fun n13 =>
                                          onO (intO BinOp.add IntKind.i64 n13 16) fun n14 =>
                                            onO (ptrV a) fun r2 =>
                                              wpE (Eff.w r2.fst (r2.snd + 1) (Src.lit [a3]) none)
                                                (fun x1 h2 => onO (ptrV a) fun r3 => wpE (Eff.w r3.fst (r3.snd + 2) (Src.lit [AV.i IntKind.i64 n14]) none) (fun x2 h3 => Post (AV.b true) h3) h2) h1)
                            h0)))
        (h.put p0 (bytesV b))) := by kernel_rfl
/- arras/store.fit -/
theorem vc18 (a : AV) (h : Hp) (Post : AV → Hp → Prop) : vcCall Try.prog [] 18 [(SV.vv a)] h Post = (
  onO (lenV a) fun p0 =>
  ∃ I0 : Nat → Int → AV → Int → Int → Hp → Prop,
    (∃ p1, I0 p1 0 AV.ns 0 0 h) ∧
      ∀ (p2 : Nat) (h0 : Hp) (n0 : Int) (a0 : AV),
        a0.sc = true →
          ∀ (n1 n2 : Int),
            I0 p2 n0 a0 n1 n2 h0 →
              onB (decide (n2 < ↑p0))
                (onO (idxV a n2 12) fun r0 =>
                  onO (rdH h0 r0.fst r0.snd 12) fun l0 =>
                    onL
                      [Kd.int IntKind.i64, Kd.int IntKind.i64, Kd.int IntKind.i64, Kd.ref, Kd.int IntKind.i64, Kd.int IntKind.i64, Kd.int IntKind.i64, Kd.int IntKind.i64, Kd.int IntKind.i64, Kd.str,
                        Kd.int IntKind.i64, Kd.int IntKind.i64]
                      l0 fun n3 n4 n5 a1 n6 n7 n8 n9 n10 l1 n11 n12 =>
                      ∀ (p3 : Nat),
                        wpC Try.prog 27
                          [AV.agg
                              [AV.i IntKind.i64 n3, AV.i IntKind.i64 n4, AV.i IntKind.i64 n5, a1, AV.i IntKind.i64 n6, AV.i IntKind.i64 n7, AV.i IntKind.i64 n8, AV.i IntKind.i64 n9,
                                AV.i IntKind.i64 n10, AV.s l1, AV.i IntKind.i64 n11, AV.i IntKind.i64 n12]]
                          (fun a2 h1 =>
                            onTup [Sh.one Kd.ref, Sh.one (Kd.int IntKind.i64)] a2 fun a3 n13 =>
                              onB (!decide (n13 = 0)) (Post (AV.tup [AV.ns, AV.i IntKind.i64 0, AV.i IntKind.i64 n13]) h1)
                                (onO (strAt h1 a3) fun r1 =>
                                  ∀ (p4 : Nat),
                                    wpE (Eff.app a0 1 (Src.lit [AV.s r1.fst]) 1)
                                      (fun x0 h2 =>
                                        onO x0 fun a4 =>
                                          onO (lenV a3) fun p5 =>
                                            onO (intO BinOp.add IntKind.i64 n1 ↑p5) fun n14 =>
                                              onO (intO BinOp.add IntKind.i64 n14 16) fun n15 => onO (intO BinOp.add IntKind.i64 n2 1) fun n16 => ∃ p6, ltN p6 p2 ∧ I0 p6 n0 a4 n15 n16 h2)
                                      h1))
                          h0)
                (Post (AV.tup [a0, AV.i IntKind.i64 n1, AV.i IntKind.i64 0]) h0)) := by kernel_rfl
/- (*arras/store.Store).write -/
theorem vc19 (a : AV) (b : AV) (h : Hp) (Post : AV → Hp → Prop) : vcCall Try.prog [] 19 [(SV.vv a), (SV.vv b)] h Post = (
  onO (lenV b) fun p0 =>
  ∃ I0 : Nat → Int → Int → Hp → Prop,
    (∃ p1, I0 p1 0 0 h) ∧
      ∀ (p2 : Nat) (h0 : Hp) (n0 n1 : Int),
        I0 p2 n0 n1 h0 →
          onB (decide (n1 < ↑p0))
            (onO (idxV b n1 1) fun r0 =>
              onO (rdH h0 r0.fst r0.snd 1) fun l0 =>
                onL [Kd.str] l0 fun l1 =>
                  onO (ptrV a) fun r1 =>
                    onO (rdH h0 r1.fst (r1.snd + 0) 1) fun l2 =>
                      onL [Kd.ref] l2 fun a0 =>
                        wpC Try.prog 28 [a0, AV.s l1]
                          (fun a1 h1 =>
                            onRet [Sh.one (Kd.int IntKind.i64)] a1 fun n2 =>
                              onB (!decide (n2 = 0)) (Post (AV.i IntKind.i64 n2) h1) (onO (intO BinOp.add IntKind.i64 n1 1) fun n3 => ∃ p3, ltN p3 p2 ∧ I0 p3 n0 n3 h1))
                          h0)
            (onO (ptrV a) fun r2 =>
              onO (rdH h0 r2.fst (r2.snd + 0) 1) fun l3 =>
                onL [Kd.ref] l3 fun a2 => wpC Try.prog 29 [a2] (fun a3 h2 => onRet [Sh.one (Kd.int IntKind.i64)] a3 fun n4 => Post (AV.i IntKind.i64 n4) h2) h0)) := by kernel_rfl
/- (*arras/log.Log).read -/
theorem vc36 (a : AV) (b : Int) (h : Hp) (Post : AV → Hp → Prop) : vcCall Try.prog [] 36 [(SV.vv a), (SV.ii .i64 b)] h Post = (
  onO (ptrV a) fun r0 =>
  onO (rdH h r0.fst (r0.snd + 0) 1) fun l0 =>
    onL [Kd.ref] l0 fun a0 =>
      wpC Try.prog 47 [a0, AV.i IntKind.i64 b]
        (fun a1 h0 =>
          onTup [Sh.one (Kd.int IntKind.i64), Sh.one (Kd.int IntKind.i64)] a1 fun n0 n1 =>
            onB (!decide (n1 = 0)) (Post (AV.tup [AV.ns, AV.i IntKind.i64 n1]) h0)
              (onO (ptrV a) fun r1 =>
                onO (rdH h0 r1.fst (r1.snd + 0) 1) fun l1 =>
                  onL [Kd.ref] l1 fun a2 =>
                    wpC Try.prog 48 [a2, AV.i IntKind.i64 b, AV.i IntKind.i64 0, AV.i IntKind.i64 n0]
                      (fun a3 h1 => onTup [Sh.one Kd.ref, Sh.one (Kd.int IntKind.i64)] a3 fun a4 n2 => Post (AV.tup [a4, AV.i IntKind.i64 n2]) h1) h0))
        h) := by kernel_rfl
/- (*arras/log.Log).scan -/
theorem vc37 (a : AV) (b : AV) (h : Hp) (Post : AV → Hp → Prop) : vcCall Try.prog [0] 37 [(SV.vv a), (SV.vv b)] h Post = (
  ∃ I0 : Nat → Int → AV → Hp → Prop,
  (∃ p0, I0 p0 0 AV.ns h) ∧
    ∀ (p1 : Nat) (h0 : Hp) (n0 : Int) (a0 : AV),
      a0.sc = true →
        I0 p1 n0 a0 h0 →
          Dup
            (onO (lenV b) fun p2 =>
              onO (ptrV a) fun r0 =>
                onO (rdH h0 r0.fst (r0.snd + 4) 1) fun l0 =>
                  onL [Kd.int IntKind.i64] l0 fun n1 =>
                    onO (intO BinOp.sub IntKind.i64 (↑p2) n1) fun n2 =>
                      onB (decide (n2 < 8)) (Post (AV.tup []) h0)
                        (onO (ptrV a) fun r1 =>
                          onO (rdH h0 r1.fst (r1.snd + 4) 1) fun l1 =>
                            onL [Kd.int IntKind.i64] l1 fun n3 =>
                              onO (slV b (some n3) none none 1) fun a1 =>
                                wpC Try.prog 49 [a1]
                                  (fun a2 h1 =>
                                    onRet [Sh.one (Kd.int IntKind.i64)] a2 fun n4 =>
                                      onB (decide (4096 < n4)) (Post (AV.tup []) h1)
                                        (onO (lenV b) fun p3 =>
                                          onO (ptrV a) fun r2 =>
                                            onO (rdH h1 r2.fst (r2.snd + 4) 1) fun l2 =>
                                              onL [Kd.int IntKind.i64] l2 fun n5 =>
                                                onO (intO BinOp.sub IntKind.i64 (↑p3) n5) fun n6 =>
                                                  onO (intO BinOp.sub IntKind.i64 n6 8) fun n7 =>
                                                    onB (decide (n7 < n4)) (Post (AV.tup []) h1)
                                                      (onO (ptrV a) fun r3 =>
                                                        onO (rdH h1 r3.fst (r3.snd + 4) 1) fun l3 =>
                                                          onL [Kd.int IntKind.i64] l3 fun n8 =>
                                                            onO (intO BinOp.add IntKind.i64 n8 8) fun n9 =>
                                                              onO (ptrV a) fun r4 =>
                                                                onO (rdH h1 r4.fst (r4.snd + 4) 1) fun l4 =>
                                                                  onL [Kd.int IntKind.i64] l4 fun n10 =>
                                                                    onO (intO BinOp.add IntKind.i64 n10 8) fun n11 =>
                                                                      onO (intO BinOp.add IntKind.i64 n11 n4) fun n12 =>
                                                                        onO (slV b (some n9) (some n12) none 1) fun a3 =>
                                                                          onO (ptrV a) fun r5 =>
                                                                            onO (rdH h1 r5.fst (r5.snd + 4) 1) fun l5 =>
                                                                              onL [Kd.int IntKind.i64] l5 fun n13 =>
                                                                                onO (intO BinOp.add IntKind.i64 n13 4) fun n14 =>
                                                                                  onO (slV b (some n14) none none 1) fun a4 =>
                                                                                    wpC Try.prog 49 [a4]
                                                                                      (fun a5 h2 =>
                                                                                        onRet [Sh.one (Kd.int IntKind.i64)] a5 fun n15 =>
                                                                                          onO (wrO IntKind.u32 n15) fun n16 =>
                                                                                            wpC Try.prog 50 [AV.i IntKind.u32 0, a3]
                                                                                              (fun a6 h3 =>
                                                                                                onRet [Sh.one (Kd.int IntKind.u32)] a6 fun n17 =>
                                                                                                  onB (!decide (n16 = n17)) (Post (AV.tup []) h3)
                                                                                                    (onO (ptrV a) fun r6 =>
                                                                                                      onO (rdH h3 r6.fst (r6.snd + 1) 1) fun l6 =>
                                                                                                        onL [Kd.ref] l6 fun a7 =>
                                                                                                          onO (strAt h3 a3) fun r7 =>
                                                                                                            ∀ (p4 : Nat),
                                                                                                              wpE (Eff.app a7 1 (Src.lit [AV.s r7.fst]) 1)
                                                                                                                (fun x0 h4 =>
                                                                                                                  onO x0 fun a8 =>
                                                                                                                    onO (ptrV a) fun r8 =>
                                                                                                                      onO (rdH h4 r8.fst (r8.snd + 2) 1) fun l7 =>
                                                                                                                        onL [Kd.int IntKind.i64] l7 fun n18 =>
                                                                                                                          sameH h3 h4 r8.fst (r8.snd + 2) 1 ∧
                                                                                                                            onO (intO BinOp.add IntKind.i64 n18 n4) fun n19 =>
                                                                                                                              onO (intO BinOp.add IntKind.i64 n19 16) fun n20 =>
                                                                                                                                onO (ptrV a) fun r9 =>
                                                                                                                                  onO (rdH h4 r9.fst (r9.snd + 4) 1) fun l8 =>
                                                                                                                                    onL [Kd.int IntKind.i64] l8 fun n21 =>
                                                                                                                                      sameH h3 h4 r9.fst (r9.snd + 4) 1 ∧
                                                                                                                                        onO (intO BinOp.add IntKind.i64 n21 8) fun n22 =>
                                                                                                                                          onO (intO BinOp.add IntKind.i64 n22 n4) fun n23 =>
                                                                                                                                            onO (ptrV a) fun r10 =>
                                                                                                                                              wpE (Eff.w r10.fst (r10.snd + 1) (Src.lit [a8]) none)
                                                                                                                                                (fun x1 h5 =>
                                                                                                                                                  onO (ptrV a) fun r11 =>
                                                                                                                                                    wpE
                                                                                                                                                      (Eff.w r11.fst (r11.snd + 2)
                                                                                                                                                        (Src.lit [AV.i IntKind.i64 n20]) none)
                                                                                                                                                      (fun x2 h6 =>
                                                                                                                                                        onO (ptrV a) fun r12 =>
                                                                                                                                                          wpE
                                                                                                                                                            (Eff.w r12.fst (r12.snd + 4)
                                                                                                                                                              (Src.lit [AV.i IntKind.i64 n23]) none)
                                                                                                                                                            (fun x3 h7 =>
                                                                                                                                                              ∃ p5, ltN p5 p1 ∧ I0 p5 n4 a3 h7)
                                                                                                                                                            h6)
                                                                                                                                                      h5)
                                                                                                                                                h4)
                                                                                                                h3))
                                                                                              h2)
                                                                                      h1)))
                                  h0))) := by kernel_rfl
/- arras/log.four -/
theorem vc66 (a : AV) (b : Int) (h : Hp) (Post : AV → Hp → Prop) : vcCall Try.prog [] 66 [(SV.vv a), (SV.ii .u32 b)] h Post = (
  onO (shO BinOp.shr IntKind.u32 b 24) fun n0 =>
  onO (wrO IntKind.u8 n0) fun n1 =>
    onO (shO BinOp.shr IntKind.u32 b 16) fun n2 =>
      onO (wrO IntKind.u8 n2) fun n3 =>
        onO (shO BinOp.shr IntKind.u32 b 8) fun n4 =>
          onO (wrO IntKind.u8 n4) fun n5 =>
            onO (wrO IntKind.u8 b) fun n6 =>
              ∀ (p0 : Nat), wpE (Eff.app a 4 (Src.lit [AV.i IntKind.u8 n1, AV.i IntKind.u8 n3, AV.i IntKind.u8 n5, AV.i IntKind.u8 n6]) 1) (fun x0 h0 => onO x0 fun a0 => Post a0 h0) h) := by kernel_rfl
/- arras/log.number -/
theorem vc49 (a : AV) (h : Hp) (Post : AV → Hp → Prop) : vcCall Try.prog [] 49 [(SV.vv a)] h Post = (
  onO (idxV a 0 1) fun r0 =>
  onO (rdH h r0.fst r0.snd 1) fun l0 =>
    onL [Kd.int IntKind.u8] l0 fun n0 =>
      onO (wrO IntKind.i64 n0) fun n1 =>
        onO (shO BinOp.shl IntKind.i64 n1 24) fun n2 =>
          onO (idxV a 1 1) fun r1 =>
            onO (rdH h r1.fst r1.snd 1) fun l1 =>
              onL [Kd.int IntKind.u8] l1 fun n3 =>
                onO (wrO IntKind.i64 n3) fun n4 =>
                  onO (shO BinOp.shl IntKind.i64 n4 16) fun n5 =>
                    onO (intO BinOp.or IntKind.i64 n2 n5) fun n6 =>
                      onO (idxV a 2 1) fun r2 =>
                        onO (rdH h r2.fst r2.snd 1) fun l2 =>
                          onL [Kd.int IntKind.u8] l2 fun n7 =>
                            onO (wrO IntKind.i64 n7) fun n8 =>
                              onO (shO BinOp.shl IntKind.i64 n8 8) fun n9 =>
                                onO (intO BinOp.or IntKind.i64 n6 n9) fun n10 =>
                                  onO (idxV a 3 1) fun r3 =>
                                    onO (rdH h r3.fst r3.snd 1) fun l3 =>
                                      onL [Kd.int IntKind.u8] l3 fun n11 => onO (wrO IntKind.i64 n11) fun n12 => onO (intO BinOp.or IntKind.i64 n10 n12) fun n13 => Post (AV.i IntKind.i64 n13) h) := by kernel_rfl
/-! ### plain -/
def num4 (l : List Nat) : Nat := l.getD 0 0 * 16777216 + l.getD 1 0 * 65536 + l.getD 2 0 * 256 + l.getD 3 0
theorem num4_four {c : Nat} (h : c < 4294967296) (rest : List Nat) : num4 (four c ++ rest) = c := by
  show c / 16777216 % 256 * 16777216 + c / 65536 % 256 * 65536 + c / 256 % 256 * 256 + c % 256 = c
  omega
def lay1 (s : List Nat) : List Nat := four s.length ++ (four (crc 0 s) ++ s)
def layR (l : List (List Nat)) : List Nat := (l.map lay1).flatten
theorem drop_four {c : Nat} (rest : List Nat) : (four c ++ rest).drop 4 = rest := rfl
theorem four_len' {c : Nat} : (four c).length = 4 := rfl
theorem lay1_len {s : List Nat} : (lay1 s).length = 8 + s.length := by unfold lay1; simp only [List.length_append, four_len']; omega
theorem layR_app {a b : List (List Nat)} : layR (a ++ b) = layR a ++ layR b := by unfold layR; simp
theorem layR_cons {s : List Nat} {l : List (List Nat)} : layR (s :: l) = lay1 s ++ layR l := rfl
theorem layR_one {s : List Nat} : layR [s] = lay1 s := by simp [layR]
def sizeL (l : List (List Nat)) : Nat := (l.map fun s => s.length + 16).sum
theorem sizeL_app {a b : List (List Nat)} : sizeL (a ++ b) = sizeL a + sizeL b := by unfold sizeL; simp
theorem sizeL_cons {s : List Nat} {l : List (List Nat)} : sizeL (s :: l) = s.length + 16 + sizeL l := by unfold sizeL; simp
theorem layR_le : ∀ {l : List (List Nat)}, (layR l).length ≤ sizeL l
  | [] => Nat.le_refl _
  | s :: l => by rw [layR_cons, sizeL_cons, List.length_append, lay1_len]; have := layR_le (l := l); omega
def rec1 (b : List Nat) : Option (List Nat) :=
  if b.length < 8 then none else if 4096 < num4 b then none else if b.length - 8 < num4 b then none else
  if num4 (b.drop 4) = crc 0 ((b.drop 8).take (num4 b)) then some ((b.drop 8).take (num4 b)) else none
def scanF : Nat → List Nat → List (List Nat) × Nat
  | 0, _ => ([], 0)
  | n + 1, b => match rec1 b with
    | none => ([], 0)
    | some s => (s :: (scanF n (b.drop (8 + s.length))).1, 8 + s.length + (scanF n (b.drop (8 + s.length))).2)
def scanL (b : List Nat) : List (List Nat) × Nat := scanF b.length b
theorem rec1_some {b s : List Nat} (h : rec1 b = some s) : 8 + s.length ≤ b.length ∧ s.length = num4 b ∧ s.length ≤ 4096 ∧ s = (b.drop 8).take s.length ∧ num4 (b.drop 4) = crc 0 s := by
  unfold rec1 at h
  split at h
  · cases h
  · split at h
    · cases h
    · split at h
      · cases h
      · split at h
        · rename_i h1 h2 h3 h4
          injection h with h
          have hl : s.length = num4 b := by rw [← h, List.length_take, List.length_drop]; omega
          exact ⟨by omega, hl, by omega, by rw [hl]; exact h.symm, by rw [← h]; exact h4⟩
        · cases h
theorem scanF_more : ∀ {n m : Nat} {b : List Nat}, b.length ≤ n → b.length ≤ m → scanF n b = scanF m b
  | 0, 0, _, _, _ => rfl
  | 0, m + 1, b, h, _ => by
    have : rec1 b = none := by unfold rec1; rw [if_pos (by omega)]
    unfold scanF; rw [this]
  | n + 1, 0, b, _, h => by
    have : rec1 b = none := by unfold rec1; rw [if_pos (by omega)]
    unfold scanF; rw [this]
  | n + 1, m + 1, b, h1, h2 => by
    show (match rec1 b with | none => _ | some s => _) = (match rec1 b with | none => _ | some s => _)
    cases e : rec1 b with
    | none => rfl
    | some s =>
      have := (rec1_some e).1
      have : scanF n (b.drop (8 + s.length)) = scanF m (b.drop (8 + s.length)) := scanF_more (by simp; omega) (by simp; omega)
      simp only [this]
theorem scan_none {b : List Nat} (h : rec1 b = none) : scanL b = ([], 0) := by
  unfold scanL
  cases hl : b.length with
  | zero => rfl
  | succ n => show (match rec1 b with | none => _ | some s => _) = _; rw [h]
theorem scan_some {b s : List Nat} (h : rec1 b = some s) : scanL b = (s :: (scanL (b.drop (8 + s.length))).1, 8 + s.length + (scanL (b.drop (8 + s.length))).2) := by
  have h0 := (rec1_some h).1
  unfold scanL
  cases hl : b.length with
  | zero => omega
  | succ n =>
    show (match rec1 b with | none => _ | some s => _) = _
    rw [h]
    have : scanF n (b.drop (8 + s.length)) = scanF (b.drop (8 + s.length)).length (b.drop (8 + s.length)) := scanF_more (by simp; omega) (Nat.le_refl _)
    simp only [this]
theorem scan_ind {P : List Nat → Prop} (h1 : ∀ b, rec1 b = none → P b) (h2 : ∀ b s, rec1 b = some s → P (b.drop (8 + s.length)) → P b) : ∀ b, P b := by
  have : ∀ n (b : List Nat), b.length = n → P b := by
    intro n
    induction n using Nat.strongRecOn with
    | _ n ih =>
      intro b hb
      cases e : rec1 b with
      | none => exact h1 b e
      | some s =>
        have := (rec1_some e).1
        exact h2 b s e (ih _ (by simp; omega) _ rfl)
  exact fun b => this _ b rfl
theorem scan_len : ∀ b : List Nat, (scanL b).2 ≤ b.length ∧ (∀ s ∈ (scanL b).1, s.length ≤ 4096) ∧ (layR (scanL b).1).length = (scanL b).2 := by
  refine scan_ind (fun b e => ?_) fun b s e ih => ?_
  · rw [scan_none e]; exact ⟨Nat.zero_le _, fun s hs => (by cases hs), rfl⟩
  · rw [scan_some e]
    obtain ⟨r1, r2, r3, r4, r5⟩ := rec1_some e
    obtain ⟨i1, i2, i3⟩ := ih
    rw [List.length_drop] at i1
    refine ⟨by show 8 + s.length + _ ≤ _; omega, fun x hx => ?_, ?_⟩
    · rcases List.mem_cons.1 hx with rfl | hx
      · exact r3
      · exact i2 x hx
    · show (layR (s :: _)).length = 8 + s.length + _
      rw [layR_cons, List.length_append, lay1_len, i3]
/-- a record, whatever stands behind it -/
theorem rec1_lay {s : List Nat} (h : s.length ≤ 4096) (hb : Bytes8 s) (rest : List Nat) : rec1 (lay1 s ++ rest) = some s := by
  have hl : (lay1 s ++ rest).length = 8 + s.length + rest.length := by rw [List.length_append, lay1_len]
  have hn : num4 (lay1 s ++ rest) = s.length := by unfold lay1; rw [List.append_assoc]; exact num4_four (by omega) _
  have hd4 : (lay1 s ++ rest).drop 4 = four (crc 0 s) ++ (s ++ rest) := by
    unfold lay1; rw [List.append_assoc, List.append_assoc]; exact drop_four _
  have hd8 : (lay1 s ++ rest).drop 8 = s ++ rest := by
    rw [show 8 = 4 + 4 from rfl, ← List.drop_drop, hd4]; exact drop_four _
  unfold rec1
  rw [if_neg (by omega), hn, if_neg (by omega), if_neg (by omega), hd4, hd8, num4_four (crc_lt hb (by omega)), List.take_left, if_pos rfl]
/-- a record cut off is none -/
theorem rec1_cut {s : List Nat} (h : s.length ≤ 4096) {m : Nat} (hm : m < (lay1 s).length) : rec1 ((lay1 s).take m) = none := by
  rw [lay1_len] at hm
  unfold rec1
  have hl : ((lay1 s).take m).length = m := by rw [List.length_take, lay1_len]; omega
  rw [hl]
  split
  · rfl
  · rename_i h1
    have hn : num4 ((lay1 s).take m) = s.length := by
      unfold lay1
      rw [List.take_append, List.take_of_length_le (by rw [four_len']; omega)]
      exact num4_four (by omega) _
    rw [hn, if_neg (by omega), if_pos (by omega)]
theorem scan_lay : ∀ {l : List (List Nat)} {rest : List Nat}, (∀ s ∈ l, s.length ≤ 4096 ∧ Bytes8 s) → scanL (layR l ++ rest) = (l ++ (scanL rest).1, (layR l).length + (scanL rest).2)
  | [], rest, _ => by
    rw [show layR [] = [] from rfl, List.nil_append, List.nil_append]
    show _ = (_, 0 + _)
    rw [Nat.zero_add]
  | s :: l, rest, h => by
    obtain ⟨h1, h2⟩ := h s (by simp)
    have e : layR (s :: l) ++ rest = lay1 s ++ (layR l ++ rest) := by rw [layR_cons, List.append_assoc]
    rw [e, scan_some (rec1_lay h1 h2 _), ← lay1_len, List.drop_left, scan_lay fun x hx => h x (by simp [hx])]
    show (s :: (l ++ _), _) = (s :: l ++ _, _)
    rw [layR_cons, List.length_append]
    congr 1
    omega
theorem scan_all {l : List (List Nat)} (h : ∀ s ∈ l, s.length ≤ 4096 ∧ Bytes8 s) : scanL (layR l) = (l, (layR l).length) := by
  have := scan_lay (rest := []) h
  rw [List.append_nil, scan_none (b := []) rfl, List.append_nil] at this
  exact this
theorem scan_torn {l : List (List Nat)} {s : List Nat} (h : ∀ s ∈ l, s.length ≤ 4096 ∧ Bytes8 s) (hs : s.length ≤ 4096) {m : Nat} (hm : m < (lay1 s).length) : scanL (layR l ++ (lay1 s).take m) = (l, (layR l).length) := by
  rw [scan_lay h, scan_none (rec1_cut hs hm), List.append_nil]; rfl
/-- what is scanned, cut off behind it, is scanned alike -/
theorem scan_take : ∀ b : List Nat, scanL (b.take (scanL b).2) = scanL b := by
  refine scan_ind (fun b e => ?_) fun b s e ih => ?_
  · rw [scan_none e]; rfl
  · obtain ⟨r1, r2, r3, r4, r5⟩ := rec1_some e
    have hle := (scan_len (b.drop (8 + s.length))).1
    rw [scan_some e]
    show scanL (b.take (8 + s.length + _)) = _
    generalize hg : (scanL (b.drop (8 + s.length))).2 = n at *
    rw [List.length_drop] at hle
    have hl : (b.take (8 + s.length + n)).length = 8 + s.length + n := by rw [List.length_take]; omega
    have g : ∀ i, i < 8 + s.length → (b.take (8 + s.length + n)).getD i 0 = b.getD i 0 := fun i hi => by
      rw [List.getD_eq_getElem?_getD, List.getD_eq_getElem?_getD, List.getElem?_take_of_lt (by omega)]
    have gd : ∀ i, i < 4 → ((b.take (8 + s.length + n)).drop 4).getD i 0 = (b.drop 4).getD i 0 := fun i hi => by
      rw [List.getD_eq_getElem?_getD, List.getD_eq_getElem?_getD, List.getElem?_drop, List.getElem?_drop, List.getElem?_take_of_lt (by omega)]
    have hn : num4 (b.take (8 + s.length + n)) = num4 b := by unfold num4; rw [g 0 (by omega), g 1 (by omega), g 2 (by omega), g 3 (by omega)]
    have hn4 : num4 ((b.take (8 + s.length + n)).drop 4) = num4 (b.drop 4) := by unfold num4; rw [gd 0 (by omega), gd 1 (by omega), gd 2 (by omega), gd 3 (by omega)]
    have hd : ((b.take (8 + s.length + n)).drop 8).take s.length = s := by
      rw [List.drop_take, List.take_take, Nat.min_eq_left (by omega)]
      exact r4.symm
    have e2 : rec1 (b.take (8 + s.length + n)) = some s := by
      unfold rec1
      rw [hl, hn, hn4, ← r2, if_neg (by omega), if_neg (by omega), if_neg (by omega), hd, if_pos r5]
    rw [scan_some e2]
    have : (b.take (8 + s.length + n)).drop (8 + s.length) = (b.drop (8 + s.length)).take n := by
      rw [List.drop_take]; congr 1; omega
    rw [this, ih, hg]
abbrev SR := Kn.str.Row
theorem str_flat : Kn.str.Flat := fun _ _ _ _ k => k
theorem shl64 {c k : Nat} (hc : c < 256) (hk : k ≤ 24) : shO .shl .i64 (c : Int) (k : Int) = some ((c * 2 ^ k : Nat) : Int) := by
  unfold shO
  have hb : Nat.ble k 64 = true := Nat.ble_eq_true_of_le (by omega)
  have e : shiftA .shl .i64 (c : Int) (k : Int) = some (.i .i64 (wrapA .i64 (Int.mul (c : Int) (.ofNat (Nat.pow 2 (cond (Nat.ble k 64) k 64)))))) := rfl
  rw [e, hb, cond_true]
  have hp : (2 : Nat) ^ k ≤ 16777216 := Nat.le_trans (Nat.pow_le_pow_right (by omega) hk) (by decide)
  have h1 : c * 2 ^ k ≤ 255 * 16777216 := Nat.mul_le_mul (by omega) hp
  have h2 : Int.mul (c : Int) (.ofNat (Nat.pow 2 k)) = ((c * 2 ^ k : Nat) : Int) := by
    rw [Int.natCast_mul]; rfl
  rw [h2, wrap64 (by omega) (by omega)]
theorem or64g {a b k : Nat} (hb : b < 2 ^ k) (h : a * 2 ^ k + b < 4611686018427387904) : intO .or .i64 ((a * 2 ^ k : Nat) : Int) (b : Int) = some ((a * 2 ^ k + b : Nat) : Int) := by
  unfold intO
  have e : intA .or .i64 ((a * 2 ^ k : Nat) : Int) (b : Int) = some (.i .i64 (wrapA .i64 (.ofNat (Nat.lor (a * 2 ^ k) b)))) := by
    show (cond (Nat.blt (a * 2 ^ k) 18446744073709551616 && Nat.blt b 18446744073709551616) _ none : Option AV) = _
    rw [blt_of (by omega), blt_of (by omega)]; rfl
  rw [e]
  have h2 : Nat.lor (a * 2 ^ k) b = a * 2 ^ k + b := by
    have := Nat.two_pow_add_eq_or_of_lt hb a
    show (a * 2 ^ k) ||| b = _
    rw [Nat.mul_comm a, ← this]
  rw [h2]
  show some (wrapA .i64 ((a * 2 ^ k + b : Nat) : Int)) = _
  rw [wrap64 (by omega) (by omega)]
theorem or64h {A a b k C : Nat} (hA : A = a * 2 ^ k) (hb : b < 2 ^ k) (hC : C = A + b) (h : C < 4611686018427387904) : intO .or .i64 (A : Int) (b : Int) = some (C : Int) := by subst hA; subst hC; exact or64g hb h
theorem shl64h {c k A : Nat} (hc : c < 256) (hk : k ≤ 24) (hA : A = c * 2 ^ k) : shO .shl .i64 (c : Int) (k : Int) = some (A : Int) := by subst hA; exact shl64 hc hk
theorem wr32h {n : Nat} (h : n < 4294967296) : wrO .u32 (n : Int) = some (n : Int) := by rw [wr32]; congr 1; omega
section
variable {g h : Hp} {a b : AV} {f : List Nat} {l m : List (List Nat)} {Post : AV → Hp → Prop}
/-- four bytes behind -/
theorem c66 {n : Nat} (o : Kn.byte.Own g h a f) (hn : n < 4294967296) (hb : f.length + 4 < 32000000) (k : ∀ r h', Kn.byte.Own g h' r (f ++ four n) → Post r h') : wpC Try.prog 66 [a, .i .u32 (n : Nat)] Post h := by
  refine call_sound (args := [.vv a, .ii .u32 (n : Nat)]) (cuts := []) ⟨o.sc, trivial, trivial⟩ ?_
  rw [vc66]
  have e1 : shO .shr .u32 (n : Int) 24 = some ((n / 16777216 : Nat) : Int) := shr32 (a := n) 24 (by omega)
  have e2 : shO .shr .u32 (n : Int) 16 = some ((n / 65536 : Nat) : Int) := shr32 (a := n) 16 (by omega)
  have e3 : shO .shr .u32 (n : Int) 8 = some ((n / 256 : Nat) : Int) := shr32 (a := n) 8 (by omega)
  have w : ∀ m : Nat, wrO .u8 (m : Int) = some ((m % 256 : Nat) : Int) := fun m => by rw [wr8]; rfl
  have hf : four n = [n / 16777216 % 256, n / 65536 % 256, n / 256 % 256, n % 256] := rfl
  have g1 : n / 16777216 % 256 < 256 := Nat.mod_lt _ (by omega)
  have g2 : n / 65536 % 256 < 256 := Nat.mod_lt _ (by omega)
  have g3 : n / 256 % 256 < 256 := Nat.mod_lt _ (by omega)
  have g4 : n % 256 < 256 := Nat.mod_lt _ (by omega)
  refine onO.mk e1 (onO.mk (w _) (onO.mk e2 (onO.mk (w _) (onO.mk e3 (onO.mk (w _) (onO.mk (w _) fun _ => ?_))))))
  rw [hf] at k
  generalize n / 16777216 % 256 = n1 at *
  generalize n / 65536 % 256 = n2 at *
  generalize n / 256 % 256 = n3 at *
  generalize n % 256 = n4 at *
  exact o.app (n := 4) (l2 := [n1, n2, n3, n4]) (css2 := [[.i .u8 (n1 : Int)], [.i .u8 (n2 : Int)], [.i .u8 (n3 : Int)], [.i .u8 (n4 : Int)]]) rfl byte_flat (.cons ⟨rfl, g1⟩ (.cons ⟨rfl, g2⟩ (.cons ⟨rfl, g3⟩ (.cons ⟨rfl, g4⟩ .nil)))) rfl rfl (by omega) fun r h' o' => onO.mk rfl (k _ _ o')
theorem four_of {f : List Nat} (hl : 4 ≤ f.length) : ∃ w x y z t, f = w :: x :: y :: z :: t := by
  match f, hl with
  | w :: x :: y :: z :: t, _ => exact ⟨w, x, y, z, t, rfl⟩
theorem c270a {w x y z A1 A2 A3 N2 N3 N : Nat} {t : List Nat} (r : Kn.byte.Row h a (w :: x :: y :: z :: t)) (s1 : shO .shl .i64 (w : Int) 24 = some (A1 : Int)) (s2 : shO .shl .i64 (x : Int) 16 = some (A2 : Int)) (s3 : shO .shl .i64 (y : Int) 8 = some (A3 : Int))
    (o1 : intO .or .i64 (A1 : Int) (A2 : Int) = some (N2 : Int)) (o2 : intO .or .i64 (N2 : Int) (A3 : Int) = some (N3 : Int)) (o3 : intO .or .i64 (N3 : Int) (z : Int) = some (N : Int)) (k : Post (.i .i64 (N : Nat)) h) : wpC Try.prog 49 [a] Post h := by
  refine call_sound (args := [.vv a]) (cuts := []) ⟨r.sc, trivial⟩ ?_
  rw [vc49]
  have hw := byte_lt r (x := w) (by simp)
  have hx := byte_lt r (x := x) (by simp)
  have hy := byte_lt r (x := y) (by simp)
  have hz := byte_lt r (x := z) (by simp)
  have w8 : ∀ m : Nat, m < 256 → wrO .i64 (m : Int) = some (m : Int) := fun m hm => wr64 (by omega) (by omega)
  refine byte0 (k := 0) r rfl (onO.mk (w8 _ hw) (onO.mk s1 ?_))
  refine byte0 (k := 1) r rfl (onO.mk (w8 _ hx) (onO.mk s2 (onO.mk o1 ?_)))
  refine byte0 (k := 2) r rfl (onO.mk (w8 _ hy) (onO.mk s3 (onO.mk o2 ?_)))
  exact byte0 (k := 3) r rfl (onO.mk (w8 _ hz) (onO.mk o3 k))
/-- a number of four bytes -/
theorem c49 (r : Kn.byte.Row h a f) (hl : 4 ≤ f.length) (k : Post (.i .i64 (num4 f : Nat)) h) : wpC Try.prog 49 [a] Post h := by
  obtain ⟨w, x, y, z, t, rfl⟩ := four_of hl
  have hw := byte_lt r (x := w) (by simp)
  have hx := byte_lt r (x := x) (by simp)
  have hy := byte_lt r (x := y) (by simp)
  have hz := byte_lt r (x := z) (by simp)
  have hnum : num4 (w :: x :: y :: z :: t) = w * 16777216 + x * 65536 + y * 256 + z := rfl
  rw [hnum] at k
  have p24 : (2 : Nat) ^ 24 = 16777216 := by decide
  have p16 : (2 : Nat) ^ 16 = 65536 := by decide
  have p8 : (2 : Nat) ^ 8 = 256 := by decide
  exact c270a r (shl64h (c := w) (k := 24) (A := w * 16777216) hw (by omega) (by rw [p24])) (shl64h (c := x) (k := 16) (A := x * 65536) hx (by omega) (by rw [p16])) (shl64h (c := y) (k := 8) (A := y * 256) hy (by omega) (by rw [p8]))
    (or64h (a := w) (k := 24) (C := w * 16777216 + x * 65536) (by rw [p24]) (by rw [p24]; omega) rfl (by omega)) (or64h (a := w * 256 + x) (k := 16) (C := w * 16777216 + x * 65536 + y * 256) (by rw [p16]; omega) (by rw [p16]; omega) rfl (by omega))
    (or64h (a := w * 65536 + x * 256 + y) (k := 8) (C := w * 16777216 + x * 65536 + y * 256 + z) (by rw [p8]; omega) (by rw [p8]; omega) rfl (by omega)) k
/-! ### texts -/
theorem str0 (r : SR h a l) {j : Nat} {x : List Nat} (hx : l[j]? = some x) {K : List Nat → Prop} (k : x.length ≤ 140737488351232 → (∀ y ∈ x, y < 256) → K x) : onO (idxV a (j : Int) 1) fun r0 => onO (rdH h r0.1 r0.2 1) fun l0 => onL [Kd.str] l0 K := by
  obtain ⟨bb, oo, cc, e1, e2, rfl, e3, e4⟩ := r.idx (i := (j : Int)) (x := x) (Int.natCast_nonneg j) (by simpa using hx)
  exact onO.mk e1 (onO.mk e2 (onL.s1 (k e3 e4)))
theorem c43 (ra : SR h a l) (hl : ∀ s ∈ l, s.length ≤ 4096) (hs : (layR l).length < 31000000) (hn : l.length < 31000000) (k : ∀ r h', Kn.byte.Own h h' r (layR l) → Post r h') : wpC Try.prog 43 [a] Post h := by
  refine call_sound (args := [.vv a]) (cuts := []) ⟨ra.sc, trivial⟩ ?_
  rw [vc43]
  refine onO.mk ra.len ⟨fun m r i h' => ∃ j : Nat, i = j ∧ j ≤ l.length ∧ m = l.length - j ∧ Kn.byte.Own h h' r (layR (l.take j)), ⟨_, 0, rfl, by omega, rfl, Kn.Own.nil _ _⟩, ?_⟩
  rintro m h0 r _ _ ⟨j, rfl, hj, rfl, o⟩
  refine onB.dec (fun e => ?_) fun e => ?_
  · obtain ⟨x, hx⟩ := get_lt (l := l) (k := j) (by omega)
    have hxl := hl x (List.mem_of_getElem? hx)
    have hstep : layR (l.take (j + 1)) = layR (l.take j) ++ (four x.length ++ (four (crc 0 x) ++ x)) := by rw [take_succ' hx, layR_app, layR_one]; rfl
    have hsum : (layR (l.take (j + 1))).length ≤ (layR l).length := by
      conv => rhs; rw [← List.take_append_drop (j + 1) l, layR_app]
      simp
    rw [hstep] at hsum
    simp only [List.length_append, four_len'] at hsum
    refine str0 (ra.mono o.le) hx fun q1 q2 => onO.mk (wr32h (by omega)) (c66 o (by omega) (by omega) fun r2 h2 o2 => onRet.r o2.sc fun p3 hp hlo => ?_)
    have o3 := o2.moren hp (bytesV x)
    have ob : Kn.byte.Own h2 (h2.put p3 (bytesV x)) (.sl p3 0 x.length x.length false 1) x :=
      ⟨h2, x.map fun y => [.i .u8 (.ofNat y)], Hp.le_refl _, rfl, Fresh.put (Hp.le_refl _) rfl hp hlo (css := x.map fun y => [.i .u8 (.ofNat y)]) (sz := 1) (len := x.length) false (fun c hc => by
        obtain ⟨y, _, rfl⟩ := List.mem_map.1 hc; rfl) (by simp) (ofU8_flat x), bytes_all q2⟩
    have br := ob.row
    have hc := crc_lt (l := x) (s := 0) q2 (by omega)
    refine c50 (s := 0) br (by omega) (by omega) (onRet.u32 (c66 o3 hc (by simp only [List.length_append, four_len']; omega) fun r4 h4 o4 => onRet.r o4.sc ?_))
    refine onO.mk (a := (x.length, .lit (ofU8 x))) rfl (onC.mk (Nat.ble_eq_true_of_le (by show (4 * x.length + 4000) * 1 ≤ 17179869184; omega)) ?_)
    refine o4.app (sz := 1) rfl byte_flat (bytes_all q2) (by simp [srcH, ofU8_flat]) rfl (by simp only [List.length_append, four_len']; omega) fun r5 h5 o5 => onO.mk rfl (onO.mk (inc64 (by omega)) ⟨_, by show l.length - (j + 1) < l.length - j; omega, j + 1, rfl, by omega, rfl, ?_⟩)
    rw [hstep]
    simpa [List.append_assoc] using o5
  · have : j = l.length := by omega
    subst this
    rw [List.take_length] at o
    exact k _ _ o
theorem c25 (ra : SR h a l) (hn : l.length < 31000000) (k : ∀ r h', Kn.str.Own h h' r l → Post r h') : wpC Try.prog 25 [a] Post h := by
  refine call_sound (args := [.vv a]) (cuts := []) ⟨ra.sc, trivial⟩ ?_
  rw [vc25]
  exact clone_body ra rfl str_flat (by omega) (Nat.ble_eq_true_of_le (by omega)) k
theorem sizeL_take {j : Nat} : sizeL (l.take j) ≤ sizeL l := by
  conv => rhs; rw [← List.take_append_drop j l, sizeL_app]
  omega
end
structure Lg where
  l : List (List Nat)
  size : Nat
  file : Nat
  pos : Nat
  dead : Bool
def lgC (dp : Nat) (r : AV) (L : Lg) : List AV := [.p dp 0, r, .i .i64 (L.size : Nat), .i .i64 (L.file : Nat), .i .i64 (L.pos : Nat), .b L.dead]
structure LgM (lo : Nat) (F : Hp) (Q : Nat → Hp) (q dp : Nat) (r : AV) (a : Nat → AV) (D : Dk) (L : Lg) : Prop where
  box : Q 10 = Hp.one q (lgC dp r L) lo
  qlo : lo ≤ q
  row : PK Kn.str lo (Q 11) r L.l
  dk : DkA lo F Q 0 dp a D
  file : L.file < 2
section
variable {lo q dp : Nat} {F F' h h' : Hp} {Q Q' : Nat → Hp} {a a' : Nat → AV} {r r' b : AV} {D D' : Dk} {L L' : Lg} {Post : AV → Hp → Prop} {n : Int}
theorem lg_word (s : Sep lo F Q h) (e : Q 10 = Hp.one q (lgC dp r L) lo) : rdH h q (0 + 0) 1 = some [.p dp 0] ∧ rdH h q (0 + 1) 1 = some [r] ∧ rdH h q (0 + 2) 1 = some [.i .i64 (L.size : Nat)] ∧ rdH h q (0 + 3) 1 = some [.i .i64 (L.file : Nat)] ∧ rdH h q (0 + 4) 1 = some [.i .i64 (L.pos : Nat)] ∧ rdH h q (0 + 5) 1 = some [.b L.dead] :=
  ⟨rdBox (s.box e) rfl, rdBox (s.box e) rfl, rdBox (s.box e) rfl, rdBox (s.box e) rfl, rdBox (s.box e) rfl, rdBox (s.box e) rfl⟩
/-- one of its words written -/
theorem lg_put (s : Sep lo F Q h) (e : Q 10 = Hp.one q (lgC dp r L) lo) (qlo : lo ≤ q) {i : Nat} {v : AV} (hv : v.sc = true) {c : List AV} (hc : splice (lgC dp r L) (0 + i) [v] = c) (hi : i < 6) {Post : Option AV → Hp → Prop}
    (k : ∀ h', Sep lo F (updQ Q 10 (Hp.one q c lo)) h' → Post none h') : wpE (.w q (0 + i) (.lit [v]) none) Post h := by
  refine wpE.w (s.box e) (by rw [s.hlo]; exact qlo) (new := [v]) rfl (by show _ + 1 ≤ 6; omega) (by simp [hv]) (k _ ?_)
  rw [hc]; exact s.put e _
theorem LgM.fmono (m : LgM lo F Q q dp r a D L) (l : F.le F') : LgM lo F' Q q dp r a D L := ⟨m.box, m.qlo, m.row, m.dk.fmono l, m.file⟩
theorem LgM.disk (m : LgM lo F Q q dp r a D L) (d : DkA lo F' Q' 0 dp a' D') (u : Upd 0 10 Q Q') : LgM lo F' Q' q dp r a' D' L := ⟨by rw [u 10 (by omega)]; exact m.box, m.qlo, by rw [u 11 (by omega)]; exact m.row, d, m.file⟩
theorem LgM.chg (m : LgM lo F Q q dp r a D L) (e1 : Q' 10 = Hp.one q (lgC dp r' L') lo) (e2 : PK Kn.str lo (Q' 11) r' L'.l) (e3 : ∀ j, j ≠ 10 → j ≠ 11 → Q' j = Q j) (hf : L'.file < 2) : LgM lo F Q' q dp r' a D L' :=
  ⟨e1, m.qlo, e2, m.dk.same fun j _ _ => e3 j (by omega) (by omega), hf⟩
theorem Upd.more {Q Q1 : Nat → Hp} (u : Upd 0 10 Q Q1) : Upd 0 12 Q Q1 := fun j hj => u j (by omega)
def readAll (D : Dk) (n : Int) : List Nat × Int := if askR D n = 0 then ((fileD D n).seen, 0) else ([], askR D n)
theorem c36 (s : Sep lo F Q h) (m : LgM lo F Q q dp r a D L) (k : ∀ r' h', Kn.byte.Own h h' r' (readAll D n).1 → Post (.tup [r', .i .i64 (readAll D n).2]) h') : wpC Try.prog 36 [.p q 0, .i .i64 n] Post h := by
  refine call_sound (args := [.vv (.p q 0), .ii .i64 n]) (cuts := []) ⟨rfl, trivial, trivial⟩ ?_
  rw [vc36]
  obtain ⟨w0, _⟩ := lg_word s m.box
  refine onO.mk rfl (onO.mk w0 (onL.r1 rfl (c47 s m.dk (onTup.ii ?_))))
  unfold sizeR
  unfold readAll at k
  by_cases e : askR D n = 0
  · rw [if_pos e] at k ⊢
    refine onB.neg rfl (onO.mk rfl (onO.mk w0 (onL.r1 rfl ?_)))
    refine c48 s m.dk fun r2 h2 o2 => onTup.ri o2.sc ?_
    have er : readR' D n 0 (((fileD D n).seen.length : Nat) : Int) = ((fileD D n).seen, 0) := by
      unfold readR'
      rw [if_pos e, if_neg (by omega), if_neg (by omega)]
      rw [Int.toNat_natCast, show (0 : Int).toNat = 0 from rfl, List.drop_zero, List.take_of_length_le (Nat.le_refl _)]
    rw [er] at o2 ⊢
    exact k _ _ o2
  · rw [if_neg e] at k ⊢
    exact onB.pos (by simp [e]) (k _ _ (Kn.Own.nil _ _))
def scanLg (L : Lg) (B : List Nat) : Lg := { L with l := L.l ++ (scanL (B.drop L.pos)).1, size := L.size + sizeL (scanL (B.drop L.pos)).1, pos := L.pos + (scanL (B.drop L.pos)).2 }
theorem num4_lt {l : List Nat} (h : ∀ x ∈ l, x < 256) : num4 l < 4294967296 := by
  have g : ∀ i, l.getD i 0 < 256 := fun i => by
    rw [List.getD_eq_getElem?_getD]
    cases e : l[i]? with
    | none => show (0 : Nat) < 256; omega
    | some x => exact h x (List.mem_of_getElem? e)
  have := g 0; have := g 1; have := g 2; have := g 3
  unfold num4; omega
theorem scanLg_none {B : List Nat} (e : rec1 (B.drop L.pos) = none) : scanLg L B = L := by
  unfold scanLg
  rw [scan_none e]
  show { L with l := L.l ++ [], size := L.size + 0, pos := L.pos + 0 } = L
  rw [List.append_nil]; rfl
theorem scanLg_some {B s : List Nat} (e : rec1 (B.drop L.pos) = some s) : scanLg { L with l := L.l ++ [s], size := L.size + s.length + 16, pos := L.pos + 8 + s.length } B = scanLg L B := by
  unfold scanLg
  rw [scan_some e, List.drop_drop]
  show Lg.mk (L.l ++ [s] ++ (scanL (B.drop (L.pos + 8 + s.length))).1) _ _ _ _ = Lg.mk (L.l ++ (s :: (scanL (B.drop (L.pos + (8 + s.length)))).1)) _ _ _ _
  rw [show L.pos + (8 + s.length) = L.pos + 8 + s.length by omega, List.append_assoc]
  simp only [sizeL_cons, List.singleton_append]
  congr 1 <;> omega
theorem c37 {B : List Nat} (s : Sep lo F Q h) (m : LgM lo F Q q dp r a D L) (rb : Kn.byte.Row F b B) (hb : B.length ≤ 4194304) (hp : L.pos ≤ B.length) (hs : L.size ≤ 2 * L.pos) (hl : L.l.length ≤ L.pos)
    (k : ∀ r' Q' h', Sep lo F Q' h' → LgM lo F Q' q dp r' a D (scanLg L B) → (∀ j, j ≠ 10 → j ≠ 11 → Q' j = Q j) → Post (.tup []) h') : wpC Try.prog 37 [.p q 0, b] Post h := by
  refine call_sound (args := [.vv (.p q 0), .vv b]) (cuts := [0]) ⟨rfl, rb.sc, trivial⟩ ?_
  rw [vc37]
  refine ⟨fun m n0 a0 h' => ∃ (r' : AV) (Q' : Nat → Hp) (L' : Lg), m = B.length - L'.pos ∧ Sep lo F Q' h' ∧ LgM lo F Q' q dp r' a D L' ∧ (∀ j, j ≠ 10 → j ≠ 11 → Q' j = Q j) ∧ L'.pos ≤ B.length ∧ L'.size ≤ 2 * L'.pos ∧ L'.l.length ≤ L'.pos ∧ scanLg L' B = scanLg L B,
    ⟨_, r, Q, L, rfl, s, m, fun _ _ _ => rfl, hp, hs, hl, rfl⟩, ?_⟩
  clear m s hp hs hl
  rintro _ h0 n0 a0 _ ⟨r1, Q1, L1, rfl, s, m, u, hp, hs, hl, he⟩
  obtain ⟨w0, w1, w2, w3, w4, w5⟩ := lg_word s m.box
  have rb0 := rb.mono s.fle
  have bl : (B.drop L1.pos).length = B.length - L1.pos := List.length_drop
  have done : rec1 (B.drop L1.pos) = none → Post (.tup []) h0 := fun e => k r1 Q1 h0 s (by rw [← he, scanLg_none e]; exact m) u
  have hby : ∀ x ∈ B.drop L1.pos, x < 256 := fun x hx => byte_lt rb (List.mem_of_mem_drop hx)
  refine Dup.mk (onO.mk rb0.len (onO.mk rfl (onO.mk w4 (onL.i1 (onO.mk (sub64 (by omega) (by omega)) (onB.dec (fun c => ?_) fun c => ?_))))))
  · exact done (by unfold rec1; rw [if_pos (by omega)])
  obtain ⟨a1, f1, f2⟩ := rb0.sl rfl (sz := 1) (i := L1.pos) (j := B.length) (lo := some ((L1.pos : Nat) : Int)) (hi := none) hp (Nat.le_refl _) rfl rfl
  rw [List.take_of_length_le (by omega)] at f2
  refine onO.mk rfl (onO.mk w4 (onL.i1 (onO.mk f1 (c49 f2 (by omega) (onRet.i (onB.dec (fun lc2 => ?_) fun lc2 => ?_))))))
  · exact done (by unfold rec1; rw [if_neg (by omega), if_pos (by omega)])
  refine onO.mk rb0.len (onO.mk rfl (onO.mk w4 (onL.i1 (onO.mk (sub64 (by omega) (by omega)) (onO.mk (sub64 (by omega) (by omega)) (onB.dec (fun lc3 => ?_) fun lc3 => ?_))))))
  · exact done (by unfold rec1; rw [if_neg (by omega), if_neg (by omega), if_pos (by omega)])
  generalize hn : num4 (B.drop L1.pos) = N at *
  obtain ⟨a3, g1, g2⟩ := rb.sl rfl (sz := 1) (i := L1.pos + 8) (j := L1.pos + 8 + N) (lo := some ((L1.pos + 8 : Nat) : Int)) (hi := some ((L1.pos + 8 + N : Nat) : Int)) (by omega) (by omega) rfl rfl
  obtain ⟨a4, j1, j2⟩ := rb0.sl rfl (sz := 1) (i := L1.pos + 4) (j := B.length) (lo := some ((L1.pos + 4 : Nat) : Int)) (hi := none) (by omega) (Nat.le_refl _) rfl rfl
  rw [List.take_of_length_le (by simp)] at j2
  rw [show L1.pos + 8 + N - (L1.pos + 8) = N by omega] at g2
  have d8 : B.drop (L1.pos + 8) = (B.drop L1.pos).drop 8 := by rw [List.drop_drop]
  have d4 : B.drop (L1.pos + 4) = (B.drop L1.pos).drop 4 := by rw [List.drop_drop]
  rw [d8] at g2
  rw [d4] at j2
  generalize hS : ((B.drop L1.pos).drop 8).take N = S at *
  have hSl : S.length = N := by rw [← hS, List.length_take, List.length_drop, bl]; omega
  have n4 := num4_lt (l := (B.drop L1.pos).drop 4) fun x hx => hby x (List.mem_of_mem_drop hx)
  refine onO.mk rfl (onO.mk w4 (onL.i1 (onO.mk (a := ((L1.pos + 8 : Nat) : Int)) (add64 (by omega) (by omega)) ?_)))
  refine onO.mk rfl (onO.mk w4 (onL.i1 (onO.mk (a := ((L1.pos + 8 : Nat) : Int)) (add64 (by omega) (by omega)) (onO.mk (a := ((L1.pos + 8 + N : Nat) : Int)) (add64 (by omega) (by omega)) (onO.mk g1 ?_)))))
  refine onO.mk rfl (onO.mk w4 (onL.i1 (onO.mk (a := ((L1.pos + 4 : Nat) : Int)) (add64 (by omega) (by omega)) (onO.mk j1 (c49 j2 (by simp; omega) (onRet.i (onO.mk (wr32h n4) ?_)))))))
  refine c50 (s := 0) (g2.mono s.fle) (by omega) (by omega) (onRet.u32 (onB.ndec (fun lc4 => ?_) fun lc4 => ?_))
  · refine done ?_
    unfold rec1
    rw [if_neg (by omega), hn, if_neg (by omega), if_neg (by omega), hS, if_neg (by omega)]
  have hr : rec1 (B.drop L1.pos) = some S := by
    unfold rec1
    rw [if_neg (by omega), hn, if_neg (by omega), if_neg (by omega), hS, if_pos (by omega)]
  obtain ⟨x2, x3, x4, x5⟩ := strAt_row (g2.mono s.fle)
  have hS8 : ∀ x ∈ S, x < 256 := fun x hx => byte_lt g2 hx
  refine onO.mk rfl (onO.mk w1 (onL.r1 m.row.sc (onO.mk x5 fun _ => ?_)))
  refine (s.own str_flat m.row).app1 (x := S) (sz := 1) rfl str_flat ⟨rfl, by omega, hS8⟩ (by omega) fun a8 h4 o4 => onO.mk rfl ?_
  obtain ⟨q11, s4, p4⟩ := s.back str_flat o4
  have e10 : updQ Q1 11 q11 10 = Hp.one q (lgC dp r1 L1) lo := by rw [updQ_ne (by omega)]; exact m.box
  obtain ⟨v0, v1, v2, v3, v4, v5⟩ := lg_word s4 e10
  refine onO.mk rfl (onO.mk v2 (onL.i1 ⟨onO.mk w2 v2, ?_⟩))
  refine onO.mk (a := ((L1.size + N : Nat) : Int)) (add64 (by omega) (by omega)) (onO.mk (a := ((L1.size + N + 16 : Nat) : Int)) (add64 (by omega) (by omega)) ?_)
  refine onO.mk rfl (onO.mk v4 (onL.i1 ⟨onO.mk w4 v4, ?_⟩))
  refine onO.mk (a := ((L1.pos + 8 : Nat) : Int)) (add64 (by omega) (by omega)) (onO.mk (a := ((L1.pos + 8 + N : Nat) : Int)) (add64 (by omega) (by omega)) ?_)
  refine onO.mk rfl (lg_put s4 e10 m.qlo (i := 1) p4.sc rfl (by omega) fun h5 s5 => ?_)
  refine onO.mk rfl (lg_put (L := L1) (r := a8) (dp := dp) s5 updQ_same m.qlo (i := 2) rfl rfl (by omega) fun h6 s6 => ?_)
  refine onO.mk rfl (lg_put (L := { L1 with size := L1.size + N + 16 }) (r := a8) (dp := dp) s6 updQ_same m.qlo (i := 4) rfl rfl (by omega) fun h7 s7 => ?_)
  refine ⟨B.length - (L1.pos + 8 + N), by show B.length - _ < B.length - L1.pos; omega, a8, _, { L1 with l := L1.l ++ [S], size := L1.size + S.length + 16, pos := L1.pos + 8 + S.length }, by rw [hSl], s7, ?_, fun j j1 j2 => by rw [updQ_ne j1, updQ_ne j1, updQ_ne j1, updQ_ne j2]; exact u j j1 j2, by show L1.pos + 8 + S.length ≤ _; omega, by show L1.size + S.length + 16 ≤ 2 * (L1.pos + 8 + S.length); omega, by show (L1.l ++ [S]).length ≤ L1.pos + 8 + S.length; simp; omega, by rw [scanLg_some hr]; exact he⟩
  refine m.chg ?_ (by rw [updQ_ne (by omega), updQ_ne (by omega), updQ_ne (by omega), updQ_same]; exact p4) (fun j j1 j2 => by rw [updQ_ne j1, updQ_ne j1, updQ_ne j1, updQ_ne j2]) m.file
  rw [updQ_same, hSl]; rfl
theorem c44 {e : Int} (s : Sep lo F Q h) (m : LgM lo F Q q dp r a D L) (k : ∀ h', Sep lo F (updQ Q 10 (Hp.one q (lgC dp r { L with dead := !decide (e = 0) }) lo)) h' → LgM lo F (updQ Q 10 (Hp.one q (lgC dp r { L with dead := !decide (e = 0) }) lo)) q dp r a D { L with dead := !decide (e = 0) } → Post (.i .i64 e) h') :
    wpC Try.prog 44 [.p q 0, .i .i64 e] Post h := by
  refine call_sound (args := [.vv (.p q 0), .ii .i64 e]) (cuts := []) ⟨rfl, trivial, trivial⟩ ?_
  rw [vc44]
  exact onO.mk rfl (lg_put s m.box m.qlo (i := 5) rfl rfl (by omega) fun h5 s5 => k h5 s5 (m.chg updQ_same (by rw [updQ_ne (by omega)]; exact m.row) (fun j j1 _ => updQ_ne j1) m.file))
/-- Sync of a log -/
def syncL (D : Dk) (L : Lg) : Int × Dk × Lg := if L.dead = true then (10, D, L) else ((syncR D L.file).1, (syncR D L.file).2, { L with dead := !decide ((syncR D L.file).1 = 0) })
theorem c29 (s : Sep lo F Q h) (m : LgM lo F Q q dp r a D L) (hb : Few D 31000000)
    (k : ∀ a' Q' h', Sep lo F Q' h' → LgM lo F Q' q dp r a' (syncL D L).2.1 (syncL D L).2.2 → Upd 0 12 Q Q' → Post (.i .i64 (syncL D L).1) h') : wpC Try.prog 29 [.p q 0] Post h := by
  refine call_sound (args := [.vv (.p q 0)]) (cuts := []) ⟨rfl, trivial⟩ ?_
  rw [vc29]
  unfold syncL at k
  obtain ⟨w0, w1, w2, w3, w4, w5⟩ := lg_word s m.box
  refine onO.mk rfl (onO.mk w5 (onL.b1 (onB.mk (fun e => by rw [if_pos e] at k; exact k a Q h s m Upd.refl) fun e => ?_)))
  rw [if_neg (by rw [e]; simp)] at k
  refine onO.mk rfl (onO.mk w0 (onL.r1 rfl (onO.mk rfl (onO.mk w3 (onL.i1 ?_)))))
  refine c39 s m.dk hb fun a1 Q1 h1 s1 d1 u1 => onRet.i (c44 s1 (m.disk d1 u1) fun h2 s2 m2 => onRet.i (k a1 _ h2 s2 m2 (u1.more.put (i := 10) (by omega))))
theorem c16 (s : Sep lo F Q h) (m : LgM lo F Q q dp r a D L) (hn : L.l.length < 31000000) (k : ∀ r' h', Kn.str.Own h h' r' L.l → Post r' h') : wpC Try.prog 16 [.p q 0] Post h := by
  refine call_sound (args := [.vv (.p q 0)]) (cuts := []) ⟨rfl, trivial⟩ ?_
  rw [vc16]
  obtain ⟨w0, w1, w2, w3, w4, w5⟩ := lg_word s m.box
  exact onO.mk rfl (onO.mk w1 (onL.r1 m.row.sc (c25 (s.row m.row) hn fun r2 h2 o2 => onRet.r o2.sc (k _ _ o2))))
/-- Append to a log -/
def appL (D : Dk) (L : Lg) (x : List Nat) : Int × Dk × Lg :=
  if L.dead = true then (10, D, L) else if 4096 < x.length then (1, D, L) else if 2097152 < L.size + x.length + 16 then (5, D, L) else
  if (writeR D L.file L.pos (lay1 x)).1 = 0 then (0, (writeR D L.file L.pos (lay1 x)).2, ⟨L.l ++ [x], L.size + x.length + 16, L.file, L.pos + 8 + x.length, false⟩)
  else ((writeR D L.file L.pos (lay1 x)).1, (writeR D L.file L.pos (lay1 x)).2, { L with dead := true })
theorem c28 {x : List Nat} (s : Sep lo F Q h) (m : LgM lo F Q q dp r a D L) (hb : Few D 31000000) (hx : Bytes8 x) (hxl : x.length ≤ 140737488351232) (hs : L.size ≤ 2097152) (hp : L.pos ≤ 4194304) (hl : L.l.length < 31000000)
    (k : ∀ F' r' a' Q' h', F.le F' → Sep lo F' Q' h' → LgM lo F' Q' q dp r' a' (appL D L x).2.1 (appL D L x).2.2 → Upd 0 12 Q Q' → Post (.i .i64 (appL D L x).1) h') : wpC Try.prog 28 [.p q 0, .s x] Post h := by
  refine call_sound (args := [.vv (.p q 0), .ss x]) (cuts := []) ⟨rfl, trivial, trivial⟩ ?_
  rw [vc28]
  unfold appL at k
  obtain ⟨w0, w1, w2, w3, w4, w5⟩ := lg_word s m.box
  refine onO.mk rfl (onO.mk w5 (onL.b1 (onB.mk (fun e => by rw [if_pos e] at k; exact k F r a Q h (Hp.le_refl _) s m Upd.refl) fun e => ?_)))
  rw [if_neg (by rw [e]; simp)] at k
  refine onB.dec (fun c => by rw [if_pos (by omega)] at k; exact k F r a Q h (Hp.le_refl _) s m Upd.refl) fun c => ?_
  rw [if_neg (by omega)] at k
  refine onO.mk (add64 (by omega) (by omega)) (onO.mk rfl (onO.mk w2 (onL.i1 (onO.mk (sub64 (by omega) (by omega)) ?_))))
  refine onB.dec (fun lc2 => by rw [if_pos (by omega)] at k; exact k F r a Q h (Hp.le_refl _) s m Upd.refl) fun lc2 => fun p0 hp0 hlo0 => ?_
  rw [if_neg (by omega)] at k
  have s1 := s.grow (Hp.le_put (cs := [.s x]) hp0) rfl
  have ob : Kn.str.Own h (h.put p0 [.s x]) (.sl p0 0 1 1 true 1) [x] :=
    ⟨h, [[.s x]], Hp.le_refl _, rfl, Fresh.put (Hp.le_refl _) rfl hp0 hlo0 (css := [[.s x]]) (sz := 1) (len := 1) true (fun c hc => by simp at hc; subst hc; rfl) rfl (cs := [.s x]) rfl, .cons ⟨rfl, hxl, hx⟩ .nil⟩
  have row1 := ob.row
  refine c43 row1 (fun y hy => by simp at hy; subst hy; omega) (by rw [layR_one, lay1_len]; omega) (by simp) fun a1 h1 o1 => onRet.r o1.sc ?_
  rw [layR_one] at o1
  have s2 := s1.frz o1.le o1.lo
  have f2 := s1.fgrow o1.le
  have m2 := m.fmono f2
  obtain ⟨v0, v1, v2, v3, v4, v5⟩ := lg_word s2 m2.box
  refine onO.mk rfl (onO.mk v0 (onL.r1 rfl (onO.mk rfl (onO.mk v3 (onL.i1 (onO.mk rfl (onO.mk v4 (onL.i1 ?_))))))))
  refine c45 s2 m2.dk Vw.frz (o1.frozen byte_flat) hb (by omega) (by omega) fun F3 a3 Q3 h3 f3 s3 d3 u3 => onRet.i ?_
  refine c44 s3 (m2.disk d3 u3) fun h4 s4 m4 => onRet.i ?_
  have f23 := Hp.le_trans f2 f3
  by_cases e0 : (writeR D L.file L.pos (lay1 x)).1 = 0
  · rw [if_pos e0] at k
    rw [e0] at s4 m4 ⊢
    refine onB.neg rfl ?_
    obtain ⟨y0, y1, y2, y3, y4, y5⟩ := lg_word s4 m4.box
    refine onO.mk rfl (onO.mk y1 (onL.r1 m4.row.sc fun _ => ?_))
    refine (s4.own str_flat m4.row).app1 (x := x) (sz := 1) rfl str_flat ⟨rfl, hxl, hx⟩ (by show L.l.length + 1 < _; omega) fun a6 h5 o5 => onO.mk rfl ?_
    obtain ⟨q11, s5, p5⟩ := s4.back str_flat o5
    have e10 : updQ (updQ Q3 10 (Hp.one q (lgC dp r { L with dead := !decide ((0 : Int) = 0) }) lo)) 11 q11 10 = Hp.one q (lgC dp r { L with dead := !decide ((0 : Int) = 0) }) lo := by rw [updQ_ne (by omega)]; exact m4.box
    obtain ⟨z0, z1, z2, z3, z4, z5⟩ := lg_word s5 e10
    refine onO.mk rfl (onO.mk z2 (onL.i1 ⟨onO.mk y2 z2, ?_⟩))
    refine onO.mk (a := ((L.size + x.length : Nat) : Int)) (add64 (by show -9223372036854775808 ≤ ((L.size : Nat) : Int) + _; omega) (by show ((L.size : Nat) : Int) + _ < _; omega)) (onO.mk (a := ((L.size + x.length + 16 : Nat) : Int)) (add64 (by omega) (by omega)) ?_)
    refine onO.mk rfl (onO.mk z4 (onL.i1 ⟨onO.mk y4 z4, ?_⟩))
    have la : lenV a1 = some (8 + x.length) := by have := o1.row.len; rw [lay1_len] at this; exact this
    refine onO.mk la (onO.mk (a := ((L.pos + 8 + x.length : Nat) : Int)) ?_ ?_)
    · have : ((L.pos + 8 + x.length : Nat) : Int) = (L.pos : Int) + ((8 + x.length : Nat) : Int) := by omega
      rw [this]
      exact add64 (by show -9223372036854775808 ≤ ((L.pos : Nat) : Int) + _; omega) (by show ((L.pos : Nat) : Int) + _ < _; omega)
    refine onO.mk rfl (lg_put s5 e10 m.qlo (i := 1) p5.sc rfl (by omega) fun h6 s6 => ?_)
    refine onO.mk rfl (lg_put (L := { L with dead := false }) (r := a6) (dp := dp) s6 updQ_same m.qlo (i := 2) rfl rfl (by omega) fun h7 s7 => ?_)
    refine onO.mk rfl (lg_put (L := { L with dead := false, size := L.size + x.length + 16 }) (r := a6) (dp := dp) s7 updQ_same m.qlo (i := 4) rfl rfl (by omega) fun h8 s8 => ?_)
    refine k F3 a6 a3 _ h8 f23 s8 (m4.chg (by rw [updQ_same]; rfl) (by rw [updQ_ne (by omega), updQ_ne (by omega), updQ_ne (by omega), updQ_same]; exact p5) (fun j j1 j2 => by rw [updQ_ne j1, updQ_ne j1, updQ_ne j1, updQ_ne j2]) m.file) ?_
    exact ((((u3.more.put (i := 10) (by omega)).put (i := 11) (by omega)).put (i := 10) (by omega)).put (i := 10) (by omega)).put (i := 10) (by omega)
  · rw [if_neg e0] at k
    refine onB.pos (by simp [e0]) ?_
    have ed : (!decide ((writeR D L.file L.pos (lay1 x)).1 = 0)) = true := by simp [e0]
    rw [ed] at s4 m4
    exact k F3 r a3 _ h4 f23 s4 m4 (u3.more.put (i := 10) (by omega))
end
/-! ### plain: opened -/
def mkOf (x : List Nat) : Nat := x.getD (x.length - 1) 0 % 2
theorem mkOf_lt {x : List Nat} : mkOf x < 2 := Nat.mod_lt _ (by omega)
def fileOf (D : Dk) : Nat := mkOf (fileD D 2).seen
def bytesOf (D : Dk) : List Nat := (fileD D (fileOf D : Nat)).seen
def logOf (D : Dk) : Lg := scanLg ⟨[], 0, fileOf D, 0, false⟩ (bytesOf D)
def cutOf (D : Dk) : Int × Dk := if (logOf D).pos < (bytesOf D).length then cutR D (fileOf D : Nat) ((logOf D).pos : Nat) else (0, D)
def sync1 (D : Dk) : Int × Dk := if (cutOf D).1 = 0 then syncR (cutOf D).2 (fileOf D : Nat) else cutOf D
def sync2 (D : Dk) : Int × Dk := if (sync1 D).1 = 0 then syncR (sync1 D).2 2 else sync1 D
def loadR (D : Dk) : Int × Dk × Lg := if askR D 2 = 0 then ((sync2 D).1, (sync2 D).2, logOf D) else (askR D 2, D, ⟨[], 0, 0, 0, false⟩)
theorem askR_any {D : Dk} {m n : Nat} (hm : m < 3) (hn : n < 3) (h : askR D (m : Nat) = 0) : askR D (n : Nat) = 0 := by
  obtain ⟨h1, _⟩ := askR_ok h
  unfold askR
  rw [h1]
  simp only [Bool.false_eq_true, if_false]
  rw [if_neg (by omega), if_neg (by omega)]
theorem and1l {y : Nat} (h : y < 256) : intO .and .u8 (y : Int) 1 = some ((y % 2 : Nat) : Int) := by
  unfold intO
  have e : intA .and .u8 (y : Int) 1 = some (.i .u8 (wrapA .u8 (.ofNat (Nat.land y 1)))) := by
    show (cond (Nat.blt y 256 && Nat.blt 1 256) _ none : Option AV) = _
    rw [blt_of h]; rfl
  rw [e]
  have h2 : Nat.land y 1 = y % 2 := Nat.and_two_pow_sub_one_eq_mod y 1
  rw [h2]
  show some (wrapA .u8 ((y % 2 : Nat) : Int)) = _
  rw [wrap_mod rfl]
  congr 1
  show ((y % 2 : Nat) : Int) % 256 = _
  omega
theorem cutOf_few {D : Dk} {N : Nat} (w : Few D N) : Few (cutOf D).2 (N + 1) := by
  unfold cutOf
  split
  · exact cutR_few w
  · exact w.mono (by omega)
theorem sync1_few {D : Dk} {N : Nat} (w : Few D N) : Few (sync1 D).2 (N + 1) := by
  unfold sync1
  split
  · exact syncR_few (cutOf_few w)
  · exact cutOf_few w
theorem sync2_few {D : Dk} {N : Nat} (w : Few D N) : Few (sync2 D).2 (N + 1) := by
  unfold sync2
  split
  · exact syncR_few (sync1_few w)
  · exact sync1_few w
section
variable {lo q dp : Nat} {F F' h h' : Hp} {Q Q' : Nat → Hp} {a a' : Nat → AV} {r r' b : AV} {D D' : Dk} {L L' : Lg} {Post : AV → Hp → Prop} {n : Int}
theorem c24 (s : Sep lo F Q h) (m : LgM lo F Q q dp r a D ⟨[], 0, 0, 0, false⟩) (hb : Few D 30000000)
    (k : ∀ F' r' a' Q' h', F.le F' → Sep lo F' Q' h' → LgM lo F' Q' q dp r' a' (loadR D).2.1 (loadR D).2.2 → Upd 0 12 Q Q' → Post (.i .i64 (loadR D).1) h') : wpC Try.prog 24 [.p q 0] Post h := by
  refine call_sound (args := [.vv (.p q 0)]) (cuts := [12999999, 24000004]) ⟨rfl, trivial⟩ ?_
  rw [vc24]
  unfold loadR at k
  refine c36 s m fun r1 h1 o1 => onTup.ri o1.sc ?_
  unfold readAll at o1 ⊢
  by_cases e0 : ¬ askR D 2 = 0
  · rw [if_neg e0] at k o1 ⊢
    exact onB.pos (by simp [e0]) (k F r a Q h1 (Hp.le_refl _) (s.grow o1.le o1.lo) m Upd.refl)
  have e0 := Decidable.not_not.1 e0
  rw [if_pos e0] at k o1 ⊢
  have o1 : Kn.byte.Own h h1 r1 (fileD D 2).seen := o1
  have s1 := s.grow o1.le o1.lo
  have hseen := fileD_len (E := D) (n := 2) m.dk.ok
  refine onB.neg rfl (onO.mk o1.row.len ⟨fun h' => ∃ Q', Sep lo F Q' h' ∧ LgM lo F Q' q dp r a D ⟨[], 0, fileOf D, 0, false⟩ ∧ ∀ j, j ≠ 10 → Q' j = Q j, onB.dec (fun e => ?_) (fun e => ?_), ?_⟩)
  · obtain ⟨y, hy⟩ := get_lt (l := (fileD D 2).seen) (k := (fileD D 2).seen.length - 1) (by omega)
    have hy8 := byte_lt o1.row (List.mem_of_getElem? hy)
    have hm : fileOf D = y % 2 := by
      show (fileD D 2).seen.getD ((fileD D 2).seen.length - 1) 0 % 2 = _
      rw [List.getD_eq_getElem?_getD, hy]; rfl
    refine onO.mk o1.row.len (onO.mk (a := (((fileD D 2).seen.length - 1 : Nat) : Int)) ?_ ?_)
    · rw [show (((fileD D 2).seen.length - 1 : Nat) : Int) = ((fileD D 2).seen.length : Int) - 1 by omega]
      exact sub64 (by omega) (by omega)
    refine byte0 o1.row hy (onO.mk (and1l hy8) (onO.mk (wr64 (by omega) (by omega)) (onO.mk rfl (lg_put s1 m.box m.qlo (i := 3) rfl rfl (by omega) fun h2 s2 => ⟨_, s2, ?_, fun j hj => updQ_ne hj⟩))))
    refine m.chg ?_ (by rw [updQ_ne (by omega)]; exact m.row) (fun j j1 j2 => updQ_ne j1) mkOf_lt
    rw [updQ_same, hm]; rfl
  · have hm : fileOf D = 0 := by
      have : (fileD D 2).seen = [] := List.length_eq_zero_iff.1 (by omega)
      unfold fileOf
      rw [this]; rfl
    rw [hm]
    exact ⟨Q, s1, m, fun _ _ => rfl⟩
  clear s1 o1 s
  rintro h2 ⟨Q2, s2, m2, u2⟩
  obtain ⟨w0, w1, w2, w3, w4, w5⟩ := lg_word s2 m2.box
  have hlt : fileOf D < 2 := mkOf_lt
  have ef : askR D (fileOf D : Nat) = 0 := askR_any (m := 2) (by omega) (by omega) e0
  refine onO.mk rfl (onO.mk w3 (onL.i1 (c36 s2 m2 fun r3 h3 o3 => onTup.ri o3.sc ?_)))
  unfold readAll at o3 ⊢
  rw [if_pos ef] at o3 ⊢
  have o3 : Kn.byte.Own h2 h3 r3 (fileD D (fileOf D : Nat)).seen := o3
  have s3 := s2.frz o3.le o3.lo
  have f3 := s2.fgrow o3.le
  have rb := o3.frozen byte_flat (F := F)
  have hbl : (bytesOf D).length ≤ 4194304 := fileD_len m.dk.ok
  refine onB.neg rfl (c37 (B := bytesOf D) s3 (m2.fmono f3) rb hbl (Nat.zero_le _) (Nat.le_refl _) (Nat.le_refl _) fun r4 Q4 h4 s4 m4 u4 => onTup.z ?_)
  obtain ⟨v0, v1, v2, v3, v4, v5⟩ := lg_word s4 m4.box
  have m4 : LgM lo (moreH h2 h3 F) Q4 q dp r4 a D (logOf D) := m4
  have hpos : (logOf D).pos ≤ (bytesOf D).length := by
    show 0 + (scanL ((bytesOf D).drop 0)).2 ≤ _
    have := (scan_len ((bytesOf D).drop 0)).1
    simp at this ⊢; omega
  have u04 : Upd 0 12 Q Q4 := fun j hj => by rw [u4 j (by omega) (by omega), u2 j (by omega)]
  refine onO.mk rfl (onO.mk v4 (onL.i1 (onO.mk (rb.mono s4.fle).len ⟨fun n h' => ∃ a' Q', Sep lo (moreH h2 h3 F) Q' h' ∧ LgM lo (moreH h2 h3 F) Q' q dp r4 a' (cutOf D).2 (logOf D) ∧ Upd 0 12 Q Q' ∧ n = (cutOf D).1, onB.mk (fun e => ?_) (fun e => ?_), ?_⟩)))
  · have e : (logOf D).pos < (bytesOf D).length := by
      have := of_decide_eq_true e
      exact Int.ofNat_lt.1 this
    have hc : cutOf D = cutR D (fileOf D : Nat) ((logOf D).pos : Nat) := if_pos e
    refine onO.mk rfl (onO.mk v0 (onL.r1 rfl (onO.mk rfl (onO.mk v3 (onL.i1 (onO.mk rfl (onO.mk v4 (onL.i1 ?_))))))))
    refine c38 s4 m4.dk (hb.mono (by omega)) fun a5 Q5 h5 s5 d5 u5 => onRet.i ⟨a5, Q5, s5, ?_, u04.trans u5.more, ?_⟩
    · rw [hc]; exact m4.disk d5 u5
    · rw [hc]; rfl
  · have e : ¬ (logOf D).pos < (bytesOf D).length := fun e2 => (of_decide_eq_false e) (Int.ofNat_lt.2 e2)
    have hc : cutOf D = (0, D) := if_neg e
    rw [hc]
    exact ⟨a, Q4, s4, m4, u04, rfl⟩
  rintro h6 _ ⟨a6, Q6, s6, m6, u6, rfl⟩
  obtain ⟨x0, x1, x2, x3, x4, x5⟩ := lg_word s6 m6.box
  refine onO.mk rfl (onO.mk x3 (onL.i1 ⟨fun m n13 n14 h' => ∃ (j : Nat) (a' : Nat → AV) (Q' : Nat → Hp) (D' : Dk), n14 = j ∧ j ≤ 2 ∧ m = 2 - j ∧ Sep lo (moreH h2 h3 F) Q' h' ∧ LgM lo (moreH h2 h3 F) Q' q dp r4 a' D' (logOf D) ∧ Upd 0 12 Q Q' ∧ (n13, D') = (match j with | 0 => cutOf D | 1 => sync1 D | _ => sync2 D),
    ⟨2, 0, a6, Q6, (cutOf D).2, rfl, by omega, rfl, s6, m6, u6, rfl⟩, ?_⟩))
  rintro m h7 n13 _ ⟨j, a7, Q7, D7, rfl, hj, rfl, s7, m7, u7, he⟩
  obtain ⟨y0, y1, y2, y3, y4, y5⟩ := lg_word s7 m7.box
  refine onB.dec (fun e => onO.mk (natLt_nat (n := j) (m := 2) (by omega)) ⟨⟨trivial, fun e0 => ?_⟩, fun e0 => ?_⟩) fun e => ?_
  · subst e0
    have hn : n13 = (cutOf D).1 := congrArg Prod.fst he
    have hD : D7 = (cutOf D).2 := congrArg Prod.snd he
    subst hD
    refine onB.dec (fun c => ?_) fun c => ?_
    · have hs : sync1 D = syncR (cutOf D).2 (fileOf D : Nat) := if_pos (by rw [← hn]; exact c)
      refine onO.mk rfl (onO.mk y0 (onL.r1 rfl (c39 s7 m7.dk ((cutOf_few hb).mono (by omega)) fun a8 Q8 h8 s8 d8 u8 => onRet.i (onO.mk rfl ⟨1, by show (1 : Nat) < 2 - 0; omega, 1, a8, Q8, _, rfl, by omega, rfl, s8, m7.disk d8 u8, u7.trans u8.more, ?_⟩))))
      show _ = sync1 D
      rw [hs]; rfl
    · have hs : sync1 D = cutOf D := if_neg (by rw [← hn]; exact c)
      refine onO.mk rfl ⟨1, by show (1 : Nat) < 2 - 0; omega, 1, a7, Q7, _, rfl, by omega, rfl, s7, m7, u7, ?_⟩
      show _ = sync1 D
      rw [hs]; exact he
  · subst e0
    have hn : n13 = (sync1 D).1 := congrArg Prod.fst he
    have hD : D7 = (sync1 D).2 := congrArg Prod.snd he
    subst hD
    refine onB.dec (fun c => ?_) fun c => ?_
    · have hs : sync2 D = syncR (sync1 D).2 2 := if_pos (by rw [← hn]; exact c)
      refine onO.mk rfl (onO.mk y0 (onL.r1 rfl (c39 s7 m7.dk ((sync1_few hb).mono (by omega)) fun a8 Q8 h8 s8 d8 u8 => onRet.i (onO.mk rfl ⟨0, by show (0 : Nat) < 2 - 1; omega, 2, a8, Q8, _, rfl, by omega, rfl, s8, m7.disk d8 u8, u7.trans u8.more, ?_⟩))))
      show _ = sync2 D
      rw [hs]
    · have hs : sync2 D = sync1 D := if_neg (by rw [← hn]; exact c)
      refine onO.mk rfl ⟨0, by show (0 : Nat) < 2 - 1; omega, 2, a7, Q7, _, rfl, by omega, rfl, s7, m7, u7, ?_⟩
      show _ = sync2 D
      rw [hs]; exact he
  · have hj2 : j = 2 := by omega
    subst hj2
    have hn : n13 = (sync2 D).1 := congrArg Prod.fst he
    have hD : D7 = (sync2 D).2 := congrArg Prod.snd he
    subst hD; subst hn
    exact k _ r4 a7 Q7 h7 f3 s7 m7 u7
theorem c15 (s : Sep lo F Q h) (d : DkA lo F Q 0 dp a D) (hb : Few D 30000000)
    (k1 : (loadR D).1 ≠ 0 → ∀ F' a' Q' h', F.le F' → Sep lo F' Q' h' → DkA lo F' Q' 0 dp a' (loadR D).2.1 → Upd 0 12 Q Q' → Post (.tup [.np, .i .i64 (loadR D).1]) h')
    (k2 : (loadR D).1 = 0 → ∀ q F' r' a' Q' h', F.le F' → Sep lo F' Q' h' → LgM lo F' Q' q dp r' a' (loadR D).2.1 (loadR D).2.2 → Upd 0 12 Q Q' → Post (.tup [.p q 0, .i .i64 0]) h') : wpC Try.prog 15 [.p dp 0] Post h := by
  refine call_sound (args := [.vv (.p dp 0)]) (cuts := []) ⟨rfl, trivial⟩ ?_
  rw [vc15]
  refine onO.mk rfl (onB.neg rfl fun q hq hlo => ?_)
  have s1 := (s.drop 11).alloc 10 hq [.p dp 0, .ns, .i .i64 0, .i .i64 0, .i .i64 0, .b false]
  have u1 : Upd 0 12 Q (updQ (updQ Q 11 (Hp.none lo)) 10 (Hp.one q [.p dp 0, .ns, .i .i64 0, .i .i64 0, .i .i64 0, .b false] lo)) := fun j hj => by rw [updQ_ne (by omega), updQ_ne (by omega)]
  refine c24 s1 ⟨updQ_same, by rw [← s.hlo]; exact hlo, by rw [updQ_ne (by omega), updQ_same]; exact PK.nil _ _, d.same fun j _ _ => by rw [updQ_ne (by omega), updQ_ne (by omega)], by show (0 : Nat) < 2; omega⟩ hb fun F2 r2 a2 Q2 h2 f2 s2 m2 u2 => onRet.i (onB.ndec (fun e => ?_) fun e => ?_)
  · exact k1 e F2 a2 Q2 h2 f2 s2 m2.dk (u1.trans u2)
  · exact k2 e q F2 r2 a2 Q2 h2 f2 s2 m2 (u1.trans u2)
theorem c14 {x : Int} (k : Post (.i .i64 x) h) : wpC Try.prog 14 [.i .i64 x] Post h := by
  refine call_sound (args := [.ii .i64 x]) (cuts := []) ⟨trivial, trivial⟩ ?_
  rw [vc14]; exact k
theorem c4 (s : Sep lo F Q h) (k : ∀ dp a Q' h', Sep lo F Q' h' → DkA lo F Q' 0 dp a (dkOf []) → Upd 0 10 Q Q' → Post (.p dp 0) h') : wpC Try.prog 4 [] Post h := by
  refine call_sound (args := []) (cuts := []) trivial ?_
  rw [vc4]
  exact c13 (B := 0) s Vw.frz ns_rows (by simp) (fun e => by cases e) fun _ p a Q1 h1 s1 d1 u1 => onTup.ri rfl (c14 (onRet.i (onB.neg rfl (k p a Q1 h1 s1 d1 u1))))
def Aside (Q Q' : Nat → Hp) : Prop := ∀ j, 10 ≤ j → j < 20 ∨ 23 ≤ j → Q' j = Q j
theorem c9 {ps : List Int} (s : Sep lo F Q h) (d : DkA lo F Q 0 dp a D) (row : Kn.int.Row F b ps) (hb : Few D 31000000)
    (k : ∀ dp' a' Q' h', Sep lo F Q' h' → DkA lo F Q' 0 dp' a' (dkOf (crashL D.f ps)) → Aside Q Q' → Post (.p dp' 0) h') : wpC Try.prog 9 [.p dp 0, b] Post h := by
  refine call_sound (args := [.vv (.p dp 0), .vv b]) (cuts := []) ⟨rfl, row.sc, trivial⟩ ?_
  rw [vc9]
  refine c21 (C := 20) s d (by omega) row hb fun r3 Q3 h3 s3 d3 cl3 u3 => onRet.r cl3.sc ?_
  have okc := newOk_crash (E := D) (ps := ps) d.len d.ok
  refine c13 (B := 0) s3 (V := Q3 21) (Vw.part (by omega)) (cl3.view (Hp.le_refl _)) (by rw [crashL_len, d.len]; omega) (fun e => by rw [okc] at e; cases e) fun _ p5 a5 Q5 h5 s5 d5 u5 => onTup.ri rfl (c14 (onRet.i (onB.neg rfl (k p5 a5 Q5 h5 s5 d5 fun j h1 h2 => ?_))))
  rw [u5 j (by omega), u3 j (by omega) (by omega)]
end
section
variable {lo q dp : Nat} {F F' g h h' : Hp} {Q Q' : Nat → Hp} {a a' : Nat → AV} {r r' b c b2 b3 : AV} {L L' : Lg} {E : Dk} {Post : AV → Hp → Prop} {n : Int} {l m : List (List Nat)} {x : List Nat}
theorem sizeL_le {k : Nat} : ∀ {l : List (List Nat)}, (∀ x ∈ l, x.length ≤ k) → sizeL l ≤ l.length * (k + 16)
  | [], _ => Nat.zero_le _
  | x :: l, h => by
    have h1 := h x (by simp)
    have h2 := sizeL_le (l := l) fun y hy => h y (by simp [hy])
    rw [sizeL_cons, List.length_cons, Nat.succ_mul]; omega
end
/-! ### files -/
theorem fileD_set {D : Dk} (hl : D.f.length = 3) {n m : Nat} (hm : m < 3) {g : DFile} : fileD { D with f := D.f.set n g } (m : Nat) = if m = n then g else fileD D (m : Nat) := by
  unfold fileD
  rw [Int.toNat_natCast]
  show (D.f.set n g)[m]?.getD _ = _
  by_cases e : m = n
  · subst e
    rw [if_pos rfl, List.getElem?_set_self (by omega)]; rfl
  · rw [if_neg e, List.getElem?_set_ne (Ne.symm e)]
theorem call_eq {D : Dk} : (callD D).f = D.f ∧ (callD D).armed = D.armed ∧ ((callD D).off = D.off ∨ D.armed = true) := by
  unfold callD
  split
  · rename_i h
    exact ⟨rfl, rfl, .inr h.1⟩
  · exact ⟨rfl, rfl, .inl rfl⟩
theorem ask_off {D : Dk} {n : Nat} (hn : n < 3) : askR D (n : Nat) = if D.off = true then 10 else 0 := by
  unfold askR
  split
  · rfl
  · rw [if_neg (by omega), if_neg (by omega)]
/-- a call that counts: done, or the power went -/
theorem call_cases {D : Dk} {n : Nat} (hn : n < 3) (ho : D.off = false) : (askR (callD D) (n : Nat) = 0 ∧ (callD D).off = false) ∨ (askR (callD D) (n : Nat) = 10 ∧ D.armed = true) := by
  obtain ⟨_, _, h3⟩ := call_eq (D := D)
  rw [ask_off hn]
  cases hc : (callD D).off with
  | true =>
    rcases h3 with h3 | h3
    · rw [hc, ho] at h3; cases h3
    · exact .inr ⟨rfl, h3⟩
  | false => exact .inl ⟨rfl, rfl⟩
/-- the outcomes of a file -/
def outs (f : DFile) (x : List Nat) : Prop := ∃ p ps, p ≤ f.ops.length ∧ x = (tornF f p ps).1
theorem crash_outs {f : DFile} {ps : List Int} : outs f (crashF f ps).1 := ⟨_, _, by have := nextP_lt (ps := ps) (n := f.ops.length + 1) (by omega); omega, rfl⟩
theorem outs_nil {k x : List Nat} (h : outs ⟨k, []⟩ x) : x = k := by
  obtain ⟨p, ps, h1, h2⟩ := h
  rw [h2]
  simp [tornF]
theorem outs_seen {f : DFile} : outs f f.seen := ⟨f.ops.length, [], Nat.le_refl _, by
  unfold tornF
  rw [List.getElem?_eq_none (Nat.le_refl _), List.take_length]; rfl⟩
theorem torn_none {f : DFile} {p : Nat} {ps : List Int} (h : f.ops[p]? = none) : (tornF f p ps).1 = (f.ops.take p).foldl doF f.kept := by unfold tornF; rw [h]
theorem torn_cut {f : DFile} {p : Nat} {ps : List Int} {o : DOp} (h : f.ops[p]? = some o) (c : o.cut = true) : (tornF f p ps).1 = (f.ops.take p).foldl doF f.kept := by unfold tornF; rw [h]; simp only [c, if_true]
theorem torn_put {f : DFile} {p : Nat} {ps : List Int} {o : DOp} (h : f.ops[p]? = some o) (c : o.cut = false) : (tornF f p ps).1 = doF ((f.ops.take p).foldl doF f.kept) ⟨false, o.pos, o.b.take (nextP ps (o.b.length + 1)).1⟩ := by unfold tornF; rw [h]; simp only [c, Bool.false_eq_true, if_false]
theorem outs_snoc {k : List Nat} {os : List DOp} {o : DOp} {x : List Nat} (h : outs ⟨k, os ++ [o]⟩ x) : outs ⟨k, os⟩ x ∨ x = doF (os.foldl doF k) o ∨ (o.cut = false ∧ ∃ m, m ≤ o.b.length ∧ x = doF (os.foldl doF k) ⟨false, o.pos, o.b.take m⟩) := by
  obtain ⟨p, ps, h1, h2⟩ := h
  have h1 : p ≤ os.length + 1 := by simpa using h1
  by_cases e : p < os.length
  · left
    refine ⟨p, ps, by show p ≤ os.length; omega, ?_⟩
    rw [h2]
    have ht : (os ++ [o]).take p = os.take p := List.take_append_of_le_length (by omega)
    obtain ⟨y, hy⟩ := get_lt (l := os) (k := p) e
    have hy2 : (os ++ [o])[p]? = some y := by rw [List.getElem?_append_left e]; exact hy
    cases hc : y.cut with
    | true =>
      rw [torn_cut (f := ⟨k, os ++ [o]⟩) hy2 hc, torn_cut (f := ⟨k, os⟩) hy hc]
      show ((os ++ [o]).take p).foldl doF k = (os.take p).foldl doF k
      rw [ht]
    | false =>
      rw [torn_put (f := ⟨k, os ++ [o]⟩) hy2 hc, torn_put (f := ⟨k, os⟩) hy hc]
      show doF (((os ++ [o]).take p).foldl doF k) _ = doF ((os.take p).foldl doF k) _
      rw [ht]
  · by_cases e2 : p = os.length
    · subst e2
      have hg : (os ++ [o])[os.length]? = some o := by simp
      have ht : (os ++ [o]).take os.length = os := by simp
      cases hc : o.cut with
      | true =>
        left
        rw [h2, torn_cut (f := ⟨k, os ++ [o]⟩) hg hc]
        show outs ⟨k, os⟩ (((os ++ [o]).take os.length).foldl doF k)
        rw [ht]; exact outs_seen (f := ⟨k, os⟩)
      | false =>
        right; right
        refine ⟨rfl, (nextP ps (o.b.length + 1)).1, by have := nextP_lt (ps := ps) (n := o.b.length + 1) (by omega); omega, ?_⟩
        rw [h2, torn_put (f := ⟨k, os ++ [o]⟩) hg hc]
        show doF (((os ++ [o]).take os.length).foldl doF k) _ = _
        rw [ht]
    · right; left
      have e3 : p = os.length + 1 := by omega
      subst e3
      rw [h2, torn_none (f := ⟨k, os ++ [o]⟩) (by show (os ++ [o])[os.length + 1]? = none; exact List.getElem?_eq_none (by simp))]
      show ((os ++ [o]).take (os.length + 1)).foldl doF k = _
      rw [List.take_of_length_le (by simp), List.foldl_append]; rfl
theorem three_of {α : Type} {l : List α} (h : l.length = 3) : ∃ a b c, l = [a, b, c] := by
  match l, h with
  | [a, b, c], _ => exact ⟨a, b, c, rfl⟩
theorem crash_three {D : Dk} (hl : D.f.length = 3) (ps : List Int) : ∃ x0 x1 x2, crashL D.f ps = [x0, x1, x2] ∧ outs (fileD D (0 : Nat)) x0 ∧ outs (fileD D (1 : Nat)) x1 ∧ outs (fileD D (2 : Nat)) x2 := by
  obtain ⟨a, b, c, e⟩ := three_of hl
  unfold fileD
  rw [e]
  exact ⟨_, _, _, rfl, crash_outs, crash_outs, crash_outs⟩
/-! ### what is opened -/
def recOf (x0 x1 x2 : List Nat) : List (List Nat) := (scanL (if mkOf x2 = 0 then x0 else x1)).1
abbrev Recs := List (List Nat)
def AllC (D : Dk) (C : Recs → Prop) : Prop := ∀ x0 x1 x2, outs (fileD D (0 : Nat)) x0 → outs (fileD D (1 : Nat)) x1 → outs (fileD D (2 : Nat)) x2 → C (recOf x0 x1 x2)
theorem AllC.mono {D : Dk} {C C' : Recs → Prop} (h : AllC D C) (i : ∀ r, C r → C' r) : AllC D C' := fun x0 x1 x2 h0 h1 h2 => i _ (h x0 x1 x2 h0 h1 h2)
theorem AllC.same {D D' : Dk} {C : Recs → Prop} (h : AllC D C) (e : D'.f = D.f) : AllC D' C := by
  have ef : ∀ n : Int, fileD D' n = fileD D n := fun n => by unfold fileD; rw [e]
  intro x0 x1 x2 h0 h1 h2
  rw [ef] at h0 h1 h2
  exact h x0 x1 x2 h0 h1 h2
/-- by the file that is said, if the mark is known -/
theorem allC_of {D : Dk} {C : Recs → Prop} {fl : Nat} (hf : fl < 2) (h : ∀ x2, outs (fileD D (2 : Nat)) x2 → mkOf x2 = fl) (g : ∀ x, outs (fileD D (fl : Nat)) x → C (scanL x).1) : AllC D C := by
  intro x0 x1 x2 h0 h1 h2
  have hm := h x2 h2
  unfold recOf
  rw [hm]
  match fl, hf with
  | 0, _ => exact g x0 h0
  | 1, _ => exact g x1 h1
def okRs (r : Recs) : Prop := (∀ s ∈ r, s.length ≤ 4096 ∧ Bytes8 s) ∧ sizeL r ≤ 2097152
structure InvC (D : Dk) (L : Lg) (r : Recs) (N : Nat) (C : Recs → Prop) : Prop where
  off : D.off = false
  len : D.f.length = 3
  lg : L = ⟨r, sizeL r, L.file, (layR r).length, false⟩
  file : L.file < 2
  seen : (fileD D (L.file : Nat)).seen = layR r
  ok : okRs r
  mark : ∃ mk, fileD D (2 : Nat) = ⟨mk, []⟩ ∧ mkOf mk = L.file ∧ mk.length ≤ N
  can : ∀ x, outs (fileD D (L.file : Nat)) x → C (scanL x).1
theorem InvC.all {D : Dk} {L : Lg} {r : Recs} {N : Nat} {C : Recs → Prop} (i : InvC D L r N C) : AllC D C := by
  obtain ⟨mk, m1, m2, _⟩ := i.mark
  refine allC_of i.file (fun x2 h => ?_) i.can
  rw [m1] at h
  rw [outs_nil h, m2]
theorem InvC.now {D : Dk} {L : Lg} {r : Recs} {N : Nat} {C : Recs → Prop} (i : InvC D L r N C) : C r := by
  have := i.can _ outs_seen
  rw [i.seen, scan_all i.ok.1] at this
  exact this
/-- the power went -/
structure DeadC (D : Dk) (L : Lg) (r : Recs) (C : Recs → Prop) : Prop where
  len : D.f.length = 3
  dead : L.dead = true
  l : L.l = r
  all : AllC D C
theorem layR_len8 {r : Recs} (h : okRs r) : (layR r).length ≤ 2097152 := Nat.le_trans layR_le h.2
section
variable {D : Dk} {L : Lg} {r : Recs} {N : Nat} {C C' : Recs → Prop} {x : List Nat}
theorem callD_fileD {n : Int} : fileD (callD D) n = fileD D n := callD_file
theorem appL_c (i : InvC D L r N C) (hx : x.length ≤ 4096) (hx8 : Bytes8 x) (hs : sizeL r + x.length + 16 ≤ 2097152) (hC : ∀ y, C y → C' y) (hn : C' (r ++ [x])) :
    ((appL D L x).1 = 0 ∧ InvC (appL D L x).2.1 (appL D L x).2.2 (r ++ [x]) N C' ∧ (appL D L x).2.1.armed = D.armed) ∨ ((appL D L x).1 = 10 ∧ D.armed = true ∧ DeadC (appL D L x).2.1 (appL D L x).2.2 r C) := by
  have hlg := i.lg
  have hfl := i.file
  have iseen := i.seen
  have ican := i.can
  have imark := i.mark
  generalize hfile : L.file = fl at *
  have hdead : L.dead = false := by rw [hlg]
  have hsize : L.size = sizeL r := by rw [hlg]
  have hpos : L.pos = (layR r).length := by rw [hlg]
  have hlay := layR_len8 i.ok
  have hll : (lay1 x).length = 8 + x.length := lay1_len
  unfold appL
  rw [if_neg (by rw [hdead]; simp), if_neg (by omega), if_neg (by rw [hsize]; omega), hpos, hfile]
  have hseen : (fileD (callD D) (fl : Nat)).seen = layR r := by rw [callD_fileD]; exact iseen
  have happ : doF (layR r) ⟨false, (layR r).length, lay1 x⟩ = layR (r ++ [x]) := by
    rw [doF_put rfl]
    show (layR r).take (layR r).length ++ (lay1 x ++ (layR r).drop ((layR r).length + (lay1 x).length)) = _
    rw [List.take_length, List.drop_of_length_le (by omega), List.append_nil, layR_app, layR_one]
  rcases call_cases (n := fl) (by omega) i.off with ⟨ha, ho⟩ | ⟨ha, har⟩
  · left
    have hw : writeR D (fl : Nat) ((layR r).length : Nat) (lay1 x) = (0, putD (callD D) (fl : Nat) ⟨false, (layR r).length, lay1 x⟩) := by
      unfold writeR
      rw [if_pos ha, if_neg (by rw [hseen]; omega)]
      rfl
    rw [hw, if_pos rfl]
    have hlen : (callD D).f.length = 3 := by rw [callD_f]; exact i.len
    have hfd : ∀ m : Nat, m < 3 → fileD (putD (callD D) (fl : Nat) ⟨false, (layR r).length, lay1 x⟩) (m : Nat) = if m = fl then ⟨(fileD D (fl : Nat)).kept, (fileD D (fl : Nat)).ops ++ [⟨false, (layR r).length, lay1 x⟩]⟩ else fileD D (m : Nat) := fun m hm => by
      unfold putD
      rw [Int.toNat_natCast, fileD_set hlen hm, callD_fileD, callD_fileD]
    obtain ⟨mk, m1, m2, m3⟩ := imark
    refine ⟨rfl, ⟨ho, by show ((callD D).f.set _ _).length = 3; rw [List.length_set]; exact hlen, ?_, hfl, ?_, ⟨fun s hs' => ?_, by rw [sizeL_app]; simp [sizeL] at hs ⊢; omega⟩, ⟨mk, ?_, m2, m3⟩, fun y hy => ?_⟩, (call_eq (D := D)).2.1⟩
    · show (⟨L.l ++ [x], L.size + x.length + 16, fl, (layR r).length + 8 + x.length, false⟩ : Lg) = ⟨r ++ [x], sizeL (r ++ [x]), fl, (layR (r ++ [x])).length, false⟩
      rw [hsize, show L.l = r by rw [hlg], sizeL_app, layR_app, layR_one, List.length_append, hll]
      simp only [sizeL, List.map_cons, List.map_nil, List.sum_cons, List.sum_nil]
      congr 1; omega
    · show (fileD (putD _ _ _) (fl : Nat)).seen = _
      rw [hfd fl (by omega), if_pos rfl, seen_snoc, iseen, happ]
    · rcases List.mem_append.1 hs' with h | h
      · exact i.ok.1 s h
      · simp at h; subst h; exact ⟨hx, hx8⟩
    · show fileD (putD _ _ _) (2 : Nat) = _
      rw [hfd 2 (by omega), if_neg (by omega)]; exact m1
    · have hy : outs (fileD (putD (callD D) (fl : Nat) ⟨false, (layR r).length, lay1 x⟩) (fl : Nat)) y := hy
      rw [hfd fl (by omega), if_pos rfl] at hy
      have hse : (fileD D (fl : Nat)).ops.foldl doF (fileD D (fl : Nat)).kept = layR r := iseen
      have hokx : ∀ s ∈ r ++ [x], s.length ≤ 4096 ∧ Bytes8 s := fun s hs' => by
        rcases List.mem_append.1 hs' with h | h
        · exact i.ok.1 s h
        · simp at h; subst h; exact ⟨hx, hx8⟩
      rcases outs_snoc hy with h | h | ⟨_, m, hm, h⟩
      · exact hC _ (ican y h)
      · rw [hse, happ] at h
        rw [h, scan_all hokx]; exact hn
      · rw [hse, doF_put rfl] at h
        have h : y = (layR r).take (layR r).length ++ ((lay1 x).take m ++ (layR r).drop ((layR r).length + ((lay1 x).take m).length)) := h
        rw [List.take_length, List.drop_of_length_le (by omega), List.append_nil] at h
        have hm : m ≤ (lay1 x).length := hm
        by_cases e : m < (lay1 x).length
        · rw [h, scan_torn i.ok.1 hx e]
          exact hC _ i.now
        · rw [List.take_of_length_le (by omega), ← layR_one, ← layR_app] at h
          rw [h, scan_all hokx]; exact hn
  · right
    have hw : writeR D (fl : Nat) ((layR r).length : Nat) (lay1 x) = (10, callD D) := by
      unfold writeR
      rw [if_neg (by rw [ha]; omega), ha]
    rw [hw, if_neg (by show ¬ (10 : Int) = 0; omega)]
    exact ⟨rfl, har, by show (callD D).f.length = 3; rw [callD_f]; exact i.len, rfl, by show L.l = r; rw [hlg], i.all.same callD_f⟩
theorem syncR_cases {n : Nat} (hn : n < 3) (ho : D.off = false) (hl : D.f.length = 3) :
    ((syncR D (n : Nat)).1 = 0 ∧ (syncR D (n : Nat)).2.off = false ∧ (syncR D (n : Nat)).2.f.length = 3 ∧ (syncR D (n : Nat)).2.armed = D.armed ∧ ∀ m : Nat, m < 3 → fileD (syncR D (n : Nat)).2 (m : Nat) = if m = n then ⟨(fileD D (n : Nat)).seen, []⟩ else fileD D (m : Nat)) ∨
    ((syncR D (n : Nat)).1 = 10 ∧ D.armed = true ∧ (syncR D (n : Nat)).2.f = D.f) := by
  rcases call_cases hn ho with ⟨ha, ho'⟩ | ⟨ha, har⟩
  · left
    have hw : syncR D (n : Nat) = (0, { callD D with f := D.f.set n ⟨(fileD D (n : Nat)).seen, []⟩ }) := by
      unfold syncR
      rw [if_pos ha]; rfl
    rw [hw]
    refine ⟨rfl, ho', by show (D.f.set _ _).length = 3; rw [List.length_set]; exact hl, (call_eq (D := D)).2.1, fun m hm => ?_⟩
    have := fileD_set hl (n := n) hm (g := ⟨(fileD D (n : Nat)).seen, []⟩)
    rw [← this]; rfl
  · right
    have hw : syncR D (n : Nat) = (10, callD D) := by
      unfold syncR
      rw [if_neg (by rw [ha]; omega), ha]
    rw [hw]
    exact ⟨rfl, har, callD_f⟩
theorem syncL_c (i : InvC D L r N C) (hn : C' r) : ((syncL D L).1 = 0 ∧ InvC (syncL D L).2.1 (syncL D L).2.2 r N C' ∧ (syncL D L).2.1.armed = D.armed) ∨ ((syncL D L).1 = 10 ∧ D.armed = true ∧ DeadC (syncL D L).2.1 (syncL D L).2.2 r C) := by
  have hlg := i.lg
  have hfl := i.file
  have hdead : L.dead = false := by rw [hlg]
  unfold syncL
  rw [if_neg (by rw [hdead]; simp)]
  rcases syncR_cases (n := L.file) (by omega) i.off i.len with ⟨h1, h2, h3, h4, h5⟩ | ⟨h1, h2, h3⟩
  · left
    obtain ⟨mk, m1, m2, m3⟩ := i.mark
    have hfd := h5 L.file (by omega)
    rw [if_pos rfl, i.seen] at hfd
    refine ⟨h1, ⟨h2, h3, ?_, hfl, ?_, i.ok, ⟨mk, ?_, m2, m3⟩, fun y hy => ?_⟩, h4⟩
    · show { L with dead := !decide ((syncR D (L.file : Nat)).1 = 0) } = _
      rw [h1]
      conv => lhs; rw [hlg]
      rfl
    · show (fileD (syncR D (L.file : Nat)).2 (L.file : Nat)).seen = _
      rw [hfd]; rfl
    · show fileD (syncR D (L.file : Nat)).2 (2 : Nat) = _
      rw [h5 2 (by omega), if_neg (by omega)]; exact m1
    · have hy : outs (fileD (syncR D (L.file : Nat)).2 (L.file : Nat)) y := hy
      rw [hfd] at hy
      rw [outs_nil hy, scan_all i.ok.1]; exact hn
  · right
    refine ⟨h1, h2, by show (syncR D (L.file : Nat)).2.f.length = 3; rw [h3]; exact i.len, by show (!decide ((syncR D (L.file : Nat)).1 = 0)) = true; rw [h1]; rfl, by show L.l = r; rw [hlg], i.all.same h3⟩
end
section
variable {D : Dk} {L : Lg} {r l : Recs} {N : Nat} {C C' : Recs → Prop} {x : List Nat}
theorem fileD_congr {D D' : Dk} {n : Int} (e : D'.f = D.f) : fileD D' n = fileD D n := by unfold fileD; rw [e]
theorem cutR_cases {n p : Nat} (hn : n < 3) (ho : D.off = false) (hl : D.f.length = 3) (hp : p ≤ (fileD D (n : Nat)).seen.length) :
    ((cutR D (n : Nat) (p : Nat)).1 = 0 ∧ (cutR D (n : Nat) (p : Nat)).2.off = false ∧ (cutR D (n : Nat) (p : Nat)).2.f.length = 3 ∧ (cutR D (n : Nat) (p : Nat)).2.armed = D.armed ∧
      ∀ m : Nat, m < 3 → fileD (cutR D (n : Nat) (p : Nat)).2 (m : Nat) = if m = n then ⟨(fileD D (n : Nat)).kept, (fileD D (n : Nat)).ops ++ [⟨true, p, []⟩]⟩ else fileD D (m : Nat)) ∨
    ((cutR D (n : Nat) (p : Nat)).1 = 10 ∧ D.armed = true ∧ (cutR D (n : Nat) (p : Nat)).2.f = D.f) := by
  rcases call_cases hn ho with ⟨ha, ho'⟩ | ⟨ha, har⟩
  · left
    have hw : cutR D (n : Nat) (p : Nat) = (0, putD (callD D) (n : Nat) ⟨true, p, []⟩) := by
      unfold cutR
      rw [if_pos ha, if_neg (by rw [callD_fileD]; omega)]; rfl
    have hlen : (callD D).f.length = 3 := by rw [callD_f]; exact hl
    rw [hw]
    refine ⟨rfl, ho', by show ((callD D).f.set _ _).length = 3; rw [List.length_set]; exact hlen, (call_eq (D := D)).2.1, fun m hm => ?_⟩
    show fileD (putD _ _ _) _ = _
    unfold putD
    rw [Int.toNat_natCast, fileD_set hlen hm, callD_fileD, callD_fileD]
  · right
    have hw : cutR D (n : Nat) (p : Nat) = (10, callD D) := by
      unfold cutR
      rw [if_neg (by rw [ha]; omega), ha]
    rw [hw]
    exact ⟨rfl, har, callD_f⟩
theorem InvC.keep {D' : Dk} (i : InvC D L r N C) (k : fileD D' (L.file : Nat) = fileD D (L.file : Nat)) (k2 : fileD D' (2 : Nat) = fileD D (2 : Nat)) : AllC D' C := by
  obtain ⟨mk, m1, m2, _⟩ := i.mark
  refine allC_of i.file (fun x2 h => ?_) fun x hx => ?_
  · rw [k2, m1] at h
    rw [outs_nil h, m2]
  · rw [k] at hx
    exact i.can x hx
end
section
variable {D D' : Dk} {L : Lg} {r l : Recs} {N : Nat} {C C' : Recs → Prop} {x : List Nat}
/-- while it is opened: bytes b in file fl, mark x2, records r0 -/
structure Opg (D : Dk) (b x2 : List Nat) (fl : Nat) (r0 : Recs) : Prop where
  len : D.f.length = 3
  mark : fileD D (2 : Nat) = ⟨x2, []⟩
  can : ∀ x, outs (fileD D (fl : Nat)) x → (scanL x).1 = r0
theorem Opg.all {b x2 : List Nat} {fl : Nat} {r0 : Recs} (o : Opg D b x2 fl r0) (hf : fl < 2) (hm : mkOf x2 = fl) : AllC D (fun y => y = r0) :=
  allC_of hf (fun x h => by rw [o.mark] at h; rw [outs_nil h, hm]) o.can
theorem Opg.same {b x2 : List Nat} {fl : Nat} {r0 : Recs} (o : Opg D b x2 fl r0) (e : D'.f = D.f) : Opg D' b x2 fl r0 :=
  ⟨by rw [e]; exact o.len, by rw [fileD_congr e]; exact o.mark, fun x h => by rw [fileD_congr e] at h; exact o.can x h⟩
/-- a step of opening: done, or the power went -/
def StepO (D : Dk) (s : Int × Dk) (b x2 : List Nat) (fl : Nat) (r0 : Recs) : Prop :=
  (s.1 = 0 ∧ s.2.off = false ∧ s.2.armed = D.armed ∧ Opg s.2 b x2 fl r0) ∨ (s.1 = 10 ∧ D.armed = true ∧ Opg s.2 b x2 fl r0)
theorem loadR_cc {x0 x1 x2 : List Nat} (ho : D.off = false) (hf : D.f = [⟨x0, []⟩, ⟨x1, []⟩, ⟨x2, []⟩]) :
    ((loadR D).1 = 0 ∧ (loadR D).2.2.l = recOf x0 x1 x2 ∧ (loadR D).2.1.f.length = 3 ∧ AllC (loadR D).2.1 (fun y => y = recOf x0 x1 x2) ∧ (loadR D).2.1.armed = D.armed ∧
      ((if mkOf x2 = 0 then x0 else x1) = layR (recOf x0 x1 x2) → okRs (recOf x0 x1 x2) → x2.length ≤ N → C (recOf x0 x1 x2) → InvC (loadR D).2.1 (loadR D).2.2 (recOf x0 x1 x2) N C ∧ fileD (loadR D).2.1 ((loadR D).2.2.file : Nat) = ⟨layR (recOf x0 x1 x2), []⟩)) ∨
    ((loadR D).1 = 10 ∧ D.armed = true ∧ (loadR D).2.1.f.length = 3 ∧ AllC (loadR D).2.1 (fun y => y = recOf x0 x1 x2)) := by
  have hlen : D.f.length = 3 := by rw [hf]; rfl
  have h2 : fileD D (2 : Nat) = ⟨x2, []⟩ := by unfold fileD; rw [hf]; rfl
  have hfl : mkOf x2 < 2 := mkOf_lt
  have hfo : fileOf D = mkOf x2 := by
    show mkOf (fileD D (2 : Nat)).seen = _
    rw [h2]; rfl
  have hrec : recOf x0 x1 x2 = (scanL (if mkOf x2 = 0 then x0 else x1)).1 := rfl
  generalize hb : (if mkOf x2 = 0 then x0 else x1) = b at *
  generalize hflg : mkOf x2 = fl at *
  have hF : fileD D (fl : Nat) = ⟨b, []⟩ := by
    unfold fileD
    rw [hf, ← hb]
    match fl, hfl with
    | 0, _ => rfl
    | 1, _ => rfl
  have hbo : bytesOf D = b := by
    show (fileD D (fileOf D : Nat)).seen = b
    rw [hfo, hF]; rfl
  have hlo : logOf D = ⟨(scanL b).1, sizeL (scanL b).1, fl, (scanL b).2, false⟩ := by
    unfold logOf scanLg
    rw [hbo, hfo]
    show (⟨[] ++ (scanL (b.drop 0)).1, 0 + sizeL (scanL (b.drop 0)).1, fl, 0 + (scanL (b.drop 0)).2, false⟩ : Lg) = _
    rw [List.drop_zero, List.nil_append, Nat.zero_add, Nat.zero_add]
  generalize hr0 : recOf x0 x1 x2 = r0 at *
  have hsl := scan_len b
  have hask : askR D 2 = 0 := by
    have := ask_off (D := D) (n := 2) (by omega)
    rw [ho] at this
    exact this
  have base : Opg D b x2 fl r0 := ⟨hlen, h2, fun x h => by rw [hF] at h; rw [outs_nil h, hrec]⟩
  -- cut
  have sc : StepO D (cutOf D) b x2 fl r0 ∧ ((scanL b).2 = b.length → (cutOf D) = (0, D)) := by
    unfold cutOf
    rw [hlo, hbo, hfo]
    show StepO D (if (scanL b).2 < b.length then cutR D (fl : Nat) ((scanL b).2 : Nat) else (0, D)) b x2 fl r0 ∧ ((scanL b).2 = b.length → (if (scanL b).2 < b.length then cutR D (fl : Nat) ((scanL b).2 : Nat) else (0, D)) = (0, D))
    refine ⟨?_, fun e => if_neg (by omega)⟩
    by_cases e : (scanL b).2 < b.length
    · rw [if_pos e]
      rcases cutR_cases (D := D) (n := fl) (p := (scanL b).2) (by omega) ho hlen (by rw [hF]; exact hsl.1) with ⟨a1, a2, a3, a4, a5⟩ | ⟨a1, a2, a3⟩
      · refine .inl ⟨a1, a2, a4, a3, by rw [a5 _ (by omega), if_neg (by omega)]; exact h2, fun x h => ?_⟩
        rw [a5 _ (by omega), if_pos rfl, hF] at h
        rcases outs_snoc (os := []) h with h | h | ⟨h, _⟩
        · rw [outs_nil h, hrec]
        · have h : x = doF b ⟨true, (scanL b).2, []⟩ := h
          rw [doF_cut rfl] at h
          have h : x = b.take (scanL b).2 := h
          rw [h, scan_take, hrec]
        · cases h
      · exact .inr ⟨a1, a2, base.same a3⟩
    · rw [if_neg e]
      exact .inl ⟨rfl, ho, rfl, base⟩
  -- synced
  have s1 : StepO D (sync1 D) b x2 fl r0 ∧ ((scanL b).2 = b.length → (sync1 D).1 = 0 → fileD (sync1 D).2 (fl : Nat) = ⟨b, []⟩) := by
    unfold sync1
    rw [hfo]
    rcases sc.1 with ⟨a1, a2, a3, a4⟩ | ⟨a1, a2, a3⟩
    · rw [if_pos a1]
      rcases syncR_cases (D := (cutOf D).2) (n := fl) (by omega) a2 a4.len with ⟨lc1, lc2, lc3, lc4, lc5⟩ | ⟨lc1, lc2, lc3⟩
      · refine ⟨.inl ⟨lc1, lc2, by rw [lc4, a3], lc3, by rw [lc5 _ (by omega), if_neg (by omega)]; exact a4.mark, fun x h => ?_⟩, fun e _ => ?_⟩
        · rw [lc5 _ (by omega), if_pos rfl] at h
          rw [outs_nil h]; exact a4.can _ outs_seen
        · rw [lc5 _ (by omega), if_pos rfl, sc.2 e, hF]; rfl
      · exact ⟨.inr ⟨lc1, by rw [← a3]; exact lc2, a4.same lc3⟩, fun _ e => by rw [lc1] at e; cases e⟩
    · rw [if_neg (by rw [a1]; omega)]
      exact ⟨.inr ⟨a1, a2, a3⟩, fun _ e => by rw [a1] at e; cases e⟩
  have s2 : StepO D (sync2 D) b x2 fl r0 ∧ ((scanL b).2 = b.length → (sync2 D).1 = 0 → fileD (sync2 D).2 (fl : Nat) = ⟨b, []⟩) := by
    unfold sync2
    rcases s1.1 with ⟨a1, a2, a3, a4⟩ | ⟨a1, a2, a3⟩
    · rw [if_pos a1]
      rcases syncR_cases (D := (sync1 D).2) (n := 2) (by omega) a2 a4.len with ⟨lc1, lc2, lc3, lc4, lc5⟩ | ⟨lc1, lc2, lc3⟩
      · have hk : fileD (syncR (sync1 D).2 2).2 (fl : Nat) = fileD (sync1 D).2 (fl : Nat) := by
          have := lc5 fl (by omega)
          rw [if_neg (by omega)] at this; exact this
        refine ⟨.inl ⟨lc1, lc2, by rw [show (syncR (sync1 D).2 2).2.armed = _ from lc4, a3], lc3, ?_, fun x h => ?_⟩, fun e _ => ?_⟩
        · have := lc5 2 (by omega)
          rw [if_pos rfl, a4.mark] at this; exact this
        · rw [hk] at h; exact a4.can x h
        · rw [hk]; exact s1.2 e a1
      · exact ⟨.inr ⟨lc1, by rw [← a3]; exact lc2, a4.same lc3⟩, fun _ e => by rw [show (syncR (sync1 D).2 2).1 = 10 from lc1] at e; cases e⟩
    · rw [if_neg (by rw [a1]; omega)]
      exact ⟨.inr ⟨a1, a2, a3⟩, fun _ e => by rw [a1] at e; cases e⟩
  have hL : loadR D = ((sync2 D).1, (sync2 D).2, logOf D) := if_pos hask
  rw [hL]
  rcases s2.1 with ⟨a1, a2, a3, a4⟩ | ⟨a1, a2, a3⟩
  · left
    refine ⟨a1, by show (logOf D).l = r0; rw [hlo, hrec], a4.len, a4.all hfl hflg, a3, fun e1 e2 e3 e4 => ?_⟩
    have hsc : scanL b = (r0, (layR r0).length) := by rw [e1]; exact scan_all e2.1
    have hlast := s2.2 (by rw [hsc, e1]) a1
    show InvC (sync2 D).2 (logOf D) r0 N C ∧ fileD (sync2 D).2 ((logOf D).file : Nat) = _
    rw [hlo, hsc]
    refine ⟨?_, by show fileD (sync2 D).2 (fl : Nat) = _; rw [hlast, e1]⟩
    exact ⟨a2, a4.len, rfl, hfl, by rw [hlast]; exact e1, e2, ⟨x2, a4.mark, hflg, e3⟩, fun x h => by rw [a4.can x h]; exact e4⟩
  · right
    exact ⟨a1, a2, a3.len, a3.all hfl hflg⟩
end
end Go.Proofs.YthnhdgcaolgdnaaAn
