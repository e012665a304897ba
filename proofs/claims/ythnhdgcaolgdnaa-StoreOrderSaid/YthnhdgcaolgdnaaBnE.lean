/- Words: what calls give, cells read, data in rows. -/
import Derived.Test.YthnhdgcaolgdnaaBnD
set_option linter.unusedVariables false
set_option linter.unusedSimpArgs false
namespace Go.Proofs.YthnhdgcaolgdnaaAn
open Go
theorem onRet.b {c : Bool} {K : Bool → Prop} (k : K c) : onRet [Sh.one Kd.bool] (.b c) K := k
theorem onRet.i {n : Int} {K : Int → Prop} (k : K n) : onRet [Sh.one (Kd.int .i64)] (.i .i64 n) K := k
theorem onRet.u8 {n : Int} {K : Int → Prop} (k : K n) : onRet [Sh.one (Kd.int .u8)] (.i .u8 n) K := k
theorem onRet.u32 {n : Int} {K : Int → Prop} (k : K n) : onRet [Sh.one (Kd.int .u32)] (.i .u32 n) K := k
theorem onRet.s {l : List Nat} {K : List Nat → Prop} (k : K l) : onRet [Sh.one Kd.str] (.s l) K := k
theorem onRef.mk {a : AV} (hs : a.sc = true) {K : AV → Prop} (k : K a) : onRef a K := by unfold onRef; rw [hs]; exact k
theorem flatOne {a : AV} {k : Kd} (hs : a.sc = true) : flatV [Sh.one k] [a] = some [a] := by
  cases a <;> first | rfl | cases hs
theorem onRet.r {a : AV} (hs : a.sc = true) {K : AV → Prop} (k : K a) : onRet [Sh.one Kd.ref] a K := by
  unfold onRet onS
  rw [flatOne hs]
  exact onRef.mk hs k
theorem onTup.ib {n : Int} {c : Bool} {K : Int → Bool → Prop} (k : K n c) : onTup [Sh.one (Kd.int .i64), Sh.one Kd.bool] (.tup [.i .i64 n, .b c]) K := k
theorem onTup.ii {n m : Int} {K : Int → Int → Prop} (k : K n m) : onTup [Sh.one (Kd.int .i64), Sh.one (Kd.int .i64)] (.tup [.i .i64 n, .i .i64 m]) K := k
theorem flatTwo {a b : AV} {k k' : Kd} (hs : a.sc = true) (hs' : b.sc = true) : flatV [Sh.one k, Sh.one k'] [a, b] = some [a, b] := by
  cases a <;> cases b <;> first | rfl | cases hs | cases hs'
theorem onTup.ri {a : AV} (hs : a.sc = true) {n : Int} {K : AV → Int → Prop} (k : K a n) : onTup [Sh.one Kd.ref, Sh.one (Kd.int .i64)] (.tup [a, .i .i64 n]) K := by
  show onS [Sh.one Kd.ref, Sh.one (Kd.int .i64)] [a, .i .i64 n] K
  unfold onS
  rw [flatTwo hs rfl]
  exact onRef.mk (K := fun a => K a n) hs k
/-! ### cells read -/
theorem onL.i1 {n : Int} {K : Int → Prop} (k : K n) : onL [Kd.int .i64] [.i .i64 n] K := k
theorem onL.i2 {n m : Int} {K : Int → Int → Prop} (k : K n m) : onL [Kd.int .i64, Kd.int .i64] [.i .i64 n, .i .i64 m] K := k
theorem onL.i4 {n m p q : Int} {K : Int → Int → Int → Int → Prop} (k : K n m p q) : onL [Kd.int .i64, Kd.int .i64, Kd.int .i64, Kd.int .i64] [.i .i64 n, .i .i64 m, .i .i64 p, .i .i64 q] K := k
theorem onL.u1 {n : Int} {K : Int → Prop} (k : K n) : onL [Kd.int .u8] [.i .u8 n] K := k
theorem onL.s1 {l : List Nat} {K : List Nat → Prop} (k : K l) : onL [Kd.str] [.s l] K := k
theorem onL.r1 {a : AV} (hs : a.sc = true) {K : AV → Prop} (k : K a) : onL [Kd.ref] [a] K := onRef.mk hs k
/-- one element, and a part of it -/
theorem Kn.Row.idx {α : Type} {d : Kn α} {h : Hp} {a : AV} {l : List α} (r : d.Row h a l) {i : Int} {x : α} (h0 : 0 ≤ i) (hi : l[i.toNat]? = some x) : ∃ b o c, idxV a i d.sz = some (b, o) ∧ rdH h b o d.sz = some c ∧ d.K h x c := by
  obtain ⟨css, r1, r2⟩ := r
  obtain ⟨c, hc, hk⟩ := r2.get hi
  obtain ⟨b, o, e1, e2, _⟩ := r1.idx h0 hc
  exact ⟨b, o, c, e1, e2, hk⟩
theorem Kn.Row.len {α : Type} {d : Kn α} {h : Hp} {a : AV} {l : List α} (r : d.Row h a l) : lenV a = some l.length := by
  obtain ⟨css, r1, r2⟩ := r
  rw [r1.len, r2.length]
theorem Kn.Row.sc {α : Type} {d : Kn α} {h : Hp} {a : AV} {l : List α} (r : d.Row h a l) : a.sc = true := by
  obtain ⟨css, r1, r2⟩ := r
  exact r1.sc
theorem Kn.Row.part {α : Type} {d : Kn α} {h : Hp} {a : AV} {l : List α} (r : d.Row h a l) {i : Int} {x : α} (h0 : 0 ≤ i) (hi : l[i.toNat]? = some x) {c : List AV} (hc : ∀ c', d.K h x c' → c' = c) {off n sz : Nat} {p : List AV} (hsz : d.sz = sz) (hp : sub? c off n = some p) {K : List AV → Prop} (k : K p) :
    onO (idxV a i sz) fun r => onO (rdH h r.1 (r.2 + off) n) K := by
  subst hsz
  obtain ⟨b, o, c', e1, e2, e3⟩ := r.idx h0 hi
  have := hc c' e3
  subst this
  exact onO.mk e1 (onO.mk (rdH_sub e2 hp) k)
theorem Kn.Row.whole {α : Type} {d : Kn α} {h : Hp} {a : AV} {l : List α} (r : d.Row h a l) {i : Int} {x : α} (h0 : 0 ≤ i) (hi : l[i.toNat]? = some x) {c : List AV} (hc : ∀ c', d.K h x c' → c' = c) {sz : Nat} (hsz : d.sz = sz) {K : List AV → Prop} (k : K c) :
    onO (idxV a i sz) fun r => onO (rdH h r.1 r.2 sz) K := by
  subst hsz
  obtain ⟨b, o, c', e1, e2, e3⟩ := r.idx h0 hi
  have := hc c' e3
  subst this
  exact onO.mk e1 (onO.mk e2 k)
/-! ### rows of data of one's own -/
/-- a row of one's own over a part p of what is seen, in which its elements' data stand -/
def Kn.Own {α : Type} (d : Kn α) (g h : Hp) (a : AV) (l : List α) : Prop := ∃ p css, g.le p ∧ p.lo = g.lo ∧ Fresh p h a d.sz css ∧ All2 (d.K p) l css
theorem Kn.Own.row {α : Type} {d : Kn α} {g h : Hp} {a : AV} {l : List α} (o : d.Own g h a l) : d.Row h a l := by
  obtain ⟨p, css, _, _, h1, h2⟩ := o
  exact ⟨css, h1.row, h2.mono fun _ _ k => d.mono h1.le k⟩
theorem Kn.Own.le {α : Type} {d : Kn α} {g h : Hp} {a : AV} {l : List α} (o : d.Own g h a l) : g.le h := by
  obtain ⟨p, css, h0, _, h1, h2⟩ := o; exact Hp.le_trans h0 h1.le
theorem Kn.Own.lo {α : Type} {d : Kn α} {g h : Hp} {a : AV} {l : List α} (o : d.Own g h a l) : h.lo = g.lo := by
  obtain ⟨p, css, _, h0, h1, h2⟩ := o; exact h1.lo.trans h0
theorem Kn.Own.sc {α : Type} {d : Kn α} {g h : Hp} {a : AV} {l : List α} (o : d.Own g h a l) : a.sc = true := o.row.sc
theorem Kn.Own.nil {α : Type} (d : Kn α) (g : Hp) : d.Own g g .ns [] := ⟨g, [], Hp.le_refl g, rfl, Fresh.nil g d.sz, .nil⟩
theorem Kn.Own.mono {α : Type} {d : Kn α} {g g' h : Hp} {a : AV} {l : List α} (o : d.Own g' h a l) (le : g.le g') (hl : g'.lo = g.lo) : d.Own g h a l := by
  obtain ⟨p, css, h0, h01, h1, h2⟩ := o
  exact ⟨p, css, Hp.le_trans le h0, h01.trans hl, h1, h2⟩
/-- what is seen but for a part of it -/
def restH (h p : Hp) : Hp := ⟨fun k => match p.g k with | some _ => none | none => h.g k, h.lo⟩
theorem add_rest {p h : Hp} (l : p.le h) (hl : h.lo = p.lo) : p.add (restH h p) = h := by
  refine Hp.ext (fun k => ?_) rfl
  show (match p.g k with | some c => some c | none => (restH h p).g k) = h.g k
  cases e : p.g k with
  | some c => exact (l k c e).symm
  | none =>
    show (match p.g k with | some _ => none | none => h.g k) = h.g k
    rw [e]
theorem rest_disj (p h : Hp) : Disj p (restH h p) := fun k c e => by
  show (match p.g k with | some _ => none | none => h.g k) = none
  rw [e]
/-- a call that sees the part alone: the row is as it was -/
theorem Fresh.call {P : Program} {f : FuncId} {args : List AV} {Q : AV → Hp → Prop} {p h : Hp} {a : AV} {sz : Nat} {css : List (List AV)} (fr : Fresh p h a sz css) (w : wpC P f args Q p) :
    wpC P f args (fun v h' => ∃ p', Fresh p' h' a sz css ∧ p'.lo = p.lo ∧ Q v p') h := by
  have w' := wpC.frame (g := restH h p) (p := p) fr.lo.symm (rest_disj p h) w
  rw [add_rest fr.le fr.lo] at w'
  refine w'.mono fun v h' ⟨p', e, dj, hlo, q⟩ => ⟨p', ?_, hlo.trans fr.lo, q⟩
  subst e
  have hlr : (restH h p).lo = h.lo := rfl
  have key : ∀ b, p.g b = none → ∀ c, h.g b = some c → (restH h p).g b = some c := fun b hb c hc => by
    show (match p.g b with | some _ => none | none => h.g b) = some c
    rw [hb]; exact hc
  refine ⟨Hp.le_left _ _, hlo.symm, ?_, ?_⟩
  · refine ⟨fr.row.1, ?_⟩
    have r := fr.row.2
    cases a <;> first | exact r | skip
    obtain ⟨r1, r2, r3, r4⟩ := r
    refine ⟨r1, r2, r3, r4.imp id fun e => ?_⟩
    obtain ⟨n1, n2, cs, n3, _⟩ := fr.new _ _ _ _ _ _ rfl
    refine rdH_le (Hp.le_right dj) ?_
    unfold rdH at e ⊢
    rw [key _ n1 _ n3]
    rw [n3] at e; exact e
  · intro b o len lo ex z e
    obtain ⟨n1, n2, cs, n3, n4⟩ := fr.new b o len lo ex z e
    have hr := key _ n1 _ n3
    refine ⟨?_, by rw [hlo, hlr, fr.lo]; exact n2, cs, Hp.le_right dj b cs hr, n4⟩
    cases hb : p'.g b with
    | none => rfl
    | some c => have := dj b c hb; rw [hr] at this; cases this
/-- of data that holds no address -/
def Kn.Flat {α : Type} (d : Kn α) : Prop := ∀ h h' x c, d.K h x c → d.K h' x c
theorem Kn.all_sc {α : Type} {d : Kn α} {h : Hp} : ∀ {l : List α} {css : List (List AV)}, All2 (d.K h) l css → css.flatten.all AV.sc = true
  | [], _, .nil => rfl
  | _ :: _, _, .cons k t => by rw [List.flatten_cons, List.all_append, d.sc k, Kn.all_sc t]; rfl
theorem Kn.all_len {α : Type} {d : Kn α} {h : Hp} : ∀ {l : List α} {css : List (List AV)}, All2 (d.K h) l css → ∀ c ∈ css, c.length = d.sz
  | [], _, .nil, _, hc => by cases hc
  | _ :: _, _, .cons k t, c, hc => by
    rcases List.mem_cons.1 hc with rfl | hc
    · exact d.len k
    · exact Kn.all_len t c hc
/-- appended to -/
theorem Kn.Own.app {α : Type} {d : Kn α} {g h : Hp} {a : AV} {l l2 : List α} {n sz : Nat} (o : d.Own g h a l) (hsz : d.sz = sz) (fl : d.Flat) {css2 : List (List AV)} (h2 : All2 (d.K h) l2 css2) {src : Src} (hs : srcH h src = some css2.flatten) (hn : l2.length = n) (hbig : l.length + n < 32000000)
    {Post : Option AV → Hp → Prop} (k : ∀ r h', d.Own g h' r (l ++ l2) → Post (some r) h') : wpE (.app a n src sz) Post h := by
  subst hsz
  obtain ⟨p, css, h0, h01, f, h1⟩ := o
  refine f.app hs (Kn.all_len h2) (by rw [← h2.length, hn]) (Kn.all_sc h2) (by rw [← h1.length]; exact hbig) fun r h' f' => k r h' ⟨p, _, h0, h01, f', ?_⟩
  exact h1.append (h2.mono fun _ _ q => fl _ _ _ _ q)
theorem Kn.Own.app1 {α : Type} {d : Kn α} {g h : Hp} {a : AV} {l : List α} {x : α} {c : List AV} {sz : Nat} (o : d.Own g h a l) (hsz : d.sz = sz) (fl : d.Flat) (hx : d.K h x c) (hbig : l.length + 1 < 32000000)
    {Post : Option AV → Hp → Prop} (k : ∀ r h', d.Own g h' r (l ++ [x]) → Post (some r) h') : wpE (.app a 1 (.lit c) sz) Post h :=
  o.app hsz fl (.cons hx .nil) (by simp [srcH]) rfl hbig k
end Go.Proofs.YthnhdgcaolgdnaaAn
