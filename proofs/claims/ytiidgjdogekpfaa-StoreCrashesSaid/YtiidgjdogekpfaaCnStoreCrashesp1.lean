/- What the functions that the law reaches come to, down to the law itself. -/
import Derived.Test.YtiidgjdogekpfaaCnStoreCrashesp0
import Derived.Test.YtiidgjdogekpfaaProg
set_option linter.unusedVariables false
set_option linter.unusedSimpArgs false
set_option maxRecDepth 100000
namespace Go.Proofs.YtiidgjdogekpfaaAn
open Go
/-! ### memory with one block beside it -/
theorem put_put (G : Hp) (p : Nat) (x y : List AV) : (G.put p x).put p y = G.put p y := Hp.ext (fun k => by
  by_cases e : k = p
  · rw [e, Hp.put_same, Hp.put_same]
  · rw [Hp.put_ne _ _ e, Hp.put_ne _ _ e, Hp.put_ne _ _ e]) rfl
theorem add_one {G : Hp} {p : Nat} (hp : G.g p = none) (c : List AV) : G.add (Hp.one p c G.lo) = G.put p c := Hp.ext (fun k => by
  show (match G.g k with | some c => some c | none => if k = p then some c else none) = if k = p then some c else G.g k
  by_cases e : k = p
  · rw [e, hp, if_pos rfl]
  · rw [if_neg e]
    cases G.g k <;> simp [e]) rfl
theorem wpC.putp {P : Program} {f : FuncId} {args : List AV} {Q : AV → Hp → Prop} {G : Hp} {p : Nat} (hp : G.g p = none) (c : List AV) (w : wpC P f args Q G) :
    wpC P f args (fun v h' => ∃ G', h' = G'.put p c ∧ G'.g p = none ∧ G'.lo = G.lo ∧ Q v G') (G.put p c) := by
  have hd : Disj G (Hp.one p c G.lo) := fun k c' e => by
    show (if k = p then some c else none) = none
    rw [if_neg (fun e' => by rw [e', hp] at e; cases e)]
  have w' := wpC.frame (p := G) (g := Hp.one p c G.lo) rfl hd w
  rw [add_one hp c] at w'
  refine w'.mono fun v h' ⟨p', e, d, hlo, q⟩ => ?_
  have hpp : p'.g p = none := by
    cases hx : p'.g p with
    | none => rfl
    | some y =>
      have := d p y hx
      have this : (if p = p then some c else none) = none := this
      rw [if_pos rfl] at this; cases this
  have hlo : p'.lo = G.lo := hlo
  refine ⟨p', ?_, hpp, hlo, q⟩
  rw [e, ← hlo, add_one hpp]
/-- how far, the error -/
abbrev Rd := Nat × Int
def partR (s : Rd) (n : Nat) (e : Int) : Rd := if s.2 = 0 then (s.1 + n, e) else s
def rdC (a : AV) (s : Rd) : List AV := [a, .i .i64 (s.1 : Nat), .i .i64 s.2]
def numR (l : List Nat) (s : Rd) : Int × Rd := ((tkN (l.drop s.1)).1, partR s (tkN (l.drop s.1)).2.1 (tkN (l.drop s.1)).2.2)
def placeR (l : List Nat) (s : Rd) : D.Stamp × Rd := ((tkS (l.drop s.1)).1, partR s (tkS (l.drop s.1)).2.1 (tkS (l.drop s.1)).2.2)
def vecR (l : List Nat) (s : Rd) : List Int × Rd := ((tkV (l.drop s.1)).1, partR s (tkV (l.drop s.1)).2.1 (tkV (l.drop s.1)).2.2)
def textR (l : List Nat) (s : Rd) : List Nat × Rd := ((tkT (l.drop s.1)).1, partR s (tkT (l.drop s.1)).2.1 (tkT (l.drop s.1)).2.2)
theorem partR_len {l : List Nat} {s : Rd} (h : s.1 ≤ l.length) {n : Nat} (hn : n ≤ (l.drop s.1).length) (e : Int) : (partR s n e).1 ≤ l.length := by
  unfold partR
  rw [List.length_drop] at hn
  split
  · show s.1 + n ≤ l.length; omega
  · exact h
theorem numR_len {l : List Nat} {s : Rd} (h : s.1 ≤ l.length) : (numR l s).2.1 ≤ l.length := partR_len h (tkN_len _) _
theorem placeR_len {l : List Nat} {s : Rd} (h : s.1 ≤ l.length) : (placeR l s).2.1 ≤ l.length := partR_len h (tkS_len _) _
theorem vecR_len {l : List Nat} {s : Rd} (h : s.1 ≤ l.length) : (vecR l s).2.1 ≤ l.length := partR_len h (tkV_len _) _
theorem textR_len {l : List Nat} {s : Rd} (h : s.1 ≤ l.length) : (textR l s).2.1 ≤ l.length := partR_len h (tkT_len _) _
def zeroO : D.Op := ⟨⟨0, 0⟩, 0, [], 0, ⟨0, 0⟩, ⟨0, 0⟩, [], 0, 0⟩
/-- behind the kind -/
def bodyR (l : List Nat) (st : D.Stamp) (v : List Int) (k : Int) (s : Rd) : D.Op × Rd :=
  if k = 1 then (⟨st, 0, v, k, (placeR l s).1, (placeR l (placeR l s).2).1, (textR l (placeR l (placeR l s).2).2).1, 0, 0⟩, (textR l (placeR l (placeR l s).2).2).2)
  else (⟨st, 0, v, k, (placeR l s).1, ⟨0, 0⟩, [], (numR l (placeR l s).2).1, (numR l (numR l (placeR l s).2).2).1 - 1⟩, (numR l (numR l (placeR l s).2).2).2)
def kindR (k : Int) (s : Rd) : Rd := if k = 1 then s else if k = 2 then s else partR s 0 1
def readR (l : List Nat) : D.Op × Rd :=
  bodyR l (placeR l (0, 0)).1 (vecR l (placeR l (0, 0)).2).1 (numR l (vecR l (placeR l (0, 0)).2).2).1 (kindR (numR l (vecR l (placeR l (0, 0)).2).2).1 (numR l (vecR l (placeR l (0, 0)).2).2).2)
def takeO (l : List Nat) : Tk D.Op := if (readR l).2.2 = 0 then (match (readR l).1.deps[(readR l).1.stamp.rep.toNat]? with
  | some x => if mayO { (readR l).1 with seq := x + 1 } = true then ({ (readR l).1 with seq := x + 1 }, (readR l).2.1, 0) else (zeroO, 0, 1)
  | none => (zeroO, 0, 1)) else (zeroO, 0, (readR l).2.2)
section
variable {G : Hp} {p : Nat} {a : AV} {l : List Nat} {s : Rd} {Post : AV → Hp → Prop}
theorem rdc0 : rdH (G.put p (rdC a s)) p 0 1 = some [a] := by unfold rdH; rw [Hp.put_same]; rfl
theorem rdc1 : rdH (G.put p (rdC a s)) p 1 1 = some [.i .i64 (s.1 : Nat)] := by unfold rdH; rw [Hp.put_same]; rfl
theorem rdc2 : rdH (G.put p (rdC a s)) p 2 1 = some [.i .i64 s.2] := by unfold rdH; rw [Hp.put_same]; rfl
theorem c83 {n : Nat} {e : Int} (ha : a.sc = true) (hlo : G.lo ≤ p) (hn : s.1 + n < 32000000) (k : Post (.tup []) (G.put p (rdC a (partR s n e)))) : wpC Try.prog 83 [.p p 0, .i .i64 (n : Nat), .i .i64 e] Post (G.put p (rdC a s)) := by
  refine call_sound (args := [.vv (.p p 0), .ii .i64 n, .ii .i64 e]) (cuts := []) ⟨rfl, trivial, trivial, trivial⟩ ?_
  rw [vc83]
  unfold partR at k
  refine onO.mk (a := (p, 0)) rfl (onO.mk rdc2 (onL.i1 (onB.dec (fun e1 => ?_) (fun e1 => ?_))))
  · rw [if_pos e1] at k
    refine onO.mk (a := (p, 0)) rfl (onO.mk rdc1 (onL.i1 (onO.mk (add64 (by omega) (by omega)) (onO.mk (a := (p, 0)) rfl ?_))))
    refine wpE.w (Hp.put_same _ _ _) hlo rfl (by show 0 + 1 + 1 ≤ 3; omega) rfl ?_
    rw [put_put]
    refine onO.mk (a := (p, 0)) rfl (wpE.w (Hp.put_same _ _ _) hlo rfl (by show 0 + 2 + 1 ≤ 3; omega) rfl ?_)
    rw [put_put]
    exact k
  · rw [if_neg e1] at k; exact k
variable (br : BR G a l) (hlo : G.lo ≤ p) (hp : G.g p = none) (hs : s.1 ≤ l.length) (hb : l.length < 31000000)
include br hlo hp hs hb
theorem c84 (k : Post (.i .i64 (numR l s).1) (G.put p (rdC a (numR l s).2))) : wpC Try.prog 84 [.p p 0] Post (G.put p (rdC a s)) := by
  refine call_sound (args := [.vv (.p p 0)]) (cuts := []) ⟨rfl, trivial⟩ ?_
  rw [vc84]
  have hl := tkN_len (l.drop s.1)
  rw [List.length_drop] at hl
  refine onO.mk (a := (p, 0)) rfl (onO.mk rdc0 (onL.r1 br.sc (onO.mk (a := (p, 0)) rfl (onO.mk rdc1 (onL.i1 ((br.mono (Hp.le_put hp)).from rfl hs fun r' b' => c97 b' (by simp; omega) (onTup.iii' (c83 br.sc hlo (by omega) (onTup.z k)))))))))
theorem c81 (k : Post (.agg [.i .i64 (placeR l s).1.time, .i .i64 (placeR l s).1.rep]) (G.put p (rdC a (placeR l s).2))) : wpC Try.prog 81 [.p p 0] Post (G.put p (rdC a s)) := by
  refine call_sound (args := [.vv (.p p 0)]) (cuts := []) ⟨rfl, trivial⟩ ?_
  rw [vc81]
  have hl := tkS_len (l.drop s.1)
  rw [List.length_drop] at hl
  refine fun _ => onO.mk (a := (p, 0)) rfl (onO.mk rdc0 (onL.r1 br.sc (onO.mk (a := (p, 0)) rfl (onO.mk rdc1 (onL.i1 ((br.mono (Hp.le_put hp)).from rfl hs fun r' b' => c95 b' (by simp; omega) (onTup.aii fun _ => c83 br.sc hlo (by omega) (onTup.z k))))))))
end
theorem kindR_len {l : List Nat} {k : Int} {s : Rd} (h : s.1 ≤ l.length) : (kindR k s).1 ≤ l.length := by
  unfold kindR
  split
  · exact h
  · split
    · exact h
    · exact partR_len h (Nat.zero_le _) _
section
variable {G : Hp} {p : Nat} {a : AV} {l : List Nat} {Post : AV → Hp → Prop}
theorem c67 (br : BR G a l) (hlo : G.lo ≤ p) (hp : G.g p = none) (hb : l.length < 31000000) (k : ∀ d G', Kn.int.Own G G' d (readR l).1.deps → G'.g p = none → Post (.agg (opC (readR l).1 d)) (G'.put p (rdC a (readR l).2))) : wpC Try.prog 67 [.p p 0] Post (G.put p (rdC a (0, 0))) := by
  refine call_sound (args := [.vv (.p p 0)]) (cuts := []) ⟨rfl, trivial⟩ ?_
  rw [vc67]
  have l1 := placeR_len (l := l) (s := (0, 0)) (Nat.zero_le _)
  have l2 := vecR_len l1
  have l3 := numR_len l2
  have hv := tkV_len (l.drop (placeR l (0, 0)).2.1)
  rw [List.length_drop] at hv
  refine fun _ => c81 br hlo hp (Nat.zero_le _) hb (onRet.a2 ?_)
  refine onO.mk (a := (p, 0)) rfl (onO.mk rdc0 (onL.r1 br.sc (onO.mk (a := (p, 0)) rfl (onO.mk rdc1 (onL.i1 ?_)))))
  obtain ⟨r', e1, b'⟩ := br.cut (lo := some (((placeR l (0, 0)).2.1 : Nat) : Int)) (hi := none) (sz := 1) rfl rfl rfl l1 (Nat.le_refl _)
  rw [List.take_of_length_le (by simp)] at b'
  refine onO.mk e1 ?_
  have w : wpC Try.prog 82 [r'] (fun v G' => ∃ d, v = .tup [d, .i .i64 ((tkV (l.drop (placeR l (0, 0)).2.1)).2.1 : Nat), .i .i64 (tkV (l.drop (placeR l (0, 0)).2.1)).2.2] ∧ Kn.int.Own G G' d (tkV (l.drop (placeR l (0, 0)).2.1)).1) G := c82 b' (by simp; omega) fun d G' o => ⟨d, rfl, o⟩
  refine (wpC.putp hp (rdC a (placeR l (0, 0)).2) w).mono ?_
  rintro _ _ ⟨G', rfl, hp', hlo', d, rfl, ow⟩
  have br' := br.mono ow.le
  have hlo2 : G'.lo ≤ p := by rw [hlo']; exact hlo
  refine onTup.rii ow.sc (c83 br.sc hlo2 (by omega) (onTup.z ?_))
  refine c84 br' hlo2 hp' (s := (vecR l (placeR l (0, 0)).2).2) l2 hb (onRet.i ?_)
  have last : ∀ s4 : Rd, s4 = kindR (numR l (vecR l (placeR l (0, 0)).2).2).1 (numR l (vecR l (placeR l (0, 0)).2).2).2 → ∀ o s, (o, s) = bodyR l (placeR l (0, 0)).1 (vecR l (placeR l (0, 0)).2).1 (numR l (vecR l (placeR l (0, 0)).2).2).1 s4 → Post (.agg (opC o d)) (G'.put p (rdC a s)) := fun s4 h4 o s hos => by
    have hr : readR l = (o, s) := by unfold readR; rw [← h4, ← hos]
    have hd : (readR l).1.deps = (vecR l (placeR l (0, 0)).2).1 := by
      unfold readR bodyR
      split <;> rfl
    have := k d G' (by rw [hd]; exact ow) hp'
    rw [hr] at this
    exact this
  have l4 := kindR_len (k := (numR l (vecR l (placeR l (0, 0)).2).2).1) l3
  refine onB.ndec (fun e1 => onB.ndec (fun e2 => c83 (n := 0) br.sc hlo2 (by omega) (onTup.z ?_)) (fun e2 => ?_)) (fun e1 => ?_)
  · have h4 : partR (numR l (vecR l (placeR l (0, 0)).2).2).2 0 1 = kindR (numR l (vecR l (placeR l (0, 0)).2).2).1 (numR l (vecR l (placeR l (0, 0)).2).2).2 := by unfold kindR; rw [if_neg e1, if_neg e2]
    rw [← h4] at l4
    have hl := last _ h4
    unfold bodyR at hl
    rw [if_neg e1] at hl
    have l5 := placeR_len l4
    refine c81 br' hlo2 hp' l4 hb (onRet.a2 (onB.neg (decide_eq_false e1) (c84 br' hlo2 hp' l5 hb (onRet.i (c84 br' hlo2 hp' (numR_len l5) hb (onRet.i ?_))))))
    have hn := tkN_num (l.drop (numR l (placeR l (partR (numR l (vecR l (placeR l (0, 0)).2).2).2 0 1)).2).2.1)
    exact onO.mk (sub64 (by unfold numR at *; omega) (by unfold numR at *; omega)) (hl _ _ rfl)
  · have h4 : (numR l (vecR l (placeR l (0, 0)).2).2).2 = kindR (numR l (vecR l (placeR l (0, 0)).2).2).1 (numR l (vecR l (placeR l (0, 0)).2).2).2 := by unfold kindR; rw [if_neg e1, if_pos e2]
    have hl := last _ h4
    unfold bodyR at hl
    rw [if_neg e1] at hl
    have l5 := placeR_len l3
    refine c81 br' hlo2 hp' l3 hb (onRet.a2 (onB.neg (decide_eq_false e1) (c84 br' hlo2 hp' l5 hb (onRet.i (c84 br' hlo2 hp' (numR_len l5) hb (onRet.i ?_))))))
    have hn := tkN_num (l.drop (numR l (placeR l (numR l (vecR l (placeR l (0, 0)).2).2).2).2).2.1)
    exact onO.mk (sub64 (by unfold numR at *; omega) (by unfold numR at *; omega)) (hl _ _ rfl)
  · have h4 : (numR l (vecR l (placeR l (0, 0)).2).2).2 = kindR (numR l (vecR l (placeR l (0, 0)).2).2).1 (numR l (vecR l (placeR l (0, 0)).2).2).2 := by unfold kindR; rw [if_pos e1]
    have hl := last _ h4
    unfold bodyR at hl
    rw [if_pos e1] at hl
    have l5 := placeR_len l3
    have l6 := placeR_len l5
    refine c81 br' hlo2 hp' l3 hb (onRet.a2 (onB.pos (decide_eq_true e1) (c81 br' hlo2 hp' l5 hb (onRet.a2 ?_))))
    refine onO.mk (a := (p, 0)) rfl (onO.mk rdc0 (onL.r1 br.sc (onO.mk (a := (p, 0)) rfl (onO.mk rdc1 (onL.i1 ?_)))))
    have ht := tkT_len (l.drop (placeR l (placeR l (numR l (vecR l (placeR l (0, 0)).2).2).2).2).2.1)
    rw [List.length_drop] at ht
    exact (br'.mono (Hp.le_put hp')).from rfl l6 fun r2 b2 => c85 b2 (by simp; omega) (onTup.sii (c83 br.sc hlo2 (by omega) (onTup.z (hl _ _ rfl))))
theorem tkS_rep (l : List Nat) : 0 ≤ (tkS l).1.rep := by
  unfold tkS
  split
  · split
    · split
      · rename_i h; exact (placeV_fits h).2.2.1
      · simp
    · simp
  · simp
theorem Fresh.moren {g h : Hp} {a : AV} {sz : Nat} {css : List (List AV)} (f : Fresh g h a sz css) {b : Nat} (hb : h.g b = none) (cs : List AV) : Fresh g (h.put b cs) a sz css := by
  have key : ∀ b' o len lo ex z, a = .sl b' o len lo ex z → b' ≠ b := fun b' o len lo ex z e e' => by
    obtain ⟨_, _, c, n3, _⟩ := f.new _ _ _ _ _ _ e
    rw [e', hb] at n3; cases n3
  refine ⟨Hp.le_trans f.le (Hp.le_put hb), f.lo, f.row.mono (Hp.le_put hb), fun b' o len lo ex z e => ?_⟩
  obtain ⟨n1, n2, cs', n3, n4⟩ := f.new _ _ _ _ _ _ e
  exact ⟨n1, n2, cs', by rw [Hp.put_ne _ _ (key _ _ _ _ _ _ e)]; exact n3, n4⟩
theorem Kn.Own.moren {α : Type} {d : Kn α} {g h : Hp} {a : AV} {l : List α} (o : d.Own g h a l) {b : Nat} (hb : h.g b = none) (cs : List AV) : d.Own g (h.put b cs) a l := by
  obtain ⟨p, css, h0, h01, f, h1⟩ := o
  exact ⟨p, css, h0, h01, f.moren hb cs, h1⟩
theorem c29o {h : Hp} (br : BR h a l) (hb : l.length < 31000000) (k : ∀ d h', Kn.int.Own h h' d (takeO l).1.deps → Post (.tup [.agg (opC (takeO l).1 d), .i .i64 ((takeO l).2.1 : Nat), .i .i64 (takeO l).2.2]) h') : wpC Try.prog 46 [a] Post h := by
  refine call_sound (args := [.vv a]) (cuts := []) ⟨br.sc, trivial⟩ ?_
  rw [vc46]
  refine fun _ p hp hlo => c67 br hlo hp hb fun d G' ow hp' => onRet.op ow.sc ?_
  have le' : h.le (G'.put p (rdC a (readR l).2)) := Hp.le_trans ow.le (Hp.le_put hp')
  have lo' : (G'.put p (rdC a (readR l).2)).lo = h.lo := ow.lo
  have rd' : IR (G'.put p (rdC a (readR l).2)) d (readR l).1.deps := ow.row.mono (Hp.le_put hp')
  have kz : ∀ e : Int, takeO l = (zeroO, 0, e) → Post (.tup [.agg (opC zeroO .ns), .i .i64 0, .i .i64 e]) (G'.put p (rdC a (readR l).2)) := fun e he => by
    have := k .ns _ (by rw [he]; exact (Kn.Own.nil _ _).mono le' lo')
    rw [he] at this
    exact this
  have hst : (readR l).1.stamp = (placeR l (0, 0)).1 := by
    unfold readR bodyR
    split <;> rfl
  have hrep : 0 ≤ (readR l).1.stamp.rep := by rw [hst]; exact tkS_rep _
  have hdep : (readR l).1.deps = (vecR l (placeR l (0, 0)).2).1 := by
    unfold readR bodyR
    split <;> rfl
  have hvv : (vecR l (placeR l (0, 0)).2).1 = [] ∨ vecV (vecR l (placeR l (0, 0)).2).1 = true := by
    show (tkV _).1 = [] ∨ vecV (tkV _).1 = true
    unfold tkV
    split
    · split
      · rename_i h; exact .inr h
      · exact .inl rfl
    · exact .inl rfl
  unfold takeO at kz k
  refine onO.mk rdc2 (onL.i1 (onB.ndec (fun e1 => kz _ (by rw [if_neg e1])) (fun e1 => onO.mk rd'.len (onB.dec (fun e2 => kz _ ?_) (fun e2 => ?_)))))
  · rw [if_pos e1, List.getElem?_eq_none (by omega)]
  · obtain ⟨q, hq⟩ := Int.eq_ofNat_of_zero_le hrep
    have hqn : (readR l).1.stamp.rep.toNat = q := by omega
    obtain ⟨x, hx⟩ := get_lt (l := (readR l).1.deps) (k := q) (by omega)
    have hxx : 0 ≤ x ∧ x ≤ 1099511627776 := by
      rcases hvv with hv | hv
      · rw [hdep, hv] at hx; simp at hx
      · exact vecV_at hv (by rw [hdep] at hx; exact hx)
    rw [if_pos e1, hqn, hx] at kz k
    simp only at kz k
    have hidx : onO (idxV d (readR l).1.stamp.rep 1) fun r0 => onO (rdH (G'.put p (rdC a (readR l).2)) r0.1 r0.2 1) fun l0 => onL [Kd.int .i64] l0 fun n => n = x := by rw [hq]; exact int0 rd' hx rfl
    have hlen : (readR l).1.deps.length < 32000000 := by
      rcases hvv with hv | hv
      · rw [hdep, hv]; simp
      · rw [hdep]; have := vecV_len hv; omega
    rw [hq]
    refine int0 rd' hx (onO.mk (add64 (by omega) (by omega)) ?_)
    rw [← hq]
    refine c68 (o := { (readR l).1 with seq := x + 1 }) rd' hlen (onRet.b (onB.mk (fun e3 => ?_) (fun e3 => kz _ (by rw [e3]; rfl))))
    rw [if_pos e3] at k
    exact onO.mk rdc1 (onL.i1 (k d _ (ow.moren hp' _)))
end
def Bytes8 (l : List Nat) : Prop := ∀ x ∈ l, x < 256
theorem Bytes8.drop {l : List Nat} (h : Bytes8 l) (n : Nat) : Bytes8 (l.drop n) := fun x hx => h x (List.mem_of_mem_drop hx)
structure Good {α : Type} (p : List Nat → Tk α) (e : α → List Nat) (ok : α → Prop) : Prop where
  put : ∀ a rest, ok a → p (e a ++ rest) = (a, (e a).length, 0)
  cut : ∀ a j, ok a → j < (e a).length → (p ((e a).take j)).2.2 = 7
  was : ∀ l, Bytes8 l → (p l).2.2 = 0 → ok (p l).1 ∧ (p l).2.1 = (e (p l).1).length ∧ l.take (p l).2.1 = e (p l).1
/-! ### numbers -/
theorem pow_succ7 (i : Nat) : 2 ^ (7 * (i + 1)) = 128 * 2 ^ (7 * i) := by rw [Nat.mul_succ, Nat.pow_add]; omega
theorem split128 (n P : Nat) : n * P = n % 128 * P + n / 128 * (128 * P) := by
  conv => lhs; rw [← Nat.mod_add_div n 128, Nat.add_mul]
  congr 1
  rw [Nat.mul_comm 128, Nat.mul_assoc]
theorem tkF_cons (b : Nat) (l : List Nat) (i acc : Nat) : tkF (b :: l) i acc = if 128 ≤ b ∧ i = 8 then (0, 0, 1) else if 128 ≤ b then tkF l (i + 1) (acc + b % 128 * 2 ^ (7 * i)) else
    if b = 0 ∧ 0 < i ∨ 4611686018427387904 < acc + b * 2 ^ (7 * i) then (0, 0, 1) else ((acc + b * 2 ^ (7 * i) : Nat), i + 1, 0) := rfl
theorem big_step {n i acc : Nat} (hn : 128 ≤ n) (hi : i ≤ 8) (h : acc + n * 2 ^ (7 * i) ≤ 4611686018427387904) : i ≠ 8 := by
  rintro rfl
  have : 128 * 2 ^ (7 * 8) ≤ n * 2 ^ (7 * 8) := Nat.mul_le_mul_right _ hn
  have e : (128 : Nat) * 2 ^ (7 * 8) = 9223372036854775808 := by decide
  omega
theorem tkF_put : ∀ (n i acc : Nat) (rest : List Nat), i ≤ 8 → (0 < i → 0 < n) → acc + n * 2 ^ (7 * i) ≤ 4611686018427387904 → tkF (enc n ++ rest) i acc = (((acc + n * 2 ^ (7 * i) : Nat) : Int), i + (enc n).length, 0) := by
  intro n
  induction n using Nat.strongRecOn with
  | ind n ih =>
    intro i acc rest hi h0 hb
    by_cases hn : n < 128
    · rw [enc_small hn]
      show tkF (n :: rest) i acc = _
      rw [tkF_cons, if_neg (by omega), if_neg (by omega), if_neg (by omega)]; rfl
    · have h8 := big_step (n := n) (by omega) hi hb
      have hs := split128 n (2 ^ (7 * i))
      rw [enc_big (by omega), List.cons_append, tkF_cons, if_neg (by omega), if_pos (by omega), show (n % 128 + 128) % 128 = n % 128 by omega]
      rw [ih (n / 128) (by omega) (i + 1) _ rest (by omega) (fun _ => by omega) (by rw [pow_succ7]; omega), pow_succ7]
      rw [show acc + n % 128 * 2 ^ (7 * i) + n / 128 * (128 * 2 ^ (7 * i)) = acc + n * 2 ^ (7 * i) by omega]
      rw [List.length_cons]
      congr 2; omega
theorem tkF_cut : ∀ (n i acc j : Nat), i ≤ 8 → acc + n * 2 ^ (7 * i) ≤ 4611686018427387904 → j < (enc n).length → (tkF ((enc n).take j) i acc).2.2 = 7 := by
  intro n
  induction n using Nat.strongRecOn with
  | ind n ih =>
    intro i acc j hi hb hj
    cases j with
    | zero => rfl
    | succ j =>
      by_cases hn : n < 128
      · rw [enc_small hn] at hj; simp at hj
      · have h8 := big_step (n := n) (by omega) hi hb
        have hs := split128 n (2 ^ (7 * i))
        rw [enc_big (by omega)] at hj ⊢
        rw [List.take_succ_cons, tkF_cons, if_neg (by omega), if_pos (by omega), show (n % 128 + 128) % 128 = n % 128 by omega]
        exact ih (n / 128) (by omega) (i + 1) _ j (by omega) (by rw [pow_succ7]; omega) (by simpa using hj)
theorem tkF_was : ∀ (l : List Nat) (i acc : Nat), Bytes8 l → (tkF l i acc).2.2 = 0 → ∃ n : Nat, tkF l i acc = (((acc + n * 2 ^ (7 * i) : Nat) : Int), i + (enc n).length, 0) ∧ l.take (enc n).length = enc n ∧ (0 < i → 0 < n)
  | [], i, acc, _, h => by cases h
  | b :: l, i, acc, hl, h => by
    have hb := hl b (by simp)
    rw [tkF_cons] at h ⊢
    by_cases h1 : 128 ≤ b ∧ i = 8
    · rw [if_pos h1] at h; cases h
    · rw [if_neg h1] at h ⊢
      by_cases h2 : 128 ≤ b
      · rw [if_pos h2] at h ⊢
        obtain ⟨n, e1, e2, e3⟩ := tkF_was l (i + 1) _ (fun x hx => hl x (by simp [hx])) h
        have hn := e3 (by omega)
        have hs := split128 (b % 128 + 128 * n) (2 ^ (7 * i))
        rw [show (b % 128 + 128 * n) % 128 = b % 128 by omega, show (b % 128 + 128 * n) / 128 = n by omega] at hs
        refine ⟨b % 128 + 128 * n, ?_, ?_, fun _ => by omega⟩
        · rw [e1, pow_succ7, enc_big (n := b % 128 + 128 * n) (by omega), show (b % 128 + 128 * n) / 128 = n by omega, List.length_cons]
          rw [show acc + b % 128 * 2 ^ (7 * i) + n * (128 * 2 ^ (7 * i)) = acc + (b % 128 + 128 * n) * 2 ^ (7 * i) by omega]
          congr 2; omega
        · rw [enc_big (n := b % 128 + 128 * n) (by omega), show (b % 128 + 128 * n) / 128 = n by omega, List.length_cons, List.take_succ_cons, e2]
          congr 1; omega
      · rw [if_neg h2] at h ⊢
        by_cases h3 : b = 0 ∧ 0 < i ∨ 4611686018427387904 < acc + b * 2 ^ (7 * i)
        · rw [if_pos h3] at h; cases h
        · rw [if_neg h3]
          refine ⟨b, ?_, ?_, fun _ => by omega⟩
          · rw [enc_small (by omega)]; rfl
          · rw [enc_small (by omega)]; rfl
def okN (n : Int) : Prop := 0 ≤ n ∧ n ≤ 4611686018427387904
theorem goodN : Good tkN (fun n => enc n.toNat) okN where
  put n rest h := by
    obtain ⟨m, rfl⟩ := Int.eq_ofNat_of_zero_le h.1
    have h2 := h.2
    show tkF (enc m ++ rest) 0 0 = _
    rw [tkF_put m 0 0 rest (by omega) (by omega) (by simp; omega)]
    simp
  cut n j h hj := by
    obtain ⟨m, rfl⟩ := Int.eq_ofNat_of_zero_le h.1
    have h2 := h.2
    exact tkF_cut m 0 0 j (by omega) (by simp; omega) hj
  was l hl h := by
    obtain ⟨n, e1, e2, _⟩ := tkF_was l 0 0 hl h
    have hn := tkN_num l
    have e1 : tkN l = ((n : Int), (enc n).length, 0) := by unfold tkN; rw [e1]; simp
    rw [e1] at hn ⊢
    exact ⟨hn, rfl, e2⟩
section
variable {α : Type} {p : List Nat → Tk α} {e : α → List Nat} {ok : α → Prop} (gp : Good p e ok)
include gp
theorem Good.at {l pre rest : List Nat} {a : α} (h : ok a) (hl : l = pre ++ (e a ++ rest)) : p (l.drop pre.length) = (a, (e a).length, 0) := by
  rw [hl, List.drop_left]; exact gp.put a rest h
theorem Good.cutAt {l pre : List Nat} {a : α} {j : Nat} (h : ok a) (hj : j < (e a).length) (hl : l = pre ++ (e a).take j) : (p (l.drop pre.length)).2.2 = 7 := by
  rw [hl, List.drop_left]; exact gp.cut a j h hj
/-- a reader's step that went well -/
theorem Good.step {l : List Nat} {s : Rd} (hl : Bytes8 l) (hs : s.1 ≤ l.length) (h : (partR s (p (l.drop s.1)).2.1 (p (l.drop s.1)).2.2).2 = 0) :
    s.2 = 0 ∧ (p (l.drop s.1)).2.2 = 0 ∧ ok (p (l.drop s.1)).1 ∧ (partR s (p (l.drop s.1)).2.1 (p (l.drop s.1)).2.2).1 = s.1 + (p (l.drop s.1)).2.1 ∧ l.take (s.1 + (p (l.drop s.1)).2.1) = l.take s.1 ++ e (p (l.drop s.1)).1 := by
  unfold partR at h ⊢
  by_cases h0 : s.2 = 0
  · rw [if_pos h0] at h ⊢
    have h : (p (l.drop s.1)).2.2 = 0 := h
    obtain ⟨w1, w2, w3⟩ := gp.was _ (hl.drop _) h
    exact ⟨h0, h, w1, rfl, by rw [List.take_add, w3]⟩
  · rw [if_neg h0] at h; exact absurd h h0
end
theorem partR_ok {k n : Nat} {e : Int} : partR (k, 0) n e = (k + n, e) := rfl
/-! ### stamps -/
def encS (s : D.Stamp) : List Nat := enc s.time.toNat ++ enc s.rep.toNat
theorem place_ok {s : D.Stamp} (h : placeV s = true) : okN s.time ∧ okN s.rep := by
  have := placeV_fits h
  exact ⟨⟨by omega, by omega⟩, ⟨by omega, by omega⟩⟩
theorem goodS : Good tkS encS (fun s => placeV s = true) where
  put s rest h := by
    obtain ⟨h1, h2⟩ := place_ok h
    have e1 := goodN.put s.time (enc s.rep.toNat ++ rest) h1
    have e2 := goodN.put s.rep rest h2
    unfold tkS encS
    rw [List.append_assoc, e1]
    simp only [List.drop_left, e2, if_true]
    rw [if_pos h, List.length_append]
  cut s j h hj := by
    obtain ⟨h1, h2⟩ := place_ok h
    unfold encS at hj ⊢
    rw [List.length_append] at hj
    unfold tkS
    by_cases hc : j < (enc s.time.toNat).length
    · rw [List.take_append_of_le_length (by omega)]
      have := goodN.cut s.time j h1 hc
      simp only [this]
      rw [if_neg (by decide)]
    · have e : (enc s.time.toNat ++ enc s.rep.toNat).take j = enc s.time.toNat ++ (enc s.rep.toNat).take (j - (enc s.time.toNat).length) := by rw [List.take_append, List.take_of_length_le (by omega)]
      rw [e]
      have e1 := goodN.put s.time ((enc s.rep.toNat).take (j - (enc s.time.toNat).length)) h1
      have e2 := goodN.cut s.rep (j - (enc s.time.toNat).length) h2 (by omega)
      rw [e1]
      simp only [List.drop_left, if_true, e2]
      rw [if_neg (by decide)]
  was l hl h := by
    unfold tkS at h ⊢
    by_cases h1 : (tkN l).2.2 = 0
    · rw [if_pos h1] at h ⊢
      by_cases h2 : (tkN (l.drop (tkN l).2.1)).2.2 = 0
      · rw [if_pos h2] at h ⊢
        by_cases h3 : placeV ⟨(tkN l).1, (tkN (l.drop (tkN l).2.1)).1⟩ = true
        · rw [if_pos h3]
          obtain ⟨w1, w2, w3⟩ := goodN.was l hl h1
          obtain ⟨w4, w5, w6⟩ := goodN.was _ (hl.drop _) h2
          refine ⟨h3, ?_, ?_⟩
          · show (tkN l).2.1 + (tkN (l.drop (tkN l).2.1)).2.1 = _
            unfold encS
            rw [List.length_append, ← w2, ← w5]
          · show l.take ((tkN l).2.1 + (tkN (l.drop (tkN l).2.1)).2.1) = _
            rw [List.take_add, w3, w6]; rfl
        · rw [if_neg h3] at h; cases h
      · rw [if_neg h2] at h; exact absurd h h2
    · rw [if_neg h1] at h; exact absurd h h1
/-! ### texts -/
def encT (s : List Nat) : List Nat := enc s.length ++ s
def okT (s : List Nat) : Prop := s.length ≤ 65536 ∧ Bytes8 s
theorem goodT : Good tkT encT okT where
  put s rest h := by
    have h1 : okN (s.length : Int) := ⟨by omega, by have := h.1; omega⟩
    have hL := h.1
    have e1 := goodN.put (s.length : Int) (s ++ rest) h1
    rw [Int.toNat_natCast] at e1
    unfold tkT encT
    rw [List.append_assoc, e1]
    simp only [if_true, List.drop_left, Int.toNat_natCast, List.take_left]
    rw [if_neg (by omega), if_neg (by simp only [List.length_append]; omega), List.length_append]
  cut s j h hj := by
    have h1 : okN (s.length : Int) := ⟨by omega, by have := h.1; omega⟩
    have hL := h.1
    unfold encT at hj ⊢
    rw [List.length_append] at hj
    unfold tkT
    by_cases hc : j < (enc s.length).length
    · rw [List.take_append_of_le_length (by omega)]
      have := goodN.cut (s.length : Int) j h1 hc
      rw [Int.toNat_natCast] at this
      simp only [this]
      rw [if_neg (by decide)]
    · have e : (enc s.length ++ s).take j = enc s.length ++ s.take (j - (enc s.length).length) := by rw [List.take_append, List.take_of_length_le (by omega)]
      rw [e]
      have e1 := goodN.put (s.length : Int) (s.take (j - (enc s.length).length)) h1
      rw [Int.toNat_natCast] at e1
      rw [e1]
      simp only [if_true]
      rw [if_neg (by omega), if_pos]
      simp only [List.length_append, List.length_take]; omega
  was l hl h := by
    unfold tkT at h ⊢
    by_cases h1 : (tkN l).2.2 = 0
    · rw [if_pos h1] at h ⊢
      by_cases h2 : 65536 < (tkN l).1
      · rw [if_pos h2] at h; cases h
      · rw [if_neg h2] at h ⊢
        by_cases h3 : (l.length : Int) - (tkN l).2.1 < (tkN l).1
        · rw [if_pos h3] at h; cases h
        · rw [if_neg h3]
          obtain ⟨w1, w2, w3⟩ := goodN.was l hl h1
          have hL : ((l.drop (tkN l).2.1).take (tkN l).1.toNat).length = (tkN l).1.toNat := by
            rw [List.length_take, List.length_drop]; have := w1.1; omega
          refine ⟨⟨by rw [hL]; have := w1.1; omega, fun x hx => hl x (List.mem_of_mem_drop (List.mem_of_mem_take hx))⟩, ?_, ?_⟩
          · show (tkN l).2.1 + (tkN l).1.toNat = (encT _).length
            unfold encT
            rw [hL, List.length_append, hL, ← w2]
          · show l.take ((tkN l).2.1 + (tkN l).1.toNat) = encT _
            unfold encT
            rw [hL, List.take_add, w3]
    · rw [if_neg h1] at h; exact absurd h h1
/-! ### rows of numbers -/
theorem encs_cons (x : Int) (v : List Int) : encs (x :: v) = enc x.toNat ++ encs v := by simp [encs]
theorem tkNsF_put : ∀ (v : List Int) (l rest pre : List Nat) (acc : List Int), (∀ x ∈ v, okN x) → l = pre ++ (encs v ++ rest) → tkNsF v.length l acc pre.length = (acc ++ v, pre.length + (encs v).length, 0)
  | [], l, rest, pre, acc, _, hl => by simp [tkNsF, encs]
  | x :: v, l, rest, pre, acc, hv, hl => by
    rw [encs_cons] at hl
    have e1 := goodN.at (a := x) (l := l) (pre := pre) (rest := encs v ++ rest) (hv x (by simp)) (by rw [hl]; simp [List.append_assoc])
    rw [List.length_cons, tkNsF_succ, e1]
    simp only [if_true]
    have := tkNsF_put v l rest (pre ++ enc x.toNat) (acc ++ [x]) (fun y hy => hv y (by simp [hy])) (by rw [hl]; simp [List.append_assoc])
    rw [List.length_append] at this
    rw [this, encs_cons, List.length_append]
    simp [Nat.add_assoc]
theorem tkNsF_cut : ∀ (v : List Int) (l pre : List Nat) (acc : List Int) (j : Nat), (∀ x ∈ v, okN x) → j < (encs v).length → l = pre ++ (encs v).take j → (tkNsF v.length l acc pre.length).2.2 = 7
  | [], l, pre, acc, j, _, hj, hl => by simp [encs] at hj
  | x :: v, l, pre, acc, j, hv, hj, hl => by
    rw [encs_cons] at hl hj
    rw [List.length_append] at hj
    rw [List.length_cons, tkNsF_succ]
    by_cases hc : j < (enc x.toNat).length
    · rw [List.take_append_of_le_length (by omega)] at hl
      have e1 := goodN.cutAt (a := x) (hv x (by simp)) hc hl
      rw [if_neg (by rw [e1]; decide)]; exact e1
    · have e : (enc x.toNat ++ encs v).take j = enc x.toNat ++ (encs v).take (j - (enc x.toNat).length) := by rw [List.take_append, List.take_of_length_le (by omega)]
      rw [e] at hl
      have e1 := goodN.at (a := x) (hv x (by simp)) hl
      rw [e1]
      simp only [if_true]
      have := tkNsF_cut v l (pre ++ enc x.toNat) (acc ++ [x]) (j - (enc x.toNat).length) (fun y hy => hv y (by simp [hy])) (by omega) (by rw [hl]; simp [List.append_assoc])
      rw [List.length_append] at this
      exact this
theorem tkNsF_was : ∀ (m : Nat) (l : List Nat) (acc : List Int) (k : Nat), Bytes8 l → k ≤ l.length → (tkNsF m l acc k).2.2 = 0 → ∃ v, tkNsF m l acc k = (acc ++ v, k + (encs v).length, 0) ∧ v.length = m ∧ (∀ x ∈ v, okN x) ∧ l.take (k + (encs v).length) = l.take k ++ encs v
  | 0, l, acc, k, _, _, _ => ⟨[], by simp [tkNsF, encs], rfl, by simp, by simp [encs]⟩
  | m + 1, l, acc, k, hl, hk, h => by
    rw [tkNsF_succ] at h ⊢
    by_cases h1 : (tkN (l.drop k)).2.2 = 0
    · rw [if_pos h1] at h ⊢
      obtain ⟨w1, w2, w3⟩ := goodN.was _ (hl.drop k) h1
      have hlen := tkN_len (l.drop k)
      rw [List.length_drop] at hlen
      obtain ⟨v, e1, e2, e3, e4⟩ := tkNsF_was m l _ _ hl (by omega) h
      refine ⟨(tkN (l.drop k)).1 :: v, ?_, by simp [e2], fun x hx => ?_, ?_⟩
      · rw [e1, encs_cons, List.length_append, ← w2]
        simp [Nat.add_assoc]
      · rcases List.mem_cons.1 hx with rfl | hx
        · exact w1
        · exact e3 x hx
      · rw [encs_cons, List.length_append, ← w2, ← Nat.add_assoc, e4, List.take_add, w3, List.append_assoc]
    · rw [if_neg h1] at h; exact absurd h h1
def encV (v : List Int) : List Nat := enc v.length ++ encs v
theorem goodV : Good tkV encV (fun v => vecV v = true) where
  put v rest h := by
    have hv := vecV_len h
    have hN : ∀ x ∈ v, okN x := fun x hx => by
      obtain ⟨k, hk⟩ := List.getElem?_of_mem hx
      have := vecV_at h hk
      exact ⟨by omega, by omega⟩
    have e1 := goodN.put (v.length : Int) (encs v ++ rest) ⟨by omega, by omega⟩
    rw [Int.toNat_natCast] at e1
    have e2 := tkNsF_put v (enc v.length ++ (encs v ++ rest)) rest (enc v.length) [] hN rfl
    have e3 : tkNs (encV v ++ rest) = (v, (encV v).length, 0) := by
      unfold tkNs encV
      rw [List.append_assoc, e1]
      simp only [if_true, Int.toNat_natCast]
      rw [if_neg (by omega), e2, List.length_append]; rfl
    unfold tkV
    rw [e3]
    simp only [if_true]
    rw [if_pos h]
  cut v j h hj := by
    have hv := vecV_len h
    have hN : ∀ x ∈ v, okN x := fun x hx => by
      obtain ⟨k, hk⟩ := List.getElem?_of_mem hx
      have := vecV_at h hk
      exact ⟨by omega, by omega⟩
    have e3 : (tkNs ((encV v).take j)).2.2 = 7 := by
      unfold encV at hj ⊢
      rw [List.length_append] at hj
      unfold tkNs
      by_cases hc : j < (enc v.length).length
      · rw [List.take_append_of_le_length (by omega)]
        have := goodN.cut (v.length : Int) j ⟨by omega, by omega⟩ hc
        rw [Int.toNat_natCast] at this
        rw [if_neg (by rw [this]; decide)]; exact this
      · have e : (enc v.length ++ encs v).take j = enc v.length ++ (encs v).take (j - (enc v.length).length) := by rw [List.take_append, List.take_of_length_le (by omega)]
        rw [e]
        have e1 := goodN.put (v.length : Int) ((encs v).take (j - (enc v.length).length)) ⟨by omega, by omega⟩
        rw [Int.toNat_natCast] at e1
        rw [e1]
        simp only [if_true, Int.toNat_natCast]
        rw [if_neg (by omega)]
        exact tkNsF_cut v _ (enc v.length) [] _ hN (by omega) rfl
    unfold tkV
    rw [if_neg (by rw [e3]; decide)]; exact e3
  was l hl h := by
    unfold tkV at h ⊢
    by_cases h1 : (tkNs l).2.2 = 0
    · rw [if_pos h1] at h ⊢
      by_cases h2 : vecV (tkNs l).1 = true
      · rw [if_pos h2]
        refine ⟨h2, ?_⟩
        unfold tkNs at h1 ⊢
        by_cases h3 : (tkN l).2.2 = 0
        · rw [if_pos h3] at h1 ⊢
          by_cases h4 : 1024 < (tkN l).1
          · rw [if_pos h4] at h1; cases h1
          · rw [if_neg h4] at h1 ⊢
            obtain ⟨w1, w2, w3⟩ := goodN.was l hl h3
            obtain ⟨v, e1, e2, e3, e4⟩ := tkNsF_was _ l [] _ hl (tkN_len l) h1
            rw [e1]
            show (tkN l).2.1 + (encs v).length = (encV v).length ∧ l.take ((tkN l).2.1 + (encs v).length) = encV v
            unfold encV
            rw [e2, List.length_append, e4, w3, ← w2]
            exact ⟨rfl, rfl⟩
        · rw [if_neg h3] at h1; exact absurd h1 h3
      · rw [if_neg h2] at h; cases h
    · rw [if_neg h1] at h; exact absurd h h1
section
variable {l pre rest : List Nat}
theorem placeR_put {s : D.Stamp} (h : placeV s = true) (hl : l = pre ++ (encS s ++ rest)) : placeR l (pre.length, 0) = (s, ((pre ++ encS s).length, 0)) := by
  have e := goodS.at h hl
  unfold placeR
  simp only [e, partR_ok, List.length_append]
theorem numR_put {n : Int} (h : okN n) (hl : l = pre ++ (enc n.toNat ++ rest)) : numR l (pre.length, 0) = (n, ((pre ++ enc n.toNat).length, 0)) := by
  have e := goodN.at h hl
  unfold numR
  simp only [e, partR_ok, List.length_append]
theorem vecR_put {v : List Int} (h : vecV v = true) (hl : l = pre ++ (encV v ++ rest)) : vecR l (pre.length, 0) = (v, ((pre ++ encV v).length, 0)) := by
  have e := goodV.at h hl
  unfold vecR
  simp only [e, partR_ok, List.length_append]
theorem textR_put {s : List Nat} (h : okT s) (hl : l = pre ++ (encT s ++ rest)) : textR l (pre.length, 0) = (s, ((pre ++ encT s).length, 0)) := by
  have e := goodT.at h hl
  unfold textR
  simp only [e, partR_ok, List.length_append]
end
theorem opE_eq (o : D.Op) : opE o = encS o.stamp ++ (encV o.deps ++ (enc o.kind.toNat ++ (encS o.node ++ (if o.kind = 1 then encS o.parent ++ encT o.key else enc o.prop.toNat ++ enc (o.value + 1).toNat)))) := by
  unfold opE encS encV encT
  simp only [List.append_assoc]
/-- what may be, as its parts are taken -/
structure OpParts (o : D.Op) : Prop where
  stamp : placeV o.stamp = true
  deps : vecV o.deps = true
  node : placeV o.node = true
  seq : ∃ x, o.deps[o.stamp.rep.toNat]? = some x ∧ o.seq = x + 1
  kind : (o.kind = 1 ∧ placeV o.parent = true ∧ okT o.key ∧ o.prop = 0 ∧ o.value = 0) ∨ (o.kind = 2 ∧ okN o.prop ∧ okN (o.value + 1) ∧ o.parent = ⟨0, 0⟩ ∧ o.key = [])
theorem op_parts {o : D.Op} (h : mayO o = true) (hk : Bytes8 o.key) : OpParts o := by
  obtain ⟨s1, s2, s3, s4, s5⟩ := mayO_nums h
  unfold mayO at h
  simp only [Bool.and_eq_true] at h
  obtain ⟨h1, h2, h3, h4, h5⟩ := h
  have p1 : placeV o.stamp = true := by unfold placeV; rw [h1]; rfl
  have p2 : placeV o.node = true := by unfold placeV; rw [h3]; rfl
  refine ⟨p1, h2, p2, ?_, ?_⟩
  · unfold seqV at h4
    split at h4
    · rename_i x hx
      simp only [Bool.and_eq_true, decide_eq_true_eq] at h4
      exact ⟨x, hx, h4.1⟩
    · cases h4
  · unfold kindV at h5
    rcases s5 with ⟨k1, k2, k3, k4, k5, k6⟩ | ⟨k1, k2, k3, k4⟩
    · rw [if_pos k1] at h5
      simp only [Bool.and_eq_true] at h5
      exact .inl ⟨k1, h5.1, ⟨by omega, hk⟩, k5, k6⟩
    · exact .inr ⟨k1, ⟨by omega, by omega⟩, ⟨by omega, by omega⟩, k3, k4⟩
theorem readR_put {o : D.Op} (h : OpParts o) (rest : List Nat) : readR (opE o ++ rest) = ({ o with seq := 0 }, (opE o).length, 0) := by
  obtain ⟨h1, h2, h3, _, h4⟩ := h
  have hkn : okN o.kind := by rcases h4 with ⟨k, _⟩ | ⟨k, _⟩ <;> (rw [k]; exact ⟨by omega, by omega⟩)
  unfold readR
  rw [opE_eq]
  generalize hl : (encS o.stamp ++ (encV o.deps ++ (enc o.kind.toNat ++ (encS o.node ++ (if o.kind = 1 then encS o.parent ++ encT o.key else enc o.prop.toNat ++ enc (o.value + 1).toNat))))) ++ rest = l
  simp only [List.append_assoc] at hl
  have e1 : placeR l (0, 0) = (o.stamp, (encS o.stamp).length, 0) := placeR_put (pre := []) h1 hl.symm
  have e2 := vecR_put (pre := encS o.stamp) h2 hl.symm
  have e3 := numR_put (pre := encS o.stamp ++ encV o.deps) hkn (l := l) (by rw [← hl]; simp only [List.append_assoc] <;> rfl)
  have e4 := placeR_put (pre := encS o.stamp ++ encV o.deps ++ enc o.kind.toNat) h3 (l := l) (by rw [← hl]; simp only [List.append_assoc] <;> rfl)
  rw [e1, e2]
  simp only [e3]
  rcases h4 with ⟨k1, k2, k3, k4, k5⟩ | ⟨k1, k2, k3, k4, k5⟩
  · rw [if_pos k1] at hl ⊢
    have e5 := placeR_put (pre := encS o.stamp ++ encV o.deps ++ enc o.kind.toNat ++ encS o.node) k2 (l := l) (by rw [← hl]; simp only [List.append_assoc] <;> rfl)
    have e6 := textR_put (pre := encS o.stamp ++ encV o.deps ++ enc o.kind.toNat ++ encS o.node ++ encS o.parent) k3 (l := l) (by rw [← hl]; simp only [List.append_assoc] <;> rfl)
    unfold kindR bodyR
    rw [if_pos k1, if_pos k1]
    simp only [e4, e5, e6]
    refine Prod.ext ?_ (Prod.ext (by simp [Nat.add_assoc]) rfl)
    cases o; simp_all
  · rw [if_neg (by omega)] at hl ⊢
    have e5 := numR_put (pre := encS o.stamp ++ encV o.deps ++ enc o.kind.toNat ++ encS o.node) k2 (l := l) (by rw [← hl]; simp only [List.append_assoc] <;> rfl)
    have e6 := numR_put (pre := encS o.stamp ++ encV o.deps ++ enc o.kind.toNat ++ encS o.node ++ enc o.prop.toNat) k3 (l := l) (by rw [← hl]; simp only [List.append_assoc] <;> rfl)
    unfold kindR bodyR
    rw [if_neg (by omega), if_neg (by omega), if_pos k1]
    simp only [e4, e5, e6]
    refine Prod.ext ?_ (Prod.ext (by simp [Nat.add_assoc]) rfl)
    cases o
    simp_all
theorem takeO_put {o : D.Op} (h : mayO o = true) (hk : Bytes8 o.key) (rest : List Nat) : takeO (opE o ++ rest) = (o, (opE o).length, 0) := by
  have hp := op_parts h hk
  unfold takeO
  rw [readR_put hp]
  obtain ⟨x, hx, hs⟩ := hp.seq
  simp only [if_true, hx]
  have e : ({ o with seq := x + 1 } : D.Op) = o := by rw [← hs]
  rw [e, if_pos h]
theorem readR_was {l : List Nat} (hl : Bytes8 l) (h : (readR l).2.2 = 0) : l.take (readR l).2.1 = opE (readR l).1 ∧ (readR l).2.1 ≤ l.length ∧ Bytes8 (readR l).1.key := by
  unfold readR at h ⊢
  have l0 : (0 : Nat) ≤ l.length := Nat.zero_le _
  have l1 := placeR_len (l := l) (s := (0, 0)) l0
  have l2 := vecR_len l1
  have l3 := numR_len l2
  have main : ∀ s4 : Rd, s4.1 ≤ l.length → s4.2 = 0 → kindR (numR l (vecR l (placeR l (0, 0)).2).2).1 (numR l (vecR l (placeR l (0, 0)).2).2).2 = s4 → s4 = (numR l (vecR l (placeR l (0, 0)).2).2).2 ∧ l.take s4.1 = encS (placeR l (0, 0)).1 ++ (encV (vecR l (placeR l (0, 0)).2).1 ++ enc (numR l (vecR l (placeR l (0, 0)).2).2).1.toNat) := by
    intro s4 l4 h4 hk
    have hs : s4 = (numR l (vecR l (placeR l (0, 0)).2).2).2 := by
      unfold kindR at hk
      split at hk
      · exact hk.symm
      · split at hk
        · exact hk.symm
        · unfold partR at hk
          split at hk
          · rw [← hk] at h4; cases h4
          · rename_i hne; rw [hk] at hne; exact absurd h4 hne
    refine ⟨hs, ?_⟩
    rw [hs] at h4 ⊢
    obtain ⟨a1, a2, a3, a4, a5⟩ := goodN.step hl l2 h4
    obtain ⟨b1, b2, b3, b4, b5⟩ := goodV.step hl l1 a1
    obtain ⟨lc1, lc2, lc3, lc4, lc5⟩ := goodS.step (s := (0, 0)) hl l0 b1
    have q1 : (placeR l (0, 0)).2.1 = 0 + (tkS (l.drop 0)).2.1 := lc4
    have q2 : (vecR l (placeR l (0, 0)).2).2.1 = (placeR l (0, 0)).2.1 + (tkV (l.drop (placeR l (0, 0)).2.1)).2.1 := b4
    have q3 : (numR l (vecR l (placeR l (0, 0)).2).2).2.1 = (vecR l (placeR l (0, 0)).2).2.1 + (tkN (l.drop (vecR l (placeR l (0, 0)).2).2.1)).2.1 := a4
    rw [q3, a5]
    conv => lhs; arg 1; rw [q2, b5]
    conv => lhs; arg 1; arg 1; rw [q1, lc5]
    simp only [List.take_zero, List.nil_append, List.append_assoc]
    rfl
  have l4 := kindR_len (k := (numR l (vecR l (placeR l (0, 0)).2).2).1) l3
  generalize hs4 : kindR (numR l (vecR l (placeR l (0, 0)).2).2).1 (numR l (vecR l (placeR l (0, 0)).2).2).2 = s4 at h l4 ⊢
  have l5 := placeR_len l4
  unfold bodyR at h ⊢
  by_cases k1 : (numR l (vecR l (placeR l (0, 0)).2).2).1 = 1
  · rw [if_pos k1] at h ⊢
    have l6 := placeR_len l5
    obtain ⟨a1, a2, a3, a4, a5⟩ := goodT.step hl l6 h
    obtain ⟨b1, b2, b3, b4, b5⟩ := goodS.step hl l5 a1
    obtain ⟨lc1, lc2, lc3, lc4, lc5⟩ := goodS.step hl l4 b1
    obtain ⟨_, m2⟩ := main s4 l4 lc1 hs4
    refine ⟨?_, textR_len l6, a3.2⟩
    have q1 : (placeR l s4).2.1 = s4.1 + (tkS (l.drop s4.1)).2.1 := lc4
    have q2 : (placeR l (placeR l s4).2).2.1 = (placeR l s4).2.1 + (tkS (l.drop (placeR l s4).2.1)).2.1 := b4
    have q3 : (textR l (placeR l (placeR l s4).2).2).2.1 = (placeR l (placeR l s4).2).2.1 + (tkT (l.drop (placeR l (placeR l s4).2).2.1)).2.1 := a4
    show l.take (textR l (placeR l (placeR l s4).2).2).2.1 = _
    rw [q3, a5]
    conv => lhs; arg 1; rw [q2, b5]
    conv => lhs; arg 1; arg 1; rw [q1, lc5]
    rw [m2, opE_eq]
    simp only [k1, if_true, List.append_assoc]
    rfl
  · rw [if_neg k1] at h ⊢
    have l6 := numR_len l5
    obtain ⟨a1, a2, a3, a4, a5⟩ := goodN.step hl l6 h
    obtain ⟨b1, b2, b3, b4, b5⟩ := goodN.step hl l5 a1
    obtain ⟨lc1, lc2, lc3, lc4, lc5⟩ := goodS.step hl l4 b1
    obtain ⟨_, m2⟩ := main s4 l4 lc1 hs4
    refine ⟨?_, numR_len l6, fun x hx => by cases hx⟩
    have q1 : (placeR l s4).2.1 = s4.1 + (tkS (l.drop s4.1)).2.1 := lc4
    have q2 : (numR l (placeR l s4).2).2.1 = (placeR l s4).2.1 + (tkN (l.drop (placeR l s4).2.1)).2.1 := b4
    have q3 : (numR l (numR l (placeR l s4).2).2).2.1 = (numR l (placeR l s4).2).2.1 + (tkN (l.drop (numR l (placeR l s4).2).2.1)).2.1 := a4
    show l.take (numR l (numR l (placeR l s4).2).2).2.1 = _
    rw [q3, a5]
    conv => lhs; arg 1; rw [q2, b5]
    conv => lhs; arg 1; arg 1; rw [q1, lc5]
    rw [m2, opE_eq]
    simp only [k1, if_false, List.append_assoc, Int.sub_add_cancel]
    rfl
theorem takeO_was {l : List Nat} (hl : Bytes8 l) (h : (takeO l).2.2 = 0) : mayO (takeO l).1 = true ∧ l.take (takeO l).2.1 = opE (takeO l).1 ∧ (takeO l).2.1 ≤ l.length ∧ Bytes8 (takeO l).1.key := by
  unfold takeO at h ⊢
  by_cases h1 : (readR l).2.2 = 0
  · rw [if_pos h1] at h ⊢
    obtain ⟨w1, w2, w3⟩ := readR_was hl h1
    cases hx : (readR l).1.deps[(readR l).1.stamp.rep.toNat]? with
    | none => rw [hx] at h; cases h
    | some x =>
      rw [hx] at h
      simp only at h ⊢
      by_cases h2 : mayO { (readR l).1 with seq := x + 1 } = true
      · rw [if_pos h2]
        exact ⟨h2, w1, w2, w3⟩
      · rw [if_neg h2] at h; cases h
  · rw [if_neg h1] at h; exact absurd h h1
section
variable {h : Hp} {a b : AV} {l : List Nat} {Post : AV → Hp → Prop}
theorem onTup.opii {o : D.Op} {d : AV} (hd : d.sc = true) {n m : Int} {K : Int → Int → Int → AV → Int → Int → Int → Int → Int → List Nat → Int → Int → Int → Int → Prop} (q : K o.stamp.time o.stamp.rep o.seq d o.kind o.node.time o.node.rep o.parent.time o.parent.rep o.key o.prop o.value n m) :
    onTup [Sh.agg [Kd.int .i64, Kd.int .i64, Kd.int .i64, Kd.ref, Kd.int .i64, Kd.int .i64, Kd.int .i64, Kd.int .i64, Kd.int .i64, Kd.str, Kd.int .i64, Kd.int .i64], Sh.one (Kd.int .i64), Sh.one (Kd.int .i64)] (.tup [.agg (opC o d), .i .i64 n, .i .i64 m]) K := by
  show onS [Sh.agg [Kd.int .i64, Kd.int .i64, Kd.int .i64, Kd.ref, Kd.int .i64, Kd.int .i64, Kd.int .i64, Kd.int .i64, Kd.int .i64, Kd.str, Kd.int .i64, Kd.int .i64], Sh.one (Kd.int .i64), Sh.one (Kd.int .i64)] [.agg (opC o d), .i .i64 n, .i .i64 m] K
  unfold onS
  have e : flatV [Sh.agg [Kd.int .i64, Kd.int .i64, Kd.int .i64, Kd.ref, Kd.int .i64, Kd.int .i64, Kd.int .i64, Kd.int .i64, Kd.int .i64, Kd.str, Kd.int .i64, Kd.int .i64], Sh.one (Kd.int .i64), Sh.one (Kd.int .i64)] [.agg (opC o d), .i .i64 n, .i .i64 m] = some (opC o d ++ [.i .i64 n, .i .i64 m]) := rfl
  rw [e]
  exact onRef.mk (K := fun d => K o.stamp.time o.stamp.rep o.seq d o.kind o.node.time o.node.rep o.parent.time o.parent.rep o.key o.prop o.value n m) hd q
/-- the law's own operation -/
def theO : D.Op := ⟨⟨1, 0⟩, 1, [0], 1, ⟨1, 0⟩, ⟨0, 0⟩, [107], 0, 0⟩
theorem theO_may : mayO theO = true := by decide
theorem c36 (k : ∀ d h', Kn.int.Own h h' d theO.deps → Post (.agg (opC theO d)) h') : wpC Try.prog 36 [] Post h := by
  refine call_sound (args := []) (cuts := []) trivial ?_
  rw [vc36]
  refine fun _ p e1 e2 => k _ _ ⟨h, intC [0], Hp.le_refl h, rfl, Fresh.put (css := intC [0]) (sz := 1) (len := 1) (cs := [.i .i64 0]) (Hp.le_refl h) rfl e1 e2 true (fun c hc => by simp [intC] at hc; subst hc; rfl) rfl rfl, .cons ⟨rfl, by omega, by omega⟩ .nil⟩
theorem opE_len {o : D.Op} (h : mayO o = true) : (opE o).length ≤ 400 := by
  obtain ⟨s1, s2, s3, s4, s5⟩ := mayO_nums h
  have t1 := enc_len10 (n := o.stamp.time.toNat) (by omega)
  have t2 := enc_len10 (n := o.stamp.rep.toNat) (by omega)
  have t3 := enc_len10 (n := o.deps.length) (by omega)
  have t4 := encs_len (v := o.deps) fun x hx => by have := s2 x hx; omega
  have t5 : 0 ≤ o.kind ∧ o.kind ≤ 2 := by rcases s5 with s | s <;> omega
  have t6 := enc_len10 (n := o.kind.toNat) (by omega)
  have t7 := enc_len10 (n := o.node.time.toNat) (by omega)
  have t8 := enc_len10 (n := o.node.rep.toNat) (by omega)
  unfold opE
  rcases s5 with ⟨k1, k2, k3, k4, k5, k6⟩ | ⟨k1, k2, k3, k4⟩
  · rw [if_pos k1]
    have t9 := enc_len10 (n := o.parent.time.toNat) (by omega)
    have t10 := enc_len10 (n := o.parent.rep.toNat) (by omega)
    have t11 := enc_len10 (n := o.key.length) (by omega)
    simp only [List.length_append]; omega
  · rw [if_neg (by omega)]
    have t9 := enc_len10 (n := o.prop.toNat) (by omega)
    have t10 := enc_len10 (n := (o.value + 1).toNat) (by omega)
    simp only [List.length_append]; omega
theorem Kn.Row.upto {α : Type} {d : Kn α} {h : Hp} {a : AV} {l : List α} (r : d.Row h a l) {j sz : Nat} (hsz : d.sz = sz) (h1 : j ≤ l.length) {K : AV → Prop} (k : ∀ r', d.Row h r' (l.take j) → K r') : onO (slV a none (some (j : Int)) none sz) K := by
  obtain ⟨r', e1, e2⟩ := r.cut (lo := none) (hi := some (j : Int)) (i := 0) (j := j) hsz rfl rfl (Nat.zero_le _) h1
  exact onO.mk e1 (k r' (by simpa using e2))
end
/- arras/sum.Sum -/
theorem vc77 (a : Int) (b : AV) (h : Hp) (Post : AV → Hp → Prop) : vcCall Try.prog [0] 77 [(SV.ii .u32 a), (SV.vv b)] h Post = (
  onO (unO UnOp.xor IntKind.u32 a) fun n0 =>
  ∃ I0 : Nat → Int → Int → Int → Int → Hp → Prop,
    (∃ p0, I0 p0 n0 0 8 0 h) ∧
      ∀ (p1 : Nat) (h0 : Hp) (n1 n2 n3 n4 : Int),
        I0 p1 n1 n2 n3 n4 h0 →
          Dup
            (onB (decide (n3 < 8))
              (onO (shO BinOp.shr IntKind.u32 n1 1) fun n5 =>
                onO (intO BinOp.and IntKind.u32 n1 1) fun n6 =>
                  onO (intO BinOp.mul IntKind.u32 3988292384 n6) fun n7 =>
                    onO (intO BinOp.xor IntKind.u32 n5 n7) fun n8 => onO (intO BinOp.add IntKind.i64 n3 1) fun n9 => ∃ p2, ltN p2 p1 ∧ I0 p2 n8 n2 n9 n4 h0)
              (onO (lenV b) fun p3 =>
                onB (decide (n2 < ↑p3))
                  (onO (idxV b n2 1) fun r0 =>
                    onO (rdH h0 r0.fst r0.snd 1) fun l0 =>
                      onL [Kd.int IntKind.u8] l0 fun n10 =>
                        onO (wrO IntKind.u32 n10) fun n11 =>
                          onO (intO BinOp.xor IntKind.u32 n1 n11) fun n12 => onO (intO BinOp.add IntKind.i64 n2 1) fun n13 => ∃ p4, ltN p4 p1 ∧ I0 p4 n12 n13 0 n4 h0)
                  (onO (unO UnOp.xor IntKind.u32 n1) fun n14 => Post (AV.i IntKind.u32 n14) h0)))) := by kernel_rfl
/-! ### plain -/
def bit1 (s : Nat) : Nat := if s % 2 = 1 then Nat.xor (s / 2) 3988292384 else s / 2
def bitn : Nat → Nat → Nat
  | 0, s => s
  | n + 1, s => bitn n (bit1 s)
def crcF : Nat → List Nat → Nat
  | s, [] => s
  | s, b :: l => crcF (bitn 8 (Nat.xor s b)) l
def crc (s : Nat) (l : List Nat) : Nat := Nat.xor (crcF (Nat.xor s 4294967295) l) 4294967295
theorem xor_lt32 {a b : Nat} (h1 : a < 4294967296) (h2 : b < 4294967296) : Nat.xor a b < 4294967296 := Nat.xor_lt_two_pow (n := 32) h1 h2
theorem bit1_lt {s : Nat} (h : s < 4294967296) : bit1 s < 4294967296 := by
  unfold bit1
  split
  · exact xor_lt32 (by omega) (by omega)
  · omega
theorem bitn_lt : ∀ {n s : Nat}, s < 4294967296 → bitn n s < 4294967296
  | 0, s, h => h
  | n + 1, s, h => bitn_lt (n := n) (bit1_lt h)
theorem crcF_lt : ∀ {l : List Nat} {s : Nat}, Bytes8 l → s < 4294967296 → crcF s l < 4294967296
  | [], s, _, h => h
  | b :: l, s, hl, h => crcF_lt (l := l) (fun x hx => hl x (by simp [hx])) (bitn_lt (xor_lt32 h (by have := hl b (by simp); omega)))
theorem crc_lt {l : List Nat} {s : Nat} (hl : Bytes8 l) (h : s < 4294967296) : crc s l < 4294967296 := xor_lt32 (crcF_lt hl (xor_lt32 h (by omega))) (by omega)
/-! ### words of 32 bits -/
theorem wr32n {n : Nat} (h : n < 4294967296) : wrO .u32 (n : Int) = some (n : Int) := by rw [wr32]; congr 1; omega
theorem xor32 {a b : Nat} (h1 : a < 4294967296) (h2 : b < 4294967296) : intO .xor .u32 (a : Int) (b : Int) = some ((Nat.xor a b : Nat) : Int) := by
  unfold intO
  have e : intA .xor .u32 (a : Int) (b : Int) = some (.i .u32 (wrapA .u32 (.ofNat (Nat.xor a b)))) := by
    show (cond (Nat.blt a 4294967296 && Nat.blt b 4294967296) _ none : Option AV) = _
    rw [blt_of h1, blt_of h2]; rfl
  rw [e]
  have := xor_lt32 h1 h2
  show some (wrapA .u32 ((Nat.xor a b : Nat) : Int)) = _
  rw [wrap_mod rfl]
  congr 1
  show ((Nat.xor a b : Nat) : Int) % 4294967296 = _
  omega
theorem and1 {a : Nat} (h1 : a < 4294967296) : intO .and .u32 (a : Int) 1 = some ((a % 2 : Nat) : Int) := by
  unfold intO
  have e : intA .and .u32 (a : Int) 1 = some (.i .u32 (wrapA .u32 (.ofNat (Nat.land a 1)))) := by
    show (cond (Nat.blt a 4294967296 && Nat.blt 1 4294967296) _ none : Option AV) = _
    rw [blt_of h1]; rfl
  rw [e]
  have h2 : Nat.land a 1 = a % 2 := Nat.and_two_pow_sub_one_eq_mod a 1
  rw [h2]
  show some (wrapA .u32 ((a % 2 : Nat) : Int)) = _
  rw [wrap_mod rfl]
  congr 1
  show ((a % 2 : Nat) : Int) % 4294967296 = _
  omega
theorem shr32 {a : Nat} (k : Nat) (hk : k ≤ 32) : shO .shr .u32 (a : Int) (k : Int) = some ((a / 2 ^ k : Nat) : Int) := by
  unfold shO
  have e : shiftA .shr .u32 (a : Int) (k : Int) = some (.i .u32 (Int.fdiv (a : Int) (.ofNat (Nat.pow 2 (cond (Nat.ble k 32) k 32))))) := rfl
  rw [e, Nat.ble_eq_true_of_le hk, cond_true]
  show some (Int.fdiv (a : Int) ((2 ^ k : Nat) : Int)) = _
  rw [Int.fdiv_eq_ediv_of_nonneg _ (Int.natCast_nonneg _)]; rfl
theorem mulp {a : Nat} (h : a < 2) : intO .mul .u32 3988292384 (a : Int) = some ((3988292384 * a : Nat) : Int) := by
  unfold intO intA
  show some (wrapA .u32 (3988292384 * (a : Int))) = _
  rw [wrap_mod rfl]
  congr 1
  show (3988292384 * (a : Int)) % 4294967296 = _
  omega
theorem not32 {a : Nat} (h : a < 4294967296) : unO .xor .u32 (a : Int) = some ((Nat.xor a 4294967295 : Nat) : Int) := by
  unfold unO
  have e : unA .xor (.i .u32 (a : Int)) = some (.i .u32 (wrapA .u32 (.ofNat (Nat.xor 4294967295 a)))) := by
    show (cond (Nat.beq 0 0 && Nat.blt a 4294967296) _ none : Option AV) = _
    rw [blt_of h]; rfl
  rw [e]
  have hc : Nat.xor 4294967295 a = Nat.xor a 4294967295 := Nat.xor_comm _ _
  rw [hc]
  have := xor_lt32 h (show 4294967295 < 4294967296 by omega)
  show some (wrapA .u32 ((Nat.xor a 4294967295 : Nat) : Int)) = _
  rw [wrap_mod rfl]
  congr 1
  show ((Nat.xor a 4294967295 : Nat) : Int) % 4294967296 = _
  omega
theorem bit1_mul {s : Nat} : Nat.xor (s / 2) (3988292384 * (s % 2)) = bit1 s := by
  unfold bit1
  split
  · rename_i h; rw [h]
  · rename_i h
    have : s % 2 = 0 := by omega
    rw [this, Nat.mul_zero]; exact Nat.xor_zero _
section
variable {h : Hp} {a b : AV} {l : List Nat} {Post : AV → Hp → Prop}
theorem c77 {s : Nat} (r : BR h a l) (hs : s < 4294967296) (hb : l.length < 32000000) (k : Post (.i .u32 (crc s l : Nat)) h) : wpC Try.prog 77 [.i .u32 (s : Int), a] Post h := by
  have hl : Bytes8 l := fun x hx => byte_lt r hx
  refine call_sound (args := [.ii .u32 s, .vv a]) (cuts := [0]) ⟨trivial, r.sc, trivial⟩ ?_
  rw [vc77]
  have hx := xor_lt32 hs (show 4294967295 < 4294967296 by omega)
  refine onO.mk (not32 hs) ⟨fun q n1 n2 n3 _ h' => h' = h ∧ ∃ S i j : Nat, n1 = S ∧ n2 = i ∧ n3 = j ∧ i ≤ l.length ∧ j ≤ 8 ∧ q = (l.length - i) * 10 + (8 - j) ∧ S < 4294967296 ∧ crcF (Nat.xor s 4294967295) l = crcF (bitn (8 - j) S) (l.drop i), ⟨_, rfl, Nat.xor s 4294967295, 0, 8, rfl, rfl, rfl, by omega, by omega, rfl, hx, rfl⟩, ?_⟩
  rintro q h0 _ _ _ n4 ⟨rfl, S, i, j, rfl, rfl, rfl, hi, hj, rfl, hS, hp⟩
  have hsh : shO .shr .u32 (S : Int) 1 = some ((S / 2 : Nat) : Int) := shr32 1 (by omega)
  refine Dup.mk (onB.dec (fun e => ?_) (fun e => ?_))
  · have h2 : S % 2 < 2 := Nat.mod_lt _ (by omega)
    have hm : 3988292384 * (S % 2) < 4294967296 := by omega
    refine onO.mk hsh (onO.mk (and1 hS) (onO.mk (mulp h2) (onO.mk (xor32 (by omega) hm) (onO.mk (inc64 (by omega)) ⟨_, by show (l.length - i) * 10 + (8 - (j + 1)) < (l.length - i) * 10 + (8 - j); omega, rfl, _, i, j + 1, rfl, rfl, rfl, hi, by omega, rfl, ?_, ?_⟩))))
    · exact xor_lt32 (by omega) hm
    · rw [bit1_mul, hp, show 8 - j = (8 - (j + 1)) + 1 by omega]; rfl
  · have hj8 : j = 8 := by omega
    subst hj8
    have hp : crcF (Nat.xor s 4294967295) l = crcF S (l.drop i) := hp
    refine onO.mk r.len (onB.dec (fun e1 => ?_) (fun e1 => ?_))
    · obtain ⟨x, hx⟩ := get_lt (l := l) (k := i) (by omega)
      have hx8 := hl x (List.mem_of_getElem? hx)
      rw [drop_of hx] at hp
      refine byte0 r hx (onO.mk (wr32n (by omega)) (onO.mk (xor32 hS (by omega)) (onO.mk (inc64 (by omega)) ⟨_, by show (l.length - (i + 1)) * 10 + (8 - 0) < (l.length - i) * 10 + (8 - 8); omega, rfl, _, i + 1, 0, rfl, rfl, rfl, by omega, by omega, rfl, xor_lt32 hS (by omega), hp⟩)))
    · have : i = l.length := by omega
      subst this
      rw [List.drop_length] at hp
      have hp : crcF (Nat.xor s 4294967295) l = S := hp
      refine onO.mk (not32 hS) ?_
      unfold crc at k
      rw [hp] at k; exact k
end
/-- a sum's four bytes -/
def four (s : Nat) : List Nat := [s / 16777216 % 256, s / 65536 % 256, s / 256 % 256, s % 256]
section
variable {g h : Hp} {a b : AV} {l m : List Nat} {Post : AV → Hp → Prop}
theorem BO.set (o : BO g h a l) {i : Nat} {x : Nat} (hi : i < l.length) (hx : x < 256) {Q : Option AV → Hp → Prop} (k : ∀ h', BO g h' a (l.set i x) → Q none h') : onO (idxV a (i : Int) 1) fun r => wpE (.w r.1 r.2 (.lit [.i .u8 (x : Int)]) none) Q h := by
  obtain ⟨p, css, h0, h01, f, h1⟩ := o
  have hl := h1.length
  obtain ⟨c, hc⟩ := get_lt (l := css) (k := i) (by omega)
  have hcl : c.length = 1 := f.row.1 c (List.mem_of_getElem? hc)
  refine f.set (sz := 1) hc 0 (new := [.i .u8 (x : Int)]) (by simp) rfl fun h' f' => k h' ⟨p, _, h0, h01, f', ?_⟩
  refine All2.of_get (by simp [hl]) fun j y d hy hd => ?_
  by_cases e : j = i
  · subst e
    rw [List.getElem?_set_self (by omega)] at hy hd
    injection hy with hy; injection hd with hd
    subst hy; subst hd
    refine ⟨?_, hx⟩
    match c, hcl with
    | [w], _ => rfl
  · rw [List.getElem?_set_ne (Ne.symm e)] at hy hd
    exact h1.get2 hy hd
end
/- arras/disk.New -/
theorem vc24 (a : AV) (h : Hp) (Post : AV → Hp → Prop) : vcCall Try.prog [] 24 [(SV.vv a)] h Post = (
  ∀ (p0 : Nat),
  onO (lenV a) fun p1 =>
    onB (!decide ((↑p1 : Int) = 0))
      (onO (lenV a) fun p2 =>
        onB (!decide ((↑p2 : Int) = 3)) (Post (AV.tup [AV.np, AV.i IntKind.i64 1]) h)
          (onO (lenV a) fun p3 =>
            ∃ I0 : Nat → AV → Int → Int → AV → AV → AV → AV → AV → AV → AV → AV → AV → Bool → Bool → Int → Hp → Prop,
              (∃ p4, I0 p4 AV.np 0 0 AV.ns AV.ns AV.ns AV.ns AV.ns AV.ns AV.ns AV.ns AV.ns false false 0 h) ∧
                ∀ (p5 : Nat) (h0 : Hp) (a0 : AV),
                  a0.sc = true →
                    ∀ (n0 n1 : Int) (a1 : AV),
                      a1.sc = true →
                        ∀ (a2 : AV),
                          a2.sc = true →
                            ∀ (a3 : AV),
                              a3.sc = true →
                                ∀ (a4 : AV),
                                  a4.sc = true →
                                    ∀ (a5 : AV),
                                      a5.sc = true →
                                        ∀ (a6 : AV),
                                          a6.sc = true →
                                            ∀ (a7 : AV),
                                              a7.sc = true →
                                                ∀ (a8 : AV),
                                                  a8.sc = true →
                                                    ∀ (a9 : AV),
                                                      a9.sc = true →
                                                        ∀ (lc0 lc1 : Bool) (n2 : Int),
                                                          I0 p5 a0 n0 n1 a1 a2 a3 a4 a5 a6 a7 a8 a9 lc0 lc1 n2 h0 →
                                                            onB (decide (n1 < ↑p3))
                                                              (onO (idxV a n1 1) fun r0 =>
                                                                onO (rdH h0 r0.fst r0.snd 1) fun l0 =>
                                                                  onL [Kd.ref] l0 fun a10 =>
                                                                    onO (lenV a10) fun p6 =>
                                                                      onB (decide ((4194304 : Int) < ↑p6)) (Post (AV.tup [AV.np, AV.i IntKind.i64 1]) h0)
                                                                        (wpC Try.prog 43 [a10]
                                                                          (fun a11 h1 =>
                                                                            onRet [Sh.one Kd.ref] a11 fun a12 =>
                                                                              wpC Try.prog 43 [a10]
                                                                                (fun a13 h2 =>
                                                                                  onRet [Sh.one Kd.ref] a13 fun a14 =>
                                                                                    onO (natLt n1 3) fun p7 =>
                                                                                      ((True ∧
                                                                                            (p7 = 0 →
                                                                                              onO (natLt n1 3) fun p8 =>
                                                                                                ((True ∧
                                                                                                      (p8 = 0 →
                                                                                                        onO (intO BinOp.add IntKind.i64 n1 1) fun n3 =>
                                                                                                          ∃ p9, ltN p9 p5 ∧ I0 p9 a0 n0 n3 a12 a14 a3 a4 a5 a6 a7 a8 a9 lc0 lc1 n2 h2)) ∧
                                                                                                    (p8 = 1 →
                                                                                                      onO (intO BinOp.add IntKind.i64 n1 1) fun n4 =>
                                                                                                        ∃ p10, ltN p10 p5 ∧ I0 p10 a0 n0 n4 a12 a2 a3 a4 a14 a6 a7 a8 a9 lc0 lc1 n2 h2)) ∧
                                                                                                  (p8 = 2 →
                                                                                                    onO (intO BinOp.add IntKind.i64 n1 1) fun n5 =>
                                                                                                      ∃ p11, ltN p11 p5 ∧ I0 p11 a0 n0 n5 a12 a2 a3 a4 a5 a6 a7 a14 a9 lc0 lc1 n2 h2))) ∧
                                                                                          (p7 = 1 →
                                                                                            onO (natLt n1 3) fun p12 =>
                                                                                              ((True ∧
                                                                                                    (p12 = 0 →
                                                                                                      onO (intO BinOp.add IntKind.i64 n1 1) fun n6 =>
                                                                                                        ∃ p13, ltN p13 p5 ∧ I0 p13 a0 n0 n6 a1 a14 a3 a12 a5 a6 a7 a8 a9 lc0 lc1 n2 h2)) ∧
                                                                                                  (p12 = 1 →
                                                                                                    onO (intO BinOp.add IntKind.i64 n1 1) fun n7 =>
                                                                                                      ∃ p14, ltN p14 p5 ∧ I0 p14 a0 n0 n7 a1 a2 a3 a12 a14 a6 a7 a8 a9 lc0 lc1 n2 h2)) ∧
                                                                                                (p12 = 2 →
                                                                                                  onO (intO BinOp.add IntKind.i64 n1 1) fun n8 =>
                                                                                                    ∃ p15, ltN p15 p5 ∧ I0 p15 a0 n0 n8 a1 a2 a3 a12 a5 a6 a7 a14 a9 lc0 lc1 n2 h2))) ∧
                                                                                        (p7 = 2 →
                                                                                          onO (natLt n1 3) fun p16 =>
                                                                                            ((True ∧
                                                                                                  (p16 = 0 →
                                                                                                    onO (intO BinOp.add IntKind.i64 n1 1) fun n9 =>
                                                                                                      ∃ p17, ltN p17 p5 ∧ I0 p17 a0 n0 n9 a1 a14 a3 a4 a5 a6 a12 a8 a9 lc0 lc1 n2 h2)) ∧
                                                                                                (p16 = 1 →
                                                                                                  onO (intO BinOp.add IntKind.i64 n1 1) fun n10 =>
                                                                                                    ∃ p18, ltN p18 p5 ∧ I0 p18 a0 n0 n10 a1 a2 a3 a4 a14 a6 a12 a8 a9 lc0 lc1 n2 h2)) ∧
                                                                                              (p16 = 2 →
                                                                                                onO (intO BinOp.add IntKind.i64 n1 1) fun n11 =>
                                                                                                  ∃ p19, ltN p19 p5 ∧ I0 p19 a0 n0 n11 a1 a2 a3 a4 a5 a6 a12 a14 a9 lc0 lc1 n2 h2)))
                                                                                h1)
                                                                          h0))
                                                              (h0.g p0 = none →
                                                                h0.lo.le p0 →
                                                                  Post (AV.tup [AV.p p0 0, AV.i IntKind.i64 0])
                                                                    (h0.put p0 [a1, a2, a3, a4, a5, a6, a7, a8, a9, AV.b lc0, AV.b lc1, AV.i IntKind.i64 n2]))))
      (onO (lenV a) fun p20 =>
        ∃ I1 : Nat → AV → Int → Int → AV → AV → AV → AV → AV → AV → AV → AV → AV → Bool → Bool → Int → Hp → Prop,
          (∃ p21, I1 p21 AV.np 0 0 AV.ns AV.ns AV.ns AV.ns AV.ns AV.ns AV.ns AV.ns AV.ns false false 0 h) ∧
            ∀ (p22 : Nat) (h3 : Hp) (a15 : AV),
              a15.sc = true →
                ∀ (n12 n13 : Int) (a16 : AV),
                  a16.sc = true →
                    ∀ (a17 : AV),
                      a17.sc = true →
                        ∀ (a18 : AV),
                          a18.sc = true →
                            ∀ (a19 : AV),
                              a19.sc = true →
                                ∀ (a20 : AV),
                                  a20.sc = true →
                                    ∀ (a21 : AV),
                                      a21.sc = true →
                                        ∀ (a22 : AV),
                                          a22.sc = true →
                                            ∀ (a23 : AV),
                                              a23.sc = true →
                                                ∀ (a24 : AV),
                                                  a24.sc = true →
                                                    ∀ (lc2 lc3 : Bool) (n14 : Int),
                                                      I1 p22 a15 n12 n13 a16 a17 a18 a19 a20 a21 a22 a23 a24 lc2 lc3 n14 h3 →
                                                        onB (decide (n13 < ↑p20))
                                                          (onO (idxV a n13 1) fun r1 =>
                                                            onO (rdH h3 r1.fst r1.snd 1) fun l1 =>
                                                              onL [Kd.ref] l1 fun a25 =>
                                                                onO (lenV a25) fun p23 =>
                                                                  onB (decide ((4194304 : Int) < ↑p23)) (Post (AV.tup [AV.np, AV.i IntKind.i64 1]) h3)
                                                                    (wpC Try.prog 43 [a25]
                                                                      (fun a26 h4 =>
                                                                        onRet [Sh.one Kd.ref] a26 fun a27 =>
                                                                          wpC Try.prog 43 [a25]
                                                                            (fun a28 h5 =>
                                                                              onRet [Sh.one Kd.ref] a28 fun a29 =>
                                                                                onO (natLt n13 3) fun p24 =>
                                                                                  ((True ∧
                                                                                        (p24 = 0 →
                                                                                          onO (natLt n13 3) fun p25 =>
                                                                                            ((True ∧
                                                                                                  (p25 = 0 →
                                                                                                    onO (intO BinOp.add IntKind.i64 n13 1) fun n15 =>
                                                                                                      ∃ p26, ltN p26 p22 ∧ I1 p26 a15 n12 n15 a27 a29 a18 a19 a20 a21 a22 a23 a24 lc2 lc3 n14 h5)) ∧
                                                                                                (p25 = 1 →
                                                                                                  onO (intO BinOp.add IntKind.i64 n13 1) fun n16 =>
                                                                                                    ∃ p27, ltN p27 p22 ∧ I1 p27 a15 n12 n16 a27 a17 a18 a19 a29 a21 a22 a23 a24 lc2 lc3 n14 h5)) ∧
                                                                                              (p25 = 2 →
                                                                                                onO (intO BinOp.add IntKind.i64 n13 1) fun n17 =>
                                                                                                  ∃ p28, ltN p28 p22 ∧ I1 p28 a15 n12 n17 a27 a17 a18 a19 a20 a21 a22 a29 a24 lc2 lc3 n14 h5))) ∧
                                                                                      (p24 = 1 →
                                                                                        onO (natLt n13 3) fun p29 =>
                                                                                          ((True ∧
                                                                                                (p29 = 0 →
                                                                                                  onO (intO BinOp.add IntKind.i64 n13 1) fun n18 =>
                                                                                                    ∃ p30, ltN p30 p22 ∧ I1 p30 a15 n12 n18 a16 a29 a18 a27 a20 a21 a22 a23 a24 lc2 lc3 n14 h5)) ∧
                                                                                              (p29 = 1 →
                                                                                                onO (intO BinOp.add IntKind.i64 n13 1) fun n19 =>
                                                                                                  ∃ p31, ltN p31 p22 ∧ I1 p31 a15 n12 n19 a16 a17 a18 a27 a29 a21 a22 a23 a24 lc2 lc3 n14 h5)) ∧
                                                                                            (p29 = 2 →
                                                                                              onO (intO BinOp.add IntKind.i64 n13 1) fun n20 =>
                                                                                                ∃ p32, ltN p32 p22 ∧ I1 p32 a15 n12 n20 a16 a17 a18 a27 a20 a21 a22 a29 a24 lc2 lc3 n14 h5))) ∧
                                                                                    (p24 = 2 →
                                                                                      onO (natLt n13 3) fun p33 =>
                                                                                        ((True ∧
                                                                                              (p33 = 0 →
                                                                                                onO (intO BinOp.add IntKind.i64 n13 1) fun n21 =>
                                                                                                  ∃ p34, ltN p34 p22 ∧ I1 p34 a15 n12 n21 a16 a29 a18 a19 a20 a21 a27 a23 a24 lc2 lc3 n14 h5)) ∧
                                                                                            (p33 = 1 →
                                                                                              onO (intO BinOp.add IntKind.i64 n13 1) fun n22 =>
                                                                                                ∃ p35, ltN p35 p22 ∧ I1 p35 a15 n12 n22 a16 a17 a18 a19 a29 a21 a27 a23 a24 lc2 lc3 n14 h5)) ∧
                                                                                          (p33 = 2 →
                                                                                            onO (intO BinOp.add IntKind.i64 n13 1) fun n23 =>
                                                                                              ∃ p36, ltN p36 p22 ∧ I1 p36 a15 n12 n23 a16 a17 a18 a19 a20 a21 a27 a29 a24 lc2 lc3 n14 h5)))
                                                                            h4)
                                                                      h3))
                                                          (h3.g p0 = none →
                                                            h3.lo.le p0 →
                                                              Post (AV.tup [AV.p p0 0, AV.i IntKind.i64 0])
                                                                (h3.put p0 [a16, a17, a18, a19, a20, a21, a22, a23, a24, AV.b lc2, AV.b lc3, AV.i IntKind.i64 n14])))) := by kernel_rfl
/- (*arras/disk.Disk).Write -/
theorem vc73 (a : AV) (b : Int) (c : Int) (d : AV) (h : Hp) (Post : AV → Hp → Prop) : vcCall Try.prog [] 73 [(SV.vv a), (SV.ii .i64 b), (SV.ii .i64 c), (SV.vv d)] h Post = (
  wpC Try.prog 78 [a, AV.i IntKind.i64 b]
  (fun a0 h0 =>
    onRet [Sh.one (Kd.int IntKind.i64)] a0 fun n0 =>
      onB (!decide (n0 = 0)) (Post (AV.i IntKind.i64 n0) h0)
        (onB (decide (c < 0)) (Post (AV.i IntKind.i64 2) h0)
          (onO (ptrV a) fun r0 =>
            onO (natLt b 3) fun p0 =>
              onO (rdH h0 r0.fst (r0.snd + 0 + p0 * 3 + 1) 1) fun l0 =>
                onL [Kd.ref] l0 fun a1 =>
                  onO (lenV a1) fun p1 =>
                    onB (decide ((↑p1 : Int) < c)) (Post (AV.i IntKind.i64 2) h0)
                      (onO (lenV d) fun p2 =>
                        onO (intO BinOp.sub IntKind.i64 4194304 c) fun n1 =>
                          onB (decide (n1 < ↑p2)) (Post (AV.i IntKind.i64 2) h0)
                            (wpC Try.prog 43 [d]
                              (fun a2 h1 =>
                                onRet [Sh.one Kd.ref] a2 fun a3 =>
                                  wpC Try.prog 79 [a, AV.i IntKind.i64 b, AV.agg [AV.b false, AV.i IntKind.i64 c, a3]]
                                    (fun a4 h2 => onRet [Sh.one (Kd.int IntKind.i64)] a4 fun n2 => Post (AV.i IntKind.i64 n2) h2) h1)
                              h0)))))
  h) := by kernel_rfl
/- (*arras/disk.Disk).Sync -/
theorem vc66 (a : AV) (b : Int) (h : Hp) (Post : AV → Hp → Prop) : vcCall Try.prog [] 66 [(SV.vv a), (SV.ii .i64 b)] h Post = (
  wpC Try.prog 78 [a, AV.i IntKind.i64 b]
  (fun a0 h0 =>
    onRet [Sh.one (Kd.int IntKind.i64)] a0 fun n0 =>
      onB (!decide (n0 = 0)) (Post (AV.i IntKind.i64 n0) h0)
        (onO (ptrV a) fun r0 => onO (natLt b 3) fun p0 => wpC Try.prog 80 [AV.p r0.fst (r0.snd + 0 + p0 * 3)] (fun a1 h1 => onTup [] a1 (Post (AV.i IntKind.i64 0) h1)) h0))
  h) := by kernel_rfl
/- (*arras/disk.Disk).Crash -/
theorem vc38 (a : AV) (b : AV) (h : Hp) (Post : AV → Hp → Prop) : vcCall Try.prog [] 38 [(SV.vv a), (SV.vv b)] h Post = (
  ∀ (p0 : Nat),
  h.g p0 = none →
    h.lo.le p0 →
      ∃ I0 : Nat → AV → Int → Hp → Prop,
        (∃ p1, I0 p1 AV.ns 0 (h.put p0 [b])) ∧
          ∀ (p2 : Nat) (h0 : Hp) (a0 : AV),
            a0.sc = true →
              ∀ (n0 : Int),
                I0 p2 a0 n0 h0 →
                  onB (decide (n0 < 3))
                    (onO (ptrV a) fun r0 =>
                      onO (natLt n0 3) fun p3 =>
                        onO (rdH h0 r0.fst (r0.snd + 0 + p3 * 3 + 0) 1) fun l0 =>
                          onL [Kd.ref] l0 fun a1 =>
                            wpC Try.prog 43 [a1]
                              (fun a2 h1 =>
                                onRet [Sh.one Kd.ref] a2 fun a3 =>
                                  onO (ptrV a) fun r1 =>
                                    onO (natLt n0 3) fun p4 =>
                                      onO (rdH h1 r1.fst (r1.snd + 0 + p4 * 3 + 2) 1) fun l1 =>
                                        onL [Kd.ref] l1 fun a4 =>
                                          sameH h0 h1 r1.fst (r1.snd + 0 + p4 * 3 + 2) 1 ∧
                                            onO (lenV a4) fun p5 =>
                                              onO (intO BinOp.add IntKind.i64 (↑p5) 1) fun n1 =>
                                                wpC Try.prog 55 [AV.i IntKind.i64 n1, AV.p p0 0]
                                                  (fun a5 h2 =>
                                                    onRet [Sh.one (Kd.int IntKind.i64)] a5 fun n2 =>
                                                      onO (slV a4 none (some n2) none 3) fun a6 =>
                                                        onO (lenV a6) fun p6 =>
                                                          ∃ I1 : Nat → AV → Int → Hp → Prop,
                                                            (∃ p7, I1 p7 a3 0 h2) ∧
                                                              ∀ (p8 : Nat) (h3 : Hp) (a7 : AV),
                                                                a7.sc = true →
                                                                  ∀ (n3 : Int),
                                                                    I1 p8 a7 n3 h3 →
                                                                      onB (decide (n3 < ↑p6))
                                                                        (onO (idxV a6 n3 3) fun r2 =>
                                                                          onO (rdH h3 r2.fst r2.snd 3) fun l2 =>
                                                                            onL [Kd.bool, Kd.int IntKind.i64, Kd.ref] l2 fun lc0 n4 a8 =>
                                                                              ∀ (p9 : Nat),
                                                                                wpC Try.prog 57 [AV.agg [AV.b lc0, AV.i IntKind.i64 n4, a8], a7]
                                                                                  (fun a9 h4 =>
                                                                                    onRet [Sh.one Kd.ref] a9 fun a10 =>
                                                                                      onO (intO BinOp.add IntKind.i64 n3 1) fun n5 => ∃ p10, ltN p10 p8 ∧ I1 p10 a10 n5 h4)
                                                                                  h3)
                                                                        (onO (lenV a4) fun p11 =>
                                                                          onB (decide (n2 < ↑p11))
                                                                            (onO (idxV a4 n2 3) fun r3 =>
                                                                              onO (rdH h3 r3.fst (r3.snd + 0) 1) fun l3 =>
                                                                                onL [Kd.bool] l3 fun lc1 =>
                                                                                  onB (!lc1)
                                                                                    (onO (idxV a4 n2 3) fun r4 =>
                                                                                      onO (rdH h3 r4.fst r4.snd 3) fun l4 =>
                                                                                        onL [Kd.bool, Kd.int IntKind.i64, Kd.ref] l4 fun lc2 n6 a11 =>
                                                                                          ∀ (p12 : Nat),
                                                                                            onO (lenV a11) fun p13 =>
                                                                                              onO (intO BinOp.add IntKind.i64 (↑p13) 1) fun n7 =>
                                                                                                wpC Try.prog 55 [AV.i IntKind.i64 n7, AV.p p0 0]
                                                                                                  (fun a12 h5 =>
                                                                                                    onRet [Sh.one (Kd.int IntKind.i64)] a12 fun n8 =>
                                                                                                      onO (slV a11 none (some n8) none 1) fun a13 =>
                                                                                                        wpC Try.prog 57 [AV.agg [AV.b lc2, AV.i IntKind.i64 n6, a13], a7]
                                                                                                          (fun a14 h6 =>
                                                                                                            onRet [Sh.one Kd.ref] a14 fun a15 =>
                                                                                                              ∀ (p14 : Nat),
                                                                                                                wpE (Eff.app a0 1 (Src.lit [a15]) 1)
                                                                                                                  (fun x0 h7 =>
                                                                                                                    onO x0 fun a16 =>
                                                                                                                      onO (intO BinOp.add IntKind.i64 n0 1) fun n9 =>
                                                                                                                        ∃ p15, ltN p15 p2 ∧ I0 p15 a16 n9 h7)
                                                                                                                  h6)
                                                                                                          h5)
                                                                                                  h3)
                                                                                    (∀ (p16 : Nat),
                                                                                      wpE (Eff.app a0 1 (Src.lit [a7]) 1)
                                                                                        (fun x1 h8 =>
                                                                                          onO x1 fun a17 => onO (intO BinOp.add IntKind.i64 n0 1) fun n10 => ∃ p17, ltN p17 p2 ∧ I0 p17 a17 n10 h8)
                                                                                        h3))
                                                                            (∀ (p18 : Nat),
                                                                              wpE (Eff.app a0 1 (Src.lit [a7]) 1)
                                                                                (fun x2 h9 => onO x2 fun a18 => onO (intO BinOp.add IntKind.i64 n0 1) fun n11 => ∃ p19, ltN p19 p2 ∧ I0 p19 a18 n11 h9)
                                                                                h3)))
                                                  h1)
                              h0)
                    (onO (ptrV a) fun r5 => wpE (Eff.w r5.fst (r5.snd + 9) (Src.lit [AV.b true]) none) (fun x3 h10 => Post a0 h10) h0)) := by kernel_rfl
/- (*arras/disk.Disk).Size -/
theorem vc74 (a : AV) (b : Int) (h : Hp) (Post : AV → Hp → Prop) : vcCall Try.prog [] 74 [(SV.vv a), (SV.ii .i64 b)] h Post = (
  wpC Try.prog 94 [a, AV.i IntKind.i64 b]
  (fun a0 h0 =>
    onRet [Sh.one (Kd.int IntKind.i64)] a0 fun n0 =>
      onB (!decide (n0 = 0)) (Post (AV.tup [AV.i IntKind.i64 0, AV.i IntKind.i64 n0]) h0)
        (onO (ptrV a) fun r0 =>
          onO (natLt b 3) fun p0 =>
            onO (rdH h0 r0.fst (r0.snd + 0 + p0 * 3 + 1) 1) fun l0 => onL [Kd.ref] l0 fun a1 => onO (lenV a1) fun p1 => Post (AV.tup [AV.i IntKind.i64 ↑p1, AV.i IntKind.i64 0]) h0))
  h) := by kernel_rfl
/- slices.Clone[[]byte,byte] -/
theorem vc43 (a : AV) (h : Hp) (Post : AV → Hp → Prop) : vcCall Try.prog [] 43 [(SV.vv a)] h Post = (
  onO (nilSl a) fun lc0 =>
  onB lc0 (Post AV.ns h)
    (∀ (p0 : Nat),
      h.g p0 = none →
        h.lo.le p0 →
          onO (srcV 1 a) fun r0 =>
            onC (((4 * r0.fst + 4000) * 1).ble (OfNat.ofNat 17179869184)) (wpE (Eff.app (AV.sl p0 0 0 0 true 1) r0.fst r0.snd 1) (fun x0 h0 => onO x0 fun a0 => Post a0 h0) (h.put p0 [])))) := by kernel_rfl
/- (*arras/disk.Disk).call -/
theorem vc78 (a : AV) (b : Int) (h : Hp) (Post : AV → Hp → Prop) : vcCall Try.prog [] 78 [(SV.vv a), (SV.ii .i64 b)] h Post = (
  onO (ptrV a) fun r0 =>
  onO (rdH h r0.fst (r0.snd + 10) 1) fun l0 =>
    onL [Kd.bool] l0 fun lc0 =>
      onB lc0
        (onO (ptrV a) fun r1 =>
          onO (rdH h r1.fst (r1.snd + 9) 1) fun l1 =>
            onL [Kd.bool] l1 fun lc1 =>
              onB (!lc1)
                (onO (ptrV a) fun r2 =>
                  onO (rdH h r2.fst (r2.snd + 11) 1) fun l2 =>
                    onL [Kd.int IntKind.i64] l2 fun n0 =>
                      onO (intO BinOp.sub IntKind.i64 n0 1) fun n1 =>
                        onO (ptrV a) fun r3 =>
                          wpE (Eff.w r3.fst (r3.snd + 11) (Src.lit [AV.i IntKind.i64 n1]) none)
                            (fun x0 h0 =>
                              onO (ptrV a) fun r4 =>
                                onO (rdH h0 r4.fst (r4.snd + 11) 1) fun l3 =>
                                  onL [Kd.int IntKind.i64] l3 fun n2 =>
                                    onO (ptrV a) fun r5 =>
                                      wpE (Eff.w r5.fst (r5.snd + 9) (Src.lit [AV.b (decide (n2 < 1))]) none)
                                        (fun x1 h1 => wpC Try.prog 94 [a, AV.i IntKind.i64 b] (fun a0 h2 => onRet [Sh.one (Kd.int IntKind.i64)] a0 fun n3 => Post (AV.i IntKind.i64 n3) h2) h1) h0)
                            h)
                (wpC Try.prog 94 [a, AV.i IntKind.i64 b] (fun a1 h3 => onRet [Sh.one (Kd.int IntKind.i64)] a1 fun n4 => Post (AV.i IntKind.i64 n4) h3) h))
        (wpC Try.prog 94 [a, AV.i IntKind.i64 b] (fun a2 h4 => onRet [Sh.one (Kd.int IntKind.i64)] a2 fun n5 => Post (AV.i IntKind.i64 n5) h4) h)) := by kernel_rfl
/- (*arras/disk.Disk).does -/
theorem vc79 (a : AV) (b : Int) (lc0 : Bool) (lc1 : Int) (lc2 : AV) (h : Hp) (Post : AV → Hp → Prop) : vcCall Try.prog [] 79 [(SV.vv a), (SV.ii .i64 b), (SV.ag [(SV.bb lc0), (SV.ii .i64 lc1), (SV.vv lc2)])] h Post = (
  ∀ (p0 : Nat),
  onO (ptrV a) fun r0 =>
    onO (natLt b 3) fun p1 =>
      onO (rdH h r0.fst (r0.snd + 0 + p1 * 3 + 1) 1) fun l0 =>
        onL [Kd.ref] l0 fun a0 =>
          wpC Try.prog 57 [AV.agg [AV.b lc0, AV.i IntKind.i64 lc1, lc2], a0]
            (fun a1 h0 =>
              onRet [Sh.one Kd.ref] a1 fun a2 =>
                wpE (Eff.w r0.fst (r0.snd + 0 + p1 * 3 + 1) (Src.lit [a2]) none)
                  (fun x0 h1 =>
                    onO (rdH h1 r0.fst (r0.snd + 0 + p1 * 3 + 2) 1) fun l1 =>
                      onL [Kd.ref] l1 fun a3 =>
                        ∀ (p2 : Nat),
                          wpE (Eff.app a3 1 (Src.lit [AV.b lc0, AV.i IntKind.i64 lc1, lc2]) 3)
                            (fun x1 h2 => onO x1 fun a4 => wpE (Eff.w r0.fst (r0.snd + 0 + p1 * 3 + 2) (Src.lit [a4]) none) (fun x2 h3 => Post (AV.i IntKind.i64 0) h3) h2) h1)
                  h0)
            h) := by kernel_rfl
/- (*arras/disk.file).settle -/
theorem vc80 (a : AV) (h : Hp) (Post : AV → Hp → Prop) : vcCall Try.prog [0] 80 [(SV.vv a)] h Post = (
  ∃ I0 : Nat → Hp → Prop,
  (∃ p0, I0 p0 h) ∧
    ∀ (p1 : Nat) (h0 : Hp),
      I0 p1 h0 →
        Dup
          (onO (ptrV a) fun r0 =>
            onO (rdH h0 r0.fst (r0.snd + 2) 1) fun l0 =>
              onL [Kd.ref] l0 fun a0 =>
                onO (lenV a0) fun p2 =>
                  onB (decide ((0 : Int) < ↑p2))
                    (onO (ptrV a) fun r1 =>
                      onO (rdH h0 r1.fst (r1.snd + 2) 1) fun l1 =>
                        onL [Kd.ref] l1 fun a1 =>
                          onO (idxV a1 0 3) fun r2 =>
                            onO (rdH h0 r2.fst r2.snd 3) fun l2 =>
                              onL [Kd.bool, Kd.int IntKind.i64, Kd.ref] l2 fun lc0 n0 a2 =>
                                onO (ptrV a) fun r3 =>
                                  onO (rdH h0 r3.fst (r3.snd + 0) 1) fun l3 =>
                                    onL [Kd.ref] l3 fun a3 =>
                                      wpC Try.prog 57 [AV.agg [AV.b lc0, AV.i IntKind.i64 n0, a2], a3]
                                        (fun a4 h1 =>
                                          onRet [Sh.one Kd.ref] a4 fun a5 =>
                                            onO (ptrV a) fun r4 =>
                                              wpE (Eff.w r4.fst (r4.snd + 0) (Src.lit [a5]) none)
                                                (fun x0 h2 =>
                                                  onO (ptrV a) fun r5 =>
                                                    onO (rdH h2 r5.fst (r5.snd + 2) 1) fun l4 =>
                                                      onL [Kd.ref] l4 fun a6 =>
                                                        onO (slV a6 (some 1) none none 3) fun a7 =>
                                                          onO (ptrV a) fun r6 => wpE (Eff.w r6.fst (r6.snd + 2) (Src.lit [a7]) none) (fun x1 h3 => ∃ p3, ltN p3 p1 ∧ I0 p3 h3) h2)
                                                h1)
                                        h0)
                    (Post (AV.tup []) h0))) := by kernel_rfl
/- (*arras/disk.Disk).Crash$1 -/
theorem vc55 (x : Int) (q : Nat) (h : Hp) (Post : AV → Hp → Prop) : vcCall Try.prog [] 55 [.ii .i64 x, .vv (.p q 0)] h Post = (
  onO (ptrV (AV.p q 0)) fun r0 =>
  onO (rdH h r0.fst r0.snd 1) fun l0 =>
    onL [Kd.ref] l0 fun a0 =>
      onO (lenV a0) fun p0 =>
        onB (decide ((↑p0 : Int) = 0)) (Post (AV.i IntKind.i64 0) h)
          (onO (ptrV (AV.p q 0)) fun r1 =>
            onO (rdH h r1.fst r1.snd 1) fun l1 =>
              onL [Kd.ref] l1 fun a1 =>
                onO (idxV a1 0 1) fun r2 =>
                  onO (rdH h r2.fst r2.snd 1) fun l2 =>
                    onL [Kd.int IntKind.i64] l2 fun n0 =>
                      onO (ptrV (AV.p q 0)) fun r3 =>
                        onO (rdH h r3.fst r3.snd 1) fun l3 =>
                          onL [Kd.ref] l3 fun a2 =>
                            onO (slV a2 (some 1) none none 1) fun a3 =>
                              onO (ptrV (AV.p q 0)) fun r4 =>
                                wpE (Eff.w r4.fst r4.snd (Src.lit [a3]) none)
                                  (fun x0 h0 =>
                                    wpC Try.prog 56 [AV.i IntKind.i64 n0, AV.i IntKind.i64 x] (fun a4 h1 => onRet [Sh.one (Kd.int IntKind.i64)] a4 fun n1 => Post (AV.i IntKind.i64 n1) h1) h0)
                                  h)) := by kernel_rfl
/- arras/disk.modulo -/
theorem vc56 (a : Int) (b : Int) (h : Hp) (Post : AV → Hp → Prop) : vcCall Try.prog [] 56 [(SV.ii .i64 a), (SV.ii .i64 b)] h Post = (
  onO (intO BinOp.rem IntKind.i64 a b) fun n0 => onO (intO BinOp.add IntKind.i64 n0 b) fun n1 => onO (intO BinOp.rem IntKind.i64 n1 b) fun n2 => Post (AV.i IntKind.i64 n2) h) := by kernel_rfl
/- (arras/disk.op).do -/
theorem vc57 (a0 : Bool) (a1 : Int) (a2 : AV) (b : AV) (h : Hp) (Post : AV → Hp → Prop) : vcCall Try.prog [] 57 [(SV.ag [(SV.bb a0), (SV.ii .i64 a1), (SV.vv a2)]), (SV.vv b)] h Post = (
  ∀ (p0 : Nat),
  onB a0 (onO (slV b none (some a1) none 1) fun a0 => Post a0 h)
    (onO (lenV a2) fun p1 =>
      onO (intO BinOp.add IntKind.i64 a1 ↑p1) fun n0 =>
        onO (lenV b) fun p2 =>
          onO (intO BinOp.sub IntKind.i64 n0 ↑p2) fun n1 =>
            onB (decide (0 < n1))
              (onO (natI n1) fun p3 =>
                onC (p3.blt 32000000 && ((4 * p3 + 4000) * 1).ble (OfNat.ofNat 17179869184))
                  (wpE (Eff.app b p3 (Src.lit (zerosV [AV.i IntKind.u8 0] p3)) 1)
                    (fun x0 h0 => onO x0 fun a1_1 => onO (slV a1_1 (some a1) none none 1) fun a2_1 => onO (copyV 1 a2_1 a2) fun r0 => wpE r0.snd (fun x1 h1 => Post a1_1 h1) h0) h))
              (onO (slV b (some a1) none none 1) fun a3 => onO (copyV 1 a3 a2) fun r1 => wpE r1.snd (fun x2 h2 => Post b h2) h))) := by kernel_rfl
/- (*arras/disk.Disk).ask -/
theorem vc94 (a : AV) (b : Int) (h : Hp) (Post : AV → Hp → Prop) : vcCall Try.prog [] 94 [(SV.vv a), (SV.ii .i64 b)] h Post = (
  onO (ptrV a) fun r0 =>
  onO (rdH h r0.fst (r0.snd + 9) 1) fun l0 =>
    onL [Kd.bool] l0 fun lc0 =>
      onB lc0 (Post (AV.i IntKind.i64 10) h) (onB (decide (b < 0)) (Post (AV.i IntKind.i64 1) h) (onB (decide (3 ≤ b)) (Post (AV.i IntKind.i64 1) h) (Post (AV.i IntKind.i64 0) h)))) := by kernel_rfl
/-! ### parts -/
theorem add_cases {p g : Hp} {k : Nat} {c : List AV} (e : (p.add g).g k = some c) : p.g k = some c ∨ g.g k = some c := by
  have e : (match p.g k with | some c => some c | none => g.g k) = some c := e
  cases h : p.g k with
  | none => rw [h] at e; exact .inr e
  | some x => rw [h] at e; exact .inl e
theorem restH_le (H q : Hp) : (restH H q).le H := fun k c e => by
  have e : (match q.g k with | some _ => none | none => H.g k) = some c := e
  cases h : q.g k with
  | none => rw [h] at e; exact e
  | some x => rw [h] at e; cases e
theorem rest_none {H q : Hp} {k : Nat} (h : q.g k ≠ none) : (restH H q).g k = none := by
  show (match q.g k with | some _ => none | none => H.g k) = none
  cases e : q.g k with
  | none => exact absurd e h
  | some x => rfl
theorem rest_some {H q : Hp} {k : Nat} (h : q.g k = none) : (restH H q).g k = H.g k := by
  show (match q.g k with | some _ => none | none => H.g k) = _
  rw [h]
theorem Fresh.outer {p q H : Hp} {a : AV} {sz : Nat} {css : List (List AV)} (f : Fresh p q a sz css) (l : q.le H) (lo : p.lo = H.lo) : Fresh (restH H q) H a sz css :=
  ⟨restH_le _ _, rfl, f.row.mono l, fun b o len lo' ex z e => by
    obtain ⟨n1, n2, cs, n3, n4⟩ := f.new _ _ _ _ _ _ e
    exact ⟨rest_none (by rw [n3]; simp), by show H.lo ≤ b; rw [← lo]; exact n2, cs, l b cs n3, n4⟩⟩
theorem disj_none {q : Hp} {lo : Nat} : Disj q (Hp.none lo) := fun k c e => rfl
theorem none_disj {q : Hp} {lo : Nat} : Disj (Hp.none lo) q := fun k c e => by cases e
theorem rdBox {h : Hp} {p o n : Nat} {c r : List AV} (hp : h.g p = some c) (hs : sub? c o n = some r) : rdH h p o n = some r := by
  unfold rdH
  rw [hp]; exact hs
/-- what a call added, and what was seen of the base -/
noncomputable def moreH (h h' B : Hp) : Hp := h'.res fun k => h.g k = none ∨ B.g k ≠ none
theorem more_le {h h' B : Hp} : (moreH h h' B).le h' := Hp.res_le _ _
theorem more_base {h h' B : Hp} (b : B.le h) (l : B.le h') : B.le (moreH h h' B) := fun k c e => by
  unfold moreH
  rw [Hp.res_in (.inr (by rw [e]; simp))]; exact l _ _ e
theorem more_new {h h' B X : Hp} (l : X.le h') (d : Disj X h) : X.le (moreH h h' B) := fun k c e => by
  unfold moreH
  rw [Hp.res_in (.inl (d k c e))]; exact l _ _ e
theorem more_disj {h h' B q : Hp} (l : q.le h) (d : Disj q B) : Disj q (moreH h h' B) := fun k c e => by
  unfold moreH
  rw [Hp.res_out]
  rintro (h1 | h1)
  · rw [l k c e] at h1; cases h1
  · exact h1 (d k c e)
/-- a row of flat data in a part of its own -/
def PK {α : Type} (d : Kn α) (lo : Nat) (q : Hp) (a : AV) (l : List α) : Prop := q.lo = lo ∧ d.Own (Hp.none lo) q a l
theorem PK.row {α : Type} {d : Kn α} {lo : Nat} {q H : Hp} {a : AV} {l : List α} (p : PK d lo q a l) (le : q.le H) : d.Row H a l := p.2.row.mono le
theorem PK.outer {α : Type} {d : Kn α} (fl : d.Flat) {q H : Hp} {a : AV} {l : List α} (p : PK d H.lo q a l) (le : q.le H) : d.Own (restH H q) H a l := by
  obtain ⟨h1, p0, css, p1, p2, f, p3⟩ := p
  exact ⟨restH H q, css, Hp.le_refl _, rfl, f.outer le p2, p3.mono fun _ _ k => fl _ _ _ _ k⟩
theorem PK.of {α : Type} {d : Kn α} (fl : d.Flat) {g H : Hp} {a : AV} {l : List α} (o : d.Own g H a l) : ∃ q, q.le H ∧ Disj q g ∧ PK d g.lo q a l := by
  obtain ⟨p, css, p1, p2, f, p3⟩ := o
  obtain ⟨q, q1, q2, q3, q4, q5⟩ := f.part
  rw [p2] at q5
  exact ⟨q, q1, q2.le_right p1, q3.trans p2, Hp.none g.lo, css, Hp.le_refl _, rfl, q5, p3.mono fun _ _ k => fl _ _ _ _ k⟩
theorem PK.nil {α : Type} (d : Kn α) (lo : Nat) : PK d lo (Hp.none lo) .ns [] := ⟨rfl, Kn.Own.nil d _⟩
/-! ### rows of one's own: a beginning, written over -/
theorem Fresh.upto {g h : Hp} {a : AV} {sz : Nat} {css : List (List AV)} (f : Fresh g h a sz css) {i : Nat} (hi : i ≤ css.length) : ∃ r, slV a none (some (i : Int)) none sz = some r ∧ Fresh g h r sz (css.take i) := by
  have hrow := f.row
  have hcc := hrow.1
  have r := hrow.2
  cases a <;> first | exact r.elim | skip
  · rename_i b o len lo ex z
    obtain ⟨r1, r2, r3, r4⟩ := r
    subst r1; subst r2
    obtain ⟨n1, n2, cs, n3, n4⟩ := f.new _ _ _ _ _ _ rfl
    refine ⟨.sl b o i lo ex z, ?_, f.le, f.lo, ⟨fun c hc => hcc c (List.mem_of_mem_take hc), rfl, by simp; omega, by omega, ?_⟩, fun b' o' len' lo' ex' z' e => ?_⟩
    · show (cond (Nat.beq z z) (cond (Nat.ble 0 i && Nat.ble i lo) (some (.sl b (cond (Nat.beq lo 0) o (o + 0 * z)) (i - 0) (lo - 0) ex z)) none) none : Option AV) = _
      rw [Nat.beq_refl, cond_true, Nat.ble_eq_true_of_le (Nat.zero_le _), Nat.ble_eq_true_of_le (show i ≤ lo by omega), Nat.zero_mul, Nat.add_zero, Nat.sub_zero, Nat.sub_zero]
      cases Nat.beq lo 0 <;> rfl
    · rcases r4 with e | e
      · exact .inl (by rw [e]; simp)
      · refine .inr ?_
        have hl : (css.take i).length = i := by simp; omega
        rw [hl]
        have hle : i * z ≤ css.length * z := Nat.mul_le_mul_right _ hi
        obtain ⟨c, e1, e2⟩ := bind_some' e
        unfold rdH
        rw [e1, Option.bind_some]
        obtain ⟨rfl', e3⟩ := sub_at e2
        rw [sub_mk (by omega)]
        congr 1
        have hft : css.flatten.take (i * z) = (css.take i).flatten := by
          have : ∀ (css : List (List AV)) (i : Nat), (∀ c ∈ css, c.length = z) → css.flatten.take (i * z) = (css.take i).flatten := by
            intro css
            induction css with
            | nil => intro i _; simp
            | cons c css ih =>
              intro i hc
              cases i with
              | zero => simp
              | succ i =>
                have h0 := hc c (by simp)
                rw [List.flatten_cons, List.take_succ_cons, List.flatten_cons, Nat.succ_mul, Nat.add_comm, ← h0, List.take_length_add_append, h0, ih i fun c hc' => hc c (by simp [hc'])]
          exact this css i hcc
        rw [← hft, rfl', List.take_take, Nat.min_eq_left hle]
    · injection e with e1 e2 e3 e4 e5 e6
      subst e1; subst e2; subst e4
      exact ⟨n1, n2, cs, n3, n4⟩
  · have r : css = [] := r
    subst r
    have : i = 0 := by simpa using hi
    subst this
    exact ⟨.ns, rfl, by simpa using f⟩
  · have r : css = [] := r
    subst r
    have : i = 0 := by simpa using hi
    subst this
    exact ⟨_, rfl, by simpa using f⟩
theorem Kn.Own.upto {α : Type} {d : Kn α} {g h : Hp} {a : AV} {l : List α} (o : d.Own g h a l) {i sz : Nat} (hsz : d.sz = sz) (hi : i ≤ l.length) : ∃ r, slV a none (some (i : Int)) none sz = some r ∧ d.Own g h r (l.take i) := by
  subst hsz
  obtain ⟨p, css, p1, p2, f, p3⟩ := o
  obtain ⟨r, e1, e2⟩ := f.upto (i := i) (by rw [← p3.length]; exact hi)
  exact ⟨r, e1, p, _, p1, p2, e2, p3.take i⟩
theorem splice_mid {c N : List AV} {o n d : Nat} (hd : d + N.length ≤ n) (hl : o + n ≤ c.length) : ((splice c (o + d) N).drop o).take n = ((c.drop o).take n).take d ++ (N ++ ((c.drop o).take n).drop (d + N.length)) := by
  have h1 : sub? c o n = some ((c.drop o).take n) := sub_mk hl
  have h2 := sub_splice_in (d := d) (new := N) h1 hd
  rw [sub_mk (by rw [splice_len _ _ _ (by omega)]; exact hl)] at h2
  have h3 := Option.some.inj h2
  rw [h3]
  unfold splice
  simp only [List.append_assoc]
/-- what may be copied: as many as are seen -/
theorem lenA_of {a : AV} {n : Nat} (h : lenV a = some n) : lenA a = some n := by
  cases a <;> first | exact h | (cases h)
/-- elements copied over, at a place -/
theorem Kn.Own.over {α : Type} {d : Kn α} (fl : d.Flat) {g h : Hp} {a x : AV} {l m : List α} {i : Nat} (o : d.Own g h a l) (hsz : d.sz = 1) (rx : d.Row h x m) (hi : i + m.length ≤ l.length) {Post : Option AV → Hp → Prop}
    (k : ∀ h', d.Own g h' a (l.take i ++ (m ++ l.drop (i + m.length))) → (∀ v, Post v h')) : onO (slV a (some (i : Int)) none none 1) fun a3 => onO (copyV 1 a3 x) fun r1 => wpE r1.2 Post h := by
  obtain ⟨p, css, p1, p2, f, p3⟩ := o
  obtain ⟨css2, r1, r2⟩ := rx
  rw [hsz] at f r1
  have hl := p3.length
  have hm := r2.length
  have hrow := f.row
  have hcc := hrow.1
  have r := hrow.2
  have one : ∀ (css : List (List AV)), (∀ c ∈ css, c.length = 1) → css.flatten.length = css.length := fun css hc => by
    have := flat_len (sz := 1) hc
    omega
  -- nothing to copy
  by_cases h0 : m.length = 0
  · have hm0 : m = [] := List.length_eq_zero_iff.1 h0
    have hc0 : css2 = [] := List.length_eq_zero_iff.1 (by omega)
    subst hm0; subst hc0
    have hsame : l.take i ++ ([] ++ l.drop (i + ([] : List α).length)) = l := by simp
    rw [hsame] at k
    have hlen : lenA x = some 0 := lenA_of r1.len
    obtain ⟨r', e1, e2⟩ := Raw.slice hrow (lo := some (i : Int)) (hi := none) (i := i) (j := css.length) rfl rfl (by simp at hi; omega) (Nat.le_refl _) (fun _ => trivial)
    refine onO.mk e1 ?_
    have hk : ∀ v, Post v h := k h ⟨p, css, p1, p2, by rw [hsz]; exact f, p3⟩
    have hr' := e2.2
    cases r' <;> first | exact hr'.elim | skip
    · rename_i b o len lo ex z
      obtain ⟨z1, z2, _⟩ := hr'
      subst z1
      refine onO.mk (a := (0, Eff.q (.i .i64 0))) ?_ (wpE.q (hk _))
      show ((lenA x).bind fun n => cond (Nat.beq 1 1) (cond (Nat.beq (Nat.min n len) 0) _ _) none) = _
      rw [hlen, Option.bind_some, Nat.beq_refl, cond_true, show Nat.min 0 len = 0 from Nat.zero_min _]
      rfl
    · refine onO.mk (a := (0, Eff.q (.i .i64 0))) ?_ (wpE.q (hk _))
      show ((lenA x).bind fun n => some (0, Eff.q (.i .i64 0))) = _
      rw [hlen]; rfl
    · refine onO.mk (a := (0, Eff.q (.i .i64 0))) ?_ (wpE.q (hk _))
      show ((lenA x).bind fun n => some (0, Eff.q (.i .i64 0))) = _
      rw [hlen]; rfl
  have hcne : css ≠ [] := by
    intro e
    have e2 : css.length = 0 := by rw [e]; rfl
    omega
  cases a <;> first | exact r.elim | exact absurd r hcne | skip
  rename_i b o len lo ex z
  obtain ⟨q1, q2, q3, q4⟩ := r
  subst q1
  obtain ⟨n1, n2, cs, n3, n4⟩ := f.new _ _ _ _ _ _ rfl
  have q5 : sub? cs o (css.length * 1) = some css.flatten := by
    rcases q4 with e | e
    · exact absurd e hcne
    · unfold rdH at e; rw [n3] at e; exact e
  obtain ⟨e6, h6⟩ := sub_at q5
  have hlo : h.lo ≤ b := by rw [f.lo]; exact n2
  obtain ⟨s, s1, s2⟩ := r1.src
  have hne : css2.length ≠ 0 := by omega
  -- where it comes from
  have hsrc : ∃ xb xo xl xc xe, x = .sl xb xo xl xc xe 1 ∧ xl = css2.length ∧ rdH h xb xo (css2.length * 1) = some css2.flatten := by
    have rr := r1.2
    cases x <;> first | exact rr.elim | (have rr : css2 = [] := rr; rw [rr] at hne; simp at hne; done) | skip
    obtain ⟨t1, t2, t3, t4⟩ := rr
    subst t1
    refine ⟨_, _, _, _, _, rfl, t2, ?_⟩
    rcases t4 with e | e
    · rw [e] at hne; simp at hne
    · exact e
  obtain ⟨xb, xo, xl, xc, xe, rfl, rfl, hrd⟩ := hsrc
  have hsl : slV (.sl b o len lo ex 1) (some (i : Int)) none none 1 = some (.sl b (cond (Nat.beq lo i) o (o + i * 1)) (len - i) (lo - i) ex 1) := by
    show (cond (Nat.beq 1 1) (cond (Nat.ble i len && Nat.ble len lo) _ none) none : Option AV) = _
    rw [Nat.beq_refl, cond_true, Nat.ble_eq_true_of_le (show i ≤ len by omega), Nat.ble_eq_true_of_le q3]; rfl
  have hlne : Nat.beq lo i = false := by
    cases hx : Nat.beq lo i with
    | false => rfl
    | true => have := beq_eq' hx; omega
  rw [hlne, cond_false] at hsl
  refine onO.mk hsl (onO.mk (a := (css2.length, Eff.w b (o + i * 1) (.mem xb xo (css2.length * 1)) (some (.i .i64 (.ofNat css2.length))))) ?_ ?_)
  · show ((some css2.length : Option Nat).bind fun n => cond (Nat.beq 1 1) (cond (Nat.beq (Nat.min n (len - i)) 0) _ ((srcN 1 (Nat.min n (len - i)) (.sl xb xo css2.length xc xe 1)).map fun src => (Nat.min n (len - i), Eff.w b (o + i * 1) src (some (.i .i64 (.ofNat (Nat.min n (len - i)))))))) none) = _
    rw [Option.bind_some, Nat.beq_refl, cond_true, show Nat.min css2.length (len - i) = css2.length from Nat.min_eq_left (by omega)]
    have hb0 : Nat.beq css2.length 0 = false := by
      cases hx : Nat.beq css2.length 0 with
      | false => rfl
      | true => exact absurd (beq_eq' hx) hne
    rw [hb0, cond_false]
    rfl
  · have lc1 := one css2 r1.1
    refine wpE.w n3 hlo hrd (by omega) (Kn.all_sc r2) (k _ ⟨p, css.take i ++ (css2 ++ css.drop (i + css2.length)), p1, p2, ?_, ?_⟩ _)
    · rw [hsz]
      have hlen : (css.take i ++ (css2 ++ css.drop (i + css2.length))).length = len := by simp; omega
      have fl1 : ∀ (css : List (List AV)) (i : Nat), (∀ c ∈ css, c.length = 1) → (css.take i).flatten = css.flatten.take i ∧ (css.drop i).flatten = css.flatten.drop i := by
        intro css
        induction css with
        | nil => intro i _; simp
        | cons c css ih =>
          intro i hc
          have hc1 := hc c (by simp)
          obtain ⟨x, rfl⟩ : ∃ x, c = [x] := List.length_eq_one_iff.1 hc1
          cases i with
          | zero => simp
          | succ i =>
            obtain ⟨h1, h2⟩ := ih i fun c hc' => hc c (by simp [hc'])
            simp [h1, h2]
      refine ⟨fun k c e => ?_, f.lo, ⟨fun c hc => ?_, rfl, hlen.symm, q3, .inr ?_⟩, fun b' o' len' lo' ex' z' e => ?_⟩
      · by_cases hk : k = b
        · rw [hk, n1] at e; cases e
        · rw [Hp.put_ne _ _ hk]; exact f.le k c e
      · rcases List.mem_append.1 hc with hc | hc
        · exact hcc c (List.mem_of_mem_take hc)
        · rcases List.mem_append.1 hc with hc | hc
          · exact r1.1 c hc
          · exact hcc c (List.mem_of_mem_drop hc)
      · unfold rdH
        rw [Hp.put_same, Option.bind_some, hlen, sub_mk (by rw [splice_len _ _ _ (by omega)]; omega)]
        congr 1
        have hll : css.length = len := q2.symm
        rw [Nat.mul_one, Nat.mul_one, splice_mid (by omega) (by omega)]
        rw [hll, Nat.mul_one] at e6
        rw [← e6, List.flatten_append, List.flatten_append, (fl1 css i hcc).1, (fl1 css _ hcc).2, lc1]
      · injection e with e1 e2 e3 e4 e5 e6
        subst e1; subst e2; subst e4
        exact ⟨n1, n2, _, Hp.put_same _ _ _, by rw [splice_len _ _ _ (by omega)]; exact n4⟩
    · rw [← hm]
      exact (p3.take i).append ((r2.mono fun _ _ k => fl _ _ _ _ k).append (p3.drop _))
theorem one_le {h : Hp} {p lo : Nat} {c : List AV} (e : h.g p = some c) : (Hp.one p c lo).le h := fun k x hk => by
  have hk : (if k = p then some c else none) = some x := hk
  by_cases h : k = p
  · rw [if_pos h] at hk; rw [h, e]; exact hk
  · rw [if_neg h] at hk; cases hk
theorem disj_one {q : Hp} {p lo : Nat} {c : List AV} (e : q.g p = none) : Disj q (Hp.one p c lo) := fun k x hk => by
  show (if k = p then some c else none) = none
  exact if_neg fun h => by rw [h, e] at hk; cases hk
def updQ (Q : Nat → Hp) (i : Nat) (q : Hp) : Nat → Hp := fun j => if j = i then q else Q j
theorem updQ_same {Q : Nat → Hp} {i : Nat} {q : Hp} : updQ Q i q i = q := if_pos rfl
theorem updQ_ne {Q : Nat → Hp} {i j : Nat} {q : Hp} (e : j ≠ i) : updQ Q i q j = Q j := if_neg e
structure Sep (lo : Nat) (F : Hp) (Q : Nat → Hp) (h : Hp) : Prop where
  hlo : h.lo = lo
  fle : F.le h
  flo : F.lo = lo
  le : ∀ i, (Q i).le h
  lo : ∀ i, (Q i).lo = lo
  df : ∀ i, Disj (Q i) F
  dd : ∀ i j, i ≠ j → Disj (Q i) (Q j)
namespace Sep
variable {lo : Nat} {F : Hp} {Q : Nat → Hp} {h h' : Hp}
theorem step (s : Sep lo F Q h) (i : Nat) {q' : Hp} (r : (restH h (Q i)).le h') (l : h'.lo = lo) (q1 : q'.le h') (q2 : Disj q' (restH h (Q i))) (q3 : q'.lo = lo) : Sep lo F (updQ Q i q') h' := by
  have fr : F.le (restH h (Q i)) := le_rest s.fle (s.df i)
  have qr : ∀ j, j ≠ i → (Q j).le (restH h (Q i)) := fun j e => le_rest (s.le j) (s.dd i j (Ne.symm e))
  refine ⟨l, Hp.le_trans fr r, s.flo, fun j => ?_, fun j => ?_, fun j => ?_, fun j k e => ?_⟩
  · by_cases e : j = i
    · subst e; rw [updQ_same]; exact q1
    · rw [updQ_ne e]; exact Hp.le_trans (qr j e) r
  · by_cases e : j = i
    · subst e; rw [updQ_same, q3]
    · rw [updQ_ne e, s.lo]
  · by_cases e : j = i
    · subst e; rw [updQ_same]; exact q2.le_right fr
    · rw [updQ_ne e]; exact s.df j
  · by_cases e1 : j = i
    · subst e1; rw [updQ_same, updQ_ne (Ne.symm e)]; exact q2.le_right (qr k (Ne.symm e))
    · by_cases e2 : k = i
      · subst e2; rw [updQ_same, updQ_ne e1]; exact (q2.le_right (qr j e1)).symm
      · rw [updQ_ne e1, updQ_ne e2]; exact s.dd j k e
theorem grow (s : Sep lo F Q h) (l : h.le h') (e : h'.lo = h.lo) : Sep lo F Q h' :=
  ⟨e.trans s.hlo, Hp.le_trans s.fle l, s.flo, fun i => Hp.le_trans (s.le i) l, s.lo, s.df, s.dd⟩
theorem frz (s : Sep lo F Q h) (l : h.le h') (e : h'.lo = h.lo) : Sep lo (moreH h h' F) Q h' :=
  ⟨e.trans s.hlo, more_le, e.trans s.hlo, fun i => Hp.le_trans (s.le i) l, s.lo, fun i => more_disj (s.le i) (s.df i), s.dd⟩
theorem fgrow (s : Sep lo F Q h) (l : h.le h') : F.le (moreH h h' F) := more_base s.fle (Hp.le_trans s.fle l)
theorem new (s : Sep lo F Q h) (i : Nat) (l : h.le h') (e : h'.lo = h.lo) {q' : Hp} (q1 : q'.le h') (q2 : Disj q' h) (q3 : q'.lo = lo) : Sep lo F (updQ Q i q') h' :=
  s.step i (Hp.le_trans (restH_le _ _) l) (e.trans s.hlo) q1 (q2.le_right (restH_le _ _)) q3
theorem drop (s : Sep lo F Q h) (i : Nat) : Sep lo F (updQ Q i (Hp.none lo)) h :=
  s.new i (Hp.le_refl _) rfl (none_le _ _) (none_disj) rfl
theorem box (s : Sep lo F Q h) {i p : Nat} {c : List AV} (e : Q i = Hp.one p c lo) : h.g p = some c := s.le i p c (by rw [e]; exact if_pos rfl)
theorem put (s : Sep lo F Q h) {i p : Nat} {c : List AV} (e : Q i = Hp.one p c lo) (c' : List AV) : Sep lo F (updQ Q i (Hp.one p c' lo)) (h.put p c') := by
  refine s.step i (fun k x hk => ?_) s.hlo (one_le (Hp.put_same _ _ _)) (disj_one ?_).symm rfl
  · by_cases ek : k = p
    · subst ek
      rw [rest_none (by rw [e]; show (if k = k then some c else none) ≠ none; rw [if_pos rfl]; simp)] at hk; cases hk
    · rw [Hp.put_ne _ _ ek]; exact restH_le _ _ k x hk
  · exact rest_none (by rw [e]; show (if p = p then some c else none) ≠ none; rw [if_pos rfl]; simp)
theorem alloc (s : Sep lo F Q h) (i : Nat) {p : Nat} (hp : h.g p = none) (c : List AV) : Sep lo F (updQ Q i (Hp.one p c lo)) (h.put p c) :=
  s.new i (Hp.le_put hp) rfl (one_le (Hp.put_same _ _ _)) (disj_one hp).symm rfl
theorem own (s : Sep lo F Q h) {α : Type} {d : Kn α} (fl : d.Flat) {i : Nat} {a : AV} {l : List α} (p : PK d lo (Q i) a l) : d.Own (restH h (Q i)) h a l := by
  rw [← s.hlo] at p
  exact p.outer fl (s.le i)
theorem back (s : Sep lo F Q h) {α : Type} {d : Kn α} (fl : d.Flat) {i : Nat} {a : AV} {l : List α} (o : d.Own (restH h (Q i)) h' a l) : ∃ q', Sep lo F (updQ Q i q') h' ∧ PK d lo q' a l := by
  obtain ⟨q, q1, q2, q3⟩ := PK.of fl o
  have q3 : PK d h.lo q a l := q3
  rw [s.hlo] at q3
  exact ⟨q, s.step i o.le (o.lo.trans s.hlo) q1 q2 q3.1, q3⟩
theorem row (s : Sep lo F Q h) {α : Type} {d : Kn α} {i : Nat} {a : AV} {l : List α} (p : PK d lo (Q i) a l) : d.Row h a l := p.row (s.le i)
/-- a row that is new, as a part -/
theorem fresh (s : Sep lo F Q h) (i : Nat) {α : Type} {d : Kn α} (fl : d.Flat) {a : AV} {l : List α} (o : d.Own h h' a l) : ∃ q', Sep lo F (updQ Q i q') h' ∧ PK d lo q' a l := by
  obtain ⟨q, q1, q2, q3⟩ := PK.of fl o
  rw [s.hlo] at q3
  exact ⟨q, s.new i o.le o.lo q1 q2 q3.1, q3⟩
end Sep
/-- a row that is new, frozen -/
theorem Kn.Own.frozen {α : Type} {d : Kn α} (fl : d.Flat) {h h' F : Hp} {a : AV} {l : List α} (o : d.Own h h' a l) : d.Row (moreH h h' F) a l := by
  obtain ⟨q, q1, q2, q3⟩ := PK.of fl o
  exact q3.row (more_new q1 q2)
/-! ### a beginning left out -/
theorem Fresh.from {g h : Hp} {a : AV} {sz : Nat} {css : List (List AV)} (f : Fresh g h a sz css) {i : Nat} (hi : i ≤ css.length) : ∃ r, slV a (some (i : Int)) none none sz = some r ∧ Fresh g h r sz (css.drop i) := by
  obtain ⟨r', e1, e2⟩ := Raw.slice f.row (lo := some (i : Int)) (hi := none) (i := i) (j := css.length) rfl rfl hi (Nat.le_refl _) (fun _ => trivial)
  rw [List.take_of_length_le (by simp)] at e2
  refine ⟨r', e1, f.le, f.lo, e2, fun b o len cap ex z e => ?_⟩
  subst e
  have r := f.row.2
  cases a <;> first | exact r.elim | skip
  · rename_i b0 o0 len0 cap0 ex0 z0
    obtain ⟨z1, z2, z3, z4⟩ := r
    subst z1
    obtain ⟨n1, n2, cs, n3, n4⟩ := f.new _ _ _ _ _ _ rfl
    have hs : slV (.sl b0 o0 len0 cap0 ex0 z0) (some (i : Int)) none none z0 = some (.sl b0 (cond (Nat.beq cap0 i) o0 (o0 + i * z0)) (len0 - i) (cap0 - i) ex0 z0) := by
      show (cond (Nat.beq z0 z0) (cond (Nat.ble i len0 && Nat.ble len0 cap0) _ none) none : Option AV) = _
      rw [Nat.beq_refl, cond_true, Nat.ble_eq_true_of_le (show i ≤ len0 by omega), Nat.ble_eq_true_of_le z3]; rfl
    rw [hs] at e1
    injection e1 with e1
    injection e1 with e1 e7 e3 e4 e5 e6
    subst e1; subst e7; subst e4
    refine ⟨n1, n2, cs, n3, ?_⟩
    have hc : i * z0 + (cap0 - i) * z0 = cap0 * z0 := by rw [← Nat.add_mul]; congr 1; omega
    cases Nat.beq cap0 i with
    | true => show o0 + _ ≤ _; omega
    | false => show o0 + i * z0 + _ ≤ _; omega
  · have r : css = [] := r
    subst r
    have : i = 0 := by simpa using hi
    subst this
    cases (e1 : some AV.ns = some (AV.sl b o len cap ex z))
  · rename_i x
    have r : css = [] := r
    subst r
    have : i = 0 := by simpa using hi
    subst this
    cases (e1 : some (AV.e x) = some (AV.sl b o len cap ex z))
theorem Kn.Own.from {α : Type} {d : Kn α} {g h : Hp} {a : AV} {l : List α} (o : d.Own g h a l) {i sz : Nat} (hsz : d.sz = sz) (hi : i ≤ l.length) : ∃ r, slV a (some (i : Int)) none none sz = some r ∧ d.Own g h r (l.drop i) := by
  subst hsz
  obtain ⟨p, css, p1, p2, f, p3⟩ := o
  obtain ⟨r, e1, e2⟩ := f.from (i := i) (by rw [← p3.length]; exact hi)
  exact ⟨r, e1, p, _, p1, p2, e2, p3.drop i⟩
/-- an element's cells as they are -/
def kRw (sz : Nat) : Kn (List AV) := ⟨sz, fun _ x c => c = x ∧ x.length = sz ∧ x.all AV.sc = true, fun _ k => k, fun k => by rw [k.1]; exact k.2.1, fun k => by rw [k.1]; exact k.2.2⟩
theorem kRw_flat {sz : Nat} : (kRw sz).Flat := fun _ _ _ _ k => k
theorem kRw_all {sz : Nat} {h : Hp} : ∀ {xs css : List (List AV)}, All2 ((kRw sz).K h) xs css → css = xs
  | [], _, .nil => rfl
  | _ :: _, _, .cons k t => by rw [k.1, kRw_all t]
theorem kRw_mk {α : Type} {d : Kn α} {h h' : Hp} : ∀ {l : List α} {css : List (List AV)}, All2 (d.K h) l css → All2 ((kRw d.sz).K h') css css
  | [], _, .nil => .nil
  | _ :: _, _, .cons k t => .cons ⟨rfl, d.len k, d.sc k⟩ (kRw_mk t)
def RowP {α : Type} (d : Kn α) (F : Hp) (lo : Nat) (q : Hp) (a : AV) (l : List α) : Prop := ∃ css, PK (kRw d.sz) lo q a css ∧ All2 (d.K F) l css
section
variable {α : Type} {d : Kn α} {lo : Nat} {F F' q h h' : Hp} {Q : Nat → Hp} {a : AV} {l : List α}
theorem RowP.nil : RowP d F lo (Hp.none lo) .ns [] := ⟨[], PK.nil _ _, .nil⟩
theorem RowP.mono (r : RowP d F lo q a l) (le : F.le F') : RowP d F' lo q a l := by
  obtain ⟨css, r1, r2⟩ := r
  exact ⟨css, r1, r2.mono fun _ _ k => d.mono le k⟩
theorem RowP.row (r : RowP d F lo q a l) (qh : q.le h) (fh : F.le h) : d.Row h a l := by
  obtain ⟨css, r1, r2⟩ := r
  obtain ⟨css', w1, w2⟩ := r1.row qh
  have := kRw_all w2
  subst this
  exact ⟨_, w1, r2.mono fun _ _ k => d.mono fh k⟩
theorem Sep.rows (s : Sep lo F Q h) {i : Nat} (r : RowP d F lo (Q i) a l) : d.Row h a l := r.row (s.le i) s.fle
theorem Sep.app1 (s : Sep lo F Q h) {i sz : Nat} (r : RowP d F lo (Q i) a l) (hsz : d.sz = sz) {x : α} {c : List AV} (hx : d.K F x c) (hb : l.length + 1 < 32000000) {Post : Option AV → Hp → Prop}
    (k : ∀ r h' q', Sep lo F (updQ Q i q') h' → RowP d F lo q' r (l ++ [x]) → Post (some r) h') : wpE (.app a 1 (.lit c) sz) Post h := by
  obtain ⟨css, r1, r2⟩ := r
  have hl := r2.length
  refine (s.own kRw_flat r1).app1 (x := c) hsz kRw_flat ⟨rfl, d.len hx, d.sc hx⟩ (by omega) fun r' h' o' => ?_
  obtain ⟨q', s', p'⟩ := s.back kRw_flat o'
  exact k _ _ _ s' ⟨_, p', r2.append (.cons hx .nil)⟩
theorem RowP.from {i sz : Nat} (r : RowP d F lo q a l) (hsz : d.sz = sz) (hi : i ≤ l.length) : ∃ r', slV a (some (i : Int)) none none sz = some r' ∧ RowP d F lo q r' (l.drop i) := by
  obtain ⟨css, ⟨e1, r1⟩, r2⟩ := r
  have hl := r2.length
  obtain ⟨r', e2, o'⟩ := r1.from (i := i) hsz (by omega)
  exact ⟨r', e2, _, ⟨e1, o'⟩, r2.drop i⟩
/-- a new row, its elements' data frozen ahead of it -/
theorem Sep.rowNew (s : Sep lo F Q h) (i : Nat) {css : List (List AV)} (o : (kRw d.sz).Own h h' a css) (k : All2 (d.K F) l css) : ∃ q', Sep lo F (updQ Q i q') h' ∧ RowP d F lo q' a l := by
  obtain ⟨q', s', p'⟩ := s.fresh i kRw_flat o
  exact ⟨q', s', _, p', k⟩
end
/-! ### plain -/
structure DOp where
  cut : Bool
  pos : Nat
  b : List Nat
def doF (f : List Nat) (o : DOp) : List Nat := if o.cut = true then f.take o.pos else f.take o.pos ++ (o.b ++ f.drop (o.pos + o.b.length))
def runs : List Nat → List DOp → Prop
  | _, [] => True
  | f, o :: os => o.pos ≤ f.length ∧ (doF f o).length ≤ 4194304 ∧ runs (doF f o) os
structure DFile where
  kept : List Nat
  ops : List DOp
def DFile.seen (f : DFile) : List Nat := f.ops.foldl doF f.kept
def DFile.ok (f : DFile) : Prop := f.kept.length ≤ 4194304 ∧ runs f.kept f.ops
structure Dk where
  f : List DFile
  off : Bool
  armed : Bool
  left : Int
theorem runs_snoc {o : DOp} : ∀ {os : List DOp} {f : List Nat}, runs f os → o.pos ≤ (os.foldl doF f).length → (doF (os.foldl doF f) o).length ≤ 4194304 → runs f (os ++ [o])
  | [], f, _, h1, h2 => ⟨h1, h2, trivial⟩
  | x :: os, f, ⟨r1, r2, r3⟩, h1, h2 => ⟨r1, r2, runs_snoc r3 h1 h2⟩
theorem runs_len : ∀ {os : List DOp} {f : List Nat}, runs f os → f.length ≤ 4194304 → (os.foldl doF f).length ≤ 4194304
  | [], f, _, h => h
  | x :: os, f, ⟨r1, r2, r3⟩, h => runs_len (f := doF f x) r3 r2
theorem DFile.ok.seen {f : DFile} (h : f.ok) : f.seen.length ≤ 4194304 := runs_len h.2 h.1
theorem doF_cut {f : List Nat} {o : DOp} (h : o.cut = true) : doF f o = f.take o.pos := if_pos h
theorem doF_put {f : List Nat} {o : DOp} (h : o.cut = false) : doF f o = f.take o.pos ++ (o.b ++ f.drop (o.pos + o.b.length)) := if_neg (by rw [h]; simp)
theorem doF_len {f : List Nat} {o : DOp} (h : o.cut = false) (hp : o.pos ≤ f.length) : (doF f o).length = max f.length (o.pos + o.b.length) := by
  rw [doF_put h]; simp only [List.length_append, List.length_take, List.length_drop]; omega
def kDop : Kn DOp := ⟨3, fun h o c => ∃ a, c = [.b o.cut, .i .i64 (o.pos : Nat), a] ∧ Kn.byte.Row h a o.b,
  fun l ⟨a, h1, h2⟩ => ⟨a, h1, h2.mono l⟩, fun ⟨a, h1, h2⟩ => by rw [h1]; rfl, fun ⟨a, h1, h2⟩ => by rw [h1]; show (true && (true && (a.sc && true))) = true; rw [h2.sc]; rfl⟩
/-! ### one change -/
theorem zeros_row {h : Hp} : ∀ n : Nat, ∃ css : List (List AV), All2 (Kn.byte.K h) (List.replicate n 0) css ∧ zerosV [AV.i .u8 0] n = css.flatten
  | 0 => ⟨[], .nil, rfl⟩
  | n + 1 => by
    obtain ⟨css, h1, h2⟩ := zeros_row (h := h) n
    exact ⟨[.i .u8 0] :: css, .cons ⟨rfl, by omega⟩ h1, congrArg (fun l => [AV.i .u8 0] ++ l) h2⟩
section
variable {g h : Hp} {a b r : AV} {f : List Nat} {Post : AV → Hp → Prop}
theorem c43 {l : List Nat} (ra : Kn.byte.Row h a l) (hb : l.length ≤ 4194304) (k : ∀ r h', Kn.byte.Own h h' r l → Post r h') : wpC Try.prog 43 [a] Post h := by
  refine call_sound (args := [.vv a]) (cuts := []) ⟨ra.sc, trivial⟩ ?_
  rw [vc43]
  exact clone_body ra rfl byte_flat (by omega) (Nat.ble_eq_true_of_le (by omega)) k
theorem c57 {o : DOp} (ow : Kn.byte.Own g h b f) (rb : Kn.byte.Row g r o.b) (hp : o.pos ≤ f.length) (hm : (doF f o).length ≤ 4194304) (hf : f.length ≤ 4194304)
    (k : ∀ a' h', Kn.byte.Own g h' a' (doF f o) → Post a' h') : wpC Try.prog 57 [.agg [.b o.cut, .i .i64 (o.pos : Nat), r], b] Post h := by
  refine call_sound (args := [.ag [.bb o.cut, .ii .i64 (o.pos : Nat), .vv r], .vv b]) (cuts := []) ⟨⟨trivial, trivial, rb.sc, trivial⟩, ow.sc, trivial⟩ ?_
  rw [vc57]
  intro _
  cases hc : o.cut with
  | true =>
    obtain ⟨r', e1, o'⟩ := ow.upto (i := o.pos) rfl hp
    rw [doF_cut hc] at k
    exact onB.pos rfl (onO.mk e1 (k _ _ o'))
  | false =>
    have hl := doF_len hc hp
    rw [hl] at hm
    rw [doF_put hc] at k
    have rb' := rb.mono ow.le
    refine onB.neg rfl (onO.mk rb'.len (onO.mk (add64 (by omega) (by omega)) (onO.mk ow.row.len (onO.mk (sub64 (by omega) (by omega)) (onB.dec (fun e => ?_) (fun e => ?_))))))
    · obtain ⟨n, hn⟩ : ∃ n : Nat, ((o.pos : Nat) : Int) + (o.b.length : Nat) - (f.length : Nat) = (n : Int) := ⟨o.pos + o.b.length - f.length, by omega⟩
      rw [hn]
      obtain ⟨css, z1, z2⟩ := zeros_row (h := h) n
      refine onO.mk (natI_of (n := n)) (onC.mk ?_ ?_)
      · show (Nat.blt n 32000000 && Nat.ble ((4 * n + 4000) * 1) 17179869184) = true
        rw [blt_of (by omega), Nat.ble_eq_true_of_le (by omega)]; rfl
      · refine ow.app rfl byte_flat z1 (src := .lit (zerosV [AV.i .u8 0] n)) (by show some _ = _; rw [z2]) (by simp) (by omega) fun a1 h1 o1 => onO.mk rfl ?_
        have hlen : (f ++ List.replicate n 0).length = o.pos + o.b.length := by simp; omega
        refine o1.over byte_flat rfl (rb.mono o1.le) (by omega) fun h2 o2 v => k _ _ ?_
        have e1 : (f ++ List.replicate n 0).take o.pos = f.take o.pos := List.take_append_of_le_length (by omega)
        have e2 : (f ++ List.replicate n 0).drop (o.pos + o.b.length) = [] := List.drop_of_length_le (by omega)
        have e3 : f.drop (o.pos + o.b.length) = [] := List.drop_of_length_le (by omega)
        rw [e1, e2] at o2
        rw [e3]; exact o2
    · exact ow.over byte_flat rfl rb' (by omega) fun h2 o2 v => k _ _ o2
end
/-! ### a disk in memory -/
def dkC (a : Nat → AV) (D : Dk) : List AV := [a 0, a 1, a 2, a 3, a 4, a 5, a 6, a 7, a 8, .b D.off, .b D.armed, .i .i64 D.left]
structure DkA (lo : Nat) (F : Hp) (Q : Nat → Hp) (B p : Nat) (a : Nat → AV) (D : Dk) : Prop where
  box : Q B = Hp.one p (dkC a D) lo
  plo : lo ≤ p
  len : D.f.length = 3
  ok : ∀ (n : Nat) f, D.f[n]? = some f → f.ok
  kept : ∀ (n : Nat) f, D.f[n]? = some f → PK Kn.byte lo (Q (B + (3 * n + 1))) (a (3 * n)) f.kept
  seen : ∀ (n : Nat) f, D.f[n]? = some f → PK Kn.byte lo (Q (B + (3 * n + 2))) (a (3 * n + 1)) f.seen
  ops : ∀ (n : Nat) f, D.f[n]? = some f → RowP kDop F lo (Q (B + (3 * n + 3))) (a (3 * n + 2)) f.ops
  left : D.armed = true → D.off = false → 1 ≤ D.left ∧ D.left < 9223372036854775808
def Upd (B n : Nat) (Q Q' : Nat → Hp) : Prop := ∀ j, j < B ∨ B + n ≤ j → Q' j = Q j
theorem Upd.refl {B n : Nat} {Q : Nat → Hp} : Upd B n Q Q := fun _ _ => rfl
theorem Upd.trans {B n : Nat} {Q Q1 Q2 : Nat → Hp} (a : Upd B n Q Q1) (b : Upd B n Q1 Q2) : Upd B n Q Q2 := fun j h => (b j h).trans (a j h)
theorem Upd.put {B n i : Nat} {Q Q1 : Nat → Hp} {q : Hp} (a : Upd B n Q Q1) (h : i < n) : Upd B n Q (updQ Q1 (B + i) q) := fun j hj => by
  rw [updQ_ne (by omega)]; exact a j hj
theorem Upd.put0 {B n : Nat} {Q Q1 : Nat → Hp} {q : Hp} (a : Upd B n Q Q1) (h : 0 < n) : Upd B n Q (updQ Q1 B q) := a.put (i := 0) h
section
variable {lo B p : Nat} {F F' h h' : Hp} {Q Q' : Nat → Hp} {a : Nat → AV} {D : Dk} {Post : AV → Hp → Prop}
theorem DkA.get (d : DkA lo F Q B p a D) {n : Nat} (hn : n < 3) : ∃ f, D.f[n]? = some f := get_lt (by rw [d.len]; exact hn)
theorem DkA.lt (d : DkA lo F Q B p a D) {n : Nat} {f : DFile} (h : D.f[n]? = some f) : n < 3 := by rw [← d.len]; exact (List.getElem?_eq_some_iff.1 h).1
theorem DkA.fmono (d : DkA lo F Q B p a D) (l : F.le F') : DkA lo F' Q B p a D := ⟨d.box, d.plo, d.len, d.ok, d.kept, d.seen, fun n f e => (d.ops n f e).mono l, d.left⟩
theorem DkA.same (d : DkA lo F Q B p a D) (e : ∀ j, B ≤ j → j < B + 10 → Q' j = Q j) : DkA lo F Q' B p a D :=
  ⟨by rw [e B (by omega) (by omega)]; exact d.box, d.plo, d.len, d.ok, fun n f h => by have := d.lt h; rw [e _ (by omega) (by omega)]; exact d.kept n f h,
    fun n f h => by have := d.lt h; rw [e _ (by omega) (by omega)]; exact d.seen n f h, fun n f h => by have := d.lt h; rw [e _ (by omega) (by omega)]; exact d.ops n f h, d.left⟩
/-- its own words changed -/
theorem DkA.put {D' : Dk} (d : DkA lo F Q B p a D) (e : D'.f = D.f) (l : D'.armed = true → D'.off = false → 1 ≤ D'.left ∧ D'.left < 9223372036854775808) : DkA lo F (updQ Q B (Hp.one p (dkC a D') lo)) B p a D' :=
  ⟨updQ_same, d.plo, by rw [e]; exact d.len, by rw [e]; exact d.ok, by rw [e]; exact fun n f h => by rw [updQ_ne (by omega)]; exact d.kept n f h,
    by rw [e]; exact fun n f h => by rw [updQ_ne (by omega)]; exact d.seen n f h, by rw [e]; exact fun n f h => by rw [updQ_ne (by omega)]; exact d.ops n f h, l⟩
theorem dk_cell (s : Sep lo F Q h) (e : Q B = Hp.one p (dkC a D) lo) {n k : Nat} (hn : n < 3) (hk : k < 3) : rdH h p (0 + 0 + n * 3 + k) 1 = some [a (3 * n + k)] := by
  refine rdBox (s.box e) ?_
  match n, k, hn, hk with
  | 0, 0, _, _ => rfl
  | 0, 1, _, _ => rfl
  | 0, 2, _, _ => rfl
  | 1, 0, _, _ => rfl
  | 1, 1, _, _ => rfl
  | 1, 2, _, _ => rfl
  | 2, 0, _, _ => rfl
  | 2, 1, _, _ => rfl
  | 2, 2, _, _ => rfl
def updA (a : Nat → AV) (i : Nat) (v : AV) : Nat → AV := fun j => if j = i then v else a j
theorem updA_same {a : Nat → AV} {i : Nat} {v : AV} : updA a i v i = v := if_pos rfl
theorem updA_ne {a : Nat → AV} {i j : Nat} {v : AV} (e : j ≠ i) : updA a i v j = a j := if_neg e
theorem dk_splice {n k : Nat} (hn : n < 3) (hk : k < 3) {v : AV} : splice (dkC a D) (0 + 0 + n * 3 + k) [v] = dkC (updA a (3 * n + k) v) D := by
  match n, k, hn, hk with
  | 0, 0, _, _ => rfl
  | 0, 1, _, _ => rfl
  | 0, 2, _, _ => rfl
  | 1, 0, _, _ => rfl
  | 1, 1, _, _ => rfl
  | 1, 2, _, _ => rfl
  | 2, 0, _, _ => rfl
  | 2, 1, _, _ => rfl
  | 2, 2, _, _ => rfl
/-- one of its row's words written -/
theorem dk_put (s : Sep lo F Q h) (e : Q B = Hp.one p (dkC a D) lo) (hlo : lo ≤ p) {n k : Nat} (hn : n < 3) (hk : k < 3) {v : AV} (hv : v.sc = true) {Post : Option AV → Hp → Prop}
    (kk : ∀ h', Sep lo F (updQ Q B (Hp.one p (dkC (updA a (3 * n + k) v) D) lo)) h' → Post none h') : wpE (.w p (0 + 0 + n * 3 + k) (.lit [v]) none) Post h := by
  refine wpE.w (s.box e) (by rw [s.hlo]; exact hlo) (new := [v]) rfl (by show _ + 1 ≤ 12; omega) (by simp [hv]) (kk _ ?_)
  rw [dk_splice hn hk]
  exact s.put e _
theorem dk_word (s : Sep lo F Q h) (d : DkA lo F Q B p a D) : rdH h p (0 + 9) 1 = some [.b D.off] ∧ rdH h p (0 + 10) 1 = some [.b D.armed] ∧ rdH h p (0 + 11) 1 = some [.i .i64 D.left] :=
  ⟨rdBox (s.box d.box) rfl, rdBox (s.box d.box) rfl, rdBox (s.box d.box) rfl⟩
def askR (D : Dk) (n : Int) : Int := if D.off = true then 10 else if n < 0 then 1 else if 3 ≤ n then 1 else 0
def callD (D : Dk) : Dk := if D.armed = true ∧ D.off = false then { D with left := D.left - 1, off := decide (D.left - 1 < 1) } else D
theorem askR_ok {n : Int} (h : askR D n = 0) : D.off = false ∧ ∃ m : Nat, n = (m : Int) ∧ m < 3 := by
  unfold askR at h
  cases ho : D.off with
  | true => rw [ho] at h; simp at h
  | false =>
    rw [ho] at h
    by_cases h1 : n < 0
    · simp [h1] at h
    · by_cases h2 : 3 ≤ n
      · simp [h1, h2] at h
      · exact ⟨rfl, n.toNat, by omega, by omega⟩
theorem onL.b1 {c : Bool} {K : Bool → Prop} (k : K c) : onL [Kd.bool] [.b c] K := k
theorem c94 {n : Int} (s : Sep lo F Q h) (d : DkA lo F Q B p a D) (k : Post (.i .i64 (askR D n)) h) : wpC Try.prog 94 [.p p 0, .i .i64 n] Post h := by
  refine call_sound (args := [.vv (.p p 0), .ii .i64 n]) (cuts := []) ⟨rfl, trivial, trivial⟩ ?_
  rw [vc94]
  refine onO.mk rfl (onO.mk (dk_word s d).1 (onL.b1 ?_))
  unfold askR at k
  cases ho : D.off with
  | true => rw [ho] at k; exact onB.pos rfl k
  | false =>
    rw [ho] at k
    refine onB.neg rfl (onB.dec (fun h1 => ?_) fun h1 => onB.dec (fun h2 => ?_) fun h2 => ?_)
    · simpa [h1] using k
    · simpa [h1, h2] using k
    · simpa [h1, h2] using k
theorem callD_f : (callD D).f = D.f := by unfold callD; split <;> rfl
theorem callD_left (l : D.armed = true → D.off = false → 1 ≤ D.left ∧ D.left < 9223372036854775808) : (callD D).armed = true → (callD D).off = false → 1 ≤ (callD D).left ∧ (callD D).left < 9223372036854775808 := by
  unfold callD
  split
  · rename_i e
    intro _ h2
    have := l e.1 e.2
    have : ¬ D.left - 1 < 1 := of_decide_eq_false h2
    show 1 ≤ D.left - 1 ∧ D.left - 1 < _
    omega
  · exact l
theorem c78 {n : Int} (s : Sep lo F Q h) (d : DkA lo F Q B p a D) (k : ∀ Q' h', Sep lo F Q' h' → DkA lo F Q' B p a (callD D) → Upd B 10 Q Q' → Post (.i .i64 (askR (callD D) n)) h') : wpC Try.prog 78 [.p p 0, .i .i64 n] Post h := by
  refine call_sound (args := [.vv (.p p 0), .ii .i64 n]) (cuts := []) ⟨rfl, trivial, trivial⟩ ?_
  rw [vc78]
  obtain ⟨w1, w2, w3⟩ := dk_word s d
  have hsame : ¬ (D.armed = true ∧ D.off = false) → wpC Try.prog 94 [.p p 0, .i .i64 n] (fun a1 h3 => onRet [Sh.one (Kd.int .i64)] a1 fun n4 => Post (.i .i64 n4) h3) h := fun e => by
    have ec : callD D = D := if_neg e
    rw [ec] at k
    exact c94 s d (onRet.i (k Q h s d Upd.refl))
  refine onO.mk rfl (onO.mk w2 (onL.b1 (onB.mk (fun ha => ?_) fun ha => hsame fun e => by rw [ha] at e; cases e.1)))
  refine onO.mk rfl (onO.mk w1 (onL.b1 (onB.not (fun ho => ?_) fun ho => hsame fun e => by rw [ho] at e; cases e.2)))
  have hl := d.left ha ho
  have ec : callD D = { D with left := D.left - 1, off := decide (D.left - 1 < 1) } := if_pos ⟨ha, ho⟩
  have plo : h.lo ≤ p := by rw [s.hlo]; exact d.plo
  refine onO.mk rfl (onO.mk w3 (onL.i1 (onO.mk (sub64 (by omega) (by omega)) (onO.mk rfl (wpE.w (s.box d.box) plo (new := [.i .i64 (D.left - 1)]) rfl (by show _ + 1 ≤ 12; omega) rfl ?_)))))
  have s1 := s.put d.box (dkC a { D with left := D.left - 1 })
  have e1 : splice (dkC a D) (0 + 11) [.i .i64 (D.left - 1)] = dkC a { D with left := D.left - 1 } := rfl
  rw [e1]
  have b1 : updQ Q B (Hp.one p (dkC a { D with left := D.left - 1 }) lo) B = Hp.one p (dkC a { D with left := D.left - 1 }) lo := updQ_same
  refine onO.mk rfl (onO.mk (rdBox (s1.box b1) rfl) (onL.i1 (onO.mk rfl (wpE.w (s1.box b1) (by rw [s1.hlo]; exact d.plo) (new := [.b (decide (D.left - 1 < 1))]) rfl (by show _ + 1 ≤ 12; omega) rfl ?_))))
  have e2 : splice (dkC a { D with left := D.left - 1 }) (0 + 9) [.b (decide (D.left - 1 < 1))] = dkC a { D with left := D.left - 1, off := decide (D.left - 1 < 1) } := rfl
  rw [e2, ← ec]
  have s2 := s1.put b1 (dkC a (callD D))
  have d2 : DkA lo F (updQ (updQ Q B (Hp.one p (dkC a { D with left := D.left - 1 }) lo)) B (Hp.one p (dkC a (callD D)) lo)) B p a (callD D) :=
    (d.put callD_f (callD_left d.left)).same fun j _ _ => by
      by_cases e : j = B
      · subst e; rw [updQ_same, updQ_same]
      · rw [updQ_ne e, updQ_ne e, updQ_ne e]
  exact c94 s2 d2 (onRet.i (k _ _ s2 d2 ((Upd.refl.put0 (by omega)).put0 (by omega))))
end
theorem natLt_nat {n m : Nat} (h : n < m) : natLt (n : Int) m = some n := by
  have := natLt_pos (i := (n : Int)) (n := m) (by omega) (by omega)
  simpa using this
theorem set_self {α : Type} {l : List α} {n : Nat} {x : α} (h : l[n]? = some x) : l.set n x = l := by
  apply List.ext_getElem?
  intro i
  rw [List.getElem?_set]
  split
  · rename_i e
    subst e
    rw [if_pos (List.getElem?_eq_some_iff.1 h).1, h]
  · rfl
theorem onL.dop {c : Bool} {n : Int} {r : AV} (hr : r.sc = true) {K : Bool → Int → AV → Prop} (k : K c n r) : onL [Kd.bool, Kd.int .i64, Kd.ref] [.b c, .i .i64 n, r] K := onRef.mk hr k
theorem PK.sc {α : Type} {d : Kn α} {lo : Nat} {q : Hp} {a : AV} {l : List α} (p : PK d lo q a l) : a.sc = true := p.2.sc
theorem RowP.sc {α : Type} {d : Kn α} {F : Hp} {lo : Nat} {q : Hp} {a : AV} {l : List α} (p : RowP d F lo q a l) : a.sc = true := by
  obtain ⟨css, p1, p2⟩ := p
  exact p1.sc
section
variable {lo B p : Nat} {F F' h h' : Hp} {Q Q' : Nat → Hp} {a a' : Nat → AV} {D : Dk} {Post : AV → Hp → Prop} {n : Nat} {f f' : DFile}
theorem Sep.idx (s : Sep lo F Q h) {α : Type} {d : Kn α} {i j sz : Nat} {b : AV} {l : List α} {x : α} (r : RowP d F lo (Q i) b l) (hsz : d.sz = sz) (hx : l[j]? = some x) : ∃ bb oo c, idxV b (j : Int) sz = some (bb, oo) ∧ rdH h bb oo sz = some c ∧ d.K F x c := by
  subst hsz
  obtain ⟨css, r1, r2⟩ := r
  obtain ⟨c, hc⟩ := get_lt (l := css) (k := j) (by rw [← r2.length]; exact (List.getElem?_eq_some_iff.1 hx).1)
  obtain ⟨bb, oo, c', e1, e2, e3⟩ := (s.row r1).idx (i := (j : Int)) (x := c) (Int.natCast_nonneg j) (by simpa using hc)
  have e3 : c' = c := e3.1
  subst e3
  exact ⟨bb, oo, c', e1, e2, r2.get2 hx hc⟩
theorem DkA.file (d : DkA lo F Q B p a D) (hn : D.f[n]? = some f) (bx : Q' B = Hp.one p (dkC a' D) lo) (eq : ∀ j, 0 < j → j < 10 → j ≠ 3 * n + 1 → j ≠ 3 * n + 2 → j ≠ 3 * n + 3 → Q' (B + j) = Q (B + j))
    (ea : ∀ j, j ≠ 3 * n → j ≠ 3 * n + 1 → j ≠ 3 * n + 2 → a' j = a j) (ok : f'.ok) (k1 : PK Kn.byte lo (Q' (B + (3 * n + 1))) (a' (3 * n)) f'.kept) (k2 : PK Kn.byte lo (Q' (B + (3 * n + 2))) (a' (3 * n + 1)) f'.seen)
    (k3 : RowP kDop F lo (Q' (B + (3 * n + 3))) (a' (3 * n + 2)) f'.ops) : DkA lo F Q' B p a' { D with f := D.f.set n f' } := by
  have hn3 := d.lt hn
  have key : ∀ (m : Nat) (g : DFile), (D.f.set n f')[m]? = some g → (m = n ∧ g = f') ∨ (m ≠ n ∧ D.f[m]? = some g) := fun m g e => by
    by_cases em : m = n
    · subst em
      rw [List.getElem?_set_self (by rw [d.len]; exact hn3)] at e
      injection e with e
      exact .inl ⟨rfl, e.symm⟩
    · rw [List.getElem?_set_ne (Ne.symm em)] at e
      exact .inr ⟨em, e⟩
  refine ⟨bx, d.plo, by show (D.f.set n f').length = 3; rw [List.length_set]; exact d.len, fun m g e => ?_, fun m g e => ?_, fun m g e => ?_, fun m g e => ?_, d.left⟩
  · rcases key m g e with ⟨rfl, rfl⟩ | ⟨e1, e2⟩
    · exact ok
    · exact d.ok m g e2
  · rcases key m g e with ⟨rfl, rfl⟩ | ⟨e1, e2⟩
    · exact k1
    · have := d.lt e2
      rw [eq _ (by omega) (by omega) (by omega) (by omega) (by omega), ea _ (by omega) (by omega) (by omega)]; exact d.kept m g e2
  · rcases key m g e with ⟨rfl, rfl⟩ | ⟨e1, e2⟩
    · exact k2
    · have := d.lt e2
      rw [eq _ (by omega) (by omega) (by omega) (by omega) (by omega), ea _ (by omega) (by omega) (by omega)]; exact d.seen m g e2
  · rcases key m g e with ⟨rfl, rfl⟩ | ⟨e1, e2⟩
    · exact k3
    · have := d.lt e2
      rw [eq _ (by omega) (by omega) (by omega) (by omega) (by omega), ea _ (by omega) (by omega) (by omega)]; exact d.ops m g e2
theorem seen_snoc {o : DOp} : (⟨f.kept, f.ops ++ [o]⟩ : DFile).seen = doF f.seen o := by
  show (f.ops ++ [o]).foldl doF f.kept = _
  rw [List.foldl_append]; rfl
theorem c79 {o : DOp} {r : AV} (s : Sep lo F Q h) (d : DkA lo F Q B p a D) (hn : D.f[n]? = some f) (hp : o.pos ≤ f.seen.length) (hm : (doF f.seen o).length ≤ 4194304) (rb : Kn.byte.Row F r o.b) (hb : f.ops.length + 1 < 32000000)
    (k : ∀ a' Q' h', Sep lo F Q' h' → DkA lo F Q' B p a' { D with f := D.f.set n ⟨f.kept, f.ops ++ [o]⟩ } → Upd B 10 Q Q' → Post (.i .i64 0) h') :
    wpC Try.prog 79 [.p p 0, .i .i64 (n : Nat), .agg [.b o.cut, .i .i64 (o.pos : Nat), r]] Post h := by
  have hn3 := d.lt hn
  refine call_sound (args := [.vv (.p p 0), .ii .i64 n, .ag [.bb o.cut, .ii .i64 (o.pos : Nat), .vv r]]) (cuts := []) ⟨rfl, trivial, ⟨trivial, trivial, rb.sc, trivial⟩, trivial⟩ ?_
  rw [vc79]
  intro _
  have ps := d.seen n f hn
  have ok := d.ok n f hn
  refine onO.mk rfl (onO.mk (natLt_nat hn3) (onO.mk (dk_cell s d.box hn3 (by omega)) (onL.r1 ps.sc ?_)))
  refine c57 (s.own byte_flat ps) (rb.mono (le_rest s.fle (s.df _))) hp hm ok.seen fun a2 h1 o1 => onRet.r o1.sc ?_
  obtain ⟨q1, s1, p1⟩ := s.back byte_flat o1
  have b1 : updQ Q (B + (3 * n + 2)) q1 B = Hp.one p (dkC a D) lo := by rw [updQ_ne (by omega)]; exact d.box
  refine dk_put s1 b1 d.plo hn3 (by omega) p1.sc fun h2 s2 => ?_
  refine onO.mk (dk_cell s2 updQ_same hn3 (by omega)) ?_
  rw [updA_ne (by omega)]
  have ro := d.ops n f hn
  have ro2 : RowP kDop F lo (updQ (updQ Q (B + (3 * n + 2)) q1) B (Hp.one p (dkC (updA a (3 * n + 1) a2) D) lo) (B + (3 * n + 3))) (a (3 * n + 2)) f.ops := by
    rw [updQ_ne (by omega), updQ_ne (by omega)]; exact ro
  refine onL.r1 ro.sc fun _ => s2.app1 ro2 rfl (x := o) (c := [.b o.cut, .i .i64 (o.pos : Nat), r]) ⟨r, rfl, rb⟩ hb fun a4 h3 q3 s3 r3 => onO.mk rfl ?_
  refine dk_put s3 (by rw [updQ_ne (by omega)]; exact updQ_same) d.plo hn3 (by omega) r3.sc fun h4 s4 => k (updA (updA a (3 * n + 1) a2) (3 * n + 2) a4) _ h4 s4 (d.file hn updQ_same ?_ ?_ ?_ ?_ ?_ ?_) ?_
  · intro j j1 j2 j3 j4 j5
    rw [updQ_ne (by omega), updQ_ne (by omega), updQ_ne (by omega), updQ_ne (by omega)]
  · intro j j1 j2 j3
    rw [updA_ne j3, updA_ne j2]
  · exact ⟨ok.1, runs_snoc ok.2 hp hm⟩
  · rw [updQ_ne (by omega), updQ_ne (by omega), updQ_ne (by omega), updQ_ne (by omega), updA_ne (by omega), updA_ne (by omega)]
    exact d.kept n f hn
  · rw [updQ_ne (by omega), updQ_ne (by omega), updQ_ne (by omega), updQ_same, updA_ne (by omega), updA_same, seen_snoc]
    exact p1
  · rw [updQ_ne (by omega), updQ_same, updA_same]
    exact r3
  · exact (((Upd.refl.put (by omega)).put0 (by omega)).put (by omega)).put0 (by omega)
theorem c80 (s : Sep lo F Q h) (d : DkA lo F Q B p a D) (hn : D.f[n]? = some f) (hb : f.ops.length < 32000000)
    (k : ∀ a' Q' h', Sep lo F Q' h' → DkA lo F Q' B p a' { D with f := D.f.set n ⟨f.seen, []⟩ } → Upd B 10 Q Q' → Post (.tup []) h') :
    wpC Try.prog 80 [.p p (0 + 0 + n * 3)] Post h := by
  have hn3 := d.lt hn
  refine call_sound (args := [.vv (.p p (0 + 0 + n * 3))]) (cuts := [0]) ⟨rfl, trivial⟩ ?_
  rw [vc80]
  refine ⟨fun m h' => ∃ a' Q' f', Sep lo F Q' h' ∧ DkA lo F Q' B p a' { D with f := D.f.set n f' } ∧ Upd B 10 Q Q' ∧ f'.seen = f.seen ∧ m = f'.ops.length, ⟨f.ops.length, a, Q, f, s, by rw [set_self hn]; exact d, Upd.refl, rfl, rfl⟩, ?_⟩
  rintro m h0 ⟨a1, Q1, f1, s1, d1, u1, hs, rfl⟩
  have hn1 : ({ D with f := D.f.set n f1 } : Dk).f[n]? = some f1 := List.getElem?_set_self (by rw [d.len]; exact hn3)
  have ro := d1.ops n f1 hn1
  have ok := d1.ok n f1 hn1
  refine Dup.mk (onO.mk rfl (onO.mk (dk_cell s1 d1.box hn3 (by omega)) (onL.r1 ro.sc (onO.mk (s1.rows ro).len ?_))))
  cases ho : f1.ops with
  | nil =>
    refine onB.neg (by simp) (k a1 Q1 h0 s1 ?_ u1)
    have : f1 = ⟨f.seen, []⟩ := by
      obtain ⟨fk, fo⟩ := f1
      have ho : fo = [] := ho
      subst ho
      have hs : fk = f.seen := hs
      rw [hs]
    rw [← this]; exact d1
  | cons o os =>
    refine onB.pos (decide_eq_true (by simp)) ?_
    rw [ho] at ro
    obtain ⟨bb, oo, c, e1, e2, r, rfl, rb⟩ := s1.idx ro (sz := 3) rfl (j := 0) (x := o) rfl
    have pk := d1.kept n f1 hn1
    have ok2 := ok.2
    rw [ho] at ok2
    refine onO.mk rfl (onO.mk (dk_cell s1 d1.box hn3 (by omega)) (onL.r1 ro.sc (onO.mk e1 (onO.mk e2 (onL.dop rb.sc (onO.mk rfl (onO.mk (dk_cell s1 d1.box hn3 (by omega)) (onL.r1 pk.sc ?_))))))))
    refine c57 (s1.own byte_flat pk) (rb.mono (le_rest s1.fle (s1.df _))) ok2.1 ok2.2.1 ok.1 fun a5 h2 o2 => onRet.r o2.sc ?_
    obtain ⟨q2, s2, p2⟩ := s1.back byte_flat o2
    have b2 : updQ Q1 (B + (3 * n + 1)) q2 B = Hp.one p (dkC a1 D) lo := by rw [updQ_ne (by omega)]; exact d1.box
    refine onO.mk rfl (dk_put s2 b2 d.plo hn3 (by omega) p2.sc fun h3 s3 => ?_)
    refine onO.mk rfl (onO.mk (dk_cell s3 updQ_same hn3 (by omega)) ?_)
    rw [show (3 * n + 0) = 3 * n from rfl, updA_ne (by omega)]
    obtain ⟨r', e3, r3⟩ := ro.from (i := 1) (sz := 3) rfl (by simp)
    refine onL.r1 ro.sc (onO.mk e3 (onO.mk rfl (dk_put s3 updQ_same d.plo hn3 (by omega) r3.sc fun h4 s4 => ⟨os.length, by show os.length < (o :: os).length; simp, updA (updA a1 (3 * n) a5) (3 * n + 2) r', _, ⟨doF f1.kept o, os⟩, s4, ?_, ?_, ?_, rfl⟩)))
    · have := d1.file (f' := ⟨doF f1.kept o, os⟩) (a' := updA (updA a1 (3 * n) a5) (3 * n + 2) r') (Q' := updQ (updQ (updQ Q1 (B + (3 * n + 1)) q2) B (Hp.one p (dkC (updA a1 (3 * n) a5) D) lo)) B (Hp.one p (dkC (updA (updA a1 (3 * n) a5) (3 * n + 2) r') D) lo)) hn1 updQ_same (fun j j1 j2 j3 j4 j5 => ?_) (fun j j1 j2 j3 => ?_) ⟨ok2.2.1, ok2.2.2⟩ ?_ ?_ ?_
      · rw [show ({ D with f := D.f.set n f1 } : Dk).f.set n ⟨doF f1.kept o, os⟩ = D.f.set n ⟨doF f1.kept o, os⟩ from List.set_set ..] at this
        exact this
      · rw [updQ_ne (by omega), updQ_ne (by omega), updQ_ne (by omega)]
      · rw [updA_ne j3, updA_ne j1]
      · rw [updQ_ne (by omega), updQ_ne (by omega), updQ_same, updA_ne (by omega), updA_same]; exact p2
      · rw [updQ_ne (by omega), updQ_ne (by omega), updQ_ne (by omega), updA_ne (by omega), updA_ne (by omega)]
        have e : (⟨doF f1.kept o, os⟩ : DFile).seen = f1.seen := by
          show os.foldl doF (doF f1.kept o) = f1.ops.foldl doF f1.kept
          rw [ho]; rfl
        rw [e]; exact d1.seen n f1 hn1
      · rw [updQ_ne (by omega), updQ_ne (by omega), updQ_ne (by omega), updA_same]; exact r3
    · exact ((u1.put (by omega)).put0 (by omega)).put0 (by omega)
    · rw [← hs]
      show os.foldl doF (doF f1.kept o) = f1.ops.foldl doF f1.kept
      rw [ho]; rfl
/-! ### what is asked of it -/
def fileD (D : Dk) (n : Int) : DFile := D.f[n.toNat]?.getD ⟨[], []⟩
theorem fileD_get {n : Nat} {f : DFile} (h : D.f[n]? = some f) : fileD D (n : Int) = f := by
  unfold fileD
  rw [Int.toNat_natCast, h]; rfl
theorem DkA.fileD (d : DkA lo F Q B p a D) {n : Nat} (hn : n < 3) : D.f[n]? = some (fileD D (n : Int)) := by
  obtain ⟨f, hf⟩ := d.get hn
  rw [fileD_get hf]; exact hf
def sizeR (D : Dk) (n : Int) : Int × Int := if askR D n = 0 then (((fileD D n).seen.length : Nat), 0) else (0, askR D n)
theorem c74 {n : Int} (s : Sep lo F Q h) (d : DkA lo F Q B p a D) (k : Post (.tup [.i .i64 (sizeR D n).1, .i .i64 (sizeR D n).2]) h) : wpC Try.prog 74 [.p p 0, .i .i64 n] Post h := by
  refine call_sound (args := [.vv (.p p 0), .ii .i64 n]) (cuts := []) ⟨rfl, trivial, trivial⟩ ?_
  rw [vc74]
  refine c94 s d (onRet.i (onB.ndec (fun e => ?_) fun e => ?_))
  · unfold sizeR at k
    rw [if_neg e] at k; exact k
  · obtain ⟨_, m, rfl, hm⟩ := askR_ok e
    have hf := d.fileD hm
    unfold sizeR at k
    rw [if_pos e] at k
    exact onO.mk rfl (onO.mk (natLt_nat hm) (onO.mk (dk_cell s d.box hm (by omega)) (onL.r1 (d.seen m _ hf).sc (onO.mk (s.row (d.seen m _ hf)).len k))))
def putD (D : Dk) (n : Int) (o : DOp) : Dk := { D with f := D.f.set n.toNat ⟨(fileD D n).kept, (fileD D n).ops ++ [o]⟩ }
def writeR (D : Dk) (n at' : Int) (b : List Nat) : Int × Dk :=
  if askR (callD D) n = 0 then (if at' < 0 ∨ ((fileD (callD D) n).seen.length : Int) < at' ∨ 4194304 - at' < (b.length : Int) then (2, callD D) else (0, putD (callD D) n ⟨false, at'.toNat, b⟩)) else (askR (callD D) n, callD D)
def Few (D : Dk) (N : Nat) : Prop := ∀ f ∈ D.f, f.ops.length ≤ N
theorem Few.get {N : Nat} (w : Few D N) (h : D.f[n]? = some f) : f.ops.length ≤ N := w f (List.mem_of_getElem? h)
/-- a row in view V, seen wherever just this disk changed -/
def Vw (lo B : Nat) (F : Hp) (Q : Nat → Hp) (V : Hp) : Prop := ∀ F' Q' h', F.le F' → Sep lo F' Q' h' → Upd B 10 Q Q' → V.le h'
theorem Vw.frz : Vw lo B F Q F := fun _ _ _ l s _ => Hp.le_trans l s.fle
theorem Vw.part {j : Nat} (hj : j < B ∨ B + 10 ≤ j) : Vw lo B F Q (Q j) := fun _ Q' _ _ s u => by
  rw [← u j hj]; exact s.le j
theorem callD_few {N : Nat} (w : Few D N) : Few (callD D) N := by unfold Few; rw [callD_f]; exact w
theorem c73 {n at' : Int} {b : AV} {l : List Nat} {V : Hp} (s : Sep lo F Q h) (d : DkA lo F Q B p a D) (hv : Vw lo B F Q V) (rb : Kn.byte.Row V b l) (hb : Few D 31000000) (h1 : -9223372036854775808 ≤ at') (h2 : at' < 9223372036854775808)
    (k : ∀ F' a' Q' h', F.le F' → Sep lo F' Q' h' → DkA lo F' Q' B p a' (writeR D n at' l).2 → Upd B 10 Q Q' → Post (.i .i64 (writeR D n at' l).1) h') :
    wpC Try.prog 73 [.p p 0, .i .i64 n, .i .i64 at', b] Post h := by
  refine call_sound (args := [.vv (.p p 0), .ii .i64 n, .ii .i64 at', .vv b]) (cuts := []) ⟨rfl, trivial, trivial, rb.sc, trivial⟩ ?_
  rw [vc73]
  refine c78 s d fun Q1 h0 s1 d1 u1 => onRet.i ?_
  have rb1 := rb.mono (hv F Q1 h0 (Hp.le_refl _) s1 u1)
  unfold writeR at k
  refine onB.ndec (fun e => by rw [if_neg e] at k; exact k F a Q1 h0 (Hp.le_refl _) s1 d1 u1) fun e => ?_
  rw [if_pos e] at k
  obtain ⟨_, m, rfl, hm⟩ := askR_ok e
  have hf := d1.fileD hm
  have ok := (d1.ok m _ hf).seen
  refine onB.dec (fun lc1 => by rw [if_pos (.inl lc1)] at k; exact k F a Q1 h0 (Hp.le_refl _) s1 d1 u1) fun lc1 => ?_
  refine onO.mk rfl (onO.mk (natLt_nat hm) (onO.mk (dk_cell s1 d1.box hm (by omega)) (onL.r1 (d1.seen m _ hf).sc (onO.mk (s1.row (d1.seen m _ hf)).len ?_))))
  refine onB.dec (fun lc2 => by rw [if_pos (.inr (.inl lc2))] at k; exact k F a Q1 h0 (Hp.le_refl _) s1 d1 u1) fun lc2 => ?_
  refine onO.mk rb1.len (onO.mk (sub64 (by omega) (by omega)) ?_)
  refine onB.dec (fun lc3 => by rw [if_pos (.inr (.inr lc3))] at k; exact k F a Q1 h0 (Hp.le_refl _) s1 d1 u1) fun lc3 => ?_
  rw [if_neg (by omega)] at k
  obtain ⟨x, rfl⟩ := Int.eq_ofNat_of_zero_le (a := at') (by omega)
  refine c43 rb1 (by omega) fun r h2 o2 => onRet.r o2.sc ?_
  have fg := s1.fgrow o2.le
  have few := (callD_few hb).get hf
  have hp : (⟨false, x, l⟩ : DOp).pos ≤ (fileD (callD D) m).seen.length := by show x ≤ _; omega
  have hl := doF_len (o := ⟨false, x, l⟩) rfl hp
  refine c79 (o := ⟨false, x, l⟩) (s1.frz o2.le o2.lo) (d1.fmono fg) hf hp (by rw [hl]; show max _ (x + l.length) ≤ _; omega) (o2.frozen byte_flat) (by omega) fun a3 Q3 h3 s3 d3 u3 => onRet.i (k _ a3 Q3 h3 fg s3 d3 (u1.trans u3))
def syncR (D : Dk) (n : Int) : Int × Dk := if askR (callD D) n = 0 then (0, { callD D with f := D.f.set n.toNat ⟨(fileD D n).seen, []⟩ }) else (askR (callD D) n, callD D)
theorem callD_file {n : Int} : fileD (callD D) n = fileD D n := by unfold fileD; rw [callD_f]
theorem c66 {n : Int} (s : Sep lo F Q h) (d : DkA lo F Q B p a D) (hb : Few D 31000000)
    (k : ∀ a' Q' h', Sep lo F Q' h' → DkA lo F Q' B p a' (syncR D n).2 → Upd B 10 Q Q' → Post (.i .i64 (syncR D n).1) h') : wpC Try.prog 66 [.p p 0, .i .i64 n] Post h := by
  refine call_sound (args := [.vv (.p p 0), .ii .i64 n]) (cuts := []) ⟨rfl, trivial, trivial⟩ ?_
  rw [vc66]
  refine c78 s d fun Q1 h0 s1 d1 u1 => onRet.i ?_
  unfold syncR at k
  refine onB.ndec (fun e => by rw [if_neg e] at k; exact k a Q1 h0 s1 d1 u1) fun e => ?_
  rw [if_pos e] at k
  obtain ⟨_, m, rfl, hm⟩ := askR_ok e
  have hf := d1.fileD hm
  have few := (callD_few hb).get hf
  refine onO.mk rfl (onO.mk (natLt_nat hm) (c80 s1 d1 hf (by omega) fun a2 Q2 h2 s2 d2 u2 => onTup.z (k a2 Q2 h2 s2 ?_ (u1.trans u2))))
  rw [callD_file, callD_f] at d2
  exact d2
end
/- (*arras/disk.Disk).Read -/
theorem vc75 (a : AV) (b : Int) (c : Int) (d : Int) (h : Hp) (Post : AV → Hp → Prop) : vcCall Try.prog [] 75 [(SV.vv a), (SV.ii .i64 b), (SV.ii .i64 c), (SV.ii .i64 d)] h Post = (
  wpC Try.prog 94 [a, AV.i IntKind.i64 b]
  (fun a0 h0 =>
    onRet [Sh.one (Kd.int IntKind.i64)] a0 fun n0 =>
      onB (!decide (n0 = 0)) (Post (AV.tup [AV.ns, AV.i IntKind.i64 n0]) h0)
        (onO (ptrV a) fun r0 =>
          onO (natLt b 3) fun p0 =>
            onO (rdH h0 r0.fst (r0.snd + 0 + p0 * 3 + 1) 1) fun l0 =>
              onL [Kd.ref] l0 fun a1 =>
                onB (decide (d < 0)) (Post (AV.tup [AV.ns, AV.i IntKind.i64 1]) h0)
                  (onB (decide (c < 0)) (Post (AV.tup [AV.ns, AV.i IntKind.i64 2]) h0)
                    (onO (lenV a1) fun p1 =>
                      onB (decide ((↑p1 : Int) < d)) (Post (AV.tup [AV.ns, AV.i IntKind.i64 2]) h0)
                        (onO (lenV a1) fun p2 =>
                          onO (intO BinOp.sub IntKind.i64 (↑p2) d) fun n1 =>
                            onB (decide (n1 < c)) (Post (AV.tup [AV.ns, AV.i IntKind.i64 2]) h0)
                              (onO (intO BinOp.add IntKind.i64 c d) fun n2 =>
                                onO (slV a1 (some c) (some n2) none 1) fun a2 =>
                                  wpC Try.prog 43 [a2] (fun a3 h1 => onRet [Sh.one Kd.ref] a3 fun a4 => Post (AV.tup [a4, AV.i IntKind.i64 0]) h1) h0))))))
  h) := by kernel_rfl
/- (*arras/disk.Disk).Cut -/
theorem vc65 (a : AV) (b : Int) (c : Int) (h : Hp) (Post : AV → Hp → Prop) : vcCall Try.prog [] 65 [(SV.vv a), (SV.ii .i64 b), (SV.ii .i64 c)] h Post = (
  wpC Try.prog 78 [a, AV.i IntKind.i64 b]
  (fun a0 h0 =>
    onRet [Sh.one (Kd.int IntKind.i64)] a0 fun n0 =>
      onB (!decide (n0 = 0)) (Post (AV.i IntKind.i64 n0) h0)
        (onB (decide (c < 0)) (Post (AV.i IntKind.i64 2) h0)
          (onO (ptrV a) fun r0 =>
            onO (natLt b 3) fun p0 =>
              onO (rdH h0 r0.fst (r0.snd + 0 + p0 * 3 + 1) 1) fun l0 =>
                onL [Kd.ref] l0 fun a1 =>
                  onO (lenV a1) fun p1 =>
                    onB (decide ((↑p1 : Int) < c)) (Post (AV.i IntKind.i64 2) h0)
                      (wpC Try.prog 79 [a, AV.i IntKind.i64 b, AV.agg [AV.b true, AV.i IntKind.i64 c, AV.ns]]
                        (fun a2 h1 => onRet [Sh.one (Kd.int IntKind.i64)] a2 fun n1 => Post (AV.i IntKind.i64 n1) h1) h0))))
  h) := by kernel_rfl
/- (*arras/disk.Disk).Off -/
theorem vc23 (a : AV) (b : Int) (h : Hp) (Post : AV → Hp → Prop) : vcCall Try.prog [] 23 [(SV.vv a), (SV.ii .i64 b)] h Post = (
  onO (ptrV a) fun r0 =>
  wpE (Eff.w r0.fst (r0.snd + 10) (Src.lit [AV.b true]) none)
    (fun x0 h0 =>
      onO (ptrV a) fun r1 =>
        wpE (Eff.w r1.fst (r1.snd + 11) (Src.lit [AV.i IntKind.i64 b]) none)
          (fun x1 h1 => onB (decide (b < 1)) (onO (ptrV a) fun r2 => wpE (Eff.w r2.fst (r2.snd + 9) (Src.lit [AV.b true]) none) (fun x2 h2 => Post (AV.tup []) h2) h1) (Post (AV.tup []) h1)) h0)
    h) := by kernel_rfl
theorem Kn.Row.sl {α : Type} {d : Kn α} {h : Hp} {a : AV} {l : List α} (r : d.Row h a l) {sz : Nat} (hsz : d.sz = sz) {i j : Nat} (h1 : i ≤ j) (h2 : j ≤ l.length) {lo hi : Option Int} (hlo : natO 0 lo = some i) (hhi : natO l.length hi = some j) :
    ∃ r', slV a lo hi none sz = some r' ∧ d.Row h r' ((l.drop i).take (j - i)) := by
  subst hsz
  obtain ⟨css, r1, r2⟩ := r
  have hl := r2.length
  obtain ⟨r', e1, e2⟩ := r1.slice hlo (by rw [← hl]; exact hhi) h1 (by omega) (fun _ => trivial)
  exact ⟨r', e1, _, e2, (r2.drop i).take (j - i)⟩
section
variable {lo B p : Nat} {F F' h h' : Hp} {Q Q' : Nat → Hp} {a a' : Nat → AV} {D : Dk} {Post : AV → Hp → Prop}
def cutR (D : Dk) (n k : Int) : Int × Dk :=
  if askR (callD D) n = 0 then (if k < 0 ∨ ((fileD (callD D) n).seen.length : Int) < k then (2, callD D) else (0, putD (callD D) n ⟨true, k.toNat, []⟩)) else (askR (callD D) n, callD D)
theorem ns_row {F : Hp} : Kn.byte.Row F .ns [] := ⟨[], ⟨fun _ h => (by cases h), rfl⟩, .nil⟩
theorem c65 {n k' : Int} (s : Sep lo F Q h) (d : DkA lo F Q B p a D) (hb : Few D 31000000)
    (k : ∀ a' Q' h', Sep lo F Q' h' → DkA lo F Q' B p a' (cutR D n k').2 → Upd B 10 Q Q' → Post (.i .i64 (cutR D n k').1) h') : wpC Try.prog 65 [.p p 0, .i .i64 n, .i .i64 k'] Post h := by
  refine call_sound (args := [.vv (.p p 0), .ii .i64 n, .ii .i64 k']) (cuts := []) ⟨rfl, trivial, trivial, trivial⟩ ?_
  rw [vc65]
  refine c78 s d fun Q1 h0 s1 d1 u1 => onRet.i ?_
  unfold cutR at k
  refine onB.ndec (fun e => by rw [if_neg e] at k; exact k a Q1 h0 s1 d1 u1) fun e => ?_
  rw [if_pos e] at k
  obtain ⟨_, m, rfl, hm⟩ := askR_ok e
  have hf := d1.fileD hm
  have ok := (d1.ok m _ hf).seen
  refine onB.dec (fun lc1 => by rw [if_pos (.inl lc1)] at k; exact k a Q1 h0 s1 d1 u1) fun lc1 => ?_
  refine onO.mk rfl (onO.mk (natLt_nat hm) (onO.mk (dk_cell s1 d1.box hm (by omega)) (onL.r1 (d1.seen m _ hf).sc (onO.mk (s1.row (d1.seen m _ hf)).len ?_))))
  refine onB.dec (fun lc2 => by rw [if_pos (.inr lc2)] at k; exact k a Q1 h0 s1 d1 u1) fun lc2 => ?_
  rw [if_neg (by omega)] at k
  obtain ⟨x, rfl⟩ := Int.eq_ofNat_of_zero_le (a := k') (by omega)
  have few := (callD_few hb).get hf
  refine c79 (o := ⟨true, x, []⟩) s1 d1 hf (by show x ≤ _; omega) (by rw [doF_cut rfl, List.length_take]; show min x _ ≤ _; omega) ns_row (by omega) fun a3 Q3 h3 s3 d3 u3 => onRet.i (k a3 Q3 h3 s3 d3 (u1.trans u3))
def offD (D : Dk) (n : Int) : Dk := { D with armed := true, left := n, off := if n < 1 then true else D.off }
theorem c23 {n : Int} (s : Sep lo F Q h) (d : DkA lo F Q B p a D) (hn : n < 9223372036854775808)
    (k : ∀ Q' h', Sep lo F Q' h' → DkA lo F Q' B p a (offD D n) → Upd B 10 Q Q' → Post (.tup []) h') : wpC Try.prog 23 [.p p 0, .i .i64 n] Post h := by
  refine call_sound (args := [.vv (.p p 0), .ii .i64 n]) (cuts := []) ⟨rfl, trivial, trivial⟩ ?_
  rw [vc23]
  have plo : ∀ {Q : Nat → Hp} {h}, Sep lo F Q h → h.lo ≤ p := fun s => by rw [s.hlo]; exact d.plo
  refine onO.mk rfl (wpE.w (s.box d.box) (plo s) (new := [.b true]) rfl (by show _ + 1 ≤ 12; omega) rfl ?_)
  have s1 := s.put d.box (dkC a { D with armed := true })
  rw [show splice (dkC a D) (0 + 10) [.b true] = dkC a { D with armed := true } from rfl]
  refine onO.mk rfl (wpE.w (s1.box updQ_same) (plo s1) (new := [.i .i64 n]) rfl (by show _ + 1 ≤ 12; omega) rfl ?_)
  rw [show splice (dkC a { D with armed := true }) (0 + 11) [.i .i64 n] = dkC a { D with armed := true, left := n } from rfl]
  have s2 := s1.put updQ_same (dkC a { D with armed := true, left := n })
  have same : ∀ {D' : Dk} {Q1 : Nat → Hp}, D'.f = D.f → (D'.armed = true → D'.off = false → 1 ≤ D'.left ∧ D'.left < 9223372036854775808) → (Q1 B = Hp.one p (dkC a D') lo) → (∀ j, j ≠ B → Q1 j = Q j) → DkA lo F Q1 B p a D' := fun e l e1 e2 =>
    (d.put e l).same fun j _ _ => by
      by_cases ej : j = B
      · subst ej; rw [updQ_same, e1]
      · rw [updQ_ne ej, e2 j ej]
  refine onB.dec (fun e => ?_) fun e => ?_
  · refine onO.mk rfl (wpE.w (s2.box updQ_same) (plo s2) (new := [.b true]) rfl (by show _ + 1 ≤ 12; omega) rfl ?_)
    have ec : offD D n = { D with armed := true, left := n, off := true } := by unfold offD; rw [if_pos e]
    rw [show splice (dkC a { D with armed := true, left := n }) (0 + 9) [.b true] = dkC a { D with armed := true, left := n, off := true } from rfl, ← ec]
    refine k _ _ (s2.put updQ_same _) (same rfl (fun _ h => ?_) updQ_same fun j ej => by rw [updQ_ne ej, updQ_ne ej, updQ_ne ej]) (((Upd.refl.put0 (by omega)).put0 (by omega)).put0 (by omega))
    rw [ec] at h; cases h
  · have ec : offD D n = { D with armed := true, left := n } := by unfold offD; rw [if_neg e]
    rw [← ec] at s2 ⊢
    refine k _ _ s2 (same rfl (fun _ _ => ?_) updQ_same fun j ej => by rw [updQ_ne ej, updQ_ne ej]) ((Upd.refl.put0 (by omega)).put0 (by omega))
    rw [ec]; show 1 ≤ n ∧ n < _; omega
/-- bytes of a file -/
def readR' (D : Dk) (n at' k : Int) : List Nat × Int :=
  if askR D n = 0 then (if k < 0 then ([], 1) else if at' < 0 ∨ ((fileD D n).seen.length : Int) < k ∨ ((fileD D n).seen.length : Int) - k < at' then ([], 2) else ((((fileD D n).seen.drop at'.toNat).take k.toNat), 0)) else ([], askR D n)
theorem c75 {n at' k' : Int} (s : Sep lo F Q h) (d : DkA lo F Q B p a D) (k : ∀ r h', Kn.byte.Own h h' r (readR' D n at' k').1 → Post (.tup [r, .i .i64 (readR' D n at' k').2]) h') :
    wpC Try.prog 75 [.p p 0, .i .i64 n, .i .i64 at', .i .i64 k'] Post h := by
  refine call_sound (args := [.vv (.p p 0), .ii .i64 n, .ii .i64 at', .ii .i64 k']) (cuts := []) ⟨rfl, trivial, trivial, trivial, trivial⟩ ?_
  rw [vc75]
  unfold readR' at k
  refine c94 s d (onRet.i (onB.ndec (fun e => by rw [if_neg e] at k; exact k _ _ (Kn.Own.nil _ _)) fun e => ?_))
  rw [if_pos e] at k
  obtain ⟨_, m, rfl, hm⟩ := askR_ok e
  have hf := d.fileD hm
  have ok := (d.ok m _ hf).seen
  have row := s.row (d.seen m _ hf)
  refine onO.mk rfl (onO.mk (natLt_nat hm) (onO.mk (dk_cell s d.box hm (by omega)) (onL.r1 (d.seen m _ hf).sc ?_)))
  refine onB.dec (fun c => by rw [if_pos c] at k; exact k _ _ (Kn.Own.nil _ _)) fun c => ?_
  rw [if_neg c] at k
  refine onB.dec (fun lc1 => by rw [if_pos (.inl lc1)] at k; exact k _ _ (Kn.Own.nil _ _)) fun lc1 => ?_
  refine onO.mk row.len (onB.dec (fun lc2 => by rw [if_pos (.inr (.inl lc2))] at k; exact k _ _ (Kn.Own.nil _ _)) fun lc2 => ?_)
  refine onO.mk row.len (onO.mk (sub64 (by omega) (by omega)) (onB.dec (fun lc3 => by rw [if_pos (.inr (.inr lc3))] at k; exact k _ _ (Kn.Own.nil _ _)) fun lc3 => ?_))
  rw [if_neg (by omega)] at k
  obtain ⟨x, rfl⟩ := Int.eq_ofNat_of_zero_le (a := at') (by omega)
  obtain ⟨y, rfl⟩ := Int.eq_ofNat_of_zero_le (a := k') (by omega)
  obtain ⟨r, e1, e2⟩ := row.sl rfl (sz := 1) (i := x) (j := x + y) (lo := some ((x : Nat) : Int)) (hi := some ((x + y : Nat) : Int)) (by omega) (by omega) rfl rfl
  refine onO.mk (add64 (by omega) (by omega)) (onO.mk (a := r) e1 ?_)
  rw [show x + y - x = y by omega] at e2
  exact c43 e2 (by simp; omega) fun r2 h2 o2 => onRet.r o2.sc (k _ _ o2)
/-! ### rows of bytes, each in memory of its own -/
def kBs : Kn (List Nat) := Kn.slice Kn.byte 1
structure CellsE (lo : Nat) (q : Hp) (a : AV) (l : List (List Nat)) (q0 : Hp) (qs : Nat → Hp) (rs : List AV) : Prop where
  qlo : q.lo = lo
  row : PK (kRw 1) lo q0 a (rs.map fun r => [r])
  le0 : q0.le q
  len : rs.length = l.length
  le : ∀ i, (qs i).le q
  d0 : ∀ i, Disj (qs i) q0
  dd : ∀ i j, i ≠ j → Disj (qs i) (qs j)
  el : ∀ (i : Nat) x r, l[i]? = some x → rs[i]? = some r → PK Kn.byte lo (qs i) r x ∧ x.length ≤ 4194304
def CellsP (lo : Nat) (q : Hp) (a : AV) (l : List (List Nat)) : Prop := ∃ q0 qs rs, CellsE lo q a l q0 qs rs
theorem CellsP.nil {lo : Nat} : CellsP lo (Hp.none lo) .ns [] :=
  ⟨Hp.none lo, fun _ => Hp.none lo, [], rfl, PK.nil _ _, Hp.le_refl _, rfl, fun _ => Hp.le_refl _, fun _ => none_disj, fun _ _ _ => none_disj, fun i x r e => by simp at e⟩
theorem CellsP.sc {lo : Nat} {q : Hp} {a : AV} {l : List (List Nat)} (c : CellsP lo q a l) : a.sc = true := by
  obtain ⟨q0, qs, rs, c⟩ := c
  exact c.row.sc
theorem CellsP.view {lo : Nat} {q H : Hp} {a : AV} {l : List (List Nat)} (c : CellsP lo q a l) (le : q.le H) : kBs.Row H a l := by
  obtain ⟨q0, qs, rs, c⟩ := c
  obtain ⟨css, r1, r2⟩ := c.row.row (Hp.le_trans c.le0 le)
  have := kRw_all r2
  subst this
  refine ⟨_, r1, All2.of_get (by rw [List.length_map, c.len]) fun i x y hx hy => ?_⟩
  rw [List.getElem?_map] at hy
  cases hr : rs[i]? with
  | none => rw [hr] at hy; cases hy
  | some r =>
    rw [hr] at hy
    injection hy with hy
    subst hy
    obtain ⟨e1, e2⟩ := c.el i x r hx hr
    exact ⟨r, rfl, e1.row (Hp.le_trans (c.le i) le), by omega⟩
theorem add_le {p g H : Hp} (h1 : p.le H) (h2 : g.le H) : (p.add g).le H := fun k c e => (add_cases e).elim (h1 k c) (h2 k c)
theorem add_disj {p g H : Hp} (h1 : Disj p H) (h2 : Disj g H) : Disj (p.add g) H := fun k c e => (add_cases e).elim (h1 k c) (h2 k c)
theorem updQ_updQ {Q : Nat → Hp} {i : Nat} {x y : Hp} : updQ (updQ Q i x) i y = updQ Q i y := funext fun j => by
  by_cases e : j = i
  · subst e; rw [updQ_same, updQ_same]
  · rw [updQ_ne e, updQ_ne e, updQ_ne e]
theorem updQ_self {Q : Nat → Hp} {i : Nat} : updQ Q i (Q i) = Q := funext fun j => by
  by_cases e : j = i
  · subst e; rw [updQ_same]
  · rw [updQ_ne e]
/-- two parts as one -/
theorem Sep.merge (s : Sep lo F Q h) {i j : Nat} (hij : i ≠ j) : Sep lo F (updQ (updQ Q j (Hp.none lo)) i ((Q i).add (Q j))) h := by
  have key : ∀ m, m ≠ i → updQ (updQ Q j (Hp.none lo)) i ((Q i).add (Q j)) m = (if m = j then Hp.none lo else Q m) := fun m e => by rw [updQ_ne e]; rfl
  refine ⟨s.hlo, s.fle, s.flo, fun m => ?_, fun m => ?_, fun m => ?_, fun m k e => ?_⟩
  · by_cases e1 : m = i
    · subst e1; rw [updQ_same]; exact add_le (s.le _) (s.le _)
    · rw [key m e1]; split
      · exact none_le _ _
      · exact s.le m
  · by_cases e1 : m = i
    · subst e1; rw [updQ_same]; exact s.lo j
    · rw [key m e1]; split
      · rfl
      · exact s.lo m
  · by_cases e1 : m = i
    · subst e1; rw [updQ_same]; exact add_disj (s.df _) (s.df _)
    · rw [key m e1]; split
      · exact none_disj
      · exact s.df m
  · have one : ∀ k, k ≠ i → Disj ((Q i).add (Q j)) (if k = j then Hp.none lo else Q k) := fun k e => by
      split
      · exact disj_none
      · rename_i e2; exact add_disj (s.dd i k (Ne.symm e)) (s.dd j k (Ne.symm e2))
    by_cases e1 : m = i
    · subst e1; rw [updQ_same, key k (Ne.symm e)]; exact one k (Ne.symm e)
    · by_cases e2 : k = i
      · subst e2; rw [updQ_same, key m e1]; exact (one m e1).symm
      · rw [key m e1, key k e2]
        split
        · exact none_disj
        · split
          · exact disj_none
          · exact s.dd m k e
theorem Sep.cellsApp (s : Sep lo F Q h) {i j : Nat} (hij : i ≠ j) {b r : AV} {l : List (List Nat)} {x : List Nat} (c : CellsP lo (Q i) b l) (e : PK Kn.byte lo (Q j) r x) (hx : x.length ≤ 4194304) (hb : l.length + 1 < 32000000) {Post : Option AV → Hp → Prop}
    (k : ∀ a' h' q', Sep lo F (updQ (updQ Q j (Hp.none lo)) i q') h' → CellsP lo q' a' (l ++ [x]) → Post (some a') h') : wpE (.app b 1 (.lit [r]) 1) Post h := by
  obtain ⟨q0, qs, rs, c⟩ := c
  have hq0 : q0.le h := Hp.le_trans c.le0 (s.le i)
  have row : PK (kRw 1) h.lo q0 b (rs.map fun r => [r]) := by rw [s.hlo]; exact c.row
  refine (row.outer kRw_flat hq0).app1 (x := [r]) (c := [r]) rfl kRw_flat ⟨rfl, rfl, by simp [e.sc]⟩ (by rw [List.length_map, c.len]; exact hb) fun a' h' o' => ?_
  obtain ⟨q0', z1, z2, z3⟩ := PK.of kRw_flat o'
  have z3 : PK (kRw 1) h.lo q0' a' (rs.map (fun r => [r]) ++ [[r]]) := z3
  rw [s.hlo] at z3
  have s' := s.merge hij
  have q0X : q0.le ((Q i).add (Q j)) := Hp.le_trans c.le0 (Hp.le_left _ _)
  have xh : ((Q i).add (Q j)).le h := add_le (s.le _) (s.le _)
  have r1 : (restH h ((Q i).add (Q j))).le (restH h q0) := fun k cc hk => by
    cases hq : q0.g k with
    | some y => rw [rest_none (by rw [q0X k y hq]; simp)] at hk; cases hk
    | none =>
      rw [rest_some hq]
      exact restH_le _ _ k cc hk
  have r2 : (restH ((Q i).add (Q j)) q0).le (restH h q0) := fun k cc hk => by
    cases hq : q0.g k with
    | some y => rw [rest_none (by rw [hq]; simp)] at hk; cases hk
    | none => rw [rest_some hq] at hk ⊢; exact xh k cc hk
  have oo := o'.le
  have dz : Disj q0' (restH ((Q i).add (Q j)) q0) := z2.le_right r2
  have s2 := s'.step i (q' := (restH ((Q i).add (Q j)) q0).add q0') (h' := h') (by rw [updQ_same]; exact Hp.le_trans r1 oo) (o'.lo.trans s.hlo) (add_le (Hp.le_trans r2 oo) z1)
    (by
      rw [updQ_same]
      refine add_disj (fun k cc hk => ?_) (z2.le_right r1)
      exact rest_none (by rw [restH_le _ _ k cc hk]; simp)) z3.1
  rw [updQ_updQ] at s2
  refine k _ _ _ s2 ⟨q0', fun m => if m = l.length then Q j else qs m, rs ++ [r], z3.1, by rw [List.map_append]; exact z3, Hp.le_right dz.symm, by simp [c.len], fun m => ?_, fun m => ?_, fun m n e2 => ?_, fun m y t hy ht => ?_⟩
  · refine Hp.le_trans ?_ (Hp.le_left _ _)
    by_cases em : m = l.length
    · rw [if_pos em]
      exact le_rest (Hp.le_right (s.dd i j hij)) ((s.dd i j hij).le_left c.le0)
    · rw [if_neg em]
      exact le_rest (Hp.le_trans (c.le m) (Hp.le_left _ _)) (c.d0 m).symm
  · have : (if m = l.length then Q j else qs m).le (restH ((Q i).add (Q j)) q0) := by
      by_cases em : m = l.length
      · rw [if_pos em]
        exact le_rest (Hp.le_right (s.dd i j hij)) ((s.dd i j hij).le_left c.le0)
      · rw [if_neg em]
        exact le_rest (Hp.le_trans (c.le m) (Hp.le_left _ _)) (c.d0 m).symm
    exact dz.symm.le_left this
  · by_cases em : m = l.length
    · have en : n ≠ l.length := fun en => e2 (em.trans en.symm)
      simp only [if_pos em, if_neg en]
      exact (s.dd j i (Ne.symm hij)).le_right (c.le n)
    · by_cases en : n = l.length
      · simp only [if_neg em, if_pos en]
        exact (s.dd i j hij).le_left (c.le m)
      · simp only [if_neg em, if_neg en]; exact c.dd m n e2
  · by_cases em : m = l.length
    · subst em
      simp only [if_pos rfl]
      rw [List.getElem?_append_right (by omega)] at hy
      rw [List.getElem?_append_right (by rw [c.len]; omega), c.len] at ht
      simp at hy ht
      subst hy; subst ht
      exact ⟨e, hx⟩
    · simp only [if_neg em]
      have hlt : m < l.length := by
        have := (List.getElem?_eq_some_iff.1 hy).1
        simp at this; omega
      rw [List.getElem?_append_left hlt] at hy
      rw [List.getElem?_append_left (by rw [c.len]; exact hlt)] at ht
      exact c.el m y t hy ht
end
theorem remK {k : IntKind} {a b : Int} (h : b ≠ 0) : intO .rem k a b = some (a.tmod b) := by
  have : eqI b 0 = false := by
    cases b with
    | ofNat n => cases n with
      | zero => exact absurd rfl h
      | succ n => rfl
    | negSucc n => rfl
  unfold intO intA
  simp only [this, cond_false]
theorem tmod_bounds {a b : Int} (hb : 0 < b) : -b < a.tmod b ∧ a.tmod b < b := by
  have h1 := Int.tmod_lt_of_pos a hb
  have h2 : -b < a.tmod b := by
    have := Int.tmod_lt_of_pos (-a) hb
    rw [Int.neg_tmod] at this
    omega
  exact ⟨h2, h1⟩
theorem tmod_mod {a b : Int} : (a.tmod b) % b = a % b := by
  conv => rhs; rw [← Int.tmod_add_mul_tdiv a b]
  rw [Int.add_mul_emod_self_left]
section
variable {lo B p : Nat} {F F' h h' : Hp} {Q Q' : Nat → Hp} {a a' : Nat → AV} {D : Dk} {Post : AV → Hp → Prop}
theorem c56 {x : Int} {n : Nat} (h0 : 0 < n) (hn : n < 100000000) (k : Post (.i .i64 (x % (n : Int))) h) : wpC Try.prog 56 [.i .i64 x, .i .i64 (n : Nat)] Post h := by
  refine call_sound (args := [.ii .i64 x, .ii .i64 (n : Nat)]) (cuts := []) ⟨trivial, trivial, trivial⟩ ?_
  rw [vc56]
  have hb := tmod_bounds (a := x) (b := (n : Int)) (by omega)
  have hb2 := tmod_bounds (a := x.tmod n + n) (b := (n : Int)) (by omega)
  refine onO.mk (remK (by omega)) (onO.mk (add64 (by omega) (by omega)) (onO.mk (remK (by omega)) ?_))
  have e : (x.tmod n + n).tmod n = x % (n : Int) := by
    rw [Int.tmod_eq_emod_of_nonneg (by omega), Int.add_emod_right]
    exact tmod_mod
  rw [e]; exact k
/-- the next of what is picked, of n -/
def nextP (ps : List Int) (n : Nat) : Nat × List Int := match ps with
  | [] => (0, [])
  | p :: ps => ((p % (n : Int)).toNat, ps)
theorem nextP_lt {ps : List Int} {n : Nat} (h : 0 < n) : (nextP ps n).1 < n := by
  unfold nextP
  cases ps with
  | nil => exact h
  | cons p ps =>
    have h1 := Int.emod_nonneg p (show (n : Int) ≠ 0 by omega)
    have h2 := Int.emod_lt_of_pos p (show (0 : Int) < (n : Int) by omega)
    show (p % (n : Int)).toNat < n
    omega
def tornF (f : DFile) (p : Nat) (ps : List Int) : List Nat × List Int := match f.ops[p]? with
  | none => ((f.ops.take p).foldl doF f.kept, ps)
  | some o => if o.cut = true then ((f.ops.take p).foldl doF f.kept, ps) else
      (doF ((f.ops.take p).foldl doF f.kept) ⟨false, o.pos, o.b.take (nextP ps (o.b.length + 1)).1⟩, (nextP ps (o.b.length + 1)).2)
def crashF (f : DFile) (ps : List Int) : List Nat × List Int := tornF f (nextP ps (f.ops.length + 1)).1 (nextP ps (f.ops.length + 1)).2
def crashL : List DFile → List Int → List (List Nat)
  | [], _ => []
  | f :: fs, ps => (crashF f ps).1 :: crashL fs (crashF f ps).2
def crashS : List DFile → List Int → List Int
  | [], ps => ps
  | f :: fs, ps => crashS fs (crashF f ps).2
theorem crash_snoc {f : DFile} : ∀ {l : List DFile} {ps : List Int}, crashL (l ++ [f]) ps = crashL l ps ++ [(crashF f (crashS l ps)).1] ∧ crashS (l ++ [f]) ps = (crashF f (crashS l ps)).2
  | [], ps => ⟨rfl, rfl⟩
  | g :: l, ps => by
    have := crash_snoc (f := f) (l := l) (ps := (crashF g ps).2)
    exact ⟨by show _ :: crashL (l ++ [f]) _ = _ :: crashL l _ ++ _; rw [this.1]; rfl, this.2⟩
theorem crashL_len : ∀ {l : List DFile} {ps : List Int}, (crashL l ps).length = l.length
  | [], _ => rfl
  | f :: l, ps => by show (crashL l _).length + 1 = _; rw [crashL_len]; rfl
theorem runs_take {os : List DOp} : ∀ {f : List Nat} (n : Nat), runs f os → runs f (os.take n) := by
  induction os with
  | nil => intro f n _; simp; exact trivial
  | cons o os ih =>
    intro f n h
    cases n with
    | zero => exact trivial
    | succ n => exact ⟨h.1, h.2.1, ih n h.2.2⟩
theorem runs_at {os : List DOp} {o : DOp} : ∀ {f : List Nat} {n : Nat}, runs f os → os[n]? = some o → o.pos ≤ ((os.take n).foldl doF f).length ∧ (doF ((os.take n).foldl doF f) o).length ≤ 4194304 := by
  induction os with
  | nil => intro f n _ h; simp at h
  | cons x os ih =>
    intro f n h hn
    cases n with
    | zero =>
      simp at hn
      subst hn
      exact ⟨h.1, h.2.1⟩
    | succ n => exact ih (f := doF f x) h.2.2 (by simpa using hn)
theorem tornF_len {f : DFile} (ok : f.ok) {p : Nat} {ps : List Int} : (tornF f p ps).1.length ≤ 4194304 := by
  have h1 := runs_len (runs_take p ok.2) ok.1
  unfold tornF
  split
  · exact h1
  · rename_i o ho
    split
    · exact h1
    · rename_i hc
      obtain ⟨h2, h3⟩ := runs_at ok.2 ho
      have hc : o.cut = false := by simpa using hc
      rw [doF_len hc h2] at h3
      rw [doF_len rfl (by exact h2)]
      simp only [List.length_take]
      omega
theorem crashF_len {f : DFile} (ok : f.ok) {ps : List Int} : (crashF f ps).1.length ≤ 4194304 := tornF_len ok
/-! ### the power goes -/
theorem c55 {i q n : Nat} {r : AV} {ps : List Int} (s : Sep lo F Q h) (e : Q i = Hp.one q [r] lo) (plo : lo ≤ q) (row : Kn.int.Row F r ps) (h0 : 0 < n) (hn : n < 100000000)
    (k : ∀ r' h', Sep lo F (updQ Q i (Hp.one q [r'] lo)) h' → Kn.int.Row F r' (nextP ps n).2 → Post (.i .i64 ((nextP ps n).1 : Nat)) h') : wpC Try.prog 55 [.i .i64 (n : Nat), .p q 0] Post h := by
  refine call_sound (args := [.ii .i64 (n : Nat), .vv (.p q 0)]) (cuts := []) ⟨trivial, rfl, trivial⟩ ?_
  rw [vc55]
  have rd : rdH h q 0 1 = some [r] := rdBox (s.box e) rfl
  have row' := row.mono s.fle
  refine onO.mk rfl (onO.mk rd (onL.r1 row.sc (onO.mk row'.len ?_)))
  cases ps with
  | nil =>
    refine onB.pos (decide_eq_true rfl) (k r h ?_ row)
    rw [← e, updQ_self]; exact s
  | cons x ps =>
    refine onB.neg (decide_eq_false (by simp; omega)) (onO.mk rfl (onO.mk rd (onL.r1 row.sc ?_)))
    refine int0 (k := 0) row' rfl (onO.mk rfl (onO.mk rd (onL.r1 row.sc ?_)))
    obtain ⟨r', e1, e2⟩ := row.sl rfl (sz := 1) (i := 1) (j := (x :: ps).length) (lo := some 1) (hi := none) (by simp) (Nat.le_refl _) rfl rfl
    have e2 : Kn.int.Row F r' ps := by simpa using e2
    refine onO.mk e1 (onO.mk rfl (wpE.w (s.box e) (by rw [s.hlo]; exact plo) (new := [r']) rfl (by show _ + 1 ≤ 1; omega) (by simp [e2.sc]) ?_))
    have s1 := s.put e [r']
    rw [show splice [r] 0 [r'] = [r'] from rfl]
    refine c56 h0 hn (onRet.i ?_)
    have : ((x % (n : Int)).toNat : Int) = x % (n : Int) := Int.toNat_of_nonneg (Int.emod_nonneg x (by omega))
    have k2 := k r' _ s1 e2
    rw [show ((nextP (x :: ps) n).1 : Int) = ((x % (n : Int)).toNat : Int) from rfl, this] at k2
    exact k2
theorem RowP.upto {α : Type} {d : Kn α} {q : Hp} {b : AV} {l : List α} {i sz : Nat} (r : RowP d F lo q b l) (hsz : d.sz = sz) (hi : i ≤ l.length) : ∃ r', slV b none (some (i : Int)) none sz = some r' ∧ RowP d F lo q r' (l.take i) := by
  obtain ⟨css, ⟨e1, r1⟩, r2⟩ := r
  have hl := r2.length
  obtain ⟨r', e2, o'⟩ := r1.upto (i := i) hsz (by omega)
  exact ⟨r', e2, _, ⟨e1, o'⟩, r2.take i⟩
def Upd2 (B n C m : Nat) (Q Q' : Nat → Hp) : Prop := ∀ j, (j < B ∨ B + n ≤ j) → (j < C ∨ C + m ≤ j) → Q' j = Q j
theorem DkA.same' (d : DkA lo F Q B p a D) {C : Nat} (hC : C + 3 ≤ B ∨ B + 10 ≤ C) (e : ∀ j, (j < C ∨ C + 3 ≤ j) → Q' j = Q j) : DkA lo F Q' B p a D := d.same fun j h1 h2 => e j (by omega)
/-- one file, the power gone -/
theorem take_succ_fold {f : List Nat} {os : List DOp} {n : Nat} {o : DOp} (h : os[n]? = some o) : (os.take (n + 1)).foldl doF f = doF ((os.take n).foldl doF f) o := by
  rw [take_succ' h, List.foldl_append]; rfl
theorem c38 {C : Nat} {b : AV} {ps : List Int} (s : Sep lo F Q h) (d : DkA lo F Q B p a D) (hC : C + 3 ≤ B ∨ B + 10 ≤ C) (row : Kn.int.Row F b ps) (hb : Few D 31000000)
    (k : ∀ r Q' h', Sep lo F Q' h' → DkA lo F Q' B p a { D with off := true } → CellsP lo (Q' (C + 1)) r (crashL D.f ps) → Upd2 B 10 C 3 Q Q' → Post r h') : wpC Try.prog 38 [.p p 0, b] Post h := by
  refine call_sound (args := [.vv (.p p 0), .vv b]) (cuts := []) ⟨rfl, row.sc, trivial⟩ ?_
  rw [vc38]
  intro p0 hp0 hplo
  have hplo : lo ≤ p0 := by rw [← s.hlo]; exact hplo
  have s0 := (((s.drop (C + 1)).drop (C + 2)).alloc C hp0 [b])
  refine ⟨fun m a0 n0 h' => ∃ (j : Nat) (Q1 : Nat → Hp) (r : AV), n0 = j ∧ j ≤ 3 ∧ m = 3 - j ∧ Sep lo F Q1 h' ∧ (∀ i, (i < C ∨ C + 3 ≤ i) → Q1 i = Q i) ∧ Q1 C = Hp.one p0 [r] lo ∧ Kn.int.Row F r (crashS (D.f.take j) ps) ∧ CellsP lo (Q1 (C + 1)) a0 (crashL (D.f.take j) ps),
    ⟨3, 0, _, b, rfl, by omega, rfl, s0, fun i hi => by rw [updQ_ne (by omega), updQ_ne (by omega), updQ_ne (by omega)], updQ_same, by simpa [crashS] using row, by rw [updQ_ne (by omega), updQ_ne (by omega), updQ_same]; exact CellsP.nil⟩, ?_⟩
  rintro m h0 a0 ha0 _ ⟨j, Q1, r, rfl, hj, rfl, s1, u1, e1, row1, cl⟩
  have d1 := d.same' hC u1
  refine onB.dec (fun e => ?_) fun e => ?_
  · have hj3 : j < 3 := by omega
    obtain ⟨f, hf⟩ := d.get hj3
    have pk := d1.kept j f hf
    have ro := d1.ops j f hf
    have ok := d.ok j f hf
    have few := hb.get hf
    refine onO.mk rfl (onO.mk (natLt_nat hj3) (onO.mk (dk_cell s1 d1.box hj3 (by omega)) (onL.r1 pk.sc ?_)))
    refine c43 (s1.row pk) ok.1 fun a3 h1 o1 => onRet.r o1.sc ?_
    obtain ⟨qt, s2, pt⟩ := s1.fresh (C + 2) byte_flat o1
    have u2 : ∀ i, (i < C ∨ C + 3 ≤ i) → updQ Q1 (C + 2) qt i = Q i := fun i hi => by rw [updQ_ne (by omega)]; exact u1 i hi
    have d2 := d.same' hC u2
    have ro2 := d2.ops j f hf
    refine onO.mk rfl (onO.mk (natLt_nat hj3) (onO.mk (dk_cell s2 d2.box hj3 (by omega)) (onL.r1 ro.sc ⟨?_, ?_⟩)))
    · exact onO.mk (dk_cell s1 d1.box hj3 (by omega)) (dk_cell s2 d2.box hj3 (by omega))
    have e2 : updQ Q1 (C + 2) qt C = Hp.one p0 [r] lo := by rw [updQ_ne (by omega)]; exact e1
    refine onO.mk (s2.rows ro2).len (onO.mk (a := ((f.ops.length + 1 : Nat) : Int)) (inc64 (by omega)) ?_)
    refine c55 s2 e2 hplo row1 (by omega) (by omega) fun r3 h3 s3 row3 => onRet.i ?_
    generalize hP : nextP (crashS (D.f.take j) ps) (f.ops.length + 1) = P at *
    have hPlt : P.1 < f.ops.length + 1 := by rw [← hP]; exact nextP_lt (by omega)
    obtain ⟨a6, e6, r6⟩ := ro2.upto (i := P.1) (sz := 3) rfl (by omega)
    have u3 : ∀ i, (i < C ∨ C + 3 ≤ i) → updQ (updQ Q1 (C + 2) qt) C (Hp.one p0 [r3] lo) i = Q i := fun i hi => by rw [updQ_ne (by omega)]; exact u2 i hi
    have hBj : B + (3 * j + 3) ≠ C ∧ B + (3 * j + 3) ≠ C + 2 := by omega
    have rowi : ∀ {Qx : Nat → Hp} {hx}, Sep lo F Qx hx → (∀ i, (i < C ∨ C + 3 ≤ i) → Qx i = Q i) → RowP kDop F lo (Qx (B + (3 * j + 3))) a6 (f.ops.take P.1) ∧ RowP kDop F lo (Qx (B + (3 * j + 3))) (a (3 * j + 2)) f.ops := fun sx ux => by
      have e := (u2 (B + (3 * j + 3)) (by omega)).symm.trans (by rfl)
      rw [ux _ (by omega), ← u2 _ (by omega)]
      exact ⟨r6, ro2⟩
    have htk : (f.ops.take P.1).length = P.1 := by simp; omega
    refine onO.mk e6 (onO.mk (by rw [(s3.rows (rowi s3 u3).1).len, htk]) ?_)
    refine ⟨fun m a7 n3 h' => ∃ (i : Nat) (Q4 : Nat → Hp), n3 = i ∧ i ≤ P.1 ∧ m = P.1 - i ∧ Sep lo F Q4 h' ∧ (∀ i, (i < C ∨ C + 3 ≤ i) → Q4 i = Q i) ∧ Q4 C = Hp.one p0 [r3] lo ∧ Q4 (C + 1) = Q1 (C + 1) ∧ PK Kn.byte lo (Q4 (C + 2)) a7 ((f.ops.take i).foldl doF f.kept),
      ⟨P.1, 0, _, rfl, by omega, rfl, s3, u3, updQ_same, by rw [updQ_ne (by omega), updQ_ne (by omega)], by rw [updQ_ne (by omega), updQ_same]; exact pt⟩, ?_⟩
    rintro m4 h4 a7 ha7 _ ⟨i, Q4, rfl, hi, rfl, s4, u4, eC, eC1, p4⟩
    have hlen4 : ((f.ops.take i).foldl doF f.kept).length ≤ 4194304 := runs_len (runs_take i ok.2) ok.1
    -- the result, one more file behind
    have done : ∀ {Q5 : Nat → Hp} {h5 : Hp} {x : List Nat} {bx : AV} {rs : List Int} {rr : AV}, Sep lo F Q5 h5 → (∀ i, (i < C ∨ C + 3 ≤ i) → Q5 i = Q i) → Q5 C = Hp.one p0 [rr] lo → Kn.int.Row F rr rs → Q5 (C + 1) = Q1 (C + 1) → PK Kn.byte lo (Q5 (C + 2)) bx x →
        crashF f (crashS (D.f.take j) ps) = (x, rs) → wpE (Eff.app a0 1 (Src.lit [bx]) 1) (fun x0 h7 => onO x0 fun a16 => onO (intO BinOp.add IntKind.i64 (j : Int) 1) fun n9 => ∃ p15, ltN p15 (3 - j) ∧ ∃ (j : Nat) (Q1 : Nat → Hp) (r : AV), n9 = j ∧ j ≤ 3 ∧ p15 = 3 - j ∧ Sep lo F Q1 h7 ∧ (∀ i, (i < C ∨ C + 3 ≤ i) → Q1 i = Q i) ∧ Q1 C = Hp.one p0 [r] lo ∧ Kn.int.Row F r (crashS (D.f.take j) ps) ∧ CellsP lo (Q1 (C + 1)) a16 (crashL (D.f.take j) ps)) h5 := by
      intro Q5 h5 x bx rs rr s5 u5 e5 w5 lc5 p5 hx
      have cs := crash_snoc (f := f) (l := D.f.take j) (ps := ps)
      rw [← take_succ' hf, hx] at cs
      rw [← lc5] at cl
      have hxl : x.length ≤ 4194304 := by have := crashF_len ok (ps := crashS (D.f.take j) ps); rw [hx] at this; exact this
      refine s5.cellsApp (i := C + 1) (j := C + 2) (by omega) cl p5 hxl (by rw [crashL_len]; simp; omega) fun a' h' q' s' c' => onO.mk rfl (onO.mk (inc64 (by omega)) ⟨_, by show 3 - (j + 1) < 3 - j; omega, j + 1, _, rr, rfl, by omega, rfl, s', fun i hi => ?_, ?_, ?_, ?_⟩)
      · rw [updQ_ne (by omega), updQ_ne (by omega)]; exact u5 i hi
      · rw [updQ_ne (by omega), updQ_ne (by omega)]; exact e5
      · rw [cs.2]; exact w5
      · rw [updQ_same, cs.1]; exact c'
    have hcrash : crashF f (crashS (D.f.take j) ps) = tornF f P.1 P.2 := by unfold crashF; rw [hP]
    refine onB.dec (fun e => ?_) fun e => ?_
    · have hiP : i < P.1 := by omega
      obtain ⟨o, ho⟩ := get_lt (l := f.ops) (k := i) (by omega)
      have hot : (f.ops.take P.1)[i]? = some o := by rw [List.getElem?_take_of_lt hiP]; exact ho
      obtain ⟨bb, oo, c, g1, g2, r', rfl, rb⟩ := s4.idx (rowi s4 u4).1 (sz := 3) rfl hot
      obtain ⟨w1, w2⟩ := runs_at ok.2 ho
      refine onO.mk g1 (onO.mk g2 (onL.dop rb.sc fun _ => ?_))
      refine c57 (s4.own byte_flat p4) (rb.mono (le_rest s4.fle (s4.df _))) w1 w2 hlen4 fun a9 h5 o5 => onRet.r o5.sc (onO.mk (inc64 (by omega)) ?_)
      obtain ⟨q5, s5, p5⟩ := s4.back byte_flat o5
      refine ⟨_, by show P.1 - (i + 1) < P.1 - i; omega, i + 1, _, rfl, by omega, rfl, s5, fun i hi => by rw [updQ_ne (by omega)]; exact u4 i hi, by rw [updQ_ne (by omega)]; exact eC, by rw [updQ_ne (by omega)]; exact eC1, ?_⟩
      rw [updQ_same, take_succ_fold ho]; exact p5
    · have hiP : i = P.1 := by omega
      subst hiP
      refine onO.mk (s4.rows (rowi s4 u4).2).len (onB.dec (fun e2 => ?_) fun e2 => ?_)
      · obtain ⟨o, ho⟩ := get_lt (l := f.ops) (k := P.1) (by omega)
        obtain ⟨bb, oo, c, g1, g2, r', rfl, rb⟩ := s4.idx (rowi s4 u4).2 (sz := 3) rfl ho
        have g0 : rdH h4 bb (oo + 0) 1 = some [.b o.cut] := rdH_sub g2 rfl
        obtain ⟨w1, w2⟩ := runs_at ok.2 ho
        refine onO.mk g1 (onO.mk g0 (onL.b1 (onB.not (fun hc => ?_) fun hc => fun _ => ?_)))
        · refine onO.mk g1 (onO.mk g2 (onL.dop rb.sc fun _ => ?_))
          have hw := w2
          rw [doF_len hc w1] at hw
          refine onO.mk (rb.mono s4.fle).len (onO.mk (a := ((o.b.length + 1 : Nat) : Int)) (inc64 (by omega)) ?_)
          refine c55 s4 eC hplo row3 (by omega) (by omega) fun r5 h5 s5 row5 => onRet.i ?_
          generalize hM : nextP P.2 (o.b.length + 1) = M at *
          have hMlt : M.1 < o.b.length + 1 := by rw [← hM]; exact nextP_lt (by omega)
          obtain ⟨a13, g3, rb3⟩ := rb.sl rfl (sz := 1) (i := 0) (j := M.1) (lo := none) (hi := some ((M.1 : Nat) : Int)) (by omega) (by omega) rfl rfl
          have rb3 : Kn.byte.Row F a13 (o.b.take M.1) := by simpa using rb3
          have p5 : PK Kn.byte lo (updQ Q4 C (Hp.one p0 [r5] lo) (C + 2)) a7 ((f.ops.take P.1).foldl doF f.kept) := by rw [updQ_ne (by omega)]; exact p4
          have hl2 : (doF ((f.ops.take P.1).foldl doF f.kept) ⟨false, o.pos, o.b.take M.1⟩).length ≤ 4194304 := by
            rw [doF_len (o := ⟨false, o.pos, o.b.take M.1⟩) rfl w1]; simp only [List.length_take]; omega
          refine onO.mk g3 ?_
          rw [hc]
          refine c57 (o := ⟨false, o.pos, o.b.take M.1⟩) (s5.own byte_flat p5) (rb3.mono (le_rest s5.fle (s5.df _))) w1 hl2 hlen4 fun a15 h6 o6 => onRet.r o6.sc fun _ => ?_
          obtain ⟨q6, s6, p6⟩ := s5.back byte_flat o6
          refine done (rs := M.2) (rr := r5) s6 (fun i hi => by rw [updQ_ne (by omega), updQ_ne (by omega)]; exact u4 i hi) (by rw [updQ_ne (by omega)]; exact updQ_same) row5 (by rw [updQ_ne (by omega), updQ_ne (by omega)]; exact eC1) (by rw [updQ_same]; exact p6) ?_
          rw [hcrash]
          unfold tornF
          rw [ho]
          simp only [hc, Bool.false_eq_true, if_false, hM]
        · refine done (rs := P.2) (rr := r3) s4 u4 eC row3 eC1 p4 ?_
          rw [hcrash]
          unfold tornF
          rw [ho]
          simp only [hc, if_true]
      · intro _
        refine done (rs := P.2) (rr := r3) s4 u4 eC row3 eC1 p4 ?_
        rw [hcrash]
        unfold tornF
        rw [List.getElem?_eq_none (by omega)]
  · have hj3 : j = 3 := by omega
    subst hj3
    have hpl : h0.lo ≤ p := by rw [s1.hlo]; exact d.plo
    refine onO.mk rfl (wpE.w (s1.box d1.box) hpl (new := [.b true]) rfl (by show _ + 1 ≤ 12; omega) rfl ?_)
    have s5 := s1.put d1.box (dkC a { D with off := true })
    rw [show splice (dkC a D) (0 + 9) [.b true] = dkC a { D with off := true } from rfl]
    refine k a0 _ _ s5 (d1.put rfl fun _ h => (by cases h)) ?_ fun i h1 h2 => ?_
    · rw [updQ_ne (by omega)]
      rw [show D.f.take 3 = D.f from List.take_of_length_le (by rw [d.len]; exact Nat.le_refl _)] at cl
      exact cl
    · rw [updQ_ne (by omega)]; exact u1 i h2
end
section
variable {lo B p : Nat} {F F' g h h' : Hp} {Q Q' : Nat → Hp} {a a' : Nat → AV} {D : Dk} {Post : AV → Hp → Prop} {b r : AV} {l : List (List Nat)} {x : List Nat}
/-! ### read -/
theorem cells0 (row : kBs.Row h b l) {j : Nat} (hx : l[j]? = some x) {K : AV → Prop} (k : ∀ r, Kn.byte.Row h r x → x.length ≤ 140737488351232 → K r) : onO (idxV b (j : Int) 1) fun r0 => onO (rdH h r0.1 r0.2 1) fun l0 => onL [Kd.ref] l0 K := by
  obtain ⟨bb, oo, cc, e1, e2, r, rfl, e3, e4⟩ := row.idx (i := (j : Int)) (x := x) (Int.natCast_nonneg j) (by simpa using hx)
  refine onO.mk e1 (onO.mk e2 (onL.r1 e3.sc (k r e3 (by omega))))
def newOk (l : List (List Nat)) : Bool := (decide (l.length = 0) || decide (l.length = 3)) && l.all fun x => decide (x.length ≤ 4194304)
end
section
variable {lo B p : Nat} {F F' g h h' : Hp} {Q Q' : Nat → Hp} {a a' : Nat → AV} {D : Dk} {Post : AV → Hp → Prop} {b r : AV} {l : List (List Nat)} {x : List Nat}
def dkOf (l : List (List Nat)) : Dk := ⟨[⟨l.getD 0 [], []⟩, ⟨l.getD 1 [], []⟩, ⟨l.getD 2 [], []⟩], false, false, 0⟩
structure NewI (lo B : Nat) (F : Hp) (Q : Nat → Hp) (l : List (List Nat)) (j : Nat) (A : Nat → AV) (Q1 : Nat → Hp) (h : Hp) : Prop where
  s : Sep lo F Q1 h
  u : Upd B 10 Q Q1
  one : ∀ m, m < j → PK Kn.byte lo (Q1 (B + (3 * m + 1))) (A (3 * m)) (l.getD m []) ∧ PK Kn.byte lo (Q1 (B + (3 * m + 2))) (A (3 * m + 1)) (l.getD m []) ∧ (l.getD m []).length ≤ 4194304
  two : ∀ m, j ≤ m → m < 3 → A (3 * m) = .ns ∧ A (3 * m + 1) = .ns ∧ Q1 (B + (3 * m + 1)) = Hp.none lo ∧ Q1 (B + (3 * m + 2)) = Hp.none lo
  ops : ∀ m, m < 3 → A (3 * m + 2) = .ns ∧ Q1 (B + (3 * m + 3)) = Hp.none lo
theorem Sep.clear (s : Sep lo F Q h) (S : Nat → Prop) [DecidablePred S] : Sep lo F (fun i => if S i then Hp.none lo else Q i) h :=
  ⟨s.hlo, s.fle, s.flo, fun i => by
    show (if S i then Hp.none lo else Q i).le h
    split
    · exact none_le _ _
    · exact s.le i, fun i => by
    show (if S i then Hp.none lo else Q i).lo = lo
    split
    · rfl
    · exact s.lo i, fun i => by
    show Disj (if S i then Hp.none lo else Q i) F
    split
    · exact none_disj
    · exact s.df i, fun i j e => by
    show Disj (if S i then Hp.none lo else Q i) (if S j then Hp.none lo else Q j)
    split
    · exact none_disj
    · split
      · exact disj_none
      · exact s.dd i j e⟩
theorem NewI.start (s : Sep lo F Q h) : ∃ Q1, NewI lo B F Q l 0 (fun _ => .ns) Q1 h :=
  ⟨_, s.clear fun i => B ≤ i ∧ i < B + 10, fun j hj => if_neg (by omega), fun m hm => absurd hm (by omega), fun m _ hm => ⟨rfl, rfl, if_pos (by omega), if_pos (by omega)⟩, fun m hm => ⟨rfl, if_pos (by omega)⟩⟩
theorem NewI.step {j : Nat} {A : Nat → AV} {Q1 : Nat → Hp} {h1 h2 : Hp} {r1 r2 : AV} (n : NewI lo B F Q l j A Q1 h) (hj : j < 3) (hx : l[j]? = some x) (hxl : x.length ≤ 4194304) (o1 : Kn.byte.Own h h1 r1 x) (o2 : Kn.byte.Own h1 h2 r2 x) :
    ∃ Q2, NewI lo B F Q l (j + 1) (updA (updA A (3 * j) r1) (3 * j + 1) r2) Q2 h2 := by
  obtain ⟨q1, s1, p1⟩ := n.s.fresh (B + (3 * j + 1)) byte_flat o1
  obtain ⟨q2, s2, p2⟩ := s1.fresh (B + (3 * j + 2)) byte_flat o2
  have hg : l.getD j [] = x := by rw [List.getD_eq_getElem?_getD, hx]; rfl
  refine ⟨_, s2, (n.u.put (by omega)).put (by omega), fun m hm => ?_, fun m h1 h2 => ?_, fun m hm => ?_⟩
  · by_cases e : m = j
    · subst e
      rw [updQ_ne (by omega), updQ_same, updQ_same, updA_ne (by omega), updA_same, updA_same, hg]
      exact ⟨p1, p2, hxl⟩
    · rw [updQ_ne (by omega), updQ_ne (by omega), updQ_ne (by omega), updQ_ne (by omega), updA_ne (by omega), updA_ne (by omega), updA_ne (by omega), updA_ne (by omega)]
      exact n.one m (by omega)
  · rw [updQ_ne (by omega), updQ_ne (by omega), updQ_ne (by omega), updQ_ne (by omega), updA_ne (by omega), updA_ne (by omega), updA_ne (by omega), updA_ne (by omega)]
    exact n.two m (by omega) h2
  · rw [updQ_ne (by omega), updQ_ne (by omega), updA_ne (by omega), updA_ne (by omega)]
    exact n.ops m hm
theorem dkOf_get {n : Nat} {f : DFile} (h : (dkOf l).f[n]? = some f) : n < 3 ∧ f = ⟨l.getD n [], []⟩ := by
  unfold dkOf at h
  match n, h with
  | 0, h => exact ⟨by omega, by simpa using h.symm⟩
  | 1, h => exact ⟨by omega, by simpa using h.symm⟩
  | 2, h => exact ⟨by omega, by simpa using h.symm⟩
  | n + 3, h => simp at h
theorem NewI.done {j : Nat} {A : Nat → AV} {Q1 : Nat → Hp} (n : NewI lo B F Q l j A Q1 h) (hj : ∀ m, j ≤ m → m < 3 → l.getD m [] = []) {p : Nat} (hp : h.g p = none) (hlo : h.lo ≤ p) :
    ∃ Q2, Sep lo F Q2 (h.put p (dkC A (dkOf l))) ∧ DkA lo F Q2 B p A (dkOf l) ∧ Upd B 10 Q Q2 := by
  have row : ∀ m, m < 3 → PK Kn.byte lo (Q1 (B + (3 * m + 1))) (A (3 * m)) (l.getD m []) ∧ PK Kn.byte lo (Q1 (B + (3 * m + 2))) (A (3 * m + 1)) (l.getD m []) ∧ (l.getD m []).length ≤ 4194304 := fun m hm => by
    by_cases e : m < j
    · exact n.one m e
    · obtain ⟨e1, e2, e3, e4⟩ := n.two m (by omega) hm
      rw [e1, e2, e3, e4, hj m (by omega) hm]
      exact ⟨PK.nil _ _, PK.nil _ _, by simp⟩
  refine ⟨_, n.s.alloc B hp (dkC A (dkOf l)), ⟨updQ_same, by rw [← n.s.hlo]; exact hlo, rfl, fun m f hf => ?_, fun m f hf => ?_, fun m f hf => ?_, fun m f hf => ?_, fun e _ => by cases e⟩, n.u.put0 (by omega)⟩
  · obtain ⟨h1, rfl⟩ := dkOf_get hf
    exact ⟨(row m h1).2.2, trivial⟩
  · obtain ⟨h1, rfl⟩ := dkOf_get hf
    rw [updQ_ne (by omega)]; exact (row m h1).1
  · obtain ⟨h1, rfl⟩ := dkOf_get hf
    rw [updQ_ne (by omega)]; exact (row m h1).2.1
  · obtain ⟨h1, rfl⟩ := dkOf_get hf
    rw [updQ_ne (by omega), (n.ops m h1).1, (n.ops m h1).2]; exact RowP.nil
theorem c24 {V : Hp} (s : Sep lo F Q h) (hv : Vw lo B F Q V) (ra : kBs.Row V b l) (hn : l.length < 31000000)
    (k1 : newOk l = false → ∀ Q' h', Sep lo F Q' h' → Upd B 10 Q Q' → Post (.tup [.np, .i .i64 1]) h')
    (k2 : newOk l = true → ∀ p a Q' h', Sep lo F Q' h' → DkA lo F Q' B p a (dkOf l) → Upd B 10 Q Q' → Post (.tup [.p p 0, .i .i64 0]) h') : wpC Try.prog 24 [b] Post h := by
  refine call_sound (args := [.vv b]) (cuts := []) ⟨ra.sc, trivial⟩ ?_
  rw [vc24]
  intro p0
  have ra0 : kBs.Row h b l := ra.mono (hv F Q h (Hp.le_refl _) s Upd.refl)
  obtain ⟨Q0, n0⟩ := NewI.start (B := B) (l := l) s
  refine onO.mk ra0.len (onB.ndec (fun e => ?_) (fun e => ?_))
  · refine onO.mk ra0.len (onB.ndec (fun e2 => ?_) (fun e2 => onO.mk ra0.len ?_))
    · refine k1 ?_ Q h s Upd.refl
      unfold newOk
      rw [decide_eq_false (by omega), decide_eq_false (by omega)]; rfl
    have e2 : l.length = 3 := by omega
    refine ⟨fun m r n0 n1 x1 x2 x3 x4 x5 x6 x7 x8 x9 lc0 lc1 n2 h' => ∃ (j : Nat) (A : Nat → AV) (Q1 : Nat → Hp), n1 = j ∧ j ≤ 3 ∧ m = 3 - j ∧ x1 = A 0 ∧ x2 = A 1 ∧ x3 = A 2 ∧ x4 = A 3 ∧ x5 = A 4 ∧ x6 = A 5 ∧ x7 = A 6 ∧ x8 = A 7 ∧ x9 = A 8 ∧ lc0 = false ∧ lc1 = false ∧ n2 = 0 ∧ NewI lo B F Q l j A Q1 h',
      ⟨3, 0, _, Q0, rfl, by omega, rfl, rfl, rfl, rfl, rfl, rfl, rfl, rfl, rfl, rfl, rfl, rfl, rfl, n0⟩, ?_⟩
    rintro m h1 a0 _ z0 z1 a1 _ a2 _ a3 _ a4 _ a5 _ a6 _ a7 _ a8 _ a9 _ lc0 lc1 z2 ⟨j, A, Q1, rfl, hj, rfl, rfl, rfl, rfl, rfl, rfl, rfl, rfl, rfl, rfl, rfl, rfl, rfl, ni⟩
    have ra1 : kBs.Row h1 b l := ra.mono (hv F Q1 h1 (Hp.le_refl _) ni.s ni.u)
    refine onB.dec (fun e => ?_) (fun e => fun hp hlo => ?_)
    · have hj3 : j < 3 := by omega
      obtain ⟨x, hx⟩ := get_lt (l := l) (k := j) (by omega)
      refine cells0 ra1 hx fun r w1 _ => onO.mk w1.len (onB.dec (fun e3 => ?_) fun e3 => ?_)
      · refine k1 ?_ Q1 h1 ni.s ni.u
        unfold newOk
        rw [Bool.and_eq_false_iff]
        right
        rw [List.all_eq_false]
        exact ⟨x, List.mem_of_getElem? hx, by simp; omega⟩
      · refine c43 w1 (by omega) fun r1 h2 o1 => onRet.r o1.sc (c43 (w1.mono o1.le) (by omega) fun r2 h3 o2 => onRet.r o2.sc (onO.mk (natLt_nat hj3) ?_))
        obtain ⟨Q2, ni2⟩ := ni.step hj3 hx (by omega) o1 o2
        have fin : ∀ (A' : Nat → AV), A' = updA (updA A (3 * j) r1) (3 * j + 1) r2 → onO (intO BinOp.add IntKind.i64 (j : Int) 1) fun n3 => ∃ p9, ltN p9 (3 - j) ∧ ∃ (j : Nat) (B' : Nat → AV) (Q1 : Nat → Hp), n3 = j ∧ j ≤ 3 ∧ p9 = 3 - j ∧ A' 0 = B' 0 ∧ A' 1 = B' 1 ∧ A' 2 = B' 2 ∧ A' 3 = B' 3 ∧ A' 4 = B' 4 ∧ A' 5 = B' 5 ∧ A' 6 = B' 6 ∧ A' 7 = B' 7 ∧ A' 8 = B' 8 ∧ false = false ∧ false = false ∧ (0 : Int) = 0 ∧ NewI lo B F Q l j B' Q1 h3 := fun A' e =>
          onO.mk (inc64 (by omega)) ⟨_, by show 3 - (j + 1) < 3 - j; omega, j + 1, A', Q2, rfl, by omega, rfl, rfl, rfl, rfl, rfl, rfl, rfl, rfl, rfl, rfl, rfl, rfl, rfl, by rw [e]; exact ni2⟩
        refine ⟨⟨⟨trivial, fun e0 => ?_⟩, fun e0 => ?_⟩, fun e0 => ?_⟩
        · subst e0
          exact onO.mk (natLt_nat hj3) ⟨⟨⟨trivial, fun _ => fin _ rfl⟩, fun e => absurd e (by omega)⟩, fun e => absurd e (by omega)⟩
        · subst e0
          exact onO.mk (natLt_nat hj3) ⟨⟨⟨trivial, fun e => absurd e (by omega)⟩, fun _ => fin _ rfl⟩, fun e => absurd e (by omega)⟩
        · subst e0
          exact onO.mk (natLt_nat hj3) ⟨⟨⟨trivial, fun e => absurd e (by omega)⟩, fun e => absurd e (by omega)⟩, fun _ => fin _ rfl⟩
    · have hj3 : j = 3 := by omega
      subst hj3
      obtain ⟨Q2, s2, d2, u2⟩ := ni.done (fun m h1 h2 => absurd h1 (by omega)) hp hlo
      refine k2 ?_ _ A Q2 _ s2 d2 u2
      unfold newOk
      rw [decide_eq_true e2, Bool.or_true, Bool.true_and, List.all_eq_true]
      intro x hx
      obtain ⟨m, hm⟩ := List.getElem?_of_mem hx
      have hm3 : m < 3 := by rw [← e2]; exact (List.getElem?_eq_some_iff.1 hm).1
      have := (ni.one m hm3).2.2
      rw [List.getD_eq_getElem?_getD, hm] at this
      exact decide_eq_true this
  · have e : l = [] := List.length_eq_zero_iff.1 (by omega)
    subst e
    refine onO.mk ra0.len ?_
    refine ⟨fun m r n0 n1 x1 x2 x3 x4 x5 x6 x7 x8 x9 lc0 lc1 n2 h' => n1 = 0 ∧ x1 = .ns ∧ x2 = .ns ∧ x3 = .ns ∧ x4 = .ns ∧ x5 = .ns ∧ x6 = .ns ∧ x7 = .ns ∧ x8 = .ns ∧ x9 = .ns ∧ lc0 = false ∧ lc1 = false ∧ n2 = 0 ∧ h' = h,
      ⟨3, rfl, rfl, rfl, rfl, rfl, rfl, rfl, rfl, rfl, rfl, rfl, rfl, rfl, rfl⟩, ?_⟩
    rintro m h1 a0 _ z0 z1 a1 _ a2 _ a3 _ a4 _ a5 _ a6 _ a7 _ a8 _ a9 _ lc0 lc1 z2 ⟨rfl, rfl, rfl, rfl, rfl, rfl, rfl, rfl, rfl, rfl, rfl, rfl, rfl, rfl⟩
    refine onB.neg rfl fun hp hlo => ?_
    obtain ⟨Q2, s2, d2, u2⟩ := n0.done (fun m _ _ => by simp) hp hlo
    exact k2 rfl _ _ Q2 _ s2 d2 u2
end
def kChg : Kn DOp := ⟨3, fun h o c => ∃ a, c = [.i .i64 (if o.cut = true then 0 else (o.pos : Int)), .i .i64 (if o.cut = true then (o.pos : Int) else -1), a] ∧ Kn.byte.Row h a o.b,
  fun l ⟨a, h1, h2⟩ => ⟨a, h1, h2.mono l⟩, fun ⟨a, h1, h2⟩ => by rw [h1]; rfl, fun ⟨a, h1, h2⟩ => by rw [h1]; show (true && (true && (a.sc && true))) = true; rw [h2.sc]; rfl⟩
def rfC (a : Nat → AV) (D : Dk) : List AV := [a 0, a 1, a 2, a 3, a 4, a 5, a 6, a 7, a 8, .b D.off, .i .i64 D.left, .b D.armed]
structure RfA (lo : Nat) (F : Hp) (Q : Nat → Hp) (B p : Nat) (a : Nat → AV) (D : Dk) : Prop where
  box : Q B = Hp.one p (rfC a D) lo
  plo : lo ≤ p
  len : D.f.length = 3
  ok : ∀ (n : Nat) f, D.f[n]? = some f → f.ok
  kept : ∀ (n : Nat) f, D.f[n]? = some f → Kn.byte.Row F (a (3 * n)) f.kept
  seen : ∀ (n : Nat) f, D.f[n]? = some f → Kn.byte.Row F (a (3 * n + 1)) f.seen
  ops : ∀ (n : Nat) f, D.f[n]? = some f → RowP kChg F lo (Q (B + (n + 1))) (a (3 * n + 2)) f.ops
  left : D.armed = true → D.off = false → 1 ≤ D.left ∧ D.left < 9223372036854775808
section
variable {lo B p : Nat} {F F' g h h' : Hp} {Q Q' : Nat → Hp} {a a' : Nat → AV} {D D' : Dk} {Post : AV → Hp → Prop} {b r : AV} {l : List (List Nat)} {f f' : List Nat}
theorem RfA.get (d : RfA lo F Q B p a D) {n : Nat} (hn : n < 3) : ∃ f, D.f[n]? = some f := get_lt (by rw [d.len]; exact hn)
theorem RfA.lt (d : RfA lo F Q B p a D) {n : Nat} {f : DFile} (h : D.f[n]? = some f) : n < 3 := by rw [← d.len]; exact (List.getElem?_eq_some_iff.1 h).1
theorem RfA.fmono (d : RfA lo F Q B p a D) (l : F.le F') : RfA lo F' Q B p a D := ⟨d.box, d.plo, d.len, d.ok, fun n f e => (d.kept n f e).mono l, fun n f e => (d.seen n f e).mono l, fun n f e => (d.ops n f e).mono l, d.left⟩
theorem RfA.same (d : RfA lo F Q B p a D) (e : ∀ j, B ≤ j → j < B + 4 → Q' j = Q j) : RfA lo F Q' B p a D :=
  ⟨by rw [e B (by omega) (by omega)]; exact d.box, d.plo, d.len, d.ok, d.kept, d.seen, fun n f h => by have := d.lt h; rw [e _ (by omega) (by omega)]; exact d.ops n f h, d.left⟩
theorem RfA.put (d : RfA lo F Q B p a D) (e : D'.f = D.f) (l : D'.armed = true → D'.off = false → 1 ≤ D'.left ∧ D'.left < 9223372036854775808) : RfA lo F (updQ Q B (Hp.one p (rfC a D') lo)) B p a D' :=
  ⟨updQ_same, d.plo, by rw [e]; exact d.len, by rw [e]; exact d.ok, by rw [e]; exact d.kept, by rw [e]; exact d.seen, by rw [e]; exact fun n f h => by rw [updQ_ne (by omega)]; exact d.ops n f h, l⟩
theorem RfA.fileD (d : RfA lo F Q B p a D) {n : Nat} (hn : n < 3) : D.f[n]? = some (fileD D (n : Int)) := by
  obtain ⟨f, hf⟩ := d.get hn
  rw [fileD_get hf]; exact hf
/-- its own words changed, in steps -/
theorem RfA.chg (d : RfA lo F Q B p a D) {D' : Dk} {Q1 : Nat → Hp} (e : D'.f = D.f) (l : D'.armed = true → D'.off = false → 1 ≤ D'.left ∧ D'.left < 9223372036854775808) (e1 : Q1 B = Hp.one p (rfC a D') lo) (e2 : ∀ j, j ≠ B → Q1 j = Q j) : RfA lo F Q1 B p a D' :=
  (d.put e l).same fun j _ _ => by
    by_cases ej : j = B
    · subst ej; rw [updQ_same, e1]
    · rw [updQ_ne ej, e2 j ej]
theorem RfA.file {n : Nat} {f f' : DFile} (d : RfA lo F Q B p a D) (fl : F.le F') (hn : D.f[n]? = some f) (bx : Q' B = Hp.one p (rfC a' D) lo) (eq : ∀ j, 0 < j → j < 4 → j ≠ n + 1 → Q' (B + j) = Q (B + j))
    (ea : ∀ j, j ≠ 3 * n → j ≠ 3 * n + 1 → j ≠ 3 * n + 2 → a' j = a j) (ok : f'.ok) (k1 : Kn.byte.Row F' (a' (3 * n)) f'.kept) (k2 : Kn.byte.Row F' (a' (3 * n + 1)) f'.seen)
    (k3 : RowP kChg F' lo (Q' (B + (n + 1))) (a' (3 * n + 2)) f'.ops) : RfA lo F' Q' B p a' { D with f := D.f.set n f' } := by
  have hn3 := d.lt hn
  have d := d.fmono fl
  have key : ∀ (m : Nat) (g : DFile), (D.f.set n f')[m]? = some g → (m = n ∧ g = f') ∨ (m ≠ n ∧ D.f[m]? = some g) := fun m g e => by
    by_cases em : m = n
    · subst em
      rw [List.getElem?_set_self (by rw [d.len]; exact hn3)] at e
      injection e with e
      exact .inl ⟨rfl, e.symm⟩
    · rw [List.getElem?_set_ne (Ne.symm em)] at e
      exact .inr ⟨em, e⟩
  refine ⟨bx, d.plo, by show (D.f.set n f').length = 3; rw [List.length_set]; exact d.len, fun m g e => ?_, fun m g e => ?_, fun m g e => ?_, fun m g e => ?_, d.left⟩
  · rcases key m g e with ⟨rfl, rfl⟩ | ⟨e1, e2⟩
    · exact ok
    · exact d.ok m g e2
  · rcases key m g e with ⟨rfl, rfl⟩ | ⟨e1, e2⟩
    · exact k1
    · rw [ea _ (by omega) (by omega) (by omega)]; exact d.kept m g e2
  · rcases key m g e with ⟨rfl, rfl⟩ | ⟨e1, e2⟩
    · exact k2
    · rw [ea _ (by omega) (by omega) (by omega)]; exact d.seen m g e2
  · rcases key m g e with ⟨rfl, rfl⟩ | ⟨e1, e2⟩
    · exact k3
    · have := d.lt e2
      rw [eq _ (by omega) (by omega) (by omega), ea _ (by omega) (by omega) (by omega)]; exact d.ops m g e2
end
section
variable {lo B p : Nat} {F F' g h h' : Hp} {Q Q' : Nat → Hp} {a a' : Nat → AV} {D D' : Dk} {Post : AV → Hp → Prop} {b r : AV} {l : List (List Nat)} {f f' : List Nat}
theorem onL.chg {m n : Int} {r : AV} (hr : r.sc = true) {K : Int → Int → AV → Prop} (k : K m n r) : onL [Kd.int .i64, Kd.int .i64, Kd.ref] [.i .i64 m, .i .i64 n, r] K := onRef.mk hr k
/-! ### a new one -/
structure NewR (lo B : Nat) (F0 F : Hp) (Q : Nat → Hp) (l : List (List Nat)) (j : Nat) (A : Nat → AV) (h : Hp) : Prop where
  fle : F0.le F
  s : Sep lo F Q h
  one : ∀ m, m < j → Kn.byte.Row F (A (3 * m)) (l.getD m []) ∧ Kn.byte.Row F (A (3 * m + 1)) (l.getD m []) ∧ A (3 * m + 2) = .ns
  two : ∀ m, j ≤ m → m < 3 → A (3 * m) = .ns ∧ A (3 * m + 1) = .ns ∧ A (3 * m + 2) = .ns
theorem NewR.step {j : Nat} {A : Nat → AV} {F0 h1 h2 : Hp} {r1 r2 : AV} {x : List Nat} (n : NewR lo B F0 F Q l j A h) (hj : j < 3) (hx : l[j]? = some x) (o1 : Kn.byte.Own h h1 r1 x) (o2 : Kn.byte.Own h1 h2 r2 x) :
    NewR lo B F0 (moreH h1 h2 (moreH h h1 F)) Q l (j + 1) (updA (updA (updA A (3 * j) r1) (3 * j + 1) r2) (3 * j + 2) .ns) h2 := by
  have f1 := n.s.fgrow o1.le
  have s1 := n.s.frz o1.le o1.lo
  have f2 := s1.fgrow o2.le
  have hg : l.getD j [] = x := by rw [List.getD_eq_getElem?_getD, hx]; rfl
  refine ⟨Hp.le_trans n.fle (Hp.le_trans f1 f2), s1.frz o2.le o2.lo, fun m hm => ?_, fun m h1 h2 => ?_⟩
  · by_cases e : m = j
    · subst e
      rw [updA_ne (by omega), updA_ne (by omega), updA_same, updA_ne (by omega), updA_same, updA_same, hg]
      exact ⟨(o1.frozen byte_flat).mono f2, o2.frozen byte_flat, rfl⟩
    · rw [updA_ne (by omega), updA_ne (by omega), updA_ne (by omega), updA_ne (by omega), updA_ne (by omega), updA_ne (by omega), updA_ne (by omega), updA_ne (by omega), updA_ne (by omega)]
      obtain ⟨w1, w2, w3⟩ := n.one m (by omega)
      exact ⟨w1.mono (Hp.le_trans f1 f2), w2.mono (Hp.le_trans f1 f2), w3⟩
  · rw [updA_ne (by omega), updA_ne (by omega), updA_ne (by omega), updA_ne (by omega), updA_ne (by omega), updA_ne (by omega), updA_ne (by omega), updA_ne (by omega), updA_ne (by omega)]
    exact n.two m (by omega) h2
theorem NewR.done {j : Nat} {A : Nat → AV} {F0 : Hp} (n : NewR lo B F0 F Q l j A h) (hl : ∀ x ∈ l, x.length ≤ 4194304) (hj : ∀ m, j ≤ m → m < 3 → l.getD m [] = []) {p : Nat} (hp : h.g p = none) (hlo : h.lo ≤ p) :
    ∃ Q2, Sep lo F Q2 (h.put p (rfC A (dkOf l))) ∧ RfA lo F Q2 B p A (dkOf l) ∧ Upd B 4 Q Q2 := by
  have row : ∀ m, m < 3 → Kn.byte.Row F (A (3 * m)) (l.getD m []) ∧ Kn.byte.Row F (A (3 * m + 1)) (l.getD m []) ∧ A (3 * m + 2) = .ns := fun m hm => by
    by_cases e : m < j
    · exact n.one m e
    · obtain ⟨e1, e2, e3⟩ := n.two m (by omega) hm
      rw [e1, e2, e3, hj m (by omega) hm]
      exact ⟨ns_row, ns_row, rfl⟩
  have hlen : ∀ m, (l.getD m []).length ≤ 4194304 := fun m => by
    rw [List.getD_eq_getElem?_getD]
    cases hm : l[m]? with
    | none => simp
    | some x => exact hl x (List.mem_of_getElem? hm)
  have s1 := ((n.s.clear fun i => B ≤ i ∧ i < B + 4).alloc B hp (rfC A (dkOf l)))
  refine ⟨_, s1, ⟨updQ_same, by rw [← n.s.hlo]; exact hlo, rfl, fun m f hf => ?_, fun m f hf => ?_, fun m f hf => ?_, fun m f hf => ?_, fun e _ => by cases e⟩, fun i hi => ?_⟩
  · obtain ⟨h1, rfl⟩ := dkOf_get hf
    exact ⟨hlen m, trivial⟩
  · obtain ⟨h1, rfl⟩ := dkOf_get hf
    exact (row m h1).1
  · obtain ⟨h1, rfl⟩ := dkOf_get hf
    exact (row m h1).2.1
  · obtain ⟨h1, rfl⟩ := dkOf_get hf
    rw [(row m h1).2.2, updQ_ne (by omega), if_pos (by omega)]; exact RowP.nil
  · rw [updQ_ne (by omega), if_neg (by omega)]
end
theorem wpE.m {b : Nat} {v : AV} {Post : Option AV → Hp → Prop} {h : Hp} {c : List AV} (hb : h.g b = some c) (hlo : h.lo ≤ b) (k : Post (some v) h) : wpE (.m b v) Post h := fun H F =>
  ⟨some v, H, h, by
    show (cond (Nat.ble H.low b) ((H.get b).map fun _ => (some v, H)) none) = _
    rw [F.lo, Nat.ble_eq_true_of_le hlo, (F.get b c hb).1]; rfl, ⟨F, Nat.le_refl _, fun _ _ _ => rfl, fun _ e => .inl e, rfl⟩, k⟩
section
variable {lo B p : Nat} {F F' g h h' : Hp} {Q Q' : Nat → Hp} {a a' : Nat → AV} {D D' : Dk} {Post : AV → Hp → Prop} {b r : AV} {l : List (List Nat)} {f f' : List Nat}
/-- all of it frozen -/
theorem Sep.start (h : Hp) : Sep h.lo h (fun _ => Hp.none h.lo) h := ⟨rfl, Hp.le_refl _, rfl, fun _ => none_le _ _, fun _ => rfl, fun _ => none_disj, fun _ _ _ => none_disj⟩
theorem ns_rows : kBs.Row h .ns [] := ⟨[], ⟨fun _ h => (by cases h), rfl⟩, .nil⟩
theorem ns_ints : Kn.int.Row h .ns [] := ⟨[], ⟨fun _ h => (by cases h), rfl⟩, .nil⟩
theorem few0 {N : Nat} : Few (dkOf l) N := by
  unfold Few dkOf
  intro f hf
  simp at hf
  rcases hf with rfl | rfl | rfl <;> simp
theorem few_put {N : Nat} {n : Nat} {f : DFile} (w : Few D N) (hf : f.ops.length ≤ N) : Few { D with f := D.f.set n f } N := fun g hg => by
  rcases List.mem_or_eq_of_mem_set hg with h | h
  · exact w g h
  · rw [h]; exact hf
theorem fileD_few {N : Nat} {n : Int} (w : Few D N) : (fileD D n).ops.length ≤ N := by
  unfold fileD
  cases e : D.f[n.toNat]? with
  | none => simp
  | some f => exact w f (List.mem_of_getElem? e)
theorem Few.mono {N M : Nat} (w : Few D N) (h : N ≤ M) : Few D M := fun f hf => Nat.le_trans (w f hf) h
theorem putD_few {N : Nat} {n : Int} {o : DOp} (w : Few D N) : Few (putD D n o) (N + 1) :=
  few_put (w.mono (by omega)) (by have := fileD_few (n := n) w; simp; omega)
theorem writeR_few {N : Nat} {n x : Int} {y : List Nat} (w : Few D N) : Few (writeR D n x y).2 (N + 1) := by
  unfold writeR
  split
  · split
    · exact (callD_few w).mono (by omega)
    · exact putD_few (callD_few w)
  · exact (callD_few w).mono (by omega)
theorem cutR_few {N : Nat} {n x : Int} (w : Few D N) : Few (cutR D n x).2 (N + 1) := by
  unfold cutR
  split
  · split
    · exact (callD_few w).mono (by omega)
    · exact putD_few (callD_few w)
  · exact (callD_few w).mono (by omega)
theorem syncR_few {N : Nat} {n : Int} (w : Few D N) : Few (syncR D n).2 N := by
  unfold syncR
  split
  · have := few_put (n := n.toNat) (f := ⟨(fileD D n).seen, []⟩) (callD_few w) (by simp)
    rw [callD_f] at this; exact this
  · exact callD_few w
end
section
variable {h : Hp} {Post : AV → Hp → Prop} {b : AV} {l : List (List Nat)}
theorem inc64b {k : Nat} (h : k < 4611686018427387904) : intO .add .i64 (k : Int) 1 = some ((k + 1 : Nat) : Int) := add64 (by omega) (by omega)
end
section
variable {lo : Nat} {F0 F h : Hp} {Q : Nat → Hp} {x y : AV} {E : Dk} {N : Nat} {Post : AV → Hp → Prop}
theorem newOk_crash {ps : List Int} (len : E.f.length = 3) (ok : ∀ (n : Nat) f, E.f[n]? = some f → f.ok) : newOk (crashL E.f ps) = true := by
  unfold newOk
  rw [crashL_len, len]
  show (true && _) = true
  rw [Bool.true_and, List.all_eq_true]
  have : ∀ (fs : List DFile) (ps : List Int), (∀ f ∈ fs, f.ok) → ∀ x ∈ crashL fs ps, x.length ≤ 4194304 := by
    intro fs
    induction fs with
    | nil => intro ps _ x hx; cases hx
    | cons f fs ih =>
      intro ps hf x hx
      rcases List.mem_cons.1 hx with rfl | hx
      · exact crashF_len (hf f (by simp))
      · exact ih _ (fun g hg => hf g (by simp [hg])) x hx
  intro x hx
  refine decide_eq_true (this E.f ps (fun f hf => ?_) x hx)
  obtain ⟨n, hn⟩ := List.getElem?_of_mem hf
  exact ok n f hn
theorem fileD_len {n : Int} (ok : ∀ (n : Nat) f, E.f[n]? = some f → f.ok) : (fileD E n).seen.length ≤ 4194304 := by
  unfold fileD
  cases e : E.f[n.toNat]? with
  | none => show ([] : List Nat).length ≤ _; simp
  | some f => exact (ok _ f e).seen
theorem onL.act {m n i k : Int} {r1 r2 : AV} (h1 : r1.sc = true) (h2 : r2.sc = true) {K : Int → Int → Int → Int → AV → AV → Prop} (q : K m n i k r1 r2) : onL [Kd.int .i64, Kd.int .i64, Kd.int .i64, Kd.int .i64, Kd.ref, Kd.ref] [.i .i64 m, .i .i64 n, .i .i64 i, .i .i64 k, r1, r2] K :=
  onRef.mk (K := fun x => onL [Kd.ref] [r2] (K m n i k x)) h1 (onRef.mk (K := K m n i k r1) h2 q)
end
/- arras/log.Open -/
theorem vc26 (a : AV) (h : Hp) (Post : AV → Hp → Prop) : vcCall Try.prog [] 26 [(SV.vv a)] h Post = (
  onO (nilP a) fun lc0 =>
  onB lc0 (Post (AV.tup [AV.np, AV.i IntKind.i64 1]) h)
    (∀ (p0 : Nat),
      h.g p0 = none →
        h.lo.le p0 →
          wpC Try.prog 44 [AV.p p0 0]
            (fun a0 h0 => onRet [Sh.one (Kd.int IntKind.i64)] a0 fun n0 => onB (!decide (n0 = 0)) (Post (AV.tup [AV.np, AV.i IntKind.i64 n0]) h0) (Post (AV.tup [AV.p p0 0, AV.i IntKind.i64 0]) h0))
            (h.put p0 [a, AV.ns, AV.i IntKind.i64 0, AV.i IntKind.i64 0, AV.i IntKind.i64 0, AV.b false]))) := by kernel_rfl
/- arras/arraslaw13.Disk -/
theorem vc15  (h : Hp) (Post : AV → Hp → Prop) : vcCall Try.prog [] 15 [] h Post = (
  wpC Try.prog 24 [AV.ns]
  (fun a0 h0 =>
    onTup [Sh.one Kd.ref, Sh.one (Kd.int IntKind.i64)] a0 fun a1 n0 =>
      wpC Try.prog 25 [AV.i IntKind.i64 n0] (fun a2 h1 => onRet [Sh.one (Kd.int IntKind.i64)] a2 fun n1 => onB (!decide (n1 = 0)) (Post AV.np h1) (Post a1 h1)) h0)
  h) := by kernel_rfl
/- arras/arraslaw13.num -/
theorem vc25 (a : Int) (h : Hp) (Post : AV → Hp → Prop) : vcCall Try.prog [] 25 [(SV.ii .i64 a)] h Post = (
  Post (AV.i IntKind.i64 a) h) := by kernel_rfl
/- (*arras/log.Log).Append -/
theorem vc60 (a : AV) (b : List Nat) (h : Hp) (Post : AV → Hp → Prop) : vcCall Try.prog [] 60 [(SV.vv a), (SV.ss b)] h Post = (
  onO (ptrV a) fun r0 =>
  onO (rdH h r0.fst (r0.snd + 5) 1) fun l0 =>
    onL [Kd.bool] l0 fun lc0 =>
      onB lc0 (Post (AV.i IntKind.i64 10) h)
        (onB (decide ((4096 : Int) < ↑b.length)) (Post (AV.i IntKind.i64 1) h)
          (onO (intO BinOp.add IntKind.i64 (↑b.length) 16) fun n0 =>
            onO (ptrV a) fun r1 =>
              onO (rdH h r1.fst (r1.snd + 2) 1) fun l1 =>
                onL [Kd.int IntKind.i64] l1 fun n1 =>
                  onO (intO BinOp.sub IntKind.i64 2097152 n1) fun n2 =>
                    onB (decide (n2 < n0)) (Post (AV.i IntKind.i64 5) h)
                      (∀ (p0 : Nat),
                        h.g p0 = none →
                          h.lo.le p0 →
                            wpC Try.prog 71 [AV.sl p0 0 1 1 true 1]
                              (fun a0 h0 =>
                                onRet [Sh.one Kd.ref] a0 fun a1 =>
                                  onO (ptrV a) fun r2 =>
                                    onO (rdH h0 r2.fst (r2.snd + 0) 1) fun l2 =>
                                      onL [Kd.ref] l2 fun a2 =>
                                        onO (ptrV a) fun r3 =>
                                          onO (rdH h0 r3.fst (r3.snd + 3) 1) fun l3 =>
                                            onL [Kd.int IntKind.i64] l3 fun n3 =>
                                              onO (ptrV a) fun r4 =>
                                                onO (rdH h0 r4.fst (r4.snd + 4) 1) fun l4 =>
                                                  onL [Kd.int IntKind.i64] l4 fun n4 =>
                                                    wpC Try.prog 73 [a2, AV.i IntKind.i64 n3, AV.i IntKind.i64 n4, a1]
                                                      (fun a3 h1 =>
                                                        onRet [Sh.one (Kd.int IntKind.i64)] a3 fun n5 =>
                                                          wpC Try.prog 72 [a, AV.i IntKind.i64 n5]
                                                            (fun a4 h2 =>
                                                              onRet [Sh.one (Kd.int IntKind.i64)] a4 fun n6 =>
                                                                onB (!decide (n6 = 0)) (Post (AV.i IntKind.i64 n6) h2)
                                                                  (onO (ptrV a) fun r5 =>
                                                                    onO (rdH h2 r5.fst (r5.snd + 1) 1) fun l5 =>
                                                                      onL [Kd.ref] l5 fun a5 =>
                                                                        ∀ (p1 : Nat),
                                                                          wpE (Eff.app a5 1 (Src.lit [AV.s b]) 1)
                                                                            (fun x0 h3 =>
                                                                              onO x0 fun a6 =>
                                                                                onO (ptrV a) fun r6 =>
                                                                                  onO (rdH h3 r6.fst (r6.snd + 2) 1) fun l6 =>
                                                                                    onL [Kd.int IntKind.i64] l6 fun n7 =>
                                                                                      sameH h2 h3 r6.fst (r6.snd + 2) 1 ∧
                                                                                        onO (intO BinOp.add IntKind.i64 n7 ↑b.length) fun n8 =>
                                                                                          onO (intO BinOp.add IntKind.i64 n8 16) fun n9 =>
                                                                                            onO (ptrV a) fun r7 =>
                                                                                              onO (rdH h3 r7.fst (r7.snd + 4) 1) fun l7 =>
                                                                                                onL [Kd.int IntKind.i64] l7 fun n10 =>
                                                                                                  sameH h2 h3 r7.fst (r7.snd + 4) 1 ∧
                                                                                                    onO (lenV a1) fun p2 =>
                                                                                                      onO (intO BinOp.add IntKind.i64 n10 ↑p2) fun n11 =>
                                                                                                        onO (ptrV a) fun r8 =>
                                                                                                          wpE (Eff.w r8.fst (r8.snd + 1) (Src.lit [a6]) none)
                                                                                                            (fun x1 h4 =>
                                                                                                              onO (ptrV a) fun r9 =>
                                                                                                                wpE (Eff.w r9.fst (r9.snd + 2) (Src.lit [AV.i IntKind.i64 n9]) none)
                                                                                                                  (fun x2 h5 =>
                                                                                                                    onO (ptrV a) fun r10 =>
                                                                                                                      wpE (Eff.w r10.fst (r10.snd + 4) (Src.lit [AV.i IntKind.i64 n11]) none)
                                                                                                                        (fun x3 h6 => Post (AV.i IntKind.i64 0) h6) h5)
                                                                                                                  h4)
                                                                                                            h3)
                                                                            h2))
                                                            h1)
                                                      h0)
                              (h.put p0 [AV.s b]))))) := by kernel_rfl
/- (*arras/log.Log).All -/
theorem vc27 (a : AV) (h : Hp) (Post : AV → Hp → Prop) : vcCall Try.prog [] 27 [(SV.vv a)] h Post = (
  onO (ptrV a) fun r0 => onO (rdH h r0.fst (r0.snd + 1) 1) fun l0 => onL [Kd.ref] l0 fun a0 => wpC Try.prog 45 [a0] (fun a1 h0 => onRet [Sh.one Kd.ref] a1 fun a2 => Post a2 h0) h) := by kernel_rfl
/- arras/arraslaw13.Again -/
theorem vc17 (a : AV) (b : AV) (h : Hp) (Post : AV → Hp → Prop) : vcCall Try.prog [] 17 [(SV.vv a), (SV.vv b)] h Post = (
  wpC Try.prog 38 [a, b]
  (fun a0 h0 =>
    onRet [Sh.one Kd.ref] a0 fun a1 =>
      wpC Try.prog 24 [a1]
        (fun a2 h1 =>
          onTup [Sh.one Kd.ref, Sh.one (Kd.int IntKind.i64)] a2 fun a3 n0 =>
            wpC Try.prog 25 [AV.i IntKind.i64 n0] (fun a4 h2 => onRet [Sh.one (Kd.int IntKind.i64)] a4 fun n1 => onB (!decide (n1 = 0)) (Post AV.np h2) (Post a3 h2)) h1)
        h0)
  h) := by kernel_rfl
/- (*arras/log.Log).Sync -/
theorem vc61 (a : AV) (h : Hp) (Post : AV → Hp → Prop) : vcCall Try.prog [] 61 [(SV.vv a)] h Post = (
  onO (ptrV a) fun r0 =>
  onO (rdH h r0.fst (r0.snd + 5) 1) fun l0 =>
    onL [Kd.bool] l0 fun lc0 =>
      onB lc0 (Post (AV.i IntKind.i64 10) h)
        (onO (ptrV a) fun r1 =>
          onO (rdH h r1.fst (r1.snd + 0) 1) fun l1 =>
            onL [Kd.ref] l1 fun a0 =>
              onO (ptrV a) fun r2 =>
                onO (rdH h r2.fst (r2.snd + 3) 1) fun l2 =>
                  onL [Kd.int IntKind.i64] l2 fun n0 =>
                    wpC Try.prog 66 [a0, AV.i IntKind.i64 n0]
                      (fun a1 h0 =>
                        onRet [Sh.one (Kd.int IntKind.i64)] a1 fun n1 =>
                          wpC Try.prog 72 [a, AV.i IntKind.i64 n1] (fun a2 h1 => onRet [Sh.one (Kd.int IntKind.i64)] a2 fun n2 => Post (AV.i IntKind.i64 n2) h1) h0)
                      h)) := by kernel_rfl
/- arras/store.Open -/
theorem vc9 (a : AV) (h : Hp) (Post : AV → Hp → Prop) : vcCall Try.prog [0] 9 [(SV.vv a)] h Post = (
  wpC Try.prog 26 [a]
  (fun a0 h0 =>
    onTup [Sh.one Kd.ref, Sh.one (Kd.int IntKind.i64)] a0 fun a1 n0 =>
      onB (!decide (n0 = 0)) (Post (AV.tup [AV.np, AV.i IntKind.i64 n0]) h0)
        (∀ (p0 : Nat),
          wpC Try.prog 27 [a1]
            (fun a2 h1 =>
              onRet [Sh.one Kd.ref] a2 fun a3 =>
                h1.g p0 = none →
                  h1.lo.le p0 →
                    ∃ I0 : Nat → AV → AV → Int → Hp → Prop,
                      (∃ p1, I0 p1 a3 AV.np 0 (h1.put p0 [a1, AV.ns, AV.i IntKind.i64 0, AV.b false])) ∧
                        ∀ (p2 : Nat) (h2 : Hp) (a4 : AV),
                          a4.sc = true →
                            ∀ (a5 : AV),
                              a5.sc = true →
                                ∀ (n1 : Int),
                                  I0 p2 a4 a5 n1 h2 →
                                    Dup
                                      (onO (lenV a4) fun p3 =>
                                        onB (decide ((↑p3 : Int) = 0)) (Post (AV.tup [AV.p p0 0, AV.i IntKind.i64 0]) h2)
                                          (onO (idxV a4 0 1) fun r0 =>
                                            onO (rdH h2 r0.fst r0.snd 1) fun l0 =>
                                              onL [Kd.str] l0 fun l1 =>
                                                wpC Try.prog 28 [AV.p p0 0, AV.s l1]
                                                  (fun a6 h3 =>
                                                    onRet [Sh.one Kd.bool] a6 fun lc0 =>
                                                      onB lc0 (onO (slV a4 (some 1) none none 1) fun a7 => ∃ p4, ltN p4 p2 ∧ I0 p4 a7 a5 n1 h3) (Post (AV.tup [AV.np, AV.i IntKind.i64 1]) h3))
                                                  h2)))
            h0))
  h) := by kernel_rfl
/- arras/arraslaw24.num -/
theorem vc10 (a : Int) (h : Hp) (Post : AV → Hp → Prop) : vcCall Try.prog [] 10 [(SV.ii .i64 a)] h Post = (
  Post (AV.i IntKind.i64 a) h) := by kernel_rfl
/- (*arras/store.Store).Ops -/
theorem vc11 (a : AV) (h : Hp) (Post : AV → Hp → Prop) : vcCall Try.prog [] 11 [(SV.vv a)] h Post = (
  onO (ptrV a) fun r0 => onO (rdH h r0.fst (r0.snd + 1) 1) fun l0 => onL [Kd.ref] l0 fun a0 => wpC Try.prog 29 [a0] (fun a1 h0 => onRet [Sh.one Kd.ref] a1 fun a2 => Post a2 h0) h) := by kernel_rfl
/- arras/arraslaw24.wakes -/
theorem vc13  (h : Hp) (Post : AV → Hp → Prop) : vcCall Try.prog [] 13 [] h Post = (
  wpC Try.prog 15 []
  (fun a0 h0 =>
    onRet [Sh.one Kd.ref] a0 fun a1 =>
      wpC Try.prog 9 [a1]
        (fun a2 h1 =>
          onTup [Sh.one Kd.ref, Sh.one (Kd.int IntKind.i64)] a2 fun a3 n0 =>
            wpC Try.prog 10 [AV.i IntKind.i64 n0]
              (fun a4 h2 =>
                onRet [Sh.one (Kd.int IntKind.i64)] a4 fun n1 =>
                  onB (!decide (n1 = 0)) (Post (AV.b false) h2)
                    (onO (nilP a3) fun lc0 =>
                      onB lc0 (Post (AV.b false) h2)
                        (wpC Try.prog 36 []
                          (fun a5 h3 =>
                            onRet
                              [Sh.agg
                                  [Kd.int IntKind.i64, Kd.int IntKind.i64, Kd.int IntKind.i64, Kd.ref, Kd.int IntKind.i64, Kd.int IntKind.i64, Kd.int IntKind.i64, Kd.int IntKind.i64,
                                    Kd.int IntKind.i64, Kd.str, Kd.int IntKind.i64, Kd.int IntKind.i64]]
                              a5 fun n2 n3 n4 a6 n5 n6 n7 n8 n9 l0 n10 n11 =>
                              ∀ (p0 : Nat),
                                h3.g p0 = none →
                                  h3.lo.le p0 →
                                    wpC Try.prog 20 [a3, AV.sl p0 0 1 1 true 12]
                                      (fun a7 h4 =>
                                        onRet [Sh.one (Kd.int IntKind.i64)] a7 fun n12 =>
                                          wpC Try.prog 10 [AV.i IntKind.i64 n12]
                                            (fun a8 h5 =>
                                              onRet [Sh.one (Kd.int IntKind.i64)] a8 fun n13 =>
                                                onB (decide (n13 = 0))
                                                  (wpC Try.prog 11 [a3]
                                                    (fun a9 h6 =>
                                                      onRet [Sh.one Kd.ref] a9 fun a10 =>
                                                        wpC Try.prog 36 []
                                                          (fun a11 h7 =>
                                                            onRet
                                                              [Sh.agg
                                                                  [Kd.int IntKind.i64, Kd.int IntKind.i64, Kd.int IntKind.i64, Kd.ref, Kd.int IntKind.i64, Kd.int IntKind.i64, Kd.int IntKind.i64,
                                                                    Kd.int IntKind.i64, Kd.int IntKind.i64, Kd.str, Kd.int IntKind.i64, Kd.int IntKind.i64]]
                                                              a11 fun n14 n15 n16 a12 n17 n18 n19 n20 n21 l1 n22 n23 =>
                                                              ∀ (p1 : Nat),
                                                                h7.g p1 = none →
                                                                  h7.lo.le p1 →
                                                                    wpC Try.prog 21 [a10, AV.sl p1 0 1 1 true 12] (fun a13 h8 => onRet [Sh.one Kd.bool] a13 fun lc1 => Post (AV.b lc1) h8)
                                                                      (h7.put p1
                                                                        [AV.i IntKind.i64 n14, AV.i IntKind.i64 n15, AV.i IntKind.i64 n16, a12, AV.i IntKind.i64 n17, AV.i IntKind.i64 n18,
                                                                          AV.i IntKind.i64 n19, AV.i IntKind.i64 n20, AV.i IntKind.i64 n21, AV.s l1, AV.i IntKind.i64 n22, AV.i IntKind.i64 n23]))
                                                          h6)
                                                    h5)
                                                  (Post (AV.b false) h5))
                                            h4)
                                      (h3.put p0
                                        [AV.i IntKind.i64 n2, AV.i IntKind.i64 n3, AV.i IntKind.i64 n4, a6, AV.i IntKind.i64 n5, AV.i IntKind.i64 n6, AV.i IntKind.i64 n7, AV.i IntKind.i64 n8,
                                          AV.i IntKind.i64 n9, AV.s l0, AV.i IntKind.i64 n10, AV.i IntKind.i64 n11]))
                          h2)))
              h1)
        h0)
  h) := by kernel_rfl
/- arras/arraslaw24.heavy -/
theorem vc14 (a0 : AV) (a1 : AV) (h : Hp) (Post : AV → Hp → Prop) : vcCall Try.prog [] 14 [(SV.ag [(SV.vv a0), (SV.vv a1)])] h Post = (
  ∀ (p0 : Nat),
  onO (lenV a1) fun p1 =>
    ∃ I0 : Nat → Int → Int → Hp → Prop,
      (∃ p2, I0 p2 (↑p1) 0 h) ∧
        ∀ (p3 : Nat) (h0 : Hp) (n0 n1 : Int),
          I0 p3 n0 n1 h0 →
            onO (lenV a0) fun p4 =>
              onB (decide (n1 < ↑p4))
                (onB (decide (n0 < 1048576))
                  (onO (intO BinOp.add IntKind.i64 n0 1) fun n2 =>
                    onO (idxV a0 n1 3) fun r0 =>
                      onO (rdH h0 r0.fst (r0.snd + 2) 1) fun l0 =>
                        onL [Kd.ref] l0 fun a0_1 =>
                          onO (lenV a0_1) fun p5 =>
                            onO (intO BinOp.add IntKind.i64 n2 ↑p5) fun n3 =>
                              onO (idxV a0 n1 3) fun r1 =>
                                onO (rdH h0 r1.fst (r1.snd + 1) 1) fun l1 =>
                                  onL [Kd.ref] l1 fun a1 =>
                                    wpC Try.prog 37 [a1]
                                      (fun a2 h1 =>
                                        onRet [Sh.one (Kd.int IntKind.i64)] a2 fun n4 =>
                                          sameH h0 h1 r0.fst (r0.snd + 2) 1 ∧
                                            onO (intO BinOp.add IntKind.i64 n3 n4) fun n5 => onO (intO BinOp.add IntKind.i64 n1 1) fun n6 => ∃ p6, ltN p6 p3 ∧ I0 p6 n5 n6 h1)
                                      h0)
                  (onB (decide (6000 < n0)) (Post (AV.b true) h0) (onO (lenV a0) fun p7 => Post (AV.b (decide ((60 : Int) < ↑p7))) h0)))
                (onB (decide (6000 < n0)) (Post (AV.b true) h0) (onO (lenV a0) fun p8 => Post (AV.b (decide ((60 : Int) < ↑p8))) h0))) := by kernel_rfl
/- arras/arraslaw24.good -/
theorem vc18 (a : AV) (h : Hp) (Post : AV → Hp → Prop) : vcCall Try.prog [] 18 [(SV.vv a)] h Post = (
  ∃ I0 : Nat → AV → Int → Hp → Prop,
  (∃ p0, I0 p0 AV.ns 0 h) ∧
    ∀ (p1 : Nat) (h0 : Hp) (a0 : AV),
      a0.sc = true →
        ∀ (n0 : Int),
          I0 p1 a0 n0 h0 →
            onO (lenV a) fun p2 =>
              onB (decide (n0 < ↑p2))
                (onB (decide (n0 < 6))
                  (onO (idxV a n0 12) fun r0 =>
                    onO (rdH h0 r0.fst r0.snd 12) fun l0 =>
                      onL
                        [Kd.int IntKind.i64, Kd.int IntKind.i64, Kd.int IntKind.i64, Kd.ref, Kd.int IntKind.i64, Kd.int IntKind.i64, Kd.int IntKind.i64, Kd.int IntKind.i64, Kd.int IntKind.i64, Kd.str,
                          Kd.int IntKind.i64, Kd.int IntKind.i64]
                        l0 fun n1 n2 n3 a1 n4 n5 n6 n7 n8 l1 n9 n10 =>
                        wpC Try.prog 12
                          [AV.agg
                              [AV.i IntKind.i64 n1, AV.i IntKind.i64 n2, AV.i IntKind.i64 n3, a1, AV.i IntKind.i64 n4, AV.i IntKind.i64 n5, AV.i IntKind.i64 n6, AV.i IntKind.i64 n7,
                                AV.i IntKind.i64 n8, AV.s l1, AV.i IntKind.i64 n9, AV.i IntKind.i64 n10]]
                          (fun a2 h1 =>
                            onRet [Sh.one Kd.bool] a2 fun lc0 =>
                              onB lc0
                                (onO (idxV a n0 12) fun r1 =>
                                  onO (rdH h1 r1.fst r1.snd 12) fun l2 =>
                                    onL
                                      [Kd.int IntKind.i64, Kd.int IntKind.i64, Kd.int IntKind.i64, Kd.ref, Kd.int IntKind.i64, Kd.int IntKind.i64, Kd.int IntKind.i64, Kd.int IntKind.i64,
                                        Kd.int IntKind.i64, Kd.str, Kd.int IntKind.i64, Kd.int IntKind.i64]
                                      l2 fun n11 n12 n13 a3 n14 n15 n16 n17 n18 l3 n19 n20 =>
                                      wpC Try.prog 39
                                        [AV.agg
                                            [AV.i IntKind.i64 n11, AV.i IntKind.i64 n12, AV.i IntKind.i64 n13, a3, AV.i IntKind.i64 n14, AV.i IntKind.i64 n15, AV.i IntKind.i64 n16,
                                              AV.i IntKind.i64 n17, AV.i IntKind.i64 n18, AV.s l3, AV.i IntKind.i64 n19, AV.i IntKind.i64 n20]]
                                        (fun a4 h2 =>
                                          onRet
                                            [Sh.agg
                                                [Kd.int IntKind.i64, Kd.int IntKind.i64, Kd.int IntKind.i64, Kd.ref, Kd.int IntKind.i64, Kd.int IntKind.i64, Kd.int IntKind.i64, Kd.int IntKind.i64,
                                                  Kd.int IntKind.i64, Kd.str, Kd.int IntKind.i64, Kd.int IntKind.i64]]
                                            a4 fun n21 n22 n23 a5 n24 n25 n26 n27 n28 l4 n29 n30 =>
                                            ∀ (p3 : Nat),
                                              wpE
                                                (Eff.app a0 1
                                                  (Src.lit
                                                    [AV.i IntKind.i64 n21, AV.i IntKind.i64 n22, AV.i IntKind.i64 n23, a5, AV.i IntKind.i64 n24, AV.i IntKind.i64 n25, AV.i IntKind.i64 n26,
                                                      AV.i IntKind.i64 n27, AV.i IntKind.i64 n28, AV.s l4, AV.i IntKind.i64 n29, AV.i IntKind.i64 n30])
                                                  12)
                                                (fun x0 h3 => onO x0 fun a6 => onO (intO BinOp.add IntKind.i64 n0 1) fun n31 => ∃ p4, ltN p4 p1 ∧ I0 p4 a6 n31 h3) h2)
                                        h1)
                                (onO (intO BinOp.add IntKind.i64 n0 1) fun n32 => ∃ p5, ltN p5 p1 ∧ I0 p5 a0 n32 h1))
                          h0)
                  (Post a0 h0))
                (Post a0 h0)) := by kernel_rfl
/- (*arras/store.Store).Append -/
theorem vc20 (a : AV) (b : AV) (h : Hp) (Post : AV → Hp → Prop) : vcCall Try.prog [] 20 [(SV.vv a), (SV.vv b)] h Post = (
  onO (ptrV a) fun r0 =>
  onO (rdH h r0.fst (r0.snd + 3) 1) fun l0 =>
    onL [Kd.bool] l0 fun lc0 =>
      onB lc0 (Post (AV.i IntKind.i64 10) h)
        (wpC Try.prog 40 [b]
          (fun a0 h0 =>
            onTup [Sh.one Kd.ref, Sh.one (Kd.int IntKind.i64), Sh.one (Kd.int IntKind.i64)] a0 fun a1 n0 n1 =>
              onB (!decide (n1 = 0)) (Post (AV.i IntKind.i64 n1) h0)
                (onO (ptrV a) fun r1 =>
                  onO (rdH h0 r1.fst (r1.snd + 2) 1) fun l1 =>
                    onL [Kd.int IntKind.i64] l1 fun n2 =>
                      onO (intO BinOp.sub IntKind.i64 2097152 n2) fun n3 =>
                        onB (decide (n3 < n0)) (Post (AV.i IntKind.i64 5) h0)
                          (wpC Try.prog 41 [a, a1]
                            (fun a2 h1 =>
                              onRet [Sh.one (Kd.int IntKind.i64)] a2 fun n4 =>
                                onB (!decide (n4 = 0)) (onO (ptrV a) fun r2 => wpE (Eff.w r2.fst (r2.snd + 3) (Src.lit [AV.b true]) none) (fun x0 h2 => Post (AV.i IntKind.i64 n4) h2) h1)
                                  (onO (ptrV a) fun r3 =>
                                    onO (rdH h1 r3.fst (r3.snd + 1) 1) fun l2 =>
                                      onL [Kd.ref] l2 fun a3 =>
                                        wpC Try.prog 29 [b]
                                          (fun a4 h3 =>
                                            onRet [Sh.one Kd.ref] a4 fun a5 =>
                                              sameH h1 h3 r3.fst (r3.snd + 1) 1 ∧
                                                onO (srcV 12 a5) fun r4 =>
                                                  onC (((4 * r4.fst + 4000) * 120).ble (OfNat.ofNat 17179869184))
                                                    (wpE (Eff.app a3 r4.fst r4.snd 12)
                                                      (fun x1 h4 =>
                                                        onO x1 fun a6 =>
                                                          onO (ptrV a) fun r5 =>
                                                            onO (rdH h4 r5.fst (r5.snd + 2) 1) fun l3 =>
                                                              onL [Kd.int IntKind.i64] l3 fun n5 =>
                                                                sameH h3 h4 r5.fst (r5.snd + 2) 1 ∧
                                                                  sameH h1 h3 r5.fst (r5.snd + 2) 1 ∧
                                                                    onO (intO BinOp.add IntKind.i64 n5 n0) fun n6 =>
                                                                      onO (ptrV a) fun r6 =>
                                                                        wpE (Eff.w r6.fst (r6.snd + 1) (Src.lit [a6]) none)
                                                                          (fun x2 h5 =>
                                                                            onO (ptrV a) fun r7 =>
                                                                              wpE (Eff.w r7.fst (r7.snd + 2) (Src.lit [AV.i IntKind.i64 n6]) none) (fun x3 h6 => Post (AV.i IntKind.i64 0) h6) h5)
                                                                          h4)
                                                      h3))
                                          h1))
                            h0)))
          h)) := by kernel_rfl
/- arras/op.OwnAll -/
theorem vc29 (a : AV) (h : Hp) (Post : AV → Hp → Prop) : vcCall Try.prog [] 29 [(SV.vv a)] h Post = (
  wpC Try.prog 47 [a]
  (fun a0 h0 =>
    onRet [Sh.one Kd.ref] a0 fun a1 =>
      onO (lenV a1) fun p0 =>
        ∃ I0 : Nat → Int → Hp → Prop,
          (∃ p1, I0 p1 0 h0) ∧
            ∀ (p2 : Nat) (h1 : Hp) (n0 : Int),
              I0 p2 n0 h1 →
                onB (decide (n0 < ↑p0))
                  (onO (idxV a1 n0 12) fun r0 =>
                    onO (rdH h1 r0.fst r0.snd 12) fun l0 =>
                      onL
                        [Kd.int IntKind.i64, Kd.int IntKind.i64, Kd.int IntKind.i64, Kd.ref, Kd.int IntKind.i64, Kd.int IntKind.i64, Kd.int IntKind.i64, Kd.int IntKind.i64, Kd.int IntKind.i64, Kd.str,
                          Kd.int IntKind.i64, Kd.int IntKind.i64]
                        l0 fun n1 n2 n3 a2 n4 n5 n6 n7 n8 l1 n9 n10 =>
                        wpC Try.prog 48
                          [AV.agg
                              [AV.i IntKind.i64 n1, AV.i IntKind.i64 n2, AV.i IntKind.i64 n3, a2, AV.i IntKind.i64 n4, AV.i IntKind.i64 n5, AV.i IntKind.i64 n6, AV.i IntKind.i64 n7,
                                AV.i IntKind.i64 n8, AV.s l1, AV.i IntKind.i64 n9, AV.i IntKind.i64 n10]]
                          (fun a3 h2 =>
                            onRet
                              [Sh.agg
                                  [Kd.int IntKind.i64, Kd.int IntKind.i64, Kd.int IntKind.i64, Kd.ref, Kd.int IntKind.i64, Kd.int IntKind.i64, Kd.int IntKind.i64, Kd.int IntKind.i64,
                                    Kd.int IntKind.i64, Kd.str, Kd.int IntKind.i64, Kd.int IntKind.i64]]
                              a3 fun n11 n12 n13 a4 n14 n15 n16 n17 n18 l2 n19 n20 =>
                              onO (idxV a1 n0 12) fun r1 =>
                                wpE
                                  (Eff.w r1.fst r1.snd
                                    (Src.lit
                                      [AV.i IntKind.i64 n11, AV.i IntKind.i64 n12, AV.i IntKind.i64 n13, a4, AV.i IntKind.i64 n14, AV.i IntKind.i64 n15, AV.i IntKind.i64 n16, AV.i IntKind.i64 n17,
                                        AV.i IntKind.i64 n18, AV.s l2, AV.i IntKind.i64 n19, AV.i IntKind.i64 n20])
                                    none)
                                  (fun x0 h3 => onO (intO BinOp.add IntKind.i64 n0 1) fun n21 => ∃ p3, ltN p3 p2 ∧ I0 p3 n21 h3) h2)
                          h1)
                  (Post a1 h1))
  h) := by kernel_rfl
/- (*arras/log.Log).load -/
theorem vc44 (a : AV) (h : Hp) (Post : AV → Hp → Prop) : vcCall Try.prog [12999999,
 24000004] 44 [(SV.vv a)] h Post = (
  wpC Try.prog 63 [a, AV.i IntKind.i64 2]
  (fun a0 h0 =>
    onTup [Sh.one Kd.ref, Sh.one (Kd.int IntKind.i64)] a0 fun a1 n0 =>
      onB (!decide (n0 = 0)) (Post (AV.i IntKind.i64 n0) h0)
        (onO (lenV a1) fun p0 =>
          ∃ I0 : Hp → Prop,
            onB (decide ((0 : Int) < ↑p0))
                (onO (lenV a1) fun p1 =>
                  onO (intO BinOp.sub IntKind.i64 (↑p1) 1) fun n1 =>
                    onO (idxV a1 n1 1) fun r0 =>
                      onO (rdH h0 r0.fst r0.snd 1) fun l0 =>
                        onL [Kd.int IntKind.u8] l0 fun n2 =>
                          onO (intO BinOp.and IntKind.u8 n2 1) fun n3 =>
                            onO (wrO IntKind.i64 n3) fun n4 => onO (ptrV a) fun r1 => wpE (Eff.w r1.fst (r1.snd + 3) (Src.lit [AV.i IntKind.i64 n4]) none) (fun x0 h1 => I0 h1) h0)
                (I0 h0) ∧
              ∀ (h2 : Hp),
                I0 h2 →
                  onO (ptrV a) fun r2 =>
                    onO (rdH h2 r2.fst (r2.snd + 3) 1) fun l1 =>
                      onL [Kd.int IntKind.i64] l1 fun n5 =>
                        wpC Try.prog 63 [a, AV.i IntKind.i64 n5]
                          (fun a2 h3 =>
                            onTup [Sh.one Kd.ref, Sh.one (Kd.int IntKind.i64)] a2 fun a3 n6 =>
                              onB (!decide (n6 = 0)) (Post (AV.i IntKind.i64 n6) h3)
                                (wpC Try.prog 64 [a, a3]
                                  (fun a4 h4 =>
                                    onTup [] a4
                                      (onO (ptrV a) fun r3 =>
                                        onO (rdH h4 r3.fst (r3.snd + 4) 1) fun l2 =>
                                          onL [Kd.int IntKind.i64] l2 fun n7 =>
                                            onO (lenV a3) fun p2 =>
                                              ∃ I1 : Int → Hp → Prop,
                                                onB (decide (n7 < ↑p2))
                                                    (onO (ptrV a) fun r4 =>
                                                      onO (rdH h4 r4.fst (r4.snd + 0) 1) fun l3 =>
                                                        onL [Kd.ref] l3 fun a5 =>
                                                          onO (ptrV a) fun r5 =>
                                                            onO (rdH h4 r5.fst (r5.snd + 3) 1) fun l4 =>
                                                              onL [Kd.int IntKind.i64] l4 fun n8 =>
                                                                onO (ptrV a) fun r6 =>
                                                                  onO (rdH h4 r6.fst (r6.snd + 4) 1) fun l5 =>
                                                                    onL [Kd.int IntKind.i64] l5 fun n9 =>
                                                                      wpC Try.prog 65 [a5, AV.i IntKind.i64 n8, AV.i IntKind.i64 n9]
                                                                        (fun a6 h5 => onRet [Sh.one (Kd.int IntKind.i64)] a6 fun n10 => I1 n10 h5) h4)
                                                    (I1 n6 h4) ∧
                                                  ∀ (h6 : Hp) (n11 : Int),
                                                    I1 n11 h6 →
                                                      onO (ptrV a) fun r7 =>
                                                        onO (rdH h6 r7.fst (r7.snd + 3) 1) fun l6 =>
                                                          onL [Kd.int IntKind.i64] l6 fun n12 =>
                                                            ∃ I2 : Nat → Int → Int → Hp → Prop,
                                                              (∃ p3, I2 p3 n11 0 h6) ∧
                                                                ∀ (p4 : Nat) (h7 : Hp) (n13 n14 : Int),
                                                                  I2 p4 n13 n14 h7 →
                                                                    onB (decide (n14 < 2))
                                                                      (onO (natLt n14 2) fun p5 =>
                                                                        (True ∧
                                                                            (p5 = 0 →
                                                                              onB (decide (n13 = 0))
                                                                                (onO (ptrV a) fun r8 =>
                                                                                  onO (rdH h7 r8.fst (r8.snd + 0) 1) fun l7 =>
                                                                                    onL [Kd.ref] l7 fun a7 =>
                                                                                      wpC Try.prog 66 [a7, AV.i IntKind.i64 n12]
                                                                                        (fun a8 h8 =>
                                                                                          onRet [Sh.one (Kd.int IntKind.i64)] a8 fun n15 =>
                                                                                            onO (intO BinOp.add IntKind.i64 n14 1) fun n16 => ∃ p6, ltN p6 p4 ∧ I2 p6 n15 n16 h8)
                                                                                        h7)
                                                                                (onO (intO BinOp.add IntKind.i64 n14 1) fun n17 => ∃ p7, ltN p7 p4 ∧ I2 p7 n13 n17 h7))) ∧
                                                                          (p5 = 1 →
                                                                            onB (decide (n13 = 0))
                                                                              (onO (ptrV a) fun r9 =>
                                                                                onO (rdH h7 r9.fst (r9.snd + 0) 1) fun l8 =>
                                                                                  onL [Kd.ref] l8 fun a9 =>
                                                                                    wpC Try.prog 66 [a9, AV.i IntKind.i64 2]
                                                                                      (fun a10 h9 =>
                                                                                        onRet [Sh.one (Kd.int IntKind.i64)] a10 fun n18 =>
                                                                                          onO (intO BinOp.add IntKind.i64 n14 1) fun n19 => ∃ p8, ltN p8 p4 ∧ I2 p8 n18 n19 h9)
                                                                                      h7)
                                                                              (onO (intO BinOp.add IntKind.i64 n14 1) fun n20 => ∃ p9, ltN p9 p4 ∧ I2 p9 n13 n20 h7)))
                                                                      (Post (AV.i IntKind.i64 n13) h7)))
                                  h3))
                          h2))
  h) := by kernel_rfl
end Go.Proofs.YtiidgjdogekpfaaAn
