/- What the functions that the law reaches come to, down to the law itself. -/
import Derived.Test.YtkibmllilebmcaaCnOpWrongsp0
import Derived.Test.YtkibmllilebmcaaProg
set_option linter.unusedVariables false
set_option linter.unusedSimpArgs false
set_option maxRecDepth 100000
namespace Go.Proofs.YtkibmllilebmcaaAn
open Go
section
variable {h : Hp} {Post : AV → Hp → Prop}
theorem ints_flat1 : ∀ (l : List Int), ((l.map fun x => [AV.i .i64 x]) : List (List AV)).flatten = l.map fun x => AV.i .i64 x
  | [] => rfl
  | x :: l => by rw [List.map_cons, List.flatten_cons, ints_flat1 l]; rfl
theorem ints_all1 {h : Hp} : ∀ {l : List Int}, (∀ x ∈ l, In64 x) → All2 (Kn.int.K h) l (l.map fun x => [AV.i .i64 x])
  | [], _ => .nil
  | x :: l, hl => .cons (in64_of (hl x (by simp))) (ints_all1 fun y hy => hl y (by simp [hy]))
theorem put_ints {p : Nat} {l : List Int} {ex : Bool} (hl : ∀ x ∈ l, In64 x) : IR (h.put p (l.map fun x => AV.i .i64 x)) (.sl p 0 l.length l.length ex 1) l := by
  refine ⟨l.map fun x => [AV.i .i64 x], ⟨fun c hc => by obtain ⟨x, _, rfl⟩ := List.mem_map.1 hc; rfl, rfl, by simp, Nat.le_refl _, .inr ?_⟩, ?_⟩
  · unfold rdH
    rw [Hp.put_same, Option.bind_some, ints_flat1]
    have e1 : Kn.int.sz = 1 := rfl
    rw [sub_mk (by simp [e1])]
    simp [e1]
    exact List.take_of_length_le (by simp)
  · exact ints_all1 hl
theorem put_zeros8 {p n : Nat} : BR (h.put p ((List.replicate n 0).map fun (x : Nat) => AV.i .u8 (.ofNat x))) (.sl p 0 n n true 1) (List.replicate n 0) := by
  have fl : ∀ (l : List Nat), ((l.map fun x => [AV.i .u8 (.ofNat x)]) : List (List AV)).flatten = l.map fun x => AV.i .u8 (.ofNat x) := fun l => by
    induction l with
    | nil => rfl
    | cons x l ih => rw [List.map_cons, List.flatten_cons, ih]; rfl
  refine ⟨(List.replicate n 0).map fun (x : Nat) => [AV.i .u8 (.ofNat x)], ⟨fun c hc => by obtain ⟨x, _, rfl⟩ := List.mem_map.1 hc; rfl, rfl, by simp, Nat.le_refl _, .inr ?_⟩, bytes_all fun y hy => by have := List.eq_of_mem_replicate hy; omega⟩
  unfold rdH
  rw [Hp.put_same, Option.bind_some, fl]
  have e1 : Kn.byte.sz = 1 := rfl
  rw [sub_mk (by simp [e1])]
  simp [e1]
theorem ns_i : IR h .ns [] := ⟨[], ⟨fun _ h => (by cases h), rfl⟩, .nil⟩
/-- what may not be is refused -/
theorem ow2 {o : D.Op} {d : AV} {X K : Hp → Prop} (rd : IR h d o.deps) (hd : o.deps.length < 32000000) (hm : mayO o = false) (k : K h) :
    wpC Try.prog 6 [.agg (opC o d)] (fun a10 h8 => onRet [Sh.one (Kd.int IntKind.i64)] a10 fun n35 => wpC Try.prog 5 [AV.i IntKind.i64 n35] (fun a11 h9 => onRet [Sh.one (Kd.int IntKind.i64)] a11 fun n36 => onB (!decide (n36 = 1)) (X h9) (K h9)) h8) h := by
  refine c6 rd hd ?_
  rw [if_neg (by rw [hm]; simp)]
  exact onRet.i (c5 (onRet.i (onB.neg rfl k)))
def theP : D.Op := ⟨⟨3, 1⟩, 3, [7, 2], 2, ⟨2, 0⟩, ⟨0, 0⟩, [], 3, -1⟩
theorem D.lawOpWrongs {L : List D.OpX} {c : AV} (kx : (Kn.slice D.kOpX 144).K h L [c]) : wpC Try.prog 3 [c] (fun v _ => v = .b true) h := by
  obtain ⟨a, e, r, hL⟩ := kx
  injection e with e _; subst e
  refine call_sound (args := [.vv c]) (cuts := []) ⟨r.sc, trivial⟩ ?_
  rw [vc3]
  have sm : ∀ {l : List Int}, (∀ x ∈ l, -100 ≤ x ∧ x ≤ 100) → ∀ x ∈ l, In64 x := fun h x hx => ⟨by have := h x hx; omega, by have := h x hx; omega⟩
  refine c4 fun d0 h0 o0 => onRet.op (o := theO) o0.sc fun p0 p1 p2 => c6 (o := theO) o0.row (by decide) ?_
  rw [if_pos theO_may]
  refine onRet.i (c5 (onRet.i (onB.neg rfl fun hp1 hlo1 => ?_)))
  have le1 : h0.le (h0.put p1 ([7, 2].map fun x => AV.i .i64 x)) := Hp.le_put hp1
  have r1 : IR (h0.put p1 ([7, 2].map fun x => AV.i .i64 x)) (.sl p1 0 2 2 true 1) [7, 2] := put_ints (l := [7, 2]) (sm (by decide))
  refine c6 (o := theP) r1 (by decide) ?_
  rw [if_pos (show mayO theP = true by decide)]
  refine onRet.i (c5 (onRet.i (onB.neg rfl ?_)))
  refine ⟨fun m c i h' => ∃ k : Nat, i = k ∧ k ≤ 12 ∧ m = 12 - k ∧ c = false ∧ (h0.put p1 ([7, 2].map fun x => AV.i .i64 x)).le h', ⟨_, 0, rfl, by omega, rfl, rfl, Hp.le_refl _⟩, ?_⟩
  rintro m h5 _ _ ⟨j, rfl, hj, rfl, rfl, le⟩
  refine onB.dec (fun e => ?_) (fun e => onO.mk (r.mono (Hp.le_trans o0.le (Hp.le_trans le1 le))).len (onB.pos (decide_eq_true (by omega)) (c8 fun h' _ => onRet.b rfl)))
  refine c7 (o := theO) ((o0.row.mono le1).mono le) (by decide) fun r6 h6 o6 => onRet.op (o := theO) o6.sc (c7 (o := theP) ((r1.mono le).mono o6.le) (by decide) fun r7 h7 o7 => onRet.op (o := theP) o7.sc fun p5 p6 => ?_)
  have rr6 : IR h7 r6 [0] := o6.row.mono o7.le
  have rr7 : IR h7 r7 [7, 2] := o7.row
  have le7 := Hp.le_trans le (Hp.le_trans o6.le o7.le)
  have nx : ∀ hh, h7.le hh → onO (intO BinOp.add IntKind.i64 (j : Int) 1) fun n39 => ∃ p7, ltN p7 (12 - j) ∧ ∃ k : Nat, n39 = k ∧ k ≤ 12 ∧ p7 = 12 - k ∧ false = false ∧ (h0.put p1 ([7, 2].map fun x => AV.i .i64 x)).le hh := fun hh lh =>
    onO.mk (inc64 (by omega)) ⟨_, by show 12 - (j + 1) < 12 - j; omega, j + 1, rfl, by omega, rfl, rfl, Hp.le_trans le7 lh⟩
  have fin := nx h7 (Hp.le_refl _)
  refine onB.dec (fun _ => ow2 (o := { theO with prop := 1 }) rr6 (by decide) (by decide) (ow2 (o := { theP with key := [107] }) rr7 (by decide) (by decide) fin)) fun n0 => ?_
  refine onB.dec (fun _ => ow2 (o := { theO with value := 1 }) rr6 (by decide) (by decide) (ow2 (o := { theP with parent := ⟨1, 0⟩ }) rr7 (by decide) (by decide) fin)) fun n1 => ?_
  refine onB.dec (fun _ => ow2 (o := { theO with seq := 2 }) rr6 (by decide) (by decide) (ow2 (o := { theP with seq := 2 }) rr7 (by decide) (by decide) fin)) fun n2 => ?_
  refine onB.dec (fun _ p10 => ow2 (o := { theO with deps := [] }) ns_i (by decide) (by decide) fun hp hlo => ow2 (o := { theP with deps := [7] }) (put_ints (l := [7]) (sm (by decide))) (by decide) (by decide) (nx _ (Hp.le_put hp))) fun n3 => ?_
  refine onB.dec (fun _ => ow2 (o := { theO with kind := 0 }) rr6 (by decide) (by decide) (ow2 (o := { theP with kind := 3 }) rr7 (by decide) (by decide) fin)) fun n4 => ?_
  refine onB.dec (fun _ => ow2 (o := { theO with node := ⟨0, 0⟩ }) rr6 (by decide) (by decide) (ow2 (o := { theP with node := ⟨0, 1⟩ }) rr7 (by decide) (by decide) fin)) fun n5 => ?_
  refine onB.dec (fun _ => ow2 (o := { theO with key := [] }) rr6 (by decide) (by decide) (ow2 (o := { theP with prop := 19 }) rr7 (by decide) (by decide) fin)) fun n6 => ?_
  refine onB.dec (fun _ => ow2 (o := { theO with key := [107, 0] }) rr6 (by decide) (by decide) (ow2 (o := { theP with value := -2 }) rr7 (by decide) (by decide) fin)) fun n7 => ?_
  refine onB.dec (fun _ => ow2 (o := { theO with parent := ⟨0, 2⟩ }) rr6 (by decide) (by decide) (ow2 (o := { theP with stamp := ⟨0, 0⟩ }) rr7 (by decide) (by decide) fin)) fun n8 => ?_
  refine onB.dec (fun _ => ow2 (o := { theO with stamp := ⟨1099511627777, 0⟩ }) rr6 (by decide) (by decide) (ow2 (o := { theP with stamp := ⟨3, 16⟩ }) rr7 (by decide) (by decide) fin)) fun n9 => ?_
  refine onB.dec (fun _ p18 => onO.mk (a := 17) rfl (onO.mk (a := 17) rfl (onC.mk rfl fun p21 hp hlo hp' hlo' => ?_))) fun n10 => ?_
  · have z1 : IR (h7.put p21 ((List.replicate 17 (0 : Int)).map fun x => AV.i .i64 x)) (.sl p21 0 17 17 true 1) (List.replicate 17 0) := put_ints (l := List.replicate 17 0) (sm (by decide))
    have lz : h7.le (h7.put p21 ((List.replicate 17 (0 : Int)).map fun x => AV.i .i64 x)) := Hp.le_put hp
    have hp2 : (h7.put p21 ((List.replicate 17 (0 : Int)).map fun x => AV.i .i64 x)).g p18 = none := hp'
    have l2 : (h7.put p21 ((List.replicate 17 (0 : Int)).map fun x => AV.i .i64 x)).le ((h7.put p21 ((List.replicate 17 (0 : Int)).map fun x => AV.i .i64 x)).put p18 ([-1].map fun x => AV.i .i64 x)) := Hp.le_put hp2
    exact ow2 (o := { theO with deps := [-1] }) (put_ints (l := [-1]) (sm (by decide))) (by decide) (by decide) (ow2 (o := { theP with deps := List.replicate 17 0 }) (z1.mono l2) (by decide) (by decide) (nx _ (Hp.le_trans lz l2)))
  refine onB.dec (fun _ => onO.mk (a := 64) rfl (onO.mk (a := 64) rfl (onC.mk rfl fun p25 hp hlo => ?_))) fun n11 => by omega
  · have lz : h7.le (h7.put p25 ((List.replicate 64 0).map fun (x : Nat) => AV.i .u8 (.ofNat x))) := Hp.le_put hp
    obtain ⟨b1, o1, n1', e1⟩ := strAt_row (put_zeros8 (h := h7) (p := p25) (n := 64))
    refine onO.mk e1 (onO.mk (a := List.replicate 64 0 ++ [107]) rfl fun p26 => ow2 (o := { theO with key := List.replicate 64 0 ++ [107] }) (rr6.mono lz) (by decide) (by decide) fun hp2 hlo2 => ow2 (o := { theP with deps := [-1, 2] }) (put_ints (l := [-1, 2]) (sm (by decide))) (by decide) (by decide) (nx _ (Hp.le_trans lz (Hp.le_put hp2))))
end
end Go.Proofs.YtkibmllilebmcaaAn
