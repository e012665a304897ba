import Derived.WalkMore
import Derived.ScopeJumps
import Derived.Deep.LoopGhost
import Derived.Test.YtpmcojmhkpaoaaaWWords
import Derived.Lib.AppendStr
/- Rules for a function whose body holds labels: a goto back to a label (a loop), a goto ahead. -/
namespace Go.Proofs.YtpmcojmhkpaoaaaLabel
open Go

/-- As Q; by a goto to label l: G. -/
def Goes (l : Nat) (G : Act → World → Prop) (Q : Exit → Act → World → Prop) : Exit → Act → World → Prop
  | .goto l', a, w => if l' = l then G a w else Q (.goto l') a w
  | e, a, w => Q e a w

section
variable {P : Program} {a : Act} {w : World} {Q : Exit → Act → World → Prop} {l : Nat} {G : Act → World → Prop}
@[go_sem] theorem Goes.normal : Goes l G Q .normal a w = Q .normal a w := rfl
@[go_sem] theorem Goes.exit (id : Nat) : Goes l G Q (.exit id) a w = Q (.exit id) a w := rfl
@[go_sem] theorem Goes.ret : Goes l G Q .ret a w = Q .ret a w := rfl
@[go_sem] theorem Goes.panic (ch : List PanicEntry) : Goes l G Q (.panic ch) a w = Q (.panic ch) a w := rfl
theorem Goes.here : Goes l G Q (.goto l) a w = G a w := by simp [Goes]
theorem Goes.there {l' : Nat} (h : (l' = l) = False) : Goes l G Q (.goto l') a w = Q (.goto l') a w := by simp [Goes, h]

theorem wp_scope_one {c B : Code} (l : Nat) (hf : findLabel c l = some (.seq .skip B))
    (h : ∀ G : Act → World → Prop, (∀ a w, B.wp P (Goes l G (Exit.noGoto Q)) a w → G a w) → c.wp P (Goes l G (Exit.noGoto Q)) a w) : (Code.scope c).wp P Q a w := by
  let Sem : Act → World → Prop := fun a w => ∀ (b : Frame) (k : List Item) (cs : List Frame), ∃ e a' w', Q e a' w' ∧ Arrives P (lone (b.at a (.code (.seq .skip B) :: .inScope c :: k)) cs w) b k cs e a' w'
  have close : ∀ (m : Machine) (b : Frame) (k : List Item) (cs : List Frame) (e : Exit) (a₁ : Act) (w₁ : World), Goes l Sem (Exit.noGoto Q) e a₁ w₁ → Arrives P m b (.inScope c :: k) cs e a₁ w₁ → ∃ e a' w', Q e a' w' ∧ Arrives P m b k cs e a' w' := by
    intro m b k cs e a₁ w₁ hq harr
    cases e with
    | normal => exact ⟨.normal, a₁, w₁, hq, Steps.trans harr (.one step_inScope)⟩
    | exit id => exact ⟨.exit id, a₁, w₁, hq, fun k' hk => harr k' (by simp [exitTo, hk])⟩
    | goto l' =>
      by_cases e : l' = l
      · subst e
        have hq' : Sem a₁ w₁ := by simpa [Goes] using hq
        obtain ⟨e₂, a₂, w₂, hq₂, harr₂⟩ := hq' b k cs
        exact ⟨e₂, a₂, w₂, hq₂, .of_steps (harr _ (by simp [gotoIn, hf])) harr₂⟩
      · have hq' : Exit.noGoto Q (.goto l') a₁ w₁ := by simpa [Goes, e] using hq
        exact hq'.elim
    | ret => exact ⟨_, a₁, w₁, hq, harr⟩
    | panic ch => exact ⟨_, a₁, w₁, hq, harr⟩
    | outgrown => exact ⟨_, a₁, w₁, hq, harr⟩
  intro b k cs
  obtain ⟨e, a₁, w₁, hq, harr⟩ := h Sem (by
    intro a w hB b k cs
    obtain ⟨e, a₁, w₁, hq, harr⟩ := (wp_seq (x := .skip) (wp_skip hB)) b (.inScope c :: k) cs
    exact close _ b k cs e a₁ w₁ hq harr) b (.inScope c :: k) cs
  exact close _ b k cs e a₁ w₁ hq (.of_steps (.one step_scope) harr)

theorem wp_scope_two {c B1 B2 : Code} (l1 l2 : Nat) (hf1 : findLabel c l1 = some (.seq .skip B1)) (hf2 : findLabel c l2 = some (.seq .skip B2))
    (h : ∀ G1 G2 : Act → World → Prop, (∀ a w, B1.wp P (Goes l1 G1 (Goes l2 G2 (Exit.noGoto Q))) a w → G1 a w) → (∀ a w, B2.wp P (Goes l1 G1 (Goes l2 G2 (Exit.noGoto Q))) a w → G2 a w) → c.wp P (Goes l1 G1 (Goes l2 G2 (Exit.noGoto Q))) a w) : (Code.scope c).wp P Q a w := by
  let Sem : Code → Act → World → Prop := fun B a w => ∀ (b : Frame) (k : List Item) (cs : List Frame), ∃ e a' w', Q e a' w' ∧ Arrives P (lone (b.at a (.code (.seq .skip B) :: .inScope c :: k)) cs w) b k cs e a' w'
  have close : ∀ (m : Machine) (b : Frame) (k : List Item) (cs : List Frame) (e : Exit) (a₁ : Act) (w₁ : World), Goes l1 (Sem B1) (Goes l2 (Sem B2) (Exit.noGoto Q)) e a₁ w₁ → Arrives P m b (.inScope c :: k) cs e a₁ w₁ → ∃ e a' w', Q e a' w' ∧ Arrives P m b k cs e a' w' := by
    intro m b k cs e a₁ w₁ hq harr
    cases e with
    | normal => exact ⟨.normal, a₁, w₁, hq, Steps.trans harr (.one step_inScope)⟩
    | exit id => exact ⟨.exit id, a₁, w₁, hq, fun k' hk => harr k' (by simp [exitTo, hk])⟩
    | goto l' =>
      by_cases e : l' = l1
      · subst e
        have hq' : Sem B1 a₁ w₁ := by simpa [Goes] using hq
        obtain ⟨e₂, a₂, w₂, hq₂, harr₂⟩ := hq' b k cs
        exact ⟨e₂, a₂, w₂, hq₂, .of_steps (harr _ (by simp [gotoIn, hf1])) harr₂⟩
      · by_cases e2 : l' = l2
        · subst e2
          have hq' : Sem B2 a₁ w₁ := by simpa [Goes, e] using hq
          obtain ⟨e₂, a₂, w₂, hq₂, harr₂⟩ := hq' b k cs
          exact ⟨e₂, a₂, w₂, hq₂, .of_steps (harr _ (by simp [gotoIn, hf2])) harr₂⟩
        · have hq' : Exit.noGoto Q (.goto l') a₁ w₁ := by simpa [Goes, e, e2] using hq
          exact hq'.elim
    | ret => exact ⟨_, a₁, w₁, hq, harr⟩
    | panic ch => exact ⟨_, a₁, w₁, hq, harr⟩
    | outgrown => exact ⟨_, a₁, w₁, hq, harr⟩
  have go : ∀ (B : Code) (a : Act) (w : World), B.wp P (Goes l1 (Sem B1) (Goes l2 (Sem B2) (Exit.noGoto Q))) a w → Sem B a w := by
    intro B a w hB b k cs
    obtain ⟨e, a₁, w₁, hq, harr⟩ := (wp_seq (x := .skip) (wp_skip hB)) b (.inScope c :: k) cs
    exact close _ b k cs e a₁ w₁ hq harr
  intro b k cs
  obtain ⟨e, a₁, w₁, hq, harr⟩ := h (Sem B1) (Sem B2) (go B1) (go B2) b (.inScope c :: k) cs
  exact close _ b k cs e a₁ w₁ hq (.of_steps (.one step_scope) harr)

/-- What a slot held at the label. -/
def tget (t : Array Value) (i : Nat) : Value := t.toList.getD i undef

/-- At a label that is jumped back to: a relation that bears a number, which every round lowers. -/
theorem wp_label_ghost {l : Nat} {K G : Act → World → Prop} {B : Code} {Q' Q'' : Exit → Act → World → Prop} (I : Array Value → List Deferred → Nat → Act → World → Prop) (n₀ : Nat)
    (hK : ∀ a w, B.wp P Q' a w → K a w) (hG : ∀ a w, B.wp P Q' a w → G a w)
    (h₀ : I a.tmps a.defers n₀ a w)
    (round : ∀ n a' w', I a.tmps a.defers n a' w' → ∀ (J : Nat → Act → World → Prop), (∀ k a'' w'', I a.tmps a.defers k a'' w'' → J k a'' w'') → (∀ a'' w'', Handed J n a'' w'' → G a'' w'') → B.wp P Q' a' w') :
    (Code.label l).wp P (Exit.then K Q'') a w := by
  have key : ∀ n a' w', I a.tmps a.defers n a' w' → B.wp P Q' a' w' := by
    intro n
    induction n using Nat.strongRecOn with
    | _ n ih =>
      intro a' w' hI
      exact round n a' w' hI _ (fun _ _ _ q => q) fun a'' w'' ⟨n', hlt, hI'⟩ => hG _ _ (ih n' hlt _ _ hI')
  exact wp_label (hK _ _ (key n₀ a w h₀))
end

/-! ### A string appended to a row that came in: the row's block stays, or is new -/
open Go.RowKit Go.Proofs.YtpmcojmhkpaoaaaW.PrintWords
section
variable {P : Program} (w : World)
theorem append_str_block (base : Nat) (t u ty e : TypeId) (i : TypeInfo) (ht : P.underlying t = some (.slice e)) (hu : P.underlying u = some .string) (hi : P.info? e = some i) (hz : i.zero = some (.int .u8 0))
    (hsize : i.size = 1) (hby : i.bytes = 1) (v : Value) (n : Nat) (xs : List Value) (hown : w.ownsRow base e 1 v n xs) (s : ByteArray) (h63 : n + s.size ≤ maxLen) (hbytes : n + s.size ≤ 140737488355328)
    (v' : Value) (w' : World) (hr : (Builtin.append_ #[t, u] ty #[v, .string s]).run P w = .ok v' w') : v'.ownBlock = v.ownBlock ∨ ∃ b, v'.ownBlock = some b ∧ w.heap.size ≤ b := by
  have hxl : xs.length = n := by simpa using hown.1
  rcases hown.2 with ⟨rfl, rfl⟩ | ⟨g, cap, cur, rfl, hbg, hg, hnc, hcm, hcs, htake⟩
  · have hown0 : w.ownsRow w.heap.size e 1 (.slice none 0 0) 0 xs := ⟨hown.1, .inl ⟨rfl, rfl⟩⟩
    obtain ⟨v2, w2, hr2, ho2, _, _⟩ := Lib.run_append_own_string (P := P) w w.heap.size t u ty e i ht hu hi hz hsize hby _ 0 xs hown0 s (by simpa using h63) (by simpa using hbytes) (Nat.le_refl _)
    rw [hr] at hr2
    injection hr2 with e1 _
    subst e1
    rcases ho2.2 with ⟨rfl, _⟩ | ⟨g, cap, cur, rfl, hb, _⟩
    · exact .inl rfl
    · exact .inr ⟨g, rfl, hb⟩
  · by_cases hroom : n + s.size ≤ cap
    · have hcs' : cur.size = cap := by simpa using hcs
      have h2 := Lib.run_append_room_string (P := P) w t u ty e i ht hu hi hsize g n cap cur hg s hroom (by omega)
      rw [hr] at h2
      injection h2 with e1 _
      subst e1
      exact .inl rfl
    · have h2 := Lib.run_append_grow_string (P := P) w t u ty e i (.int .u8 0) ht hu hi hz ⟨g, 0, none⟩ n cap xs (by rw [hsize]; simpa using hxl) (hown.cells (g := g) rfl) s (by omega) (by simp only [maxLen] at h63; omega) (by rw [hby]; exact growslice_fits (by omega) (by omega))
      rw [hr] at h2
      injection h2 with e1 _
      subst e1
      exact .inr ⟨_, rfl, Nat.le_refl _⟩
end
section
variable {P : Program} {ops : Array Oper} {rest : List Oper} {o : Oper} {a : Act} {Q : Exit → Act → World → Prop}
theorem R_append_str {w0 W : World} (base : Nat) (hgd : o.guard = none) (s x : Operand) (t u e : TypeId)
    (ho : o.op = .call { callee := .builtin .append, args := #[s, x], argTypes := #[t, u] })
    (ht : P.underlying t = some (.slice e)) (hu : P.underlying u = some .string) (hinfo : (P.info? e).map (fun i => (i.zero, i.size, i.bytes)) = some (some (.int .u8 0), 1, 1))
    (v : Value) (xs : List Int) (y : ByteArray) (ok : Nat → Prop) (hs : a.eval s = v) (hx : a.eval x = .string y) (hfresh : ∀ k, W.heap.size ≤ k → ok k)
    (HO : (Kd.int .u8).R e W base ok v xs) (HB : Below base w0 W) (hbase : base ≤ W.heap.size) (hl : xs.length + y.size ≤ 140737488355328)
    (h : ∀ v1 w1, (Kd.int .u8).R e w1 base ok v1 (xs ++ bytesOf y) → Below base w0 w1 → W.grownBy w1 v.ownBlock → (v1.ownBlock = v.ownBlock ∨ ∃ b, v1.ownBlock = some b ∧ W.heap.size ≤ b) → wpList P ops Q rest (a.put o.dst v1) w1) :
    wpList P ops Q (o :: rest) a W := by
  obtain ⟨i0, hi, hzz⟩ := Option.map_eq_some_iff.1 hinfo
  simp only [Prod.mk.injEq] at hzz
  obtain ⟨hz0, hz1, hz2⟩ := hzz
  have hO : W.ownsRow base e 1 v xs.length (nums .u8 xs) := Kd.own_of_R HO
  have h63 : xs.length + y.size ≤ maxLen := by simp only [maxLen]; omega
  refine wpList_plain hgd fun K hK => ?_
  obtain ⟨v', w', hr, h2, h3, _⟩ := Lib.run_append_own_string (P := P) W base t u o.type e i0 ht hu hi hz0 hz1 hz2 v xs.length (nums .u8 xs) hO y h63 hl hbase
  have hat := append_str_block (P := P) W base t u o.type e i0 ht hu hi hz0 hz1 hz2 v xs.length (nums .u8 xs) hO y h63 hl v' w' hr
  have hl2 : (xs ++ bytesOf y).length = xs.length + y.size := by rw [List.length_append, bytesOf_length]
  have hc : nums .u8 (xs ++ bytesOf y) = nums .u8 xs ++ Lib.strCells y := by
    rw [nums_append]
    congr 1
    simp [nums, bytesOf, Lib.strCells]
  have hown : w'.ownsRow base e 1 v' (xs ++ bytesOf y).length (nums .u8 (xs ++ bytesOf y)) := by rw [hl2, hc]; exact h2
  unfold Oper.wp execOp
  simp only [ho, resolve, invoke, builtin, Sem.run_bind, Sem.run_pure, Result.andThen_ok, List.map_toArray, List.map_cons, List.map_nil, hs, hx, hr]
  refine hK _ _ (h v' w' (Kd.R_of_own (h1 := fun _ => rfl) hown (fun k hk => ?_)) (HB.grown h3 hbase (own_base hO)) h3 hat)
  rcases hat with e1 | ⟨b, e1, hbb⟩
  · exact HO.1 k (by rw [← e1]; exact hk)
  · rw [e1] at hk
    injection hk with hk
    subst hk
    exact hfresh _ hbb
end

theorem C_string_as {P : Program} {w : World} {src dst e : TypeId} {A : Option Addr} {n n' c : Nat} {xs : List Int} (hs : P.underlying src = some (.slice e)) (he : P.underlying e = some (.int .u8)) (hd : P.underlying dst = some .string)
    (h : (Kd.int .u8).C w A n xs) (hn : n = n') : (convert src dst (.slice A n' c)).run P w = .ok (.string (strOfNums xs)) w := by
  subst hn
  exact Kd.C_string hs he hd h

/-- A new block of bytes, read (whatever is frozen of it). -/
theorem C_new_u8 (W : World) (C : Array Value) (e : Nat) (fz : Nat × Nat) (xs : List Int) (hC : C.toList = nums .u8 xs) (hl : xs.length ≤ 9223372036854775807) :
    (Kd.int .u8).C (W.alloc (.cells C e fz)) (some ⟨W.heap.size, 0, none⟩) xs.length xs := by
  refine Kd.C_of_reads (enc := Value.int .u8) (d := (0 : Int)) (h1 := fun _ => rfl) ⟨rfl, hl, fun _ => ⟨_, rfl, fun j hj => ?_⟩⟩
  rw [add_plain]
  have hb : (W.alloc (.cells C e fz)).heap[W.heap.size]? = some (.cells C e fz) := heap_alloc_new W _
  have hg : C[j]? = some (.int .u8 (xs.getD j 0)) := by
    rw [← Array.getElem?_toList, hC, nums, List.getElem?_map]
    simp [List.getD, hj]
  unfold World.cell?
  simp only [hb]
  exact hg

/-! ### What a function tells in the end, whatever its rounds -/
def Lim {α : Type} (g : Nat → Option α) (v : Option α) : Prop := (∀ k, LeO (g k) (g (k + 1))) ∧ ∀ r, v = some r ↔ ∃ k, g k = some r
open Classical in
noncomputable def lim {α : Type} (g : Nat → Option α) : Option α := if h : ∃ r, ∃ k, g k = some r then some (Classical.choose h) else none
theorem lim_spec {α : Type} {g : Nat → Option α} (hm : ∀ k, LeO (g k) (g (k + 1))) : Lim g (lim g) := by
  refine ⟨hm, fun r => ?_⟩
  unfold lim
  by_cases h : ∃ r, ∃ k, g k = some r
  · rw [dif_pos h]
    obtain ⟨k1, h1⟩ := Classical.choose_spec h
    constructor
    · intro e
      injection e with e
      exact ⟨k1, by rw [h1, e]⟩
    · rintro ⟨k2, h2⟩
      have a := at_rounds hm (Nat.le_max_left k1 k2) h1
      have b := at_rounds hm (Nat.le_max_right k1 k2) h2
      rw [a] at b
      exact b
  · rw [dif_neg h]
    constructor
    · intro e; cases e
    · intro e; exact absurd ⟨r, e⟩ h
theorem Lim.unique {α : Type} {g : Nat → Option α} {v w : Option α} (h : Lim g v) (k : Lim g w) : v = w := by
  cases v with
  | none =>
    cases w with
    | none => rfl
    | some b => exact absurd ((h.2 b).2 ((k.2 b).1 rfl)) (by simp)
  | some a => exact ((k.2 a).2 ((h.2 a).1 rfl)).symm
theorem Lim.const {α : Type} (v : Option α) : Lim (fun _ => v) v := ⟨fun _ => LeO.refl _, fun _ => ⟨fun h => ⟨0, h⟩, fun ⟨_, h⟩ => h⟩⟩
theorem Lim.ite {α : Type} {c : Prop} [Decidable c] {g f : Nat → Option α} {v w : Option α} (h : Lim g v) (k : Lim f w) : Lim (fun n => if c then g n else f n) (if c then v else w) := by
  by_cases hc : c
  · simp only [if_pos hc]; exact h
  · simp only [if_neg hc]; exact k
theorem Lim.bind {α β : Type} {g : Nat → Option α} {f : Nat → α → Option β} {v : Option α} {w : α → Option β} (h : Lim g v) (k : ∀ a, Lim (fun n => f n a) (w a)) : Lim (fun n => (g n).bind (f n)) (v.bind w) := by
  refine ⟨fun n => LeO.bind (h.1 n) (fun a => (k a).1 n), fun r => ?_⟩
  constructor
  · intro e
    obtain ⟨a, ha, hw⟩ := Option.bind_eq_some_iff.1 e
    obtain ⟨k1, h1⟩ := (h.2 a).1 ha
    obtain ⟨k2, h2⟩ := ((k a).2 r).1 hw
    refine ⟨max k1 k2, ?_⟩
    show (g (max k1 k2)).bind (f (max k1 k2)) = some r
    rw [at_rounds h.1 (Nat.le_max_left k1 k2) h1]
    exact at_rounds (k a).1 (Nat.le_max_right k1 k2) h2
  · rintro ⟨n, e⟩
    obtain ⟨a, ha, hw⟩ := Option.bind_eq_some_iff.1 e
    rw [(h.2 a).2 ⟨n, ha⟩]
    exact ((k a).2 r).2 ⟨n, hw⟩
theorem Lim.shift {α : Type} {g : Nat → Option α} {v : Option α} (h : Lim g v) : Lim (fun n => g (n + 1)) v :=
  ⟨fun k => h.1 (k + 1), fun r => ⟨fun e => let ⟨k, hk⟩ := (h.2 r).1 e; ⟨k, h.1 k r hk⟩, fun ⟨k, hk⟩ => (h.2 r).2 ⟨k + 1, hk⟩⟩⟩
theorem Lim.rounds {α : Type} {g : Nat → Option α} {v : Option α} {r : α} (h : Lim g v) (e : v = some r) : ∃ k, g k = some r := (h.2 r).1 e
end Go.Proofs.YtpmcojmhkpaoaaaLabel
