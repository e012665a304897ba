/- The value operations: numbers, texts, comparisons, slicing, conversions. -/
import Derived.Test.YthnhdgcaolgdnaaAnC
set_option linter.unusedVariables false
set_option linter.unusedSimpArgs false
namespace Go.Proofs.YthnhdgcaolgdnaaAn
open Go

def Yields1 (P : Program) (j : Inj) (s : Sem Value) (v : AV) : Prop := ∃ v', VR j v v' ∧ ∀ w, s.run P w = .ok v' w
theorem Yields1.mk' {P : Program} {j : Inj} {s : Sem Value} {v : AV} {v' : Value} (h : VR j v v') (hs : s = pure v') : Yields1 P j s v :=
  ⟨v', h, fun w => by subst hs; rfl⟩

section
variable {P : Program} {j : Inj}
theorem VR.i' (k : IntKind) {a b : Int} (h : a = b) : VR j (.i k a) (.int k b) := by subst h; exact .i k a
theorem VR.b' {a b : Bool} (h : a = b) : VR j (.b a) (.bool b) := by subst h; exact .b a
theorem kMod_bits (k : IntKind) : kMod k = 2 ^ k.bits := by cases k <;> rfl
theorem kBits_eq (k : IntKind) : kBits k = k.bits := by cases k <;> rfl
theorem ofInt_toNat {k : IntKind} {m : Nat} (h : m < kMod k) : (BitVec.ofInt k.bits (Int.ofNat m)).toNat = m := by
  rw [kMod_bits] at h
  rw [BitVec.toNat_ofInt]
  show ((m : Int) % ((2 ^ k.bits : Nat) : Int)).toNat = m
  rw [Int.emod_eq_of_lt (Int.natCast_nonneg m) (by exact_mod_cast h)]
  rfl
theorem blt_lt {a b : Nat} (h : Nat.blt a b = true) : a < b := by simpa [Nat.blt_eq] using h
theorem intA_run {op : BinOp} {k : IntKind} {a b : Int} {r : AV} {t : TypeId} (hs : op ≠ .shl) (hs2 : op ≠ .shr) (h : intA op k a b = some r) : Yields1 P j (binOp op t (.int k a) (.int k b)) r := by
  cases op
  case shl => exact absurd rfl hs
  case shr => exact absurd rfl hs2
  case add => simp only [intA, Option.some.injEq] at h; subst h; exact .mk' (.i' k (wrapA_eq k _)) (by simp [binOp, Op.intArith]; try rfl)
  case sub => simp only [intA, Option.some.injEq] at h; subst h; exact .mk' (.i' k (wrapA_eq k _)) (by simp [binOp, Op.intArith]; try rfl)
  case mul => simp only [intA, Option.some.injEq] at h; subst h; exact .mk' (.i' k (wrapA_eq k _)) (by simp [binOp, Op.intArith]; try rfl)
  case quo =>
    simp only [intA, eqI_eq] at h
    by_cases hb : b = 0
    · subst hb; simp at h
    · have : (b == 0) = false := by simpa using hb
      simp only [this, cond_false, Option.some.injEq] at h
      subst h
      exact .mk' (.i' k (wrapA_eq k _)) (by simp [binOp, Op.intDiv, hb])
  case rem =>
    simp only [intA, eqI_eq] at h
    by_cases hb : b = 0
    · subst hb; simp at h
    · have : (b == 0) = false := by simpa using hb
      simp only [this, cond_false, Option.some.injEq] at h
      subst h
      exact .mk' (.i' k rfl) (by simp [binOp, Op.intDiv, hb])
  case eql => simp only [intA, Option.some.injEq] at h; subst h; exact .mk' (.b' (eqI_eq a b)) (by simp [binOp, Op.intCmp])
  case neq => simp only [intA, Option.some.injEq] at h; subst h; exact .mk' (v' := .bool (a != b)) (.b' (by rw [eqI_eq a b]; rfl)) (by simp [binOp, Op.intCmp])
  case lss => simp only [intA, Option.some.injEq] at h; subst h; exact .mk' (v' := .bool (decide (a < b))) (.b' (by rw [leI_eq, Bool.eq_iff_iff]; simp)) (by simp [binOp, Op.intCmp])
  case leq => simp only [intA, Option.some.injEq] at h; subst h; exact .mk' (.b' (leI_eq a b)) (by simp [binOp, Op.intCmp])
  case gtr => simp only [intA, Option.some.injEq] at h; subst h; exact .mk' (v' := .bool (decide (a > b))) (.b' (by rw [leI_eq, Bool.eq_iff_iff]; simp)) (by simp [binOp, Op.intCmp])
  case geq => simp only [intA, Option.some.injEq] at h; subst h; exact .mk' (.b' (leI_eq b a)) (by simp [binOp, Op.intCmp])
  all_goals
    simp only [intA] at h
    split at h
    · rename_i m n
      cases hb : (Nat.blt m (kMod k) && Nat.blt n (kMod k)) with
      | false => simp [hb] at h
      | true =>
        simp only [hb, cond_true] at h
        simp only [Bool.and_eq_true] at hb
        have h1 := ofInt_toNat (k := k) (blt_lt hb.1)
        have h2 := ofInt_toNat (k := k) (blt_lt hb.2)
        first
        | (cases h; done)
        | (injection h with h
           subst h
           refine .mk' (.i' k (wrapA_eq k _)) ?_
           simp only [binOp, ne_eq, not_true_eq_false, if_false, Op.intBits, BitVec.toNat_and, BitVec.toNat_or, BitVec.toNat_xor, h1, h2]
           rfl)
    · cases h
theorem shiftA_run {op : BinOp} {k k' : IntKind} {a b : Int} {r : AV} {t : TypeId} (h : shiftA op k a b = some r) : Yields1 P j (binOp op t (.int k a) (.int k' b)) r := by
  unfold shiftA at h
  split at h
  · cases h
  · rename_i n
    have hmin : (cond (Nat.ble n (kBits k)) n (kBits k)) = min n k.bits := by
      rw [kBits_eq]
      by_cases hle : n ≤ k.bits
      · have : Nat.ble n k.bits = true := by simpa [Nat.ble_eq] using hle
        rw [this, cond_true, Nat.min_eq_left hle]
      · have : Nat.ble n k.bits = false := by simpa [← Nat.ble_eq] using hle
        rw [this, cond_false, Nat.min_eq_right (by omega)]
    rw [hmin] at h
    have hneg : ¬ (Int.ofNat n < 0) := by show ¬ ((n : Int) < 0); omega
    cases op <;> simp only at h <;> first | (cases h; done) | skip
    · injection h with h; subst h
      refine .mk' (.i' k (wrapA_eq k _)) ?_
      simp only [binOp, Op.shift, if_neg hneg]
      congr 3
      try (show a * ((2 ^ (min n k.bits) : Nat) : Int) = a * 2 ^ _; push_cast; try rfl)
    · injection h with h; subst h
      refine .mk' (.i' k rfl) ?_
      simp only [binOp, Op.shift, if_neg hneg]
      congr 3
      try (show a.fdiv ((2 ^ (min n k.bits) : Nat) : Int) = a.fdiv (2 ^ _); push_cast; try rfl)

/-! texts -/
theorem eqL_eq : ∀ (a b : List UInt8), eqL (a.map UInt8.toNat) (b.map UInt8.toNat) = (a == b)
  | [], [] => rfl
  | [], _ :: _ => rfl
  | _ :: _, [] => rfl
  | x :: a, y :: b => by
    simp only [List.map_cons, eqL, List.cons_beq_cons]
    rw [eqL_eq a b]
    have e : Nat.beq x.toNat y.toNat = (x == y) := by
      rw [Bool.eq_iff_iff]; simp [Nat.beq_eq, UInt8.toNat_inj]
    rw [e]
    cases x == y <;> rfl
theorem lessL_eq : ∀ (a b : List UInt8), lessL (a.map UInt8.toNat) (b.map UInt8.toNat) = Op.bytesLess a b
  | [], [] => rfl
  | [], _ :: _ => rfl
  | _ :: _, [] => rfl
  | x :: a, y :: b => by
    simp only [List.map_cons, lessL, Op.bytesLess]
    rw [lessL_eq a b]
    have e : Nat.beq x.toNat y.toNat = (x == y) := by
      rw [Bool.eq_iff_iff]; simp [Nat.beq_eq, UInt8.toNat_inj]
    have e2 : Nat.blt x.toNat y.toNat = decide (x < y) := by
      rw [Bool.eq_iff_iff]; simp [Nat.blt_eq, UInt8.lt_iff_toNat_lt]
    rw [e, e2]
    cases decide (x < y) <;> cases x == y <;> rfl
theorem bytesL_len (s : ByteArray) : (bytesL s).length = s.size := by unfold bytesL; rw [List.length_map, Array.length_toList]; rfl
theorem eqL_bytes (x y : ByteArray) : eqL (bytesL x) (bytesL y) = (x.toList == y.toList) := by
  rw [ByteArray.toList_eq, ByteArray.toList_eq]; exact eqL_eq _ _
theorem lessL_bytes (x y : ByteArray) : lessL (bytesL x) (bytesL y) = Op.bytesLess x.toList y.toList := by
  rw [ByteArray.toList_eq, ByteArray.toList_eq]; exact lessL_eq _ _
theorem VR.s' {l : List Nat} {t : ByteArray} (h : l = bytesL t) : VR j (.s l) (.string t) := by subst h; exact .s t
theorem bytesL_append (x y : ByteArray) : bytesL (x ++ y) = bytesL x ++ bytesL y := by
  simp [bytesL, ByteArray.data_append]
theorem bytesL_extract (x : ByteArray) (a b : Nat) : bytesL (x.extract a b) = ((bytesL x).drop a).take (b - a) := by
  simp [bytesL, ByteArray.data_extract, List.map_take, List.map_drop]
theorem strA_run {op : BinOp} {x y : ByteArray} {r : AV} {t : TypeId} (h : strA op (bytesL x) (bytesL y) = some r) : Yields1 P j (binOp op t (.string x) (.string y)) r := by
  cases op <;> simp only [strA] at h <;> first | (cases h; done) | skip
  · cases hb : Nat.blt ((bytesL x).length + (bytesL y).length) 1000000000 with
    | false => rw [hb] at h; cases h
    | true =>
      rw [hb, cond_true] at h
      injection h with h
      subst h
      have hlt := blt_lt hb
      rw [bytesL_len, bytesL_len] at hlt
      refine .mk' (.s' (bytesL_append x y).symm) ?_
      have hm : ¬ (((x.size + y.size : Nat) : Int) > IntKind.i64.max) := by
        have : IntKind.i64.max = 9223372036854775807 := rfl
        rw [this]; omega
      simp only [binOp, Op.stringOp, if_neg hm]
  all_goals
    injection h with h
    subst h
    refine .mk' (.b' rfl) ?_
    simp only [eqL_bytes, lessL_bytes]
    simp [binOp, Op.stringOp]

/-! equality -/
theorem info_size {t : TypeId} {k : IntKind} (h : P.underlying t = some (.int k)) : ∃ i, P.info? t = some i := by
  unfold Program.underlying at h
  split at h
  · rename_i hi; exact ⟨_, hi⟩
  · rename_i hi; exact ⟨_, hi⟩
  · cases h
theorem eqInts_run (w : World) (d : Nat) : ∀ (fs : List Field) (n : Nat) (cs ds : List AV) (xs ys : List Value) (px py : List Value) (c : Bool),
    intFields P n fs = true → eqInts cs ds = some c → fs.length = cs.length → VRs j cs xs → VRs j ds ys → px.length = n → py.length = n →
    (Op.eqFields (d + 1) (px ++ xs).toArray (py ++ ys).toArray fs).run P w = .ok c w := by
  intro fs
  induction fs with
  | nil =>
    intro n cs ds xs ys px py c _ he hl hx hy _ _
    cases cs with
    | nil => cases ds with
      | nil => simp only [eqInts, Option.some.injEq] at he; subst he; rfl
      | cons => simp [eqInts] at he
    | cons => simp at hl
  | cons f fs ih =>
    intro n cs ds xs ys px py c hf he hl hx hy hpx hpy
    simp only [intFields, Bool.and_eq_true] at hf
    obtain ⟨⟨⟨hu, ho⟩, hn⟩, hr⟩ := hf
    have ho' := Nat.eq_of_beq_eq_true ho
    cases hx with
    | nil => simp at hl
    | @cons a v as vs h1 t1 =>
    cases hy with
    | nil => cases a <;> simp [eqInts] at he
    | @cons b u bs us h2 t2 =>
    have hu' : ∃ k0, P.underlying f.type = some (.int k0) := by
      split at hu
      · rename_i k0 hk0; exact ⟨k0, hk0⟩
      · cases hu
    obtain ⟨k0, hk0⟩ := hu'
    have hagg : isAggT P f.type = some false := by simp [isAggT, hk0]
    have hpart : ∀ (p : List Value) (x : Value) (r : List Value), p.length = n → (part f.type (p ++ x :: r).toArray f.offset).run P w = .ok x w := by
      intro p x r hp
      simp only [part, Sem.run_bind, run_isAgg' _ hagg, Result.andThen_ok, Bool.false_eq_true, if_false, ho', ← hp]
      simp
    cases a <;> first | (simp [eqInts] at he; done) | skip
    rename_i k a
    cases b <;> first | (simp [eqInts] at he; done) | skip
    rename_i k' b
    cases h1; cases h2
    simp only [eqInts] at he
    cases hk : kEq k k' with
    | false => simp [hk] at he
    | true =>
      have := kEq_eq hk; subst this
      simp only [hk, cond_true, eqI_eq] at he
      have hne : (f.name ≠ "_") := by simpa using hn
      simp only [Op.eqFields, hne, ne_eq, not_false_eq_true, if_true, Sem.run_bind, hpart px _ vs hpx, hpart py _ us hpy, Result.andThen_ok, run_equalIn_int w d f.type k k0 a b hk0]
      cases hab : (a == b) with
      | false =>
        simp only [hab, cond_false, Option.some.injEq] at he
        subst he
        simp
      | true =>
        simp only [hab, cond_true] at he
        have := ih (n + 1) as bs vs us (px ++ [.int k a]) (py ++ [.int k b]) c hr he (by simpa using hl) t1 t2 (by simp [hpx]) (by simp [hpy])
        simp only [List.append_assoc, List.singleton_append] at this
        simpa using this
theorem struct_fields {t : TypeId} {fs : Array Field} (h : P.underlying t = some (.struct fs)) : P.fieldsOf t = fs := by simp [Program.fieldsOf, h]
theorem eqInts_app : ∀ {s1 s2 r1 r2 : List AV} {c : Bool}, eqInts (s1 ++ r1) (s2 ++ r2) = some c → s1.length = s2.length → (eqInts s1 s2 = some false ∧ c = false) ∨ (eqInts s1 s2 = some true ∧ eqInts r1 r2 = some c)
  | [], [], _, _, _, h, _ => .inr ⟨rfl, h⟩
  | [], _ :: _, _, _, _, _, hl => by simp at hl
  | _ :: _, [], _, _, _, _, hl => by simp at hl
  | a :: s1, b :: s2, r1, r2, c, h, hl => by
    cases a <;> first | (simp [eqInts] at h; done) | skip
    rename_i k a
    cases b <;> first | (simp [eqInts] at h; done) | skip
    rename_i k' b
    simp only [List.cons_append, eqInts] at h ⊢
    cases hk : kEq k k' with
    | false => simp [hk] at h
    | true =>
      simp only [hk, cond_true] at h ⊢
      cases hab : eqI a b with
      | false => simp only [hab, cond_false, Option.some.injEq] at h ⊢; exact .inl ⟨trivial, h.symm⟩
      | true => simp only [hab, cond_true] at h ⊢; exact eqInts_app h (by simpa using hl)
theorem eqInts_run2 (w : World) (d : Nat) : ∀ (fs : List Field) (n : Nat) (cs ds : List AV) (xs ys : List Value) (px py : List Value) (c : Bool),
    intFields2 P n fs = true → eqInts cs ds = some c → leaves P fs = cs.length → cs.length = ds.length → VRs j cs xs → VRs j ds ys → px.length = n → py.length = n →
    (Op.eqFields (d + 2) (px ++ xs).toArray (py ++ ys).toArray fs).run P w = .ok c w := by
  intro fs
  induction fs with
  | nil =>
    intro n cs ds xs ys px py c _ he hl hl2 hx hy _ _
    simp only [leaves] at hl
    obtain rfl := List.length_eq_zero_iff.1 hl.symm
    obtain rfl := List.length_eq_zero_iff.1 hl2.symm
    simp only [eqInts, Option.some.injEq] at he; subst he; rfl
  | cons f fs ih =>
    intro n cs ds xs ys px py c hf he hl hl2 hx hy hpx hpy
    simp only [intFields2, Bool.and_eq_true] at hf
    obtain ⟨⟨ho, hn⟩, hu⟩ := hf
    have ho' := Nat.eq_of_beq_eq_true ho
    have hne : (f.name ≠ "_") := by simpa using hn
    split at hu
    · rename_i k0 hk0
      have hagg : isAggT P f.type = some false := by simp [isAggT, hk0]
      have hlv : leaves P (f :: fs) = 1 + leaves P fs := by simp only [leaves, hk0]
      rw [hlv] at hl
      cases hx with
      | nil => simp at hl
      | @cons a v as vs h1 t1 =>
      cases hy with
      | nil => simp at hl2
      | @cons b u bs us h2 t2 =>
      have hpart : ∀ (p : List Value) (x : Value) (r : List Value), p.length = n → (part f.type (p ++ x :: r).toArray f.offset).run P w = .ok x w := by
        intro p x r hp
        simp only [part, Sem.run_bind, run_isAgg' _ hagg, Result.andThen_ok, Bool.false_eq_true, if_false, ho', ← hp]
        simp
      cases a <;> first | (simp [eqInts] at he; done) | skip
      rename_i k a
      cases b <;> first | (simp [eqInts] at he; done) | skip
      rename_i k' b
      cases h1; cases h2
      simp only [eqInts] at he
      cases hk : kEq k k' with
      | false => simp [hk] at he
      | true =>
        have := kEq_eq hk; subst this
        simp only [hk, cond_true, eqI_eq] at he
        simp only [Op.eqFields, hne, ne_eq, not_false_eq_true, if_true, Sem.run_bind, hpart px _ vs hpx, hpart py _ us hpy, Result.andThen_ok, run_equalIn_int w (d + 1) f.type k k0 a b hk0]
        cases hab : (a == b) with
        | false =>
          simp only [hab, cond_false, Option.some.injEq] at he
          subst he
          simp
        | true =>
          simp only [hab, cond_true] at he
          have := ih (n + 1) as bs vs us (px ++ [.int k a]) (py ++ [.int k b]) c hu he (by simp at hl; omega) (by simpa using hl2) t1 t2 (by simp [hpx]) (by simp [hpy])
          simp only [List.append_assoc, List.singleton_append] at this
          simpa using this
    · rename_i gs hgs
      simp only [Bool.and_eq_true, Bool.not_eq_true'] at hu
      obtain ⟨⟨⟨g1, g2⟩, g3⟩, g4⟩ := hu
      have hz : szOf P f.type = some gs.size := by
        split at g3
        · rename_i z hz; rw [hz, Nat.eq_of_beq_eq_true g3]
        · cases g3
      have hagg : isAggT P f.type = some true := by simp [isAggT, hgs]
      have hlv : leaves P (f :: fs) = gs.size + leaves P fs := by simp only [leaves, hgs]
      rw [hlv] at hl
      have hxl := hx.length
      have hyl := hy.length
      have hpart : ∀ (p x : List Value), p.length = n → gs.size ≤ x.length → (part f.type (p ++ x).toArray f.offset).run P w = .ok (.agg (x.take gs.size).toArray) w := by
        intro p x hp hle
        simp only [part, Sem.run_bind, run_isAgg' _ hagg, Result.andThen_ok, if_true, ho', run_sizeOf' _ hz, ← hp]
        simp [List.extract_eq_take_drop]
      have hsplit : eqInts (cs.take gs.size ++ cs.drop gs.size) (ds.take gs.size ++ ds.drop gs.size) = some c := by rw [List.take_append_drop, List.take_append_drop]; exact he
      have hpf := struct_fields hgs
      have hseg : ∀ c', eqInts (cs.take gs.size) (ds.take gs.size) = some c' → (Op.equalIn (d + 2) f.type (.agg (xs.take gs.size).toArray) (.agg (ys.take gs.size).toArray)).run P w = .ok c' w := by
        intro c' hc'
        rw [run_equalIn_struct w (d + 1) f.type _ _ (by rw [hpf]; exact hgs) g2, hpf]
        have := eqInts_run (j := j) w d gs.toList 0 (cs.take gs.size) (ds.take gs.size) (xs.take gs.size) (ys.take gs.size) [] [] c' g1 hc' (by simp; omega) (hx.take _) (hy.take _) rfl rfl
        simpa using this
      simp only [Op.eqFields, hne, ne_eq, not_false_eq_true, if_true, Sem.run_bind, hpart px xs hpx (by omega), hpart py ys hpy (by omega), Result.andThen_ok]
      rcases eqInts_app hsplit (by simp; omega) with ⟨h1, rfl⟩ | ⟨h1, h2⟩
      · rw [hseg _ h1]; simp
      · rw [hseg _ h1]
        have := ih (n + gs.size) (cs.drop gs.size) (ds.drop gs.size) (xs.drop gs.size) (ys.drop gs.size) (px ++ xs.take gs.size) (py ++ ys.take gs.size) c g4 h2 (by simp; omega) (by simp; omega) (hx.drop _) (hy.drop _) (by simp; omega) (by simp; omega)
        simp only [List.append_assoc, List.take_append_drop] at this
        simpa using this
    · cases hu
theorem eqInts_len : ∀ {cs ds : List AV} {c : Bool}, cs.length = ds.length → eqInts cs ds = some c → True := fun _ _ => trivial
theorem eqA_runIn (d : Nat) {t : TypeId} {x y : AV} {c : Bool} {v u : Value} (h : eqA P t x y = some c) (hx : VR j x v) (hy : VR j y u) (w : World) : (Op.equalIn (d + 1 + 1 + 1) t v u).run P w = .ok c w := by
  unfold eqA at h
  split at h
  · split at h
    · rename_i hu
      injection h with h; subst h
      cases hx; cases hy
      unfold Op.equalIn; simp only [Sem.run_bind, run_underlying' _ hu, Result.andThen_ok]; rfl
    · cases h
  · split at h
    · rename_i hu
      injection h with h; subst h
      cases hx; cases hy
      unfold Op.equalIn; simp only [Sem.run_bind, run_underlying' _ hu, Result.andThen_ok]; rfl
    · cases h
  · split at h
    · rename_i hu
      injection h with h; subst h
      cases hx; cases hy
      unfold Op.equalIn; simp only [Sem.run_bind, run_underlying' _ hu, Result.andThen_ok]; rfl
    · cases h
  · split at h
    · rename_i hu
      injection h with h; subst h
      cases hx; cases hy
      unfold Op.equalIn; simp only [Sem.run_bind, run_underlying' _ hu, Result.andThen_ok]; rfl
    · cases h
  · split at h
    · rename_i hu
      injection h with h; subst h
      cases hx; cases hy
      unfold Op.equalIn; simp only [Sem.run_bind, run_underlying' _ hu, Result.andThen_ok]; rfl
    · cases h
  · split at h
    · rename_i hu
      injection h with h; subst h
      cases hx; cases hy
      unfold Op.equalIn; simp only [Sem.run_bind, run_underlying' _ hu, Result.andThen_ok]; rfl
    · cases h
  · split at h
    · rename_i hu
      injection h with h; subst h
      cases hx; cases hy
      unfold Op.equalIn; simp only [Sem.run_bind, run_underlying' _ hu, Result.andThen_ok]; rfl
    · cases h
  · split at h
    · rename_i hu
      injection h with h; subst h
      cases hx; cases hy
      unfold Op.equalIn; simp only [Sem.run_bind, run_underlying' _ hu, Result.andThen_ok]; rfl
    · cases h
  · split at h
    · rename_i hu
      injection h with h; subst h
      cases hx; cases hy
      unfold Op.equalIn; simp only [Sem.run_bind, run_underlying' _ hu, Result.andThen_ok]; rfl
    · cases h
  · split at h
    · rename_i hu
      injection h with h; subst h
      cases hx; cases hy
      unfold Op.equalIn; simp only [Sem.run_bind, run_underlying' _ hu, Result.andThen_ok]; rfl
    · cases h
  · split at h
    · rename_i hu
      injection h with h; subst h
      obtain ⟨vs, rfl, _⟩ := hy.f_inv
      cases hx
      unfold Op.equalIn; simp only [Sem.run_bind, run_underlying' _ hu, Result.andThen_ok]; rfl
    · cases h
  · split at h
    · rename_i hu
      injection h with h; subst h
      obtain ⟨vs, rfl, _⟩ := hx.f_inv
      cases hy
      unfold Op.equalIn; simp only [Sem.run_bind, run_underlying' _ hu, Result.andThen_ok]; rfl
    · cases h
  · rename_i cs ds
    cases hb : (intStruct P t cs.length && Nat.beq cs.length ds.length) with
    | false => rw [hb] at h; cases h
    | true =>
      rw [hb, cond_true] at h
      simp only [Bool.and_eq_true] at hb
      obtain ⟨hi, hl⟩ := hb
      obtain ⟨vs, rfl, hv⟩ := hx.agg_inv
      obtain ⟨us, rfl, hu⟩ := hy.agg_inv
      unfold intStruct at hi
      split at hi
      · rename_i fs hfs
        simp only [Bool.and_eq_true, Bool.not_eq_true'] at hi
        obtain ⟨⟨⟨h1, h2⟩, h3⟩, h4⟩ := hi
        have hpf := struct_fields hfs
        rw [run_equalIn_struct w (d + 1 + 1) t _ _ (by rw [hpf]; exact hfs) h3, hpf]
        have := eqInts_run2 (j := j) w d fs.toList 0 cs ds vs us [] [] c h1 h (Nat.eq_of_beq_eq_true h2) (Nat.eq_of_beq_eq_true hl) hv hu rfl rfl
        simpa using this
      · cases hi
  · cases h
theorem eqA_run {t : TypeId} {x y : AV} {c : Bool} {v u : Value} (h : eqA P t x y = some c) (hx : VR j x v) (hy : VR j y u) (w : World) : (Op.equal t v u).run P w = .ok c w :=
  eqA_runIn 9997 h hx hy w
end
end Go.Proofs.YthnhdgcaolgdnaaAn
