/- All operations. -/
import Derived.Test.YthnhdgcaolgdnaaAnI
set_option linter.unusedVariables false
set_option linter.unusedSimpArgs false
namespace Go.Proofs.YthnhdgcaolgdnaaAn
open Go

section
variable {P : Program} {j : Inj} {ev : Operand → Option AV} {ρ : Operand → Value}
theorem Does.new {s : Sem Next} {cells : List AV} {k : Nat → AV} {cs' : Array Value} {ty : TypeId} {v' : Nat → Value}
    (hv : VRs j cells cs'.toList) (hs : ∀ w, s.run P w = .ok (.value (v' w.heap.size)) { w with heap := w.heap.push (.cells cs' ty) })
    (hk : ∀ (j' : Inj) id rb, j' id = some (rb, 0, cs'.size) → VR j' (k id) (v' rb)) : Does P j s (.a cells k) := by
  intro w
  refine ⟨cs', ty, 0, 0, v' w.heap.size, 0, ?_, .inl rfl, ⟨cs'.toList, [], by simp, hv⟩, fun j' id _ hid => hk j' id _ hid⟩
  rw [hs]; rfl
theorem At.loadCells {w : World} {rb oo : Nat} {vs : List Value} (h : At w rb oo vs) : (loadCells ⟨rb, oo, none⟩ vs.length).run P w = .ok vs.toArray w :=
  run_loadCells_list w ⟨rb, oo, none⟩ vs (fun i v hv => by rw [add_none]; exact h i v hv)
theorem run_storeVar' {w : World} {t : TypeId} {n rb oo : Nat} {v : Value} (hs : szOf P t = some n) (hl : v.cells.toList.length = n) (hw : Writable w rb oo v.cells.toList) :
    (storeVar t ⟨rb, oo, none⟩ v).run P w = .ok () (w.setCells rb oo v.cells.toList) := by
  have hst := run_storeCells_cells (P := P) rb oo v.cells.toList 0 w (by simpa using hw.1) (by simpa using hw.2.1) hw.2.2
  rw [Nat.add_zero] at hst
  have hne : ¬ (v.cells.size ≠ n) := by rw [← hl]; simp
  simp only [storeVar, Sem.run_bind, run_sizeOf' w hs, Result.andThen_ok, if_neg hne, Sem.run_pure, hst]
theorem places_run {fs : Array Field} {i : Nat} {w : World} {ps : Array (Nat × Nat)} (h : (fs.mapM fun f => do pure (f.offset, ← sizeOf f.type) : Sem (Array (Nat × Nat))).run P w = .ok ps w)
    (hp : ∀ i r, placesOf P fs i = some r → ps[i]? = some r) : True := trivial
theorem mapM_places (w : World) : ∀ (fs : List Field) (ps : List (Nat × Nat)), (fs.map fun f => (szOf P f.type).map fun n => (f.offset, n)) = ps.map some →
    (fs.mapM (fun f => do pure (f.offset, ← sizeOf f.type) : Field → Sem (Nat × Nat))).run P w = .ok ps w
  | [], ps, h => by cases ps with
    | nil => simp
    | cons => simp at h
  | f :: fs, ps, h => by
    cases ps with
    | nil => simp at h
    | cons p ps =>
      simp only [List.map_cons, List.cons.injEq] at h
      obtain ⟨h1, h2⟩ := h
      obtain ⟨n, hn, rfl⟩ := map_some' h1
      simp only [List.mapM_cons, Sem.run_bind, run_sizeOf' w hn, Result.andThen_ok, Sem.run_pure, mapM_places w fs ps h2]
theorem sizes_exist : ∀ (fs : List Field), fs.all (fun f => (szOf P f.type).isSome) = true → ∃ ps : List (Nat × Nat), (fs.map fun f => (szOf P f.type).map fun n => (f.offset, n)) = ps.map some
  | [], _ => ⟨[], rfl⟩
  | f :: fs, h => by
    simp only [List.all_cons, Bool.and_eq_true] at h
    obtain ⟨n, hn⟩ := Option.isSome_iff_exists.1 h.1
    obtain ⟨ps, hps⟩ := sizes_exist fs h.2
    exact ⟨(f.offset, n) :: ps, by simp [hn, hps]⟩
theorem fillA_congr {p q : Nat → Option (Nat × Nat)} (hpq : ∀ i, p i = q i) : ∀ (ps : List (Nat × AV)) (cells : List AV), fillA p cells ps = fillA q cells ps
  | [], _ => rfl
  | (i, v) :: rest, cells => by
    simp only [fillA, hpq]
    cases q i with
    | none => rfl
    | some r => simp only [fillA_congr hpq rest]
theorem does_of_aeff (hev : ∀ x v, ev x = some v → VR j v (ρ x)) {o : Oper} {e : Eff} (h : aeff P ev o = some e) : Does P j (execOp ρ o) e := by
  obtain ⟨dst, op, type, pos, after, guard⟩ := o
  cases op <;> simp only [aeff] at h
  case move x =>
    obtain ⟨v, hv, rfl⟩ := map_some' h
    exact ⟨ρ x, hev _ _ hv, fun w => rfl⟩
  case assign x =>
    obtain ⟨v, hv, rfl⟩ := map_some' h
    exact ⟨ρ x, hev _ _ hv, fun w => rfl⟩
  case pick c a b =>
    split at h
    · rename_i hc
      obtain ⟨v, hv, rfl⟩ := map_some' h
      have hcv := hev _ _ hc
      generalize hr : ρ c = u at hcv
      cases hcv
      exact ⟨ρ a, hev _ _ hv, fun w => by simp [execOp, hr, asBool]⟩
    · rename_i hc
      obtain ⟨v, hv, rfl⟩ := map_some' h
      have hcv := hev _ _ hc
      generalize hr : ρ c = u at hcv
      cases hcv
      exact ⟨ρ b, hev _ _ hv, fun w => by simp [execOp, hr, asBool]⟩
    · cases h
  case alloc el =>
    obtain ⟨z, hz, rfl⟩ := map_some' h
    obtain ⟨i, v, hi, hzv, hv⟩ := zeroA_some (j := j) hz
    refine .new (ty := el) (v' := fun rb => .pointer (some ⟨rb, 0, none⟩)) hv (fun w => ?_) fun j' id rb hid => .p hid
    simp only [execOp]
    rw [run_v]
    simp only [Instr.alloc, Sem.run_bind, run_zeroValue' w hi hzv, Result.andThen_ok, newVar, newRow, run_newObj, Sem.run_pure]
  case box el x =>
    obtain ⟨v, hv, h⟩ := bind_some' h
    obtain ⟨hc, h⟩ := cond_some h
    injection h with h; subst h
    refine .new (ty := el) (v' := fun rb => .pointer (some ⟨rb, 0, none⟩)) ((hev _ _ hv).cells hc) (fun w => ?_) fun j' id rb hid => .p hid
    simp only [execOp]
    rw [run_v]
    simp only [Instr.box, Sem.run_bind, Result.andThen_ok, newVar, newRow, run_newObj, Sem.run_pure]
  case build t parts =>
    obtain ⟨z, hz, h⟩ := bind_some' h
    obtain ⟨ps, hps, h⟩ := bind_some' h
    obtain ⟨i, v, hi, hzv, hv⟩ := zeroA_some (j := j) hz
    have hparts := evParts_VR hev hps
    have hpl : (parts.map fun (i, x) => (i, ρ x)).toList = parts.toList.map fun (i, x) => (i, ρ x) := by simp
    split at h
    · rename_i fs hu
      obtain ⟨hc, h⟩ := cond_some h
      obtain ⟨cs, hcs, rfl⟩ := map_some' h
      obtain ⟨pl, hpl2⟩ := sizes_exist (P := P) fs.toList hc
      have hplace : ∀ i, placesOf P fs i = (pl.toArray[i]?) := by
        intro i
        have := congrArg (fun l => l[i]?) hpl2
        simp only [List.getElem?_map] at this
        unfold placesOf
        have e1 : fs[i]? = fs.toList[i]? := by simp
        rw [e1]
        cases hf : fs.toList[i]? with
        | none =>
          rw [hf] at this
          simp only [Option.map_none] at this
          cases hp : pl[i]? with
          | none => simp [hp]
          | some p => rw [hp] at this; simp at this
        | some f =>
          rw [hf] at this
          simp only [Option.map_some] at this
          cases hp : pl[i]? with
          | none => rw [hp] at this; simp at this
          | some p => rw [hp] at this; simp at this; simp [hp, this]
      rw [fillA_congr hplace] at hcs
      obtain ⟨r', h1, h2⟩ := fillA_run hcs hparts hv
      refine .q1 (s := Instr.build t (parts.map fun (i, x) => (i, ρ x))) ⟨.agg r'.toList.toArray, VR.agg' h2, fun w => ?_⟩ (fun w => by simp only [execOp]; exact run_v _ w)
      have hm := mapM_places (P := P) w fs.toList pl hpl2
      have hm' : (fs.mapM fun f => do pure (f.offset, ← sizeOf f.type) : Sem (Array (Nat × Nat))).run P w = .ok pl.toArray w := by
        rw [Array.mapM_eq_mapM_toList]
        simp only [Sem.run_map, hm, Result.andThen_ok]
      simp only [Instr.build, Sem.run_bind, run_zeroValue' w hi hzv, Result.andThen_ok, run_underlying' w hu, hm', hpl]
      rw [h1]
      simp
    · rename_i n el hu
      obtain ⟨sz, hs, h⟩ := bind_some' h
      obtain ⟨cs, hcs, rfl⟩ := map_some' h
      obtain ⟨r', h1, h2⟩ := fillA_run hcs hparts hv
      refine .q1 (s := Instr.build t (parts.map fun (i, x) => (i, ρ x))) ⟨.agg r'.toList.toArray, VR.agg' h2, fun w => ?_⟩ (fun w => by simp only [execOp]; exact run_v _ w)
      simp only [Instr.build, Sem.run_bind, run_zeroValue' w hi hzv, Result.andThen_ok, run_underlying' w hu, run_sizeOf' w hs, hpl]
      rw [h1]
      simp
    · cases h
  case buildSlice t len parts =>
    obtain ⟨el, he, h⟩ := bind_some' h
    obtain ⟨sz, hs, h⟩ := bind_some' h
    obtain ⟨ps, hps, h⟩ := bind_some' h
    obtain ⟨hc1, h⟩ := cond_some h
    obtain ⟨z, hz, h⟩ := bind_some' h
    obtain ⟨hc2, h⟩ := cond_some h
    obtain ⟨cs, hcs, rfl⟩ := map_some' h
    have hu := elemOfSlice_some he
    have hparts := evParts_VR hev hps
    have hpl : (parts.map fun (i, x) => (i, ρ x)).toList = parts.toList.map fun (i, x) => (i, ρ x) := by simp
    have hle := ble_le hc1
    have hsz : ∀ {cs : List AV} {r' : Array Value}, VRs j cs r'.toList → cs.length = len * sz → r'.size = len * sz := fun hv hl => by have := hv.length; simpa [hl] using this.symm
    have hfl : ∀ {place : Nat → Option (Nat × Nat)} {ps : List (Nat × AV)} {cells r : List AV}, fillA place cells ps = some r → r.length = cells.length := by
      intro place ps
      induction ps with
      | nil => intro cells r h; simp only [fillA, Option.some.injEq] at h; rw [h]
      | cons p ps ih =>
        intro cells r h
        simp only [fillA] at h
        split at h
        · cases h
        · obtain ⟨hc, h⟩ := cond_some h
          simp only [Bool.and_eq_true] at hc
          have h1 := beq_eq' hc.1.2
          have h2 := ble_le hc.2
          rw [ih h, splice_len _ _ _ (by omega)]
    cases hzero : Nat.beq (len * sz) 0 with
    | true =>
      have h0 := beq_eq' hzero
      rw [hzero, cond_true] at hcs
      obtain ⟨r', h1, h2⟩ := fillA_run (cs := #[]) hcs hparts .nil
      have hr := hsz h2 (by rw [hfl hcs, h0]; rfl)
      refine .new (cs' := r') (ty := el) (v' := fun rb => .slice (some ⟨rb, 0, none⟩) len len) h2 (fun w => ?_) fun j' id rb hid => .sl hid (fun _ => rfl) (Nat.le_refl _) (Nat.le_refl _) (fun _ => rfl) (by rw [hr]; omega)
      simp only [execOp]
      rw [run_v]
      have hng : ¬ (len * sz > 2 ^ 24) := by omega
      have hrange : ((Array.range (len * sz)).map fun i => (#[] : Array Value)[i % (#[] : Array Value).size]!) = #[] := by rw [h0]; simp
      simp only [Instr.buildSlice, Sem.run_bind, run_underlying' w hu, run_sizeOf' w hs, Result.andThen_ok, if_neg hng, if_pos h0, Sem.run_pure, hrange, hpl, h1, newRow, run_newObj]
    | false =>
      have h0 : ¬ len * sz = 0 := by
        intro e; rw [e] at hzero; cases hzero
      rw [hzero, cond_false] at hcs hz
      rw [hzero, Bool.false_or] at hc2
      have hzl := beq_eq' hc2
      obtain ⟨i, zv, hi, hzv, hzr⟩ := zeroA_some (j := j) hz
      obtain ⟨r', h1, h2⟩ := fillA_run hcs hparts (pat_VRs hzr hzl len)
      have hr := hsz h2 (by rw [hfl hcs, zeros_len, hzl])
      refine .new (cs' := r') (ty := el) (v' := fun rb => .slice (some ⟨rb, 0, none⟩) len len) h2 (fun w => ?_) fun j' id rb hid => .sl hid (fun _ => rfl) (Nat.le_refl _) (Nat.le_refl _) (fun _ => rfl) (by rw [hr]; omega)
      simp only [execOp]
      rw [run_v]
      have hng : ¬ (len * sz > 2 ^ 24) := by omega
      simp only [Instr.buildSlice, Sem.run_bind, run_underlying' w hu, run_sizeOf' w hs, Result.andThen_ok, if_neg hng, if_neg h0, run_zeroValue' w hi hzv, Sem.run_pure, hpl, h1, newRow, run_newObj]
  case load t a =>
    split at h
    · rename_i b o ha
      have hp := hev _ _ ha
      generalize hr : ρ a = u at hp
      cases hp with
      | @p _ rb d m _ hj =>
      split at h
      · rename_i hagg
        obtain ⟨n, hs, rfl⟩ := map_some' h
        refine ⟨rb, d, m, hj, fun w vs hvl hat j' cs v hcs hk => ?_⟩
        injection hk with hk; subst hk
        refine ⟨_, VR.agg' hcs, ?_⟩
        have hl := hat.loadCells (P := P)
        rw [hvl] at hl
        simp only [execOp, hr]
        rw [run_v]
        simp only [Instr.loadAt, Instr.sureAddr, loadVar, Sem.run_bind, Sem.run_pure, Result.andThen_ok, run_isAgg' w hagg, if_true, run_sizeOf' w hs, hl]
      · rename_i hagg
        injection h with h; subst h
        refine ⟨rb, d, m, hj, fun w vs hvl hat j' cs v hcs hk => ?_⟩
        cases hcs with
        | nil => cases hk
        | @cons c u cs us h1 t1 =>
        injection hk with hk; subst hk
        refine ⟨u, h1, ?_⟩
        have h0 := hat 0 u rfl
        rw [Nat.add_zero] at h0
        simp only [execOp, hr]
        rw [run_v]
        simp only [Instr.loadAt, Instr.sureAddr, loadVar, Sem.run_bind, Sem.run_pure, Result.andThen_ok, run_isAgg' w hagg, Bool.false_eq_true, if_false, run_load, h0]
      · cases h
    · cases h
  case store t a x =>
    split at h
    · rename_i b o v ha hx
      obtain ⟨n, hs, h⟩ := bind_some' h
      obtain ⟨hc, h⟩ := cond_some h
      injection h with h; subst h
      simp only [Bool.and_eq_true] at hc
      have hp := hev _ _ ha
      generalize hr : ρ a = u at hp
      cases hp with
      | @p _ rb d m _ hj =>
      have hxv := (hev _ _ hx).cells hc.1.1
      have hl : (ρ x).cells.toList.length = n := by rw [← hxv.length]; exact beq_eq' hc.1.2
      refine ⟨rb, d, m, hj, _, hxv, fun w hw => ⟨.skip, rfl, ?_⟩⟩
      have hst := run_storeVar' (P := P) hs hl hw
      simp [execOp, hr, Instr.storeAt, Instr.sureAddr, hst]
    · cases h
  case nilCheck x =>
    split at h
    · rename_i b o hx
      injection h with h; subst h
      have hp := hev _ _ hx
      generalize hr : ρ x = u at hp
      cases hp with
      | p hj => exact ⟨_, .p hj, fun w => by simp [execOp, hr]⟩
    · rename_i g cs hx
      injection h with h; subst h
      have hp := hev _ _ hx
      generalize hr : ρ x = u at hp
      obtain ⟨vs, rfl, hv⟩ := hp.f_inv
      exact ⟨_, VR.f' hv, fun w => by simp [execOp, hr]⟩
    · cases h
  case binOp op t x y yt =>
    split at h
    · rename_i a b hx hy
      obtain ⟨r, hr, rfl⟩ := map_some' h
      have hxv := hev _ _ hx
      have hyv := hev _ _ hy
      generalize hr1 : ρ x = u at hxv
      generalize hr2 : ρ y = v at hyv
      have key : ∀ {s : Sem Value}, Yields1 P j s r → (∀ w, (eqGuard op t x y u v).run P w = .ok () w) → (∀ w, s.run P w = (binOp op t u v).run P w) → Does P j (execOp ρ ⟨dst, .binOp op t x y yt, type, pos, after, guard⟩) (.q r) := by
        intro s ⟨v', h1, h2⟩ h3 h4
        refine ⟨v', h1, fun w => ?_⟩
        simp only [execOp, hr1, hr2]
        rw [run_v]
        simp only [Sem.run_bind, h3, Result.andThen_ok, ← h4, h2]
      have guardInt : ∀ (k k' : IntKind) (a b : Int) w, (eqGuard op t x y (.int k a) (.int k' b)).run P w = .ok () w := by
        intro k k' a b w; unfold eqGuard; cases op <;> rfl
      unfold binA at hr
      split at hr
      · cases hxv; cases hyv
        rename_i k a k' b
        split at hr
        · exact key (shiftA_run (t := t) (k' := k') hr) (guardInt _ _ _ _) fun _ => rfl
        · exact key (shiftA_run (t := t) (k' := k') hr) (guardInt _ _ _ _) fun _ => rfl
        · rename_i hn1 hn2
          have hr' := cond_some hr
          clear hr
          obtain ⟨hk, hr⟩ := hr'
          have := kEq_eq hk; subst this
          exact key (intA_run (t := t) hn1 hn2 hr) (guardInt _ _ _ _) fun _ => rfl
      · cases hxv with
        | s s1 =>
        cases hyv with
        | s s2 =>
        exact key (strA_run (t := t) hr) (fun w => by unfold eqGuard; cases op <;> rfl) fun _ => rfl
      · have hg : ∀ c, eqA P t a b = some c → ∀ w, (eqGuard op t x y u v).run P w = .ok () w := by
          intro c hc w
          unfold eqGuard
          unfold eqA at hc
          split at hc
          all_goals first
            | (cases hc; done)
            | (cases hxv; cases hyv; cases op <;> rfl; done)
            | (obtain ⟨us, rfl, _⟩ := hyv.f_inv; cases hxv; cases op <;> rfl; done)
            | (obtain ⟨us, rfl, _⟩ := hxv.f_inv; cases hyv; cases op <;> rfl; done)
            | skip
          · obtain ⟨hcc, _⟩ := cond_some hc
            simp only [Bool.and_eq_true] at hcc
            obtain ⟨vs, rfl, _⟩ := hxv.agg_inv
            obtain ⟨us, rfl, _⟩ := hyv.agg_inv
            have h4 : P.eqGuardType P.depth t = false := by
              have := hcc.1
              unfold intStruct at this
              split at this
              · simp only [Bool.and_eq_true, Bool.not_eq_true'] at this
                exact this.2
              · cases this
            cases op <;> first | rfl | simp [h4]
        have hbin : ∀ w, op = .eql → (binOp op t u v).run P w = ((Op.equal t u v).run P w).andThen fun c w' => .ok (.bool c) w' := by
          intro w ho; subst ho
          cases hxv <;> cases hyv <;> first | (simp [binOp]; done) | (simp [eqA] at hr; done)
        have hbin2 : ∀ w, op = .neq → (binOp op t u v).run P w = ((Op.equal t u v).run P w).andThen fun c w' => .ok (.bool (!c)) w' := by
          intro w ho; subst ho
          cases hxv <;> cases hyv <;> first | (simp [binOp]; done) | (simp [eqA] at hr; done)
        split at hr
        · obtain ⟨c, hc, rfl⟩ := map_some' hr
          exact key (s := binOp .eql t u v) ⟨.bool c, .b c, fun w => by rw [hbin w rfl, eqA_run hc hxv hyv w]; rfl⟩ (hg c hc) fun _ => rfl
        · obtain ⟨c, hc, rfl⟩ := map_some' hr
          exact key (s := binOp .neq t u v) ⟨.bool (!c), .b (!c), fun w => by rw [hbin2 w rfl, eqA_run hc hxv hyv w]; rfl⟩ (hg c hc) fun _ => rfl
        · cases hr
    · cases h
  case unOp op t x =>
    obtain ⟨v, hv, h⟩ := bind_some' h
    obtain ⟨r, hr, rfl⟩ := map_some' h
    have hxv := hev _ _ hv
    generalize hr1 : ρ x = u at hxv
    unfold unA at hr
    split at hr
    · injection hr with hr; subst hr
      cases hxv
      exact ⟨_, .b _, fun w => by simp only [execOp, hr1]; rw [run_v]; rfl⟩
    · rename_i k n _
      injection hr with hr; subst hr
      cases hxv
      refine ⟨.int k (k.wrap (0 - n)), .i' k (by rw [wrapA_eq]; congr 1; show -n = 0 - n; omega), fun w => by simp only [execOp, hr1]; rw [run_v]; rfl⟩
    · rename_i k n _
      obtain ⟨hc, hr⟩ := cond_some hr
      injection hr with hr; subst hr
      simp only [Bool.and_eq_true] at hc
      cases hxv
      have hlow := beq_eq' hc.1
      have hns : k.signed = false := by cases k <;> first | rfl | cases hlow
      have hmax : k.max = ((Nat.pred (kMod k) : Nat) : Int) := by cases k <;> first | rfl | cases hlow
      have hm1 : Nat.pred (kMod k) < kMod k := Nat.pred_lt (by cases k <;> decide)
      have e1 := ofInt_toNat (k := k) hm1
      have e2 := ofInt_toNat (k := k) (blt_lt hc.2)
      refine ⟨.int k (k.wrap ((Nat.xor (Nat.pred (kMod k)) n : Nat) : Int)), .i' k (wrapA_eq k _), fun w => ?_⟩
      simp only [execOp, hr1]
      rw [run_v]
      have : (Op.unary .xor (.int k (Int.ofNat n))).run P w = .ok (.int k (k.wrap ((Nat.xor (Nat.pred (kMod k)) n : Nat) : Int))) w := by
        simp only [Op.unary, Op.intBits, hns, Bool.false_eq_true, if_false, hmax]
        have e3 : (BitVec.ofInt k.bits ((Nat.pred (kMod k) : Nat) : Int) ^^^ BitVec.ofInt k.bits (Int.ofNat n)).toNat = Nat.xor (Nat.pred (kMod k)) n := by
          rw [BitVec.toNat_xor]
          have : BitVec.ofInt k.bits ((Nat.pred (kMod k) : Nat) : Int) = BitVec.ofInt k.bits (Int.ofNat (Nat.pred (kMod k))) := rfl
          rw [this, e1, e2]; rfl
        rw [e3]; rfl
      rw [this]; rfl
    · cases hr
  case convert src dst x =>
    obtain ⟨v, hv, h⟩ := bind_some' h
    exact convertA_run h (hev _ _ hv)
  case makeFunc fn first captured =>
    cases fn <;> simp only at h <;> first | (cases h; done) | skip
    rename_i g
    obtain ⟨hc, h⟩ := cond_some h
    obtain ⟨cs, hcs, rfl⟩ := map_some' h
    have hf : first.map ρ = #[] := by
      have : first.size = 0 := by simpa using hc
      have : first = #[] := by simpa using this
      rw [this]; simp
    have hv := evAll_VRs hev hcs
    have e : (captured.toList.map ρ).toArray = captured.map ρ := by apply Array.ext'; simp
    refine ⟨_, VR.f' hv, fun w => ?_⟩
    simp only [execOp, hf, e]
    rfl
  case makeSlice t l c =>
    obtain ⟨el, he, h⟩ := bind_some' h
    obtain ⟨sz, hs, h⟩ := bind_some' h
    obtain ⟨lv, hl, h⟩ := bind_some' h
    obtain ⟨cv, hcv, h⟩ := bind_some' h
    obtain ⟨n, hn, h⟩ := bind_some' h
    obtain ⟨m, hm, h⟩ := bind_some' h
    obtain ⟨z, hz, h⟩ := bind_some' h
    obtain ⟨hc, h⟩ := cond_some h
    injection h with h; subst h
    simp only [Bool.and_eq_true] at hc
    obtain ⟨⟨⟨h1, h2⟩, h3⟩, h4⟩ := hc
    have hle := ble_le h1
    have hby := ble_le h2
    have hmlt := blt_lt h3
    have hzl := beq_eq' h4
    have hu := elemOfSlice_some he
    obtain ⟨i, zv, hi, hzv, hzr⟩ := zeroA_some (j := j) hz
    rw [bytesOf_info hi] at hby
    obtain ⟨k1, rfl⟩ := natOf_some hn
    obtain ⟨k2, rfl⟩ := natOf_some hm
    have hlv := hev _ _ hl
    have hcvv := hev _ _ hcv
    generalize hr1 : ρ l = u1 at hlv
    generalize hr2 : ρ c = u2 at hcvv
    cases hlv; cases hcvv
    have hv := pat_VRs hzr hzl m
    have hsize : ((Array.range (m * sz)).map fun i => zv.cells[i % zv.cells.size]!).size = m * sz := by simp
    refine .new (ty := el) (cs' := (Array.range (m * sz)).map fun i => zv.cells[i % zv.cells.size]!) (v' := fun rb => .slice (some ⟨rb, 0, none⟩) n m) hv (fun w => ?_) fun j' id rb hid => .sl hid (fun _ => rfl) hle (Nat.le_refl _) (fun _ => rfl) (by rw [hsize]; omega)
    simp only [execOp, hr1, hr2]
    rw [run_v]
    have hwrap : ∀ q : Nat, q < 1073741824 → IntKind.i64.wrap (q : Int) = q := by
      intro q hq
      rw [← wrapA_eq]
      have : inKind .i64 (q : Int) = true := by
        show Nat.blt q 9223372036854775808 = true
        rw [Nat.blt_eq]; omega
      unfold wrapA; rw [this]; rfl
    have hw1 := hwrap n (by omega)
    have hw2 := hwrap m hmlt
    have hnl : ¬ ((n : Int) < 0) := by omega
    have hng : ¬ ((n : Int) > (m : Int)) := by omega
    have hm0 : ¬ ((m : Int) < 0) := by omega
    have hb : ¬ ((i.bytes : Int) * (m : Int) > 2 ^ 48) := by
      have h3 : (i.bytes : Int) * (m : Int) = ((m * i.bytes : Nat) : Int) := by rw [Int.mul_comm]; push_cast; rfl
      have h4 : (2 ^ 48 : Int) = 281474976710656 := rfl
      rw [h3, h4]
      omega
    have hcond : (decide ((m : Int) < 0) || decide ((i.bytes : Int) * (m : Int) > 2 ^ 48)) = false := by rw [decide_eq_false hm0, decide_eq_false hb]; rfl
    by_cases h0 : m * sz = 0
    · have hr : ((Array.range (m * sz)).map fun i => zv.cells[i % zv.cells.size]!) = #[] := by rw [h0]; simp
      have hr' : ((Array.range (m * sz)).map fun i => (#[] : Array Value)[i % (#[] : Array Value).size]!) = #[] := by rw [h0]; simp
      simp only [Instr.makeSlice, Sem.run_bind, run_underlying' w hu, Result.andThen_ok, asInt, asIntOf, Sem.run_pure, run_typeInfo' w hi, hw1, hw2, hcond, hnl, hng, decide_false, Bool.or_false, Bool.false_or, Bool.false_eq_true, if_false, run_askRoom, Int.toNat_natCast, run_sizeOf' w hs, if_pos h0, hr', hr, newRow, run_newObj]
    · simp only [Instr.makeSlice, Sem.run_bind, run_underlying' w hu, Result.andThen_ok, asInt, asIntOf, Sem.run_pure, run_typeInfo' w hi, hw1, hw2, hcond, hnl, hng, decide_false, Bool.or_false, Bool.false_or, Bool.false_eq_true, if_false, run_askRoom, Int.toNat_natCast, run_sizeOf' w hs, if_neg h0, run_zeroValue' w hi hzv, newRow, run_newObj]
  case slice t x lo hi mx =>
    obtain ⟨v, hv, h⟩ := bind_some' h
    obtain ⟨r, hr, rfl⟩ := map_some' h
    exact .q1 (sliceA_run hev hr (hev _ _ hv)) fun w => by simp only [execOp]; exact run_v _ w
  case fieldAddr s x f =>
    split at h
    · rename_i fs b o hu hx
      split at h
      · rename_i fl hfl
        obtain ⟨n, hn, h⟩ := bind_some' h
        cases hz : Nat.beq n 0 with
        | true => rw [hz] at h; cases h
        | false =>
          rw [hz, cond_false] at h
          injection h with h; subst h
          have hp := hev _ _ hx
          generalize hr : ρ x = u at hp
          cases hp with
          | @p _ rb d m _ hj =>
          have hne : ¬ n = 0 := fun e => by rw [e] at hz; cases hz
          refine ⟨.pointer (some ⟨rb, o + fl.offset + d, none⟩), .p hj, fun w => ?_⟩
          simp only [execOp, hr]
          rw [run_v]
          simp only [Instr.fieldAt, Sem.run_bind, run_underlying' w hu, Result.andThen_ok, hfl, Instr.sureAddr, Sem.run_pure, fieldPlace, run_sizeOf' w hn, if_neg hne, add_none]
          rw [show o + d + fl.offset = o + fl.offset + d by omega]
      · cases h
    · cases h
  case field t x f =>
    split at h
    · rename_i fs cs hu hx
      split at h
      · rename_i fl hfl
        obtain ⟨r, hr, rfl⟩ := map_some' h
        have hp := hev _ _ hx
        generalize hr1 : ρ x = u at hp
        obtain ⟨vs, rfl, hv⟩ := hp.agg_inv
        obtain ⟨v', h1, h2⟩ := run_part' hr hv
        refine .q1 (s := Instr.field t (.agg vs.toArray) f) ⟨v', h1, fun w => ?_⟩ fun w => by simp only [execOp, hr1]; exact run_v _ w
        simp only [Instr.field, Sem.run_bind, run_underlying' w hu, Result.andThen_ok, hfl, asAgg, Sem.run_pure, h2]
      · cases h
    · cases h
  case indexAddr t x ix =>
    split at h
    · rename_i a b ha hb
      obtain ⟨r, hr, rfl⟩ := map_some' h
      exact .q1 (indexA_run hr (hev _ _ ha) (hev _ _ hb)) fun w => by simp only [execOp]; exact run_v _ w
    · cases h
  case index t x ix =>
    split at h
    · rename_i a b ha hb
      obtain ⟨r, hr, rfl⟩ := map_some' h
      exact .q1 (indexV_run hr (hev _ _ ha) (hev _ _ hb)) fun w => by simp only [execOp]; exact run_v _ w
    · cases h
  case extract t ix =>
    split at h
    · rename_i vs ht
      obtain ⟨r, hr, rfl⟩ := map_some' h
      have hp := hev _ _ ht
      generalize hr1 : ρ t = u at hp
      obtain ⟨us, rfl, hv⟩ := hp.tup_inv
      rw [nthL_eq] at hr
      obtain ⟨v', h1, h2⟩ := hv.get hr
      exact ⟨v', h2, fun w => by simp only [execOp, hr1]; rw [run_v]; simp [Instr.extract, h1]⟩
    · cases h
  case call c =>
    obtain ⟨args, hargs, h'⟩ := bind_some' h
    clear h
    have hv := evAll_VRs hev hargs
    obtain ⟨callee, cargs, cty⟩ := c
    have hmap : cargs.map ρ = (cargs.toList.map ρ).toArray := by apply Array.ext'; simp
    cases callee with
    | builtin b =>
      have := builtinA_run (ty := type) (consts := cargs.map fun | .const _ => true | _ => false) h' hv
      have he : execOp ρ ⟨dst, .call ⟨.builtin b, cargs, cty⟩, type, pos, after, guard⟩ = builtin b cty type (cargs.map fun | .const _ => true | _ => false) (cargs.toList.map ρ).toArray := by
        rw [← hmap]; rfl
      rw [he]; exact this
    | value g =>
      simp only at h'
      split at h'
      · rename_i f caps hgv
        have h2 := cond_some h'
        clear h'
        obtain ⟨hc, h2⟩ := h2
        injection h2 with h2; subst h2
        have hp := hev _ _ hgv
        generalize hr1 : ρ g = u at hp
        obtain ⟨us, rfl, hus⟩ := hp.f_inv
        refine ⟨_, hv.append hus, fun w => ?_⟩
        unfold fnOk at hc
        cases hfn : P.funcs[f]? with
        | none => rw [hfn] at hc; cases hc
        | some fn =>
          rw [hfn] at hc
          simp only [Bool.and_eq_true] at hc
          have hb : fn.body.isNone = false := by
            cases hfb : fn.body with
            | none => rw [hfb] at hc; cases hc.1
            | some _ => rfl
          have hne : (fn.name == "runtime.NumGoroutine") = false := by
            have := hc.2
            simpa [bne] using this
          simp only [execOp, resolve, hr1, Deferred.ofValue, Sem.run_bind, Sem.run_pure, Result.andThen_ok, invoke, callFunc, run_program, hfn, hne, hb, Bool.false_eq_true, if_false, hmap]
          congr 2
          simp
      · cases h'
    | invoke r n => cases h'
  all_goals (cases h; done)
end
end Go.Proofs.YthnhdgcaolgdnaaAn
