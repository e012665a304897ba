/- One operation, in the model's memory. -/
import Derived.Test.YthnhdgcaolgdnaaAnK
set_option linter.unusedVariables false
set_option linter.unusedSimpArgs false
namespace Go.Proofs.YthnhdgcaolgdnaaAn
open Go

def CallOk (P : Program) (call : CallA) : Prop := ∀ (f : FuncId) (args : List AV) (H : Heap) (v : AV) (H' : Heap) (j : Inj) (w : World) (args' : List Value),
  call f args H = some (v, H') → Rel j H w → VRs j args args' → Calls P f args'.toArray w fun e w' => ∃ v' j', e = .returned v' ∧ VR j' v v' ∧ Rel j' H' w' ∧ Ext j H w j' H' w'
def PutV (j : Inj) : Option AV → Value → Prop
  | none, v => v = undef
  | some a, v => VR j a v

section
variable {P : Program} {j : Inj} {H : Heap} {w : World}
theorem Rel.src (h : Rel j H w) {src : Src} {new : List AV} (hr : rdSrc H src = some new) {F : World → List Value → Prop} (hF : SrcDoes j src F) : ∃ new', VRs j new new' ∧ F w new' := by
  cases src with
  | lit l =>
    injection hr with hr; subst hr
    obtain ⟨new', h1, h2⟩ := hF
    exact ⟨new', h1, h2 w⟩
  | mem b o n =>
    obtain ⟨rb, d, m, hj, hF⟩ := hF
    obtain ⟨vs, h1, h2, h3⟩ := h.rd hr hj
    exact ⟨vs, h3, hF w vs h1 h2⟩
/-- a real block of what is appended to, and of what is appended -/
theorem holds_new (j : Inj) {w w' : World} {cells : List AV} {vs rest : List Value} {ty : TypeId} {rb : Nat} (hv : VRs j cells vs) (hw : w'.heap[rb]? = some (.cells (vs ++ rest).toArray ty)) :
    Holds false j w' cells rb 0 (vs.length + rest.length) :=
  ⟨(vs ++ rest).toArray, ty, 0, 0, hw, by simp, .inr (.inl rfl), [], vs, rest, by simp, rfl, hv⟩
theorem app_wp {s : Sem Next} {sv : AV} {n : Nat} {src : Src} {sz : Nat} {r : AV} {H' : Heap} (hd : Does P j s (.app sv n src sz)) (he : appA H sv n src sz = some (r, H')) (hR : Rel j H w) :
    ∃ v' w' j', s.run P w = .ok (.value v') w' ∧ VR j' r v' ∧ Rel j' H' w' ∧ Ext j H w j' H' w' := by
  obtain ⟨base, slen, scap, hsv, hsrc⟩ := hd
  unfold appA at he
  obtain ⟨new, hnew, he⟩ := bind_some' he
  obtain ⟨hlen, he⟩ := cond_some he
  have hlen := beq_eq' hlen
  obtain ⟨new', hv, happ⟩ := hR.src hnew hsrc
  have hlen' : new'.length = n * sz := by rw [← hv.length]; exact hlen
  have grow : ∀ (old : List AV) (old' : List Value), VRs j old old' → old.length = slen * sz → scap < slen + n → slen + n < 32000000 → (base = none → old' = []) → (∀ a, base = some a → old' ≠ [] → a.spot = none ∧ At w a.block a.off old') →
      ∃ v' w' j', s.run P w = .ok (.value v') w' ∧ VR j' (.sl H.next 0 (slen + n) (slen + n) false sz) v' ∧ Rel j' (alloc H (old ++ new)) w' ∧ Ext j H w j' (alloc H (old ++ new)) w' := by
    intro old old' hov hol hlt hsm hob hoat
    obtain ⟨cap, ty, rest, dr, g1, g2, g3⟩ := (happ hlen' hsm).2 hlt old' (by rw [← hov.length]; exact hol) hob hoat
    have hsize : (old' ++ new').length + rest.length = cap * sz := by
      rw [List.length_append, ← hov.length, hol, hlen', g2]
      have : slen * sz + n * sz + (cap - (slen + n)) * sz = cap * sz := by rw [← Nat.add_mul, ← Nat.add_mul]; congr 1; omega
      exact this
    refine ⟨_, _, j.add H.next (w.heap.size, 0, cap * sz), g3, ?_, ?_⟩
    · exact .sl (Inj.add_same _ _ _) (fun _ => rfl) (Nat.le_refl _) g1 (fun h => by cases h) (by omega)
    · have hle : j.le (j.add H.next (w.heap.size, 0, cap * sz)) := Inj.le_add _ hR.next_none
      refine hR.alloc ?_ (fun k hk => ?_) rfl rfl rfl
      · have hh := holds_new (w := w) (j.add H.next (w.heap.size, 0, cap * sz)) (rb := w.heap.size) (w' := { w with heap := w.heap.push (.cells (old' ++ new' ++ rest).toArray ty), drawn := w.drawn + dr }) (VRs.mono hle (hov.append hv)) (rest := rest) (ty := ty) (by simp)
        rw [hsize] at hh
        exact hh
      · show (w.heap.push _)[k]? = _
        rw [Array.getElem?_push, if_neg (by omega)]
  split at he
  · cases hsv
    cases hz : Nat.beq n 0 with
    | true =>
      rw [hz, cond_true] at he
      injection he with he; injection he with h1 h2; subst h1; subst h2
      have := beq_eq' hz; subst this
      have hnil : new' = [] := List.eq_nil_of_length_eq_zero (by simpa using hlen')
      have hr := (happ hlen' (by omega)).1 (by omega) (fun a ha _ => by cases ha) (fun _ => hnil)
      exact ⟨_, _, j, hr, .ns, hR, Ext.refl _ _ _⟩
    | false =>
      rw [hz, cond_false] at he
      obtain ⟨hsm, he⟩ := cond_some he
      injection he with he; injection he with h1 h2; subst h1; subst h2
      have hpos : 0 < n := by
        rcases Nat.eq_zero_or_pos n with h | h
        · subst h; cases hz
        · exact h
      have := grow [] [] .nil (by simp) (by omega) (by have := blt_lt hsm; omega) (fun _ => rfl) (fun a ha _ => by cases ha)
      simpa using this
  · cases hsv
    cases hz : Nat.beq n 0 with
    | true =>
      rw [hz, cond_true] at he
      injection he with he; injection he with h1 h2; subst h1; subst h2
      have := beq_eq' hz; subst this
      have hnil : new' = [] := List.eq_nil_of_length_eq_zero (by simpa using hlen')
      have hr := (happ hlen' (by omega)).1 (by omega) (fun a ha h0 => absurd hnil h0) (fun _ => hnil)
      subst hnil
      exact ⟨_, _, j, hr, .e _, hR, Ext.refl _ _ _⟩
    | false =>
      rw [hz, cond_false] at he
      obtain ⟨hsm, he⟩ := cond_some he
      injection he with he; injection he with h1 h2; subst h1; subst h2
      have hpos : 0 < n := by
        rcases Nat.eq_zero_or_pos n with h | h
        · subst h; cases hz
        · exact h
      have := grow [] [] .nil (by simp) (by omega) (by have := blt_lt hsm; omega) (fun _ => rfl) (fun a ha h0 => absurd rfl h0)
      simpa using this
  · rename_i b o len lo ex z _ _
    obtain ⟨hc, he⟩ := cond_some he
    simp only [Bool.and_eq_true] at hc
    have hz := beq_eq' hc.1
    subst hz
    have hsm := blt_lt hc.2
    cases hsv with
    | @sl _ _ len _ _ _ rb d m oo cap hj ho hl hcp hex hb =>
    cases hfit : Nat.ble (slen + n) lo with
    | true =>
      rw [hfit, cond_true] at he
      have hfit := ble_le hfit
      cases hn0 : Nat.beq n 0 with
      | true =>
        rw [hn0, cond_true] at he
        injection he with he; injection he with h1 h2; subst h1; subst h2
        have := beq_eq' hn0; subst this
        have hnil : new' = [] := List.eq_nil_of_length_eq_zero (by simpa using hlen')
        subst hnil
        have hr := (happ hlen' (by omega)).1 (by omega) (fun a ha _ => ⟨(by injection ha with ha; subst ha; rfl), ⟨(fun i hi => by cases hi), (fun i hi => by cases hi), (fun v hv => by cases hv)⟩⟩) (fun h => by cases h)
        exact ⟨_, _, j, hr, .sl hj ho hl hcp hex hb, hR, Ext.refl _ _ _⟩
      | false =>
        rw [hn0, cond_false] at he
        obtain ⟨H1, hwr, he⟩ := map_some' he
        injection he with h1 h2; subst h1; subst h2
        obtain ⟨cells, hbc, hwr⟩ := bind_some' hwr
        obtain ⟨hcc, hwr⟩ := cond_some hwr
        injection hwr with hwr; subst hwr
        simp only [Bool.and_eq_true] at hcc
        have hpos : 0 < n := by
          rcases Nat.eq_zero_or_pos n with h | h
          · subst h; cases hn0
          · exact h
        have hoo := ho (by omega)
        subst hoo
        obtain ⟨hw, hrel, hext⟩ := hR.write hbc hj (ble_le hcc.2.1) hv hcc.2.2 (ble_le hcc.1)
        rw [show o + slen * z + d = o + d + slen * z by omega] at hw hrel hext
        have hr := (happ hlen' hsm).1 (by omega) (fun a ha _ => by injection ha with ha; subst ha; exact ⟨rfl, hw⟩) (fun h => by cases h)
        exact ⟨_, _, j, hr, .sl hj (fun _ => rfl) hfit hcp hex hb, hrel, hext⟩
    | false =>
      rw [hfit, cond_false] at he
      have hnfit : lo < slen + n := by
        rcases Nat.lt_or_ge lo (slen + n) with h | h
        · exact h
        · rw [Nat.ble_eq_true_of_le h] at hfit; cases hfit
      have holdget : ∀ {cs old : List AV}, H.get b = some cs → (cond (Nat.beq slen 0) (some []) (sub? cs o (slen * z))) = some old → ∃ old', VRs j old old' ∧ old.length = slen * z ∧ At w rb oo old' := by
        intro cs old hbc hold
        cases hl0 : Nat.beq slen 0 with
        | true =>
          rw [hl0, cond_true] at hold
          injection hold with hold; subst hold
          have := beq_eq' hl0; subst this
          exact ⟨[], .nil, by simp, fun i v hv => by simp at hv⟩
        | false =>
          rw [hl0, cond_false] at hold
          have hpos : 0 < slen := by
            rcases Nat.eq_zero_or_pos slen with h | h
            · subst h; cases hl0
            · exact h
          have hoo := ho (by omega)
          subst hoo
          obtain ⟨vs, g1, g2, g3⟩ := (hR.blk b cs rb d m hbc hj).at hold
          exact ⟨vs, g3, by rw [g3.length, g1], g2⟩
      cases ex with
      | true =>
        rw [cond_true] at he
        obtain ⟨old, hold, he⟩ := bind_some' he
        injection he with he; injection he with h1 h2; subst h1; subst h2
        have hcap := hex rfl
        have : ∃ old', VRs j old old' ∧ old.length = slen * z ∧ At w rb oo old' := by
          cases hl0 : Nat.beq slen 0 with
          | true =>
            rw [hl0, cond_true] at hold
            injection hold with hold; subst hold
            have := beq_eq' hl0; subst this
            exact ⟨[], .nil, by simp, fun i v hv => by simp at hv⟩
          | false =>
            rw [hl0, cond_false] at hold
            obtain ⟨cs, hbc, hs⟩ := bind_some' hold
            exact holdget hbc (by rw [hl0, cond_false]; exact hs)
        obtain ⟨old', g1, g2, g3⟩ := this
        exact grow old old' g1 g2 (by omega) hsm (fun h => by cases h) (fun a ha _ => by injection ha with ha; subst ha; exact ⟨rfl, g3⟩)
      | false =>
        rw [cond_false] at he
        obtain ⟨cs, hbc, he⟩ := bind_some' he
        obtain ⟨old, hold, he⟩ := bind_some' he
        obtain ⟨hsc, he⟩ := cond_some he
        simp only [Bool.and_eq_true] at hsc
        obtain ⟨hlow, hsc⟩ := hsc
        have hlow := ble_le hlow
        injection he with he; injection he with h1 h2; subst h1; subst h2
        obtain ⟨old', g1, g2, g3⟩ := holdget hbc hold
        obtain ⟨hRk, hEk⟩ := hR.kill b hlow
        rcases Nat.lt_or_ge scap (slen + n) with hlt | hge
        · -- new memory
          obtain ⟨ncap, ty, rest, dr, q1, q2, q3⟩ := (happ hlen' hsm).2 hlt old' (by rw [← g1.length]; exact g2) (fun h => by cases h) (fun a ha _ => by injection ha with ha; subst ha; exact ⟨rfl, g3⟩)
          have hsize : (old' ++ new').length + rest.length = ncap * z := by
            rw [List.length_append, ← g1.length, g2, hlen', q2]
            have : slen * z + n * z + (ncap - (slen + n)) * z = ncap * z := by rw [← Nat.add_mul, ← Nat.add_mul]; congr 1; omega
            exact this
          refine ⟨_, _, j.add H.next (w.heap.size, 0, ncap * z), q3, .sl (Inj.add_same _ _ _) (fun _ => rfl) (Nat.le_refl _) q1 (fun h => by cases h) (by omega), ?_⟩
          have hle : j.le (j.add H.next (w.heap.size, 0, ncap * z)) := Inj.le_add _ hR.next_none
          have hh := holds_new (w := w) (j.add H.next (w.heap.size, 0, ncap * z)) (rb := w.heap.size) (w' := { w with heap := w.heap.push (.cells (old' ++ new' ++ rest).toArray ty), drawn := w.drawn + dr }) (VRs.mono hle (g1.append hv)) (rest := rest) (ty := ty) (by simp)
          rw [hsize] at hh
          obtain ⟨a1, a2⟩ := hRk.alloc (w' := { w with heap := w.heap.push (.cells (old' ++ new' ++ rest).toArray ty), drawn := w.drawn + dr }) hh (fun k hk => by show (w.heap.push _)[k]? = _; rw [Array.getElem?_push, if_neg (by omega)]) rfl rfl rfl
          exact ⟨a1, hEk.trans a2⟩
        · -- in place
          have hbk := hR.blk b cs rb d m hbc hj
          rw [decide_eq_false (by omega)] at hbk
          obtain ⟨rc, ty, flo, fhi, p1, p2, p3, pre, us, post, p4, p5, p6⟩ := hbk
          have p3 := p3.resolve_left (by simp)
          have hsum : slen * z + n * z ≤ scap * z := by rw [← Nat.add_mul]; exact Nat.mul_le_mul_right _ hge
          have hin : oo + slen * z + new'.length ≤ rc.size := by rw [hlen', p2]; omega
          have hcell : ∀ i, w.cell? ⟨rb, i, none⟩ = rc[i]? := by
            intro i
            simp only [World.cell?, p1, Option.isSome_none, Bool.false_eq_true, if_false]
          have hwr : Writable w rb (oo + slen * z) new' := by
            refine ⟨fun i hi => ?_, fun i hi => ?_, hv.sc_one hsc⟩
            · rw [hcell, Array.getElem?_eq_getElem (by omega)]; rfl
            · simp only [World.frozen?, p1]
              have := p3
              simp only [Bool.and_eq_false_iff, decide_eq_false_iff_not]
              omega
          have hr := (happ hlen' hsm).1 hge (fun a ha _ => by injection ha with ha; subst ha; exact ⟨rfl, hwr⟩) (fun h => by cases h)
          obtain ⟨rc', s1, s2⟩ := setCells_at new' (oo + slen * z) w rb rc ty (flo, fhi) p1 hin
          have hle : j.le (j.add H.next (rb, oo, m)) := Inj.le_add _ hR.next_none
          have hol : old'.length = slen * z := by rw [← g1.length]; exact g2
          have htake : rc.toList.take (oo + slen * z) = rc.toList.take oo ++ old' := by
            apply List.ext_getElem?
            intro i
            by_cases hi : i < oo
            · rw [List.getElem?_append_left (by simp; omega), List.getElem?_take_of_lt (by omega), List.getElem?_take_of_lt hi]
            · rw [List.getElem?_append_right (by simp; omega)]
              have hmin : (rc.toList.take oo).length = oo := by simp; omega
              rw [hmin]
              by_cases hi2 : i < oo + slen * z
              · rw [List.getElem?_take_of_lt hi2]
                have hlt : i - oo < old'.length := by omega
                have := g3 (i - oo) _ (List.getElem?_eq_getElem hlt)
                rw [hcell, show oo + (i - oo) = i by omega] at this
                rw [List.getElem?_eq_getElem hlt, ← this]
                simp
              · rw [List.getElem?_eq_none (by simp; omega), List.getElem?_eq_none (by omega)]
          have hh : Holds false (j.add H.next (rb, oo, m)) (w.setCells rb (oo + slen * z) new') (old ++ new) rb oo m := by
            refine ⟨rc', ty, flo, fhi, s1, ?_, .inr p3, rc.toList.take oo, old' ++ new', rc.toList.drop (oo + slen * z + new'.length), ?_, by simp; omega, VRs.mono hle (g1.append hv)⟩
            · have := congrArg List.length s2
              simp at this; omega
            · rw [s2, htake]; simp
          obtain ⟨r1, r2, r3⟩ := setCells_rest new' (oo + slen * z) w rb
          obtain ⟨a1, a2⟩ := hR.take hbc hj hlow hh (fun k hk => setCells_other _ _ _ _ _ hk) (setCells_size _ _ _ _) r1 r2 r3
          exact ⟨_, _, _, hr, .sl (Inj.add_same _ _ _) (fun _ => by omega) (Nat.le_refl _) hge (fun h => by cases h) hb, a1, a2⟩
  · cases he
/-- a mark behind a block's end changes nothing -/
theorem freeze_at {w : World} {rb : Nat} {rc : Array Value} {ty : TypeId} {fz : Nat × Nat} (h : w.heap[rb]? = some (.cells rc ty fz)) :
    (w.freeze ⟨rb, rc.size, none⟩ 1).heap[rb]? = some (.cells rc ty (if fz.1 == fz.2 then (rc.size, rc.size + 1) else (min fz.1 rc.size, max fz.2 (rc.size + 1)))) := by
  obtain ⟨lo, hi⟩ := fz
  simp only [World.freeze, Nat.one_ne_zero, if_false, Array.getElem?_modify, if_true, h, Option.map_some]
theorem freeze_ne {w : World} {rb k n : Nat} (h : k ≠ rb) : (w.freeze ⟨rb, n, none⟩ 1).heap[k]? = w.heap[k]? := by
  simp only [World.freeze, Nat.one_ne_zero, if_false, Array.getElem?_modify]
  rw [if_neg (Ne.symm h)]
theorem Holds.freeze {r : Bool} {w : World} {cells : List AV} {rb d n : Nat} (hh : Holds r j w cells rb d n) {rb' : Nat} {rc' : Array Value} {ty' : TypeId} {fz' : Nat × Nat} (h : w.heap[rb']? = some (.cells rc' ty' fz')) :
    Holds r j (w.freeze ⟨rb', rc'.size, none⟩ 1) cells rb d n := by
  obtain ⟨rc, ty, lo, hi, h1, h2, h3, h4⟩ := hh
  by_cases e : rb = rb'
  · subst e
    rw [h] at h1; injection h1 with h1; injection h1 with e1 e2 e3; subst e1; subst e2; subst e3
    have hf := freeze_at h
    refine ⟨rc', ty', _, _, hf, h2, ?_, h4⟩
    rcases h3 with h3 | h3
    · exact .inl h3
    refine .inr (.inr ?_)
    by_cases hne : lo = hi
    · have : ((lo, hi).1 == (lo, hi).2) = true := by simpa using hne
      rw [this]
      show n ≤ rc'.size; omega
    · have : ((lo, hi).1 == (lo, hi).2) = false := by simpa using hne
      rw [this]
      show n ≤ min lo rc'.size
      rcases h3 with h3 | h3
      · exact absurd h3 hne
      · omega
  · exact ⟨rc, ty, lo, hi, (freeze_ne e).trans h1, h2, h3, h4⟩
theorem op_wp {call : CallA} {o : Oper} {a : Act} {e : Eff} {r : Option AV} {H' : Heap} {K : Act → World → Prop} {Q : Exit → Act → World → Prop} (hd : Does P j (execOp a.eval o) e) (he : doEff call H e = some (r, H')) (hR : Rel j H w) (hc : CallOk P call)
    (hK : ∀ v' w' j', PutV j' r v' → Rel j' H' w' → Ext j H w j' H' w' → K (a.put o.dst v') w') : o.wp P a w K Q := by
  unfold Oper.wp
  cases e with
  | q v =>
    injection he with he; injection he with h1 h2; subst h1; subst h2
    obtain ⟨v', hv, hr⟩ := hd
    rw [hr w]
    exact hK v' w j hv hR (Ext.refl _ _ _)
  | r b q n k =>
    obtain ⟨cs, hcs, he⟩ := bind_some' he
    obtain ⟨v, hv, he⟩ := map_some' he
    injection he with h1 h2; subst h1; subst h2
    obtain ⟨rb, d, m, hj, hd⟩ := hd
    obtain ⟨vs, g1, g2, g3⟩ := hR.rd hcs hj
    obtain ⟨v', g4, g5⟩ := hd w vs g1 g2 j cs v g3 hv
    rw [g5]
    exact hK v' w j g4 hR (Ext.refl _ _ _)
  | a cells k =>
    injection he with he; injection he with h1 h2; subst h1; subst h2
    obtain ⟨cs', ty, lo, hi, v', dr, g1, g2, ⟨vs, rest, g3, g4⟩, g5⟩ := hd w
    rw [g1]
    have hle : j.le (j.add H.next (w.heap.size, 0, cs'.size)) := Inj.le_add _ hR.next_none
    have hh : Holds false (j.add H.next (w.heap.size, 0, cs'.size)) { w with heap := w.heap.push (.cells cs' ty (lo, hi)), drawn := w.drawn + dr } cells w.heap.size 0 cs'.size :=
      ⟨cs', ty, lo, hi, by simp, rfl, .inr g2, [], vs, rest, by simpa using g3, rfl, g4.mono hle⟩
    obtain ⟨a1, a2⟩ := hR.alloc hh (fun k hk => by show (w.heap.push _)[k]? = _; rw [Array.getElem?_push, if_neg (by omega)]) rfl rfl rfl
    exact hK v' _ _ (g5 _ _ hle (Inj.add_same _ _ _)) a1 a2
  | w b q src v =>
    obtain ⟨new, hnew, he⟩ := bind_some' he
    obtain ⟨H1, hwr, he⟩ := map_some' he
    injection he with h1 h2; subst h1; subst h2
    obtain ⟨cells, hbc, hwr⟩ := bind_some' hwr
    obtain ⟨hcc, hwr⟩ := cond_some hwr
    injection hwr with hwr; subst hwr
    simp only [Bool.and_eq_true] at hcc
    obtain ⟨rb, d, m, hj, hd⟩ := hd
    obtain ⟨new', hv, hd⟩ := hR.src hnew hd
    obtain ⟨hw, hrel, hext⟩ := hR.write hbc hj (ble_le hcc.2.1) hv hcc.2.2 (ble_le hcc.1)
    obtain ⟨nx, hnx, hrun⟩ := hd hw
    rw [hrun]
    cases v with
    | none => rw [hnx]; exact hK undef _ j rfl hrel hext
    | some v => obtain ⟨v', rfl, hv'⟩ := hnx; exact hK v' _ j hv' hrel hext
  | call f args =>
    obtain ⟨⟨v, H1⟩, hcall, he⟩ := bind_some' he
    obtain ⟨_, he⟩ := cond_some he
    injection he with he; injection he with h1 h2; subst h1; subst h2
    obtain ⟨args', hv, hrun⟩ := hd
    rw [hrun]
    refine Calls.mono (hc f args H v H1 j w args' hcall hR hv) ?_
    rintro e w' ⟨v', j', rfl, g1, g2, g3⟩
    exact hK v' w' j' g1 g2 g3
  | m b v =>
    obtain ⟨hlow, he⟩ := cond_some he
    have hlow := ble_le hlow
    obtain ⟨cells, hb, he⟩ := map_some' he
    injection he with h1 h2; subst h1; subst h2
    obtain ⟨rb, d, n, v', hj, hv, hd⟩ := hd
    obtain ⟨rc, ty, lo, hi, p1, p2, p3, p4⟩ := hR.blk b cells rb d n hb hj
    have hrun := hd w rc ty (lo, hi) p1
    rw [hrun]
    refine hK v' _ j hv ⟨hR.dom, fun b' cs rb' d' m' hb' hj' => (hR.blk b' cs rb' d' m' hb' hj').freeze p1, hR.inj, hR.fresh, hR.low⟩ ⟨Inj.le_refl j, Nat.le_refl _, fun _ _ h => .inl h, fun _ _ h => h, fun rb' _ hno => freeze_ne (fun e => hno (e ▸ ⟨b, cells, d, n, hb, hj⟩)), by simp [World.freeze], by simp [World.freeze], by simp [World.freeze], by simp [World.freeze], rfl, fun _ _ => rfl, fun k cs rb' d' m' hk hkk hjk _ => freeze_ne fun e => by
      have := hR.inj k b cs cells rb d' m' d n hkk hb (e ▸ hjk) hj
      omega⟩
  | app s n src sz =>
    obtain ⟨⟨v, H1⟩, happ, he⟩ := map_some' he
    injection he with h1 h2; subst h1; subst h2
    obtain ⟨v', w', j', hrun, g1, g2, g3⟩ := app_wp hd happ hR
    rw [hrun]
    exact hK v' w' j' g1 g2 g3
end
end Go.Proofs.YthnhdgcaolgdnaaAn
