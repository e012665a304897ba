/- The plain law behind SumParts: the sum of two parts is that of both, the sum of none is the sum behind which it stands, and a turned bit, or a few within two bytes, change it. -/
import Derived.Test.YtpmcojmhkpaoaaaStatSumParts
import Derived.Test.YtpmcojmhkpaoaaaLibC
import Derived.Test.YtpmcojmhkpaoaaaLibM
set_option linter.unusedVariables false
set_option linter.unusedSimpArgs false
namespace Go.Proofs.Ytpmcojmhkpaoaaa.PA
open Go.RowKit Go.Proofs.YtpmcojmhkpaoaaaW.PrintWords Go.Proofs.YtpmcojmhkpaoaaaW.PrintLast Go.Proofs.YtpmcojmhkpaoaaaW.PrintMore

theorem sum_val {s : Nat} {l m : List Int} (h : (((4294967295 ^^^ crc (4294967295 ^^^ s) l : Nat)) : Int) = (((4294967295 ^^^ crc (4294967295 ^^^ s) m : Nat)) : Int)) : crc (4294967295 ^^^ s) l = crc (4294967295 ^^^ s) m :=
  xor_inj' (Int.ofNat.inj h)
theorem of_byte {l : List Int} (hb : IsBytes l) {i : Nat} (h : i < l.length) : ∃ c : Nat, l[i] = c ∧ c < 256 := by
  have := hb l[i] (List.getElem_mem h)
  exact ⟨l[i].toNat, by omega, by omega⟩
theorem cut_at (l : List Int) (i : Nat) (h : i < l.length) : l = l.take i ++ l[i] :: l.drop (i + 1) := by
  rw [← List.drop_eq_getElem_cons h, List.take_append_drop]
theorem set_at (l : List Int) (i : Nat) (h : i < l.length) (y : Int) : l.set i y = l.take i ++ y :: l.drop (i + 1) := List.set_eq_take_append_cons_drop.trans (if_pos h)
theorem set_bytes {l : List Int} (hb : IsBytes l) (i : Nat) (y : Nat) (hy : y < 256) : IsBytes (l.set i y) := by
  intro x hx
  rcases List.mem_or_eq_of_mem_set hx with h | h
  · exact hb x h
  · omega
theorem split_sum (s : Nat) (b : List Int) (t : Nat) (hs : s < 4294967296) (hb : IsBytes b) (hl : b.length < 4611686018427387904) :
    (sum_Sum.F s (b.take t)).bind (fun x => sum_Sum.F x (b.drop t)) = some (((4294967295 ^^^ crc (4294967295 ^^^ s) b : Nat)) : Int) := by
  rw [sum_is s _ hs (hb.take t) (by rw [List.length_take]; omega), Option.bind_some,
    sum_is _ _ (xlt (by decide) (crc_lt _ _ (hb.take t) (xlt (by decide) hs))) (hb.drop t) (by rw [List.length_drop]; omega), ← Nat.xor_assoc, Nat.xor_self, Nat.zero_xor, ← crc_append, List.take_append_drop]
theorem sum_nil (s : Nat) (hs : s < 4294967296) : sum_Sum.F s [] = some (s : Int) := by
  rw [sum_is s [] hs (fun _ h => nomatch h) (by decide)]
  show some (((4294967295 ^^^ (4294967295 ^^^ s) : Nat)) : Int) = _
  rw [← Nat.xor_assoc, Nat.xor_self, Nat.zero_xor]
/-- One turned bit changes the sum. -/
theorem sum_one (s : Nat) (b : List Int) (i p : Nat) (hi : i < b.length) (hp : p < 8) (hs : s < 4294967296) (hb : IsBytes b) (hl : b.length < 4611686018427387904) :
    ∃ y : Nat, bits .xor .u8 b[i] (shl .u8 1 (p : Int)) = y ∧ y < 256 ∧ ∃ v, sum_Sum.F s (b.set i y) = some v ∧ v ≠ (((4294967295 ^^^ crc (4294967295 ^^^ s) b : Nat)) : Int) := by
  obtain ⟨c, ec, hc⟩ := of_byte hb hi
  have hx : c ^^^ 2 ^ p < 256 := Nat.xor_lt_two_pow (n := 8) hc (pow_lt p hp)
  refine ⟨c ^^^ 2 ^ p, ?_, hx, _, sum_is s _ hs (set_bytes hb i _ hx) (by rw [List.length_set]; exact hl), fun h => ?_⟩
  · rw [ec, shl_one p hp]
    exact xor8 c _ hc (pow_lt p hp)
  · have h := sum_val h
    have e := cut_at b i hi
    rw [ec] at e
    exact one_bit _ (b.take i) (b.drop (i + 1)) c p hp (xlt (by decide) hs) (hb.take i) (hb.drop _) hc ((congrArg (crc _) (set_at b i hi _)).symm.trans (h.trans (congrArg (crc _) e)))
/-- A turned bit and a few within the next byte change the sum. -/
theorem sum_two (s : Nat) (b : List Int) (i p : Nat) (n : Int) (hi : i + 1 < b.length) (hp : p < 8) (hs : s < 4294967296) (hb : IsBytes b) (hl : b.length < 4611686018427387904) (y : Nat) (hy : bits .xor .u8 b[i] (shl .u8 1 (p : Int)) = y) :
    ∃ z : Nat, bits .xor .u8 b[i + 1] (n % 256) = z ∧ ∃ v, sum_Sum.F s ((b.set i y).set (i + 1) z) = some v ∧ v ≠ (((4294967295 ^^^ crc (4294967295 ^^^ s) b : Nat)) : Int) := by
  obtain ⟨c, ec, hc⟩ := of_byte hb (i := i) (by omega)
  obtain ⟨d, ed, hd⟩ := of_byte hb hi
  have hm : ∃ m : Nat, n % 256 = m ∧ m < 256 := ⟨(n % 256).toNat, by omega, by omega⟩
  obtain ⟨m, em, hm⟩ := hm
  have hx : c ^^^ 2 ^ p < 256 := Nat.xor_lt_two_pow (n := 8) hc (pow_lt p hp)
  have hz : d ^^^ m < 256 := Nat.xor_lt_two_pow (n := 8) hd hm
  have ey : y = c ^^^ 2 ^ p := by
    rw [ec, shl_one p hp, xor8 c _ hc (pow_lt p hp)] at hy
    exact (Int.ofNat.inj hy).symm
  subst ey
  refine ⟨d ^^^ m, ?_, _, sum_is s _ hs (set_bytes (set_bytes hb i _ hx) _ _ hz) (by rw [List.length_set, List.length_set]; exact hl), fun h => ?_⟩
  · rw [ed, em]
    exact xor8 d m hd hm
  · have h := sum_val h
    have e := cut_at b i (by omega)
    have e2 := cut_at b (i + 1) hi
    have e3 : b.drop (i + 1) = b[i + 1] :: b.drop (i + 1 + 1) := List.drop_eq_getElem_cons hi
    rw [ec, e3, ed] at e
    have f : (b.set i ((c ^^^ 2 ^ p : Nat) : Int)).set (i + 1) ((d ^^^ m : Nat) : Int) = b.take i ++ ((c ^^^ 2 ^ p : Nat) : Int) :: ((d ^^^ m : Nat) : Int) :: b.drop (i + 1 + 1) := by
      have hl2 : (b.take i).length = i := by rw [List.length_take]; omega
      rw [set_at b i (by omega), List.set_append_right _ _ (by omega), hl2]
      simp
      rw [e3]
      rfl
    exact two_bytes _ (b.take i) (b.drop (i + 1 + 1)) c d m p hp (xlt (by decide) hs) (hb.take i) (hb.drop _) hc hd hm ((congrArg (crc _) f).symm.trans (h.trans (congrArg (crc _) e)))

theorem sumParts_L (l : List S26) (hl : l.length ≤ 9223372036854775807) (hok : ∀ a ∈ l, ok_T26 a) : ∀ (d i : Nat), i ≤ l.length → l.length - i = d → arraslaw4_SumParts.L0 l (i : Int) = some true := by
  intro d
  induction d with
  | zero =>
    intro i hi hd
    rw [arraslaw4_SumParts.L0_eq, if_neg (by omega), arraslaw4_SumParts.J1_eq, if_neg (by simp), wakes4]
    rfl
  | succ d ih =>
    intro i hi hd
    have hil : i < l.length := by omega
    have next : arraslaw4_SumParts.L0 l (wrap64 ((i : Int) + 1)) = some true := by
      rw [w64s (by omega) (by omega)]
      exact ih (i + 1) (by omega) (by omega)
    rw [arraslaw4_SumParts.L0_eq, if_pos (by omega), arraslaw4_SumParts.J1_eq]
    by_cases h20 : (i : Int) < 15
    · rw [if_pos (decide_eq_true h20), if_pos (by omega), if_pos (by omega), rd26 l i hil]
      obtain ⟨hs, hx, hn⟩ := hok l[i] (List.getElem_mem hil)
      have er := rd26 l i hil
      generalize l[i] = x at *
      by_cases hv : (x.f1.length : Int) > 3000
      · rw [if_pos hv]
      · obtain ⟨s, es, hs⟩ := u32_of hs
        have hb := IsBytes.of_wf hx.2.2
        have hlen : x.f1.length < 4611686018427387904 := by omega
        obtain ⟨t, et, ht⟩ := within (a := x.f2) (n := (x.f1.length : Int) + 1) (by omega) (by omega)
        rw [if_neg hv, w64s (by omega) (by omega), et, Option.bind_some, es, sum_is s _ hs hb hlen, Option.bind_some, if_pos (by omega), if_pos (by omega), Int.toNat_natCast]
        have h2 := split_sum s x.f1 t hs hb hlen
        obtain ⟨v, ev, hv2⟩ := Option.bind_eq_some_iff.1 h2
        rw [ev, Option.bind_some, hv2, Option.bind_some, if_pos rfl, sum_nil s hs, Option.bind_some, arraslaw4_SumParts.J2_eq, if_neg (by simp)]
        by_cases h0 : (x.f1.length : Int) = 0
        · rw [if_pos h0]
          exact next
        · rw [if_neg h0, copyBytes _ (by omega), Option.bind_some, if_pos (by omega), if_pos (by omega), er, es]
          obtain ⟨at', ea, ha⟩ := within (a := x.f2) (n := (x.f1.length : Int)) (by omega) (by omega)
          obtain ⟨p, ep, hp⟩ := within (a := x.f2) (n := 8) (by omega) (by omega)
          have hat : at' < x.f1.length := by omega
          obtain ⟨y, ey, hy, v1, e1, n1⟩ := sum_one s x.f1 at' p hat (by omega) hs hb hlen
          rw [ea, Option.bind_some, if_pos (by omega), if_pos (by omega), ep, Option.bind_some, if_pos (by omega), Option.bind_some, rd_nat _ _ hat, Int.toNat_natCast, ey, e1, Option.bind_some, if_neg n1, w64s (by omega) (by omega)]
          by_cases h1 : (at' : Int) + 1 < (x.f1.length : Int)
          · have hat1 : at' + 1 < x.f1.length := by omega
            obtain ⟨z, ez, v2, e2, n2⟩ := sum_two s x.f1 at' p x.f2 hat1 (by omega) hs hb hlen y ey
            have ei : (at' : Int) + 1 = ((at' + 1 : Nat) : Int) := by omega
            have erd : rd (x.f1.set at' (y : Int)) ((at' + 1 : Nat) : Int) = x.f1[at' + 1] := by
              rw [rd_nat _ _ (by rw [List.length_set]; exact hat1)]
              simp
            rw [if_pos h1, if_pos (by omega), if_pos h1, ei, erd, Int.toNat_natCast, ez, e2, Option.bind_some, if_neg n2]
            exact next
          · rw [if_neg h1]
            exact next
    · rw [if_neg (by rw [decide_eq_true_eq]; exact h20), wakes4]
      rfl
theorem arraslaw4_SumParts.proof : arraslaw4_SumParts.Pure := by
  intro l ⟨hm, _, hok⟩
  refine Go.Proofs.YtpmcojmhkpaoaaaLabel.Lim.rounds (arraslaw4_SumParts.F_lim l) ?_
  rw [arraslaw4_SumParts.F_eq]
  exact sumParts_L l hm hok l.length 0 (by omega) (by omega)
end Go.Proofs.Ytpmcojmhkpaoaaa.PA
