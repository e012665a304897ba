/- Plain laws of rows of numbers and of texts as bytes: what is written, and that it is taken again. -/
import Derived.Test.YtpmcojmhkpaoaaaLibE
set_option linter.unusedVariables false
set_option linter.unusedSimpArgs false
namespace Go.Proofs.Ytpmcojmhkpaoaaa.PA
open Go.RowKit Go.Proofs.YtpmcojmhkpaoaaaW.PrintWords Go.Proofs.YtpmcojmhkpaoaaaW.PrintLast Go.Proofs.YtpmcojmhkpaoaaaW.PrintMore

/-! ### Rows of numbers -/
def encs : List Int → List Int
  | [] => []
  | x :: r => enc x.toNat ++ encs r
def numIs (x : Int) : Prop := 0 ≤ x ∧ x ≤ 4611686018427387904
def encN (l : List Int) : List Int := enc l.length ++ encs l
theorem encs_bytes : ∀ l, IsBytes (encs l)
  | [] => fun _ h => nomatch h
  | x :: r => (enc_bytes _).append (encs_bytes r)
theorem encN_bytes (l : List Int) : IsBytes (encN l) := (enc_bytes _).append (encs_bytes l)
theorem encs_length : ∀ l : List Int, (∀ x ∈ l, numIs x) → (encs l).length ≤ 9 * l.length
  | [], _ => by simp [encs]
  | x :: r, h => by
    have h1 := encs_length r (fun y hy => h y (List.mem_cons_of_mem _ hy))
    have hx := h x List.mem_cons_self
    unfold numIs at hx
    have h2 := enc_length9 (n := x.toNat) (by omega)
    unfold encs
    rw [List.length_append, List.length_cons]
    omega
theorem encN_length (l : List Int) (hl : l.length ≤ 1024) (h : ∀ x ∈ l, numIs x) : (encN l).length ≤ 9225 := by
  have h1 := encs_length l h
  have h2 := enc_length9 (n := l.length) (by omega)
  unfold encN
  rw [List.length_append]
  omega
theorem encs_append : ∀ a b : List Int, encs (a ++ b) = encs a ++ encs b
  | [], _ => rfl
  | x :: r, b => by
    show enc x.toNat ++ encs (r ++ b) = enc x.toNat ++ encs r ++ encs b
    rw [encs_append r b, List.append_assoc]
theorem putAll_L (l : List Int) (hl : l.length ≤ 1024) (h : ∀ x ∈ l, numIs x) : ∀ (d i : Nat) (acc : List Int), i ≤ l.length → l.length - i = d → acc.length + 9 * d < 140737488355328 →
    code_PutAll.L0 acc l (l.length : Int) (i : Int) = some (acc ++ encs (l.drop i)) := by
  intro d
  induction d with
  | zero =>
    intro i acc hi hd ha
    rw [code_PutAll.L0_eq, if_neg (by omega), List.drop_of_length_le (by omega)]
    simp [encs]
  | succ d ih =>
    intro i acc hi hd ha
    have hil : i < l.length := by omega
    have hx := h l[i] (List.getElem_mem hil)
    unfold numIs at hx
    have h9 := enc_length9 (n := l[i].toNat) (by omega)
    have e : l[i] = (l[i].toNat : Int) := by omega
    rw [code_PutAll.L0_eq, if_pos (by omega), if_pos (by omega), if_pos (by omega), rd_nat l i hil, List.drop_eq_getElem_cons hil]
    show (code_Put.F acc l[i]).bind _ = some (acc ++ (enc l[i].toNat ++ encs (l.drop (i + 1))))
    rw [e, put_F _ _ (by omega) (by omega), Option.bind_some, w64s (by omega) (by omega), ← List.append_assoc, Int.toNat_natCast]
    exact ih (i + 1) _ (by omega) (by omega) (by rw [List.length_append]; omega)
theorem putAll (l : List Int) (hl : l.length ≤ 1024) (h : ∀ x ∈ l, numIs x) : code_PutAll.F [] l = some (encN l) := by
  have h9 := enc_length9 (n := l.length) (by omega)
  rw [code_PutAll.F_eq, put_F l.length [] (by omega) (by simp; omega), Option.bind_some]
  have := putAll_L l hl h l.length 0 ([] ++ enc l.length) (by omega) (by omega) (by simp; omega)
  rw [List.drop_zero] at this
  simpa [encN] using this
theorem tkNs_put : ∀ (r : List Int) (L pre rest acc : List Int), L = pre ++ (encs r ++ rest) → (∀ x ∈ r, numIs x) → tkNs L r.length (pre.length : Int) acc = (acc ++ r, ((pre.length + (encs r).length : Nat) : Int), 0)
  | [], L, pre, rest, acc, _, _ => by simp [tkNs, encs]
  | x :: r, L, pre, rest, acc, e, h => by
    have hx := h x List.mem_cons_self
    unfold numIs at hx
    have e1 : L.drop ((pre.length : Int)).toNat = enc x.toNat ++ (encs r ++ rest) := by
      rw [e, Int.toNat_natCast, List.drop_left]
      show enc x.toNat ++ encs r ++ rest = _
      rw [List.append_assoc]
    have e2 : L = (pre ++ enc x.toNat) ++ (encs r ++ rest) := by
      rw [e]
      show pre ++ (enc x.toNat ++ encs r ++ rest) = _
      simp only [List.append_assoc]
    have e3 : ((x.toNat : Nat) : Int) = x := by omega
    have ih := tkNs_put r L (pre ++ enc x.toNat) rest (acc ++ [x]) e2 (fun y hy => h y (List.mem_cons_of_mem _ hy))
    rw [List.length_cons]
    unfold tkNs
    rw [e1, tk_put x.toNat _ (by omega)]
    simp only [if_true, e3]
    rw [List.length_append] at ih
    rw [← Int.natCast_add, ih]
    simp only [List.append_assoc, List.cons_append, List.nil_append]
    congr 2
    show _ = ((pre.length + (enc x.toNat ++ encs r).length : Nat) : Int)
    rw [List.length_append]
    omega
theorem tkNums_put (l rest : List Int) (hl : l.length ≤ 1024) (h : ∀ x ∈ l, numIs x) : tkNums (encN l ++ rest) = (l, ((encN l).length : Int), 0) := by
  have e : encN l ++ rest = enc l.length ++ (encs l ++ rest) := by unfold encN; rw [List.append_assoc]
  have := tkNs_put l (encN l ++ rest) (enc l.length) rest [] e h
  unfold tkNums
  rw [e] at this ⊢
  rw [tk_put l.length _ (by omega)]
  simp only [if_true, Int.toNat_natCast]
  rw [if_neg (by omega), this]
  unfold encN
  simp [List.length_append]

/-! ### Texts -/
theorem str_back (s : ByteArray) : strOfNums (bytesOf s) = s := by
  unfold strOfNums bytesOf
  rw [List.map_map]
  have e : ((fun n : Int => UInt8.ofNat n.toNat) ∘ fun b : UInt8 => (b.toNat : Int)) = id := by
    funext b
    simp
  first
    | (rw [e, List.map_id]; done)
    | (simp [e]; done)
    | (simp [Function.comp_def]; done)
theorem bytesOf_bytes (s : ByteArray) : IsBytes (bytesOf s) := by
  intro x hx
  unfold bytesOf at hx
  obtain ⟨b, _, rfl⟩ := List.mem_map.1 hx
  have := b.toNat_lt
  omega
def encT (s : ByteArray) : List Int := enc s.size ++ bytesOf s
theorem encT_bytes (s : ByteArray) : IsBytes (encT s) := (enc_bytes _).append (bytesOf_bytes s)
theorem encT_length (s : ByteArray) (h : s.size ≤ 65536) : (encT s).length ≤ 65545 := by
  have h2 := enc_length9 (n := s.size) (by omega)
  unfold encT
  rw [List.length_append, bytesOf_length]
  omega
theorem text_F (s : ByteArray) : code_Text.F s = some (if s.size ≤ 65536 then (encT s, 0) else ([], 1)) := by
  rw [code_Text.F_eq]
  by_cases h : s.size ≤ 65536
  · have h2 := enc_length9 (n := s.size) (by omega)
    rw [if_neg (by omega), if_pos h, code_PutText.F_eq, put_F _ _ (by omega) (by simp; omega), Option.bind_some, List.nil_append, if_pos (by omega), Option.bind_some]
    rfl
  · rw [if_pos (by omega), if_neg h]
theorem tkText_put (s : ByteArray) (rest : List Int) (h : s.size ≤ 65536) : tkText (encT s ++ rest) = (s, ((encT s).length : Int), 0) := by
  have e : encT s ++ rest = enc s.size ++ (bytesOf s ++ rest) := by unfold encT; rw [List.append_assoc]
  have hb := bytesOf_length s
  unfold tkText
  rw [e, tk_put s.size _ (by omega)]
  simp only [if_true]
  rw [if_neg (by omega), if_neg (by simp only [List.length_append]; omega)]
  have e1 : ((enc s.size).length : Int) + (s.size : Int) = (((enc s.size).length + s.size : Nat) : Int) := by omega
  have e2 : (List.take ((enc s.size).length + s.size) (enc s.size ++ (bytesOf s ++ rest))).drop (enc s.size).length = bytesOf s := by
    rw [List.take_length_add_append, List.drop_left, ← hb, List.take_left]
  rw [e1, Int.toNat_natCast, Int.toNat_natCast, e2, str_back]
  unfold encT
  rw [List.length_append, hb]
theorem tkText_cut (s : ByteArray) (j : Nat) (h : s.size ≤ 65536) (hj : j < (encT s).length) : (tkText ((encT s).take j)).2.2 = 7 := by
  have h9 := enc_length9 (n := s.size) (by omega)
  have hb := bytesOf_length s
  unfold tkText
  by_cases hc : j < (enc s.size).length
  · have e : (encT s).take j = (enc s.size).take j := by
      unfold encT
      rw [List.take_append_of_le_length (by omega)]
    rw [e, tk_cut s.size 0 0 j (by omega) hc]
    simp
  · have e : (encT s).take j = enc s.size ++ (bytesOf s).take (j - (enc s.size).length) := by
      unfold encT
      rw [List.take_append, List.take_of_length_le (by omega)]
    have hl : (encT s).length = (enc s.size).length + s.size := by unfold encT; rw [List.length_append, hb]
    rw [e, tk_put s.size _ (by omega)]
    simp only [if_true]
    rw [if_neg (by omega), if_pos (by simp only [List.length_append, List.length_take, hb]; omega)]
end Go.Proofs.Ytpmcojmhkpaoaaa.PA
