/- The plain law behind CodeEdges: the greatest number has nine bytes; a greater one, one byte too many, a ninth byte that goes on, are none. -/
import Derived.Test.YtpmcojmhkpaoaaaStatCodeEdges
import Derived.Test.YtpmcojmhkpaoaaaLibE
set_option linter.unusedVariables false
set_option linter.unusedSimpArgs false
namespace Go.Proofs.Ytpmcojmhkpaoaaa.PA
open Go.RowKit Go.Proofs.YtpmcojmhkpaoaaaW.PrintWords Go.Proofs.YtpmcojmhkpaoaaaW.PrintLast Go.Proofs.YtpmcojmhkpaoaaaW.PrintMore

def top : List Int := [128, 128, 128, 128, 128, 128, 128, 128, 64]
def many : List Int := [128, 128, 128, 128, 128, 128, 128, 128, 128]
theorem enc_top : enc 4611686018427387904 = top := by
  have e1 : enc 4611686018427387904 = 128 :: enc 36028797018963968 := enc_big (by decide)
  have e2 : enc 36028797018963968 = 128 :: enc 281474976710656 := enc_big (by decide)
  have e3 : enc 281474976710656 = 128 :: enc 2199023255552 := enc_big (by decide)
  have e4 : enc 2199023255552 = 128 :: enc 17179869184 := enc_big (by decide)
  have e5 : enc 17179869184 = 128 :: enc 134217728 := enc_big (by decide)
  have e6 : enc 134217728 = 128 :: enc 1048576 := enc_big (by decide)
  have e7 : enc 1048576 = 128 :: enc 8192 := enc_big (by decide)
  have e8 : enc 8192 = 128 :: enc 64 := enc_big (by decide)
  have e9 : enc 64 = [64] := enc_small (by decide)
  rw [e1, e2, e3, e4, e5, e6, e7, e8, e9]
  rfl
theorem bytes_of {l : List Int} (h : (l.all fun x => decide (0 ≤ x ∧ x < 256)) = true) : IsBytes l := fun x hx => of_decide_eq_true (List.all_eq_true.1 h x hx)
theorem tk_many : ∀ i, i < 10 → (tk (many.take i) 0 0).2.2 = if i = 9 then 1 else 7 := by decide +kernel
theorem edges_end (l : List S43) : arraslaw5_CodeEdges.L0 l top many 10 = some true := by
  rw [arraslaw5_CodeEdges.L0_eq, if_neg (by decide), takeNum _ (bytes_of (by decide)) (by decide), Option.bind_some, takeNum _ (bytes_of (by decide)) (by decide), Option.bind_some, if_pos (by decide),
    takeNum _ (bytes_of (by decide)) (by decide), Option.bind_some]
  have t1 : tk [128, 0] 0 0 = (0, 0, 1) := by decide +kernel
  have t2 : tk [0, 5] 0 0 = (0, 1, 0) := by decide +kernel
  have t3 : tk (top.set (0 : Int).toNat ((rd top 0 + 1) % 256)) 0 0 = (0, 0, 1) := by decide +kernel
  rw [t1, t2, t3]
  simp only [arraslaw5_num.f, Option.bind_some, if_true]
  rw [if_pos (by omega), wakes5]
  rfl
theorem edges_step (l : List S43) (i : Nat) (hi : i < 10) : arraslaw5_CodeEdges.L0 l top many (i : Int) = arraslaw5_CodeEdges.L0 l top many ((i + 1 : Nat) : Int) := by
  have hb : IsBytes many := bytes_of (by decide)
  have hm : many.length = 9 := rfl
  have e1 : wrap64 ((i : Int) + 1) = ((i + 1 : Nat) : Int) := by rw [w64s (by omega) (by omega)]; omega
  have ht := tk_many i hi
  rw [arraslaw5_CodeEdges.L0_eq, if_pos (by omega), if_pos (by omega), if_pos (by rw [hm]; omega), Int.toNat_natCast, takeNum _ (hb.take i) (by rw [List.length_take, hm]; omega), Option.bind_some, ht]
  by_cases h : i = 9
  · rw [if_pos (by omega), if_pos h, arraslaw5_CodeEdges.J2_eq, e1]
    simp only [arraslaw5_num.f, Option.bind_some, if_true]
  · rw [if_neg (by omega), if_neg h, arraslaw5_CodeEdges.J2_eq, e1]
    simp only [arraslaw5_num.f, Option.bind_some, if_true]
theorem edges_L (l : List S43) : ∀ d i : Nat, i + d = 10 → arraslaw5_CodeEdges.L0 l top many (i : Int) = some true
  | 0, i, h => by
    have : i = 10 := by omega
    subst this
    exact edges_end l
  | d + 1, i, h => by
    rw [edges_step l i (by omega)]
    exact edges_L l d (i + 1) (by omega)
theorem arraslaw5_CodeEdges.proof : arraslaw5_CodeEdges.Pure := by
  intro l ⟨hm, _, hok⟩
  refine Go.Proofs.YtpmcojmhkpaoaaaLabel.Lim.rounds (arraslaw5_CodeEdges.F_lim l) ?_
  have n1 : code_Num.F 4611686018427387904 = some (top, 0) := by
    rw [code_num, if_pos (by decide)]
    show some (enc 4611686018427387904, (0 : Int)) = _
    rw [enc_top]
  have n2 : code_Num.F 4611686018427387905 = some ([], 1) := by rw [code_num, if_neg (by decide)]
  have n3 : code_Num.F (-1) = some ([], 1) := by rw [code_num, if_neg (by decide)]
  have t1 : tk top 0 0 = (4611686018427387904, 9, 0) := by decide +kernel
  rw [arraslaw5_CodeEdges.F_eq, n1, Option.bind_some, n2, Option.bind_some, n3, Option.bind_some, takeNum _ (bytes_of (by decide)) (by decide), Option.bind_some, t1]
  simp only [arraslaw5_num.f, Option.bind_some, if_true]
  rw [arraslaw5_CodeEdges.J0_eq, if_neg (by decide)]
  exact edges_L l 10 0 (by omega)
end Go.Proofs.Ytpmcojmhkpaoaaa.PA
