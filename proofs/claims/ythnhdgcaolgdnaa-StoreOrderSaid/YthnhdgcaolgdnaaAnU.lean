/- More rounds tell the same; what a call comes to, without rounds. -/
import Derived.Test.YthnhdgcaolgdnaaAnT
set_option linter.unusedVariables false
set_option linter.unusedSimpArgs false
namespace Go.Proofs.YthnhdgcaolgdnaaAn
open Go

def CallLe (c c' : CallA) : Prop := ∀ f a H r, c f a H = some r → c' f a H = some r
def RunLe (r r' : RunA) : Prop := ∀ N m todo H x, r N m todo H = some x → r' N m todo H = some x
section
variable {P : Program} {c c' : CallA} (hc : CallLe c c')
include hc
theorem doEff_le {H : Heap} {e : Eff} {x : Option AV × Heap} (h : doEff c H e = some x) : doEff c' H e = some x := by
  cases e with
  | call f args =>
    obtain ⟨⟨v, H'⟩, h1, h2⟩ := bind_some' h
    show (c' f args H).bind _ = some x
    rw [hc _ _ _ _ h1]; exact h2
  | _ => exact h
theorem opA_le {N : Nat} {ops : Array Oper} {m : T AV} {H : Heap} {o : Oper} {x : T AV × Heap} (h : opA P c N ops m H o = some x) : opA P c' N ops m H o = some x := by
  unfold opA at h ⊢
  obtain ⟨g, h1, h2⟩ := bind_some' h
  rw [h1]
  cases g with
  | false => exact h2
  | true =>
    obtain ⟨e, h3, h4⟩ := bind_some' h2
    obtain ⟨y, h5, h6⟩ := bind_some' h4
    show (aeff P (evA m) o).bind _ = _
    rw [h3]
    show (doEff c' H e).bind _ = _
    rw [doEff_le hc h5]; exact h6
theorem opsA_le {N : Nat} {ops : Array Oper} : ∀ {l : List Oper} {m : T AV} {H : Heap} {x : T AV × Heap}, opsA P c N ops l m H = some x → opsA P c' N ops l m H = some x
  | [], _, _, _, h => h
  | o :: l, m, H, x, h => by
    obtain ⟨y, h1, h2⟩ := bind_some' h
    show (opA P c' N ops m H o).bind _ = _
    rw [opA_le hc h1]
    exact opsA_le h2
theorem drawA_le {N : Nat} {ops : Array Oper} : ∀ {l : List Oper} {mks : List Nat} {i : Nat} {m : T AV} {H : Heap} {rs : List (Nat × Nat × Nat × Nat)} {ls : List (Nat × Heap × Heap)} {x : T AV × Heap}, drawA P c N ops l mks i m H rs ls = some x → drawA P c' N ops l mks i m H rs ls = some x
  | [], _, _, _, _, _, _, _, h => h
  | _ :: _, [], _, _, _, _, _, _, h => h
  | o :: l, mk :: mks, i, m, H, rs, ls, x, h => by
    unfold drawA at h ⊢
    obtain ⟨g, h1, h2⟩ := bind_some' h
    rw [h1]
    cases g with
    | false =>
      obtain ⟨m', h3, h4⟩ := bind_some' h2
      show (putA N m o.dst none).bind _ = _
      rw [h3]
      exact drawA_le h4
    | true =>
      obtain ⟨e, h3, h4⟩ := bind_some' h2
      obtain ⟨⟨v, H'⟩, h5, h6⟩ := bind_some' h4
      obtain ⟨m', h7, h8⟩ := bind_some' h6
      show (aeff P (evA m) o).bind _ = _
      rw [h3]
      show (doEff c' H e).bind _ = _
      rw [doEff_le hc h5]
      show (putA N m o.dst v).bind _ = _
      rw [h7]
      cases e with
      | q v => exact drawA_le h8
      | a cells k => exact drawA_le h8
      | r b q n k => obtain ⟨hl, h8⟩ := cond_some h8; show cond (lsOk mk b q n ls) _ _ = _; rw [hl]; exact drawA_le h8
      | w b q src v => obtain ⟨hl, h8⟩ := cond_some h8; show cond (rsOk mk H H' rs) _ _ = _; rw [hl]; exact drawA_le h8
      | call f args => obtain ⟨hl, h8⟩ := cond_some h8; show cond (rsOk mk H H' rs) _ _ = _; rw [hl]; exact drawA_le h8
      | app s n src sz => obtain ⟨hl, h8⟩ := cond_some h8; show cond (rsOk mk H H' rs) _ _ = _; rw [hl]; exact drawA_le h8
      | m b v => obtain ⟨hl, h8⟩ := cond_some h8; show cond (rsOk mk H H' rs) _ _ = _; rw [hl]; exact drawA_le h8
theorem regionA_le {N : Nat} {m : T AV} {H : Heap} {ops : Array Oper} {d : Bool} {x : T AV × Heap} (h : regionA P c N m H ops d = some x) : regionA P c' N m H ops d = some x := by
  cases d with
  | false => exact opsA_le hc h
  | true =>
    obtain ⟨⟨ops', ms⟩, h1, h2⟩ := bind_some' h
    show (lateMs ops).bind _ = _
    rw [h1]; exact drawA_le hc h2
end
theorem callA_le {P : Program} {r r' : RunA} (hr : RunLe r r') : CallLe (callA P r) (callA P r') := by
  intro f a H x h
  unfold callA at h ⊢
  cases hf : P.funcs[f]? with
  | none => rw [hf] at h; cases h
  | some fn =>
    rw [hf] at h
    simp only at h ⊢
    cases hb : fn.body with
    | none => rw [hb] at h; cases h
    | some c =>
      rw [hb] at h
      simp only at h ⊢
      obtain ⟨h0, h⟩ := cond_some h
      obtain ⟨y, h1, h2⟩ := bind_some' h
      rw [h0, hr _ _ _ _ _ h1]; exact h2
theorem stepA_le {P : Program} {r r' : RunA} (hr : RunLe r r') : RunLe (stepA P r) (stepA P r') := by
  intro N m todo H x h
  unfold stepA at h ⊢
  split at h
  · exact h
  · split at h
    · exact hr _ _ _ _ _ h
    · exact hr _ _ _ _ _ h
    · exact h
    · exact hr _ _ _ _ _ h
    · split at h
      · exact hr _ _ _ _ _ h
      · exact hr _ _ _ _ _ h
      · cases h
    · exact hr _ _ _ _ _ h
    · exact hr _ _ _ _ _ h
    · exact hr _ _ _ _ _ h
    · obtain ⟨k', hk, h⟩ := bind_some' h
      simp only [hk, Option.bind_some]
      exact hr _ _ _ _ _ h
    · obtain ⟨k', hk, h⟩ := bind_some' h
      simp only [hk, Option.bind_some]
      exact hr _ _ _ _ _ h
    · obtain ⟨⟨m1, H1⟩, hreg, h⟩ := bind_some' h
      simp only [regionA_le (callA_le hr) hreg, Option.bind_some]
      exact hr _ _ _ _ _ h
    · cases h
  · exact hr _ _ _ _ _ h
  · exact hr _ _ _ _ _ h
  · exact hr _ _ _ _ _ h
  · cases h
theorem runA_succ {P : Program} : ∀ n, RunLe (runA P n) (runA P (n + 1))
  | 0 => by intro N m todo H x h; cases h
  | n + 1 => stepA_le (runA_succ n)
theorem runA_le {P : Program} {n n' : Nat} (h : n ≤ n') : RunLe (runA P n) (runA P n') := by
  induction h with
  | refl => intro N m todo H x h; exact h
  | step _ ih => intro N m todo H x h; exact runA_succ _ _ _ _ _ _ (ih _ _ _ _ _ h)
/-- **what a call comes to** -/
def Goes (P : Program) (f : FuncId) (args : List AV) (H : Heap) (v : AV) (H' : Heap) : Prop := ∃ n, callA P (runA P n) f args H = some (v, H')
theorem Goes.at {P : Program} {f : FuncId} {args : List AV} {H : Heap} {v : AV} {H' : Heap} (h : Goes P f args H v H') : ∃ n, ∀ n', n ≤ n' → callA P (runA P n') f args H = some (v, H') := by
  obtain ⟨n, h⟩ := h
  exact ⟨n, fun n' hn => callA_le (runA_le hn) _ _ _ _ h⟩
end Go.Proofs.YthnhdgcaolgdnaaAn
