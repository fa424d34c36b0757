/- More rounds tell the same. -/
import Derived.Test.YtajlmldpbhendaaRfA
set_option linter.unusedSimpArgs false
set_option linter.unusedVariables false
namespace Go.Proofs.Ytajlmldpbhendaa.Rf

def CallLe (c d : CallF) : Prop := ∀ f vs hp lo q r, c f vs hp lo q = some r → d f vs hp lo q = some r
def LoopLe (c d : LoopF) : Prop := ∀ b st r, c b st = some r → d b st = some r
section
variable {G : Nat → Option (List AV)} {c d : CallF} {lo : Nat}
theorem evalOp_mono (h : CallLe c d) {o : IOp} {st : St} {r : OpR} (e : evalOp G c lo o st = some r) : evalOp G d lo o st = some r := by
  cases o
  case call f xs q =>
    simp only [evalOp] at e ⊢
    split at e
    · cases e
    · rename_i hp
      rw [if_neg hp]
      split at e
      · split at e
        · cases e
        · rename_i hpc
          rw [if_neg hpc]
          split at e
          · rename_i hc; rw [h _ _ _ _ _ _ hc]; exact e
          · rename_i hc; rw [h _ _ _ _ _ _ hc]; exact e
          · cases e
      · cases e
  all_goals exact e
theorem evalOps_mono (h : CallLe c d) : ∀ {os : List IOper} {st : St} {r : Ex × St}, evalOps G c lo os st = some r → evalOps G d lo os st = some r
  | [], st, r, e => e
  | o :: os, st, r, e => by
    simp only [evalOps] at e ⊢
    split at e
    · split at e
      · rename_i ho; rw [evalOp_mono h ho]
        split at e
        · rename_i hp; simp only [hp]; exact evalOps_mono h e
        · cases e
      · rename_i ho; rw [evalOp_mono h ho]; exact e
      · cases e
    · split at e
      · rename_i hp; exact evalOps_mono h e
      · cases e
    · cases e
theorem evalDraw_mono (h : CallLe c d) {ops : List IOper} {pans : List Nat} : ∀ {ord : List Nat} {st : St} {r : Ex × St}, evalDraw G c lo ops pans ord st = some r → evalDraw G d lo ops pans ord st = some r
  | [], st, r, e => e
  | i :: ord, st, r, e => by
    simp only [evalDraw] at e ⊢
    split at e
    · cases e
    · split at e
      · rename_i ho; rw [evalOps_mono h ho]; exact evalDraw_mono h e
      · rename_i ho; rw [evalOps_mono h ho]; exact e
      · cases e
theorem evalC_mono (h : CallLe c d) {l m : LoopF} (hl : LoopLe l m) : ∀ {x : ICode} {st : St} {r : Ex × St}, evalC G c l lo x st = some r → evalC G d m lo x st = some r := by
  intro x
  induction x with
  | skip => intro st r e; exact e
  | region ops live =>
    intro st r e
    simp only [evalC] at e ⊢
    split at e
    · rename_i ho; rw [evalOps_mono h ho]; exact e
    · rename_i hne
      rw [evalOps_mono h e]
      split
      · rename_i s1 hh; cases hh; exact absurd e (by simpa using hne s1)
      · rfl
  | draw ops ord pans live =>
    intro st r e
    simp only [evalC] at e ⊢
    split at e
    · rename_i ho; rw [evalDraw_mono h ho]; exact e
    · rename_i hne
      rw [evalDraw_mono h e]
      split
      · rename_i s1 hh; cases hh; exact absurd e (by simpa using hne s1)
      · rfl
  | seq a b iha ihb =>
    intro st r e
    simp only [evalC] at e ⊢
    split at e
    · rename_i ho; rw [iha ho]; exact ihb e
    · rename_i hne
      rw [iha e]
      split
      · rename_i s1 hh; cases hh; exact absurd e (by simpa using hne s1)
      · rfl
  | cond c a b iha ihb =>
    intro st r e
    simp only [evalC] at e ⊢
    split at e
    · split at e
      · rename_i h1; rw [if_pos h1]; exact iha e
      · rename_i h1; rw [if_neg h1]; exact ihb e
    · cases e
  | block id b ih =>
    intro st r e
    simp only [evalC] at e ⊢
    split at e
    · rename_i ho; rw [ih ho]; exact e
    · rename_i hne
      rw [ih e]
      split
      · rename_i i s1 hh; cases hh; exact absurd e (by simpa using hne i s1)
      · rfl
  | loop b ih => intro st r e; exact hl _ _ _ e
  | exit id => intro st r e; exact e
  | ret => intro st r e; exact e
theorem run_succ (IP : IProg) : ∀ k, CallLe (run G IP k).1 (run G IP (k + 1)).1 ∧ ∀ lo, LoopLe ((run G IP k).2 lo) ((run G IP (k + 1)).2 lo)
  | 0 => ⟨fun f vs hp lo q r e => by simp [run] at e, fun lo b st r e => by simp [run] at e⟩
  | k + 1 => by
    obtain ⟨h1, h2⟩ := run_succ IP k
    refine ⟨fun f vs hp lo q r e => ?_, fun lo b st r e => ?_⟩
    · rw [show (run G IP (k + 1)).1 = callBody G IP (run G IP k).1 (run G IP k).2 from rfl] at e
      rw [show (run G IP (k + 1 + 1)).1 = callBody G IP (run G IP (k + 1)).1 (run G IP (k + 1)).2 from rfl]
      simp only [callBody] at e ⊢
      split at e
      · cases e
      · rename_i fn hfn
        split at e
        · cases e
        · rename_i hc
          rw [if_neg hc]
          split at e
          · rename_i ho; rw [evalC_mono h1 (h2 _) ho]; exact e
          · rename_i ho; rw [evalC_mono h1 (h2 _) ho]; exact e
          · rename_i ho; rw [evalC_mono h1 (h2 _) ho]; exact e
          · cases e
    · rw [show (run G IP (k + 1)).2 lo = loopBody G (run G IP k).1 (run G IP k).2 lo from rfl] at e
      rw [show (run G IP (k + 1 + 1)).2 lo = loopBody G (run G IP (k + 1)).1 (run G IP (k + 1)).2 lo from rfl]
      simp only [loopBody] at e ⊢
      split at e
      · rename_i ho; rw [evalC_mono h1 (h2 _) ho]; exact h2 _ _ _ _ e
      · rename_i hne
        rw [evalC_mono h1 (h2 _) e]
        split
        · rename_i s1 hh; cases hh; exact absurd e (by simpa using hne s1)
        · rfl
theorem run_mono {IP : IProg} {k k' : Nat} (h : k ≤ k') : CallLe (run G IP k).1 (run G IP k').1 ∧ ∀ lo, LoopLe ((run G IP k).2 lo) ((run G IP k').2 lo) := by
  induction h with
  | refl => exact ⟨fun _ _ _ _ _ _ e => e, fun _ _ _ _ e => e⟩
  | step h ih =>
    obtain ⟨a, b⟩ := run_succ (G := G) IP _
    exact ⟨fun f vs hp lo q r e => a _ _ _ _ _ _ (ih.1 _ _ _ _ _ _ e), fun lo x st r e => b lo _ _ _ (ih.2 lo _ _ _ e)⟩
end
end Go.Proofs.Ytajlmldpbhendaa.Rf
