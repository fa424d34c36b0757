/- More rounds tell the same. -/
import Derived.Test.YtajlmldpbhendaaRfG1
import Derived.Test.YtajlmldpbhendaaRfG6
import Derived.Test.YtajlmldpbhendaaRfG7
section
set_option linter.unusedSimpArgs false
set_option linter.unusedVariables false
namespace Go.Proofs.Ytajlmldpbhendaa.Rf

def CallLe (c d : CallF) : Prop := ∀ f vs hp lo q r, c f vs hp lo q = some r → d f vs hp lo q = some r
def LoopLe (c d : LoopF) : Prop := ∀ b st r, c b st = some r → d b st = some r
section
variable {G : Nat → Option (List AV)} {c d : CallF} {lo : Nat}
theorem evalOp_mono (h : CallLe c d) {o : IOp} {st : St} {r : OpR} (e : evalOp G c lo o st = some r) : evalOp G d lo o st = some r := by
  cases o
  case call f xs q =>
    simp only [evalOp] at e ⊢
    split at e
    · cases e
    · rename_i hp
      rw [if_neg hp]
      split at e
      · split at e
        · cases e
        · rename_i hpc
          rw [if_neg hpc]
          split at e
          · rename_i hc; rw [h _ _ _ _ _ _ hc]; exact e
          · rename_i hc; rw [h _ _ _ _ _ _ hc]; exact e
          · cases e
      · cases e
  all_goals exact e
theorem evalOps_mono (h : CallLe c d) : ∀ {os : List IOper} {st : St} {r : Ex × St}, evalOps G c lo os st = some r → evalOps G d lo os st = some r
  | [], st, r, e => e
  | o :: os, st, r, e => by
    simp only [evalOps] at e ⊢
    split at e
    · split at e
      · rename_i ho; rw [evalOp_mono h ho]
        split at e
        · rename_i hp; simp only [hp]; exact evalOps_mono h e
        · cases e
      · rename_i ho; rw [evalOp_mono h ho]; exact e
      · cases e
    · split at e
      · rename_i hp; exact evalOps_mono h e
      · cases e
    · cases e
theorem evalDraw_mono (h : CallLe c d) {ops : List IOper} {pans : List Nat} : ∀ {ord : List Nat} {st : St} {r : Ex × St}, evalDraw G c lo ops pans ord st = some r → evalDraw G d lo ops pans ord st = some r
  | [], st, r, e => e
  | i :: ord, st, r, e => by
    simp only [evalDraw] at e ⊢
    split at e
    · cases e
    · split at e
      · rename_i ho; rw [evalOps_mono h ho]; exact evalDraw_mono h e
      · rename_i ho; rw [evalOps_mono h ho]; exact e
      · cases e
theorem evalC_mono (h : CallLe c d) {l m : LoopF} (hl : LoopLe l m) : ∀ {x : ICode} {st : St} {r : Ex × St}, evalC G c l lo x st = some r → evalC G d m lo x st = some r := by
  intro x
  induction x with
  | skip => intro st r e; exact e
  | region ops live =>
    intro st r e
    simp only [evalC] at e ⊢
    split at e
    · rename_i ho; rw [evalOps_mono h ho]; exact e
    · rename_i hne
      rw [evalOps_mono h e]
      split
      · rename_i s1 hh; cases hh; exact absurd e (by simpa using hne s1)
      · rfl
  | draw ops ord pans live =>
    intro st r e
    simp only [evalC] at e ⊢
    cases hb : evalDraw G c lo ops pans ord st with
    | none => rw [hb] at e; cases e
    | some x => rw [evalDraw_mono h hb]; rw [hb] at e; exact e
  | seq a b iha ihb =>
    intro st r e
    simp only [evalC] at e ⊢
    split at e
    · rename_i ho; rw [iha ho]; exact ihb e
    · rename_i hne
      rw [iha e]
      split
      · rename_i s1 hh; cases hh; exact absurd e (by simpa using hne s1)
      · rfl
  | cond c a b iha ihb =>
    intro st r e
    simp only [evalC] at e ⊢
    split at e
    · split at e
      · rename_i h1; rw [if_pos h1]; exact iha e
      · rename_i h1; rw [if_neg h1]; exact ihb e
    · cases e
  | block id b ih =>
    intro st r e
    simp only [evalC] at e ⊢
    split at e
    · rename_i ho; rw [ih ho]; exact e
    · rename_i hne
      rw [ih e]
      split
      · rename_i i s1 hh; cases hh; exact absurd e (by simpa using hne i s1)
      · rfl
  | loop b ih => intro st r e; exact hl _ _ _ e
  | exit id => intro st r e; exact e
  | ret => intro st r e; exact e
  | stuck => intro st r e; exact e
theorem evalRecv_mono (h : CallLe c d) {l m : LoopF} (hl : LoopLe l m) {IP : IProg} {f : Nat} {caps : List AV} {hp : List HObj} {v : AV} {r : List HObj} (e : evalRecv G IP c l lo f caps hp v = some r) : evalRecv G IP d m lo f caps hp v = some r := by
  simp only [evalRecv] at e ⊢
  split at e
  · cases e
  · split at e
    · split at e
      · cases e
      · rename_i hc
        rw [if_neg hc]
        split at e
        · rename_i ho; rw [evalC_mono h hl ho]; exact e
        · rename_i ho; rw [evalC_mono h hl ho]; exact e
        · cases e
    · cases e
theorem evalFin1_mono (h : CallLe c d) {l m : LoopF} (hl : LoopLe l m) {IP : IProg} {ds : DSpec} {s3 : St} {v : AV} {r : Ex × St} (e : evalFin1 G IP c l lo ds s3 v = some r) : evalFin1 G IP d m lo ds s3 v = some r := by
  simp only [evalFin1] at e ⊢
  split at e
  · split at e
    · rename_i h4; rw [evalRecv_mono h hl h4]; exact e
    · cases e
  · cases e
theorem evalFin_mono (h : CallLe c d) {l m : LoopF} (hl : LoopLe l m) {IP : IProg} {ds : DSpec} {b : ICode} {st : St} {r : Ex × St} (e : evalFin G IP c l lo ds (evalC G c l lo b st) = some r) : evalFin G IP d m lo ds (evalC G d m lo b st) = some r := by
  cases hb : evalC G c l lo b st with
  | none => rw [hb] at e; simp [evalFin] at e
  | some x =>
    rw [evalC_mono h hl hb]
    rw [hb] at e
    obtain ⟨ex, s3⟩ := x
    cases ex <;> simp only [evalFin] at e ⊢ <;> first | exact evalFin1_mono h hl e | (cases e; done)
theorem evalF_mono (h : CallLe c d) {l m : LoopF} (hl : LoopLe l m) {IP : IProg} {fn : IFun} {st : St} {r : Ex × St} (e : evalF G IP c l lo fn st = some r) : evalF G IP d m lo fn st = some r := by
  simp only [evalF] at e ⊢
  split at e
  · exact evalC_mono h hl e
  · split at e
    · rename_i ho
      rw [evalC_mono h hl ho]
      simp only
      split at e
      · rename_i hc; rw [if_pos hc]; exact evalFin_mono h hl e
      · cases e
    · rename_i hne
      rw [evalC_mono h hl e]
      split
      · rename_i s1 hh; cases hh; exact absurd e (by simpa using hne s1)
      · rfl
theorem run_succ (IP : IProg) : ∀ k, CallLe (run G IP k).1 (run G IP (k + 1)).1 ∧ ∀ lo, LoopLe ((run G IP k).2 lo) ((run G IP (k + 1)).2 lo)
  | 0 => ⟨fun f vs hp lo q r e => by simp [run] at e, fun lo b st r e => by simp [run] at e⟩
  | k + 1 => by
    obtain ⟨h1, h2⟩ := run_succ IP k
    refine ⟨fun f vs hp lo q r e => ?_, fun lo b st r e => ?_⟩
    · rw [show (run G IP (k + 1)).1 = callBody G IP (run G IP k).1 (run G IP k).2 from rfl] at e
      rw [show (run G IP (k + 1 + 1)).1 = callBody G IP (run G IP (k + 1)).1 (run G IP (k + 1)).2 from rfl]
      simp only [callBody] at e ⊢
      split at e
      · cases e
      · rename_i fn hfn
        split at e
        · cases e
        · rename_i hc
          rw [if_neg hc]
          split at e
          · rename_i ho; rw [evalF_mono h1 (h2 _) ho]; exact e
          · rename_i ho; rw [evalF_mono h1 (h2 _) ho]; exact e
          · rename_i ho; rw [evalF_mono h1 (h2 _) ho]; exact e
          · cases e
    · rw [show (run G IP (k + 1)).2 lo = loopBody G (run G IP k).1 (run G IP k).2 lo from rfl] at e
      rw [show (run G IP (k + 1 + 1)).2 lo = loopBody G (run G IP (k + 1)).1 (run G IP (k + 1)).2 lo from rfl]
      simp only [loopBody] at e ⊢
      split at e
      · rename_i ho; rw [evalC_mono h1 (h2 _) ho]; exact h2 _ _ _ _ e
      · rename_i hne
        rw [evalC_mono h1 (h2 _) e]
        split
        · rename_i s1 hh; cases hh; exact absurd e (by simpa using hne s1)
        · rfl
theorem run_mono {IP : IProg} {k k' : Nat} (h : k ≤ k') : CallLe (run G IP k).1 (run G IP k').1 ∧ ∀ lo, LoopLe ((run G IP k).2 lo) ((run G IP k').2 lo) := by
  induction h with
  | refl => exact ⟨fun _ _ _ _ _ _ e => e, fun _ _ _ _ e => e⟩
  | step h ih =>
    obtain ⟨a, b⟩ := run_succ (G := G) IP _
    exact ⟨fun f vs hp lo q r e => a _ _ _ _ _ _ (ih.1 _ _ _ _ _ _ e), fun lo x st r e => b lo _ _ _ (ih.2 lo _ _ _ e)⟩
end
end Go.Proofs.Ytajlmldpbhendaa.Rf
end
section
/- The machine without a count of rounds: what the calls answer in the end. -/
set_option linter.unusedSimpArgs false
set_option linter.unusedVariables false
namespace Go.Proofs.Ytajlmldpbhendaa.Rf
section
variable (G : Nat → Option (List AV)) (IP : IProg)
open Classical in
/-- The answer of a call, if some number of rounds gives one. -/
noncomputable def callD : CallF := fun f vs hp lo q => if h : ∃ k r, (run G IP k).1 f vs hp lo q = some r then some h.choose_spec.choose else none
open Classical in
noncomputable def loopD (lo : Nat) : LoopF := fun b st => if h : ∃ k r, (run G IP k).2 lo b st = some r then some h.choose_spec.choose else none
variable {G IP}
theorem callD_iff {f : Nat} {vs : List AV} {hp : List HObj} {lo : Nat} {q : Bool} {r : COut} : callD G IP f vs hp lo q = some r ↔ ∃ k, (run G IP k).1 f vs hp lo q = some r := by
  unfold callD
  constructor
  · intro h
    split at h
    · rename_i hh; cases h; exact ⟨_, hh.choose_spec.choose_spec⟩
    · cases h
  · rintro ⟨k, hk⟩
    have hh : ∃ k r, (run G IP k).1 f vs hp lo q = some r := ⟨k, r, hk⟩
    rw [dif_pos hh]
    have e1 := (run_mono (G := G) (IP := IP) (Nat.le_max_left k hh.choose)).1 _ _ _ _ _ _ hk
    have e2 := (run_mono (G := G) (IP := IP) (Nat.le_max_right k hh.choose)).1 _ _ _ _ _ _ hh.choose_spec.choose_spec
    rw [e1] at e2; exact e2.symm
theorem loopD_iff {lo : Nat} {b : ICode} {st : St} {r : Ex × St} : loopD G IP lo b st = some r ↔ ∃ k, (run G IP k).2 lo b st = some r := by
  unfold loopD
  constructor
  · intro h
    split at h
    · rename_i hh; cases h; exact ⟨_, hh.choose_spec.choose_spec⟩
    · cases h
  · rintro ⟨k, hk⟩
    have hh : ∃ k r, (run G IP k).2 lo b st = some r := ⟨k, r, hk⟩
    rw [dif_pos hh]
    have e1 := (run_mono (G := G) (IP := IP) (Nat.le_max_left k hh.choose)).2 lo _ _ _ hk
    have e2 := (run_mono (G := G) (IP := IP) (Nat.le_max_right k hh.choose)).2 lo _ _ _ hh.choose_spec.choose_spec
    rw [e1] at e2; exact e2.symm
theorem run_callD (k : Nat) : CallLe (run G IP k).1 (callD G IP) := fun _ _ _ _ _ _ h => callD_iff.2 ⟨k, h⟩
theorem run_loopD (k lo : Nat) : LoopLe ((run G IP k).2 lo) (loopD G IP lo) := fun _ _ _ h => loopD_iff.2 ⟨k, h⟩

theorem evalOp_cont {lo : Nat} {o : IOp} {st : St} {r : OpR} (e : evalOp G (callD G IP) lo o st = some r) : ∃ k, evalOp G (run G IP k).1 lo o st = some r := by
  cases o
  case call f xs q =>
    simp only [evalOp] at e ⊢
    split at e
    · cases e
    · rename_i hp
      simp only [if_neg hp]
      split at e
      · split at e
        · cases e
        · rename_i hpc
          simp only [if_neg hpc]
          split at e
          · rename_i hc; obtain ⟨k, hk⟩ := callD_iff.1 hc; exact ⟨k, by rw [hk]; exact e⟩
          · rename_i hc; obtain ⟨k, hk⟩ := callD_iff.1 hc; exact ⟨k, by rw [hk]; exact e⟩
          · cases e
      · cases e
  all_goals exact ⟨0, e⟩
theorem evalOps_cont {lo : Nat} : ∀ {os : List IOper} {st : St} {r : Ex × St}, evalOps G (callD G IP) lo os st = some r → ∃ k, evalOps G (run G IP k).1 lo os st = some r
  | [], st, r, e => ⟨0, e⟩
  | o :: os, st, r, e => by
    simp only [evalOps] at e ⊢
    split at e
    · split at e
      · rename_i ho
        obtain ⟨k1, h1⟩ := evalOp_cont ho
        split at e
        · rename_i hp
          obtain ⟨k2, h2⟩ := evalOps_cont e
          refine ⟨max k1 k2, ?_⟩
          rw [evalOp_mono (run_mono (Nat.le_max_left k1 k2)).1 h1]
          simp only [hp]
          exact evalOps_mono (run_mono (Nat.le_max_right k1 k2)).1 h2
        · cases e
      · rename_i ho
        obtain ⟨k1, h1⟩ := evalOp_cont ho
        exact ⟨k1, by rw [h1]; exact e⟩
      · cases e
    · split at e
      · rename_i hp
        exact evalOps_cont e
      · cases e
    · cases e
theorem evalDraw_cont {lo : Nat} {ops : List IOper} {pans : List Nat} : ∀ {ord : List Nat} {st : St} {r : Ex × St}, evalDraw G (callD G IP) lo ops pans ord st = some r → ∃ k, evalDraw G (run G IP k).1 lo ops pans ord st = some r
  | [], st, r, e => ⟨0, e⟩
  | i :: ord, st, r, e => by
    simp only [evalDraw] at e ⊢
    split at e
    · cases e
    · split at e
      · rename_i ho
        obtain ⟨k1, h1⟩ := evalOps_cont ho
        obtain ⟨k2, h2⟩ := evalDraw_cont e
        refine ⟨max k1 k2, ?_⟩
        rw [evalOps_mono (run_mono (Nat.le_max_left k1 k2)).1 h1]
        exact evalDraw_mono (run_mono (Nat.le_max_right k1 k2)).1 h2
      · rename_i ho
        obtain ⟨k1, h1⟩ := evalOps_cont ho
        exact ⟨k1, by rw [h1]; exact e⟩
      · cases e
theorem evalC_cont {lo : Nat} : ∀ {x : ICode} {st : St} {r : Ex × St}, evalC G (callD G IP) (loopD G IP lo) lo x st = some r → ∃ k, evalC G (run G IP k).1 ((run G IP k).2 lo) lo x st = some r := by
  intro x
  induction x with
  | skip => intro st r e; exact ⟨0, e⟩
  | region ops live =>
    intro st r e
    simp only [evalC] at e ⊢
    split at e
    · rename_i ho; obtain ⟨k, hk⟩ := evalOps_cont ho; exact ⟨k, by rw [hk]; exact e⟩
    · rename_i hne
      obtain ⟨k, hk⟩ := evalOps_cont e
      refine ⟨k, ?_⟩
      rw [hk]
      split
      · rename_i s1 hh; cases hh; exact absurd e (by simpa using hne s1)
      · rfl
  | draw ops ord pans live =>
    intro st r e
    simp only [evalC] at e ⊢
    cases hb : evalDraw G (callD G IP) lo ops pans ord st with
    | none => rw [hb] at e; cases e
    | some x =>
      obtain ⟨k, hk⟩ := evalDraw_cont hb
      exact ⟨k, by rw [hk]; rw [hb] at e; exact e⟩
  | seq a b iha ihb =>
    intro st r e
    simp only [evalC] at e ⊢
    split at e
    · rename_i ho
      obtain ⟨k1, h1⟩ := iha ho
      obtain ⟨k2, h2⟩ := ihb e
      refine ⟨max k1 k2, ?_⟩
      have m1 := run_mono (G := G) (IP := IP) (Nat.le_max_left k1 k2)
      have m2 := run_mono (G := G) (IP := IP) (Nat.le_max_right k1 k2)
      rw [evalC_mono m1.1 (m1.2 lo) h1]
      exact evalC_mono m2.1 (m2.2 lo) h2
    · rename_i hne
      obtain ⟨k, hk⟩ := iha e
      refine ⟨k, ?_⟩
      rw [hk]
      split
      · rename_i s1 hh; cases hh; exact absurd e (by simpa using hne s1)
      · rfl
  | cond c a b iha ihb =>
    intro st r e
    simp only [evalC] at e ⊢
    split at e
    · split at e
      · rename_i h1; simp only [if_pos h1]; exact iha e
      · rename_i h1; simp only [if_neg h1]; exact ihb e
    · cases e
  | block id b ih =>
    intro st r e
    simp only [evalC] at e ⊢
    split at e
    · rename_i ho; obtain ⟨k, hk⟩ := ih ho; exact ⟨k, by rw [hk]; exact e⟩
    · rename_i hne
      obtain ⟨k, hk⟩ := ih e
      refine ⟨k, ?_⟩
      rw [hk]
      split
      · rename_i i s1 hh; cases hh; exact absurd e (by simpa using hne i s1)
      · rfl
  | loop b ih => intro st r e; obtain ⟨k, hk⟩ := loopD_iff.1 e; exact ⟨k, hk⟩
  | exit id => intro st r e; exact ⟨0, e⟩
  | ret => intro st r e; exact ⟨0, e⟩
  | stuck => intro st r e; exact ⟨0, e⟩

theorem evalRecv_cont {lo : Nat} {f : Nat} {caps : List AV} {hp : List HObj} {v : AV} {r : List HObj} (e : evalRecv G IP (callD G IP) (loopD G IP lo) lo f caps hp v = some r) : ∃ k, evalRecv G IP (run G IP k).1 ((run G IP k).2 lo) lo f caps hp v = some r := by
  simp only [evalRecv] at e ⊢
  split at e
  · cases e
  · split at e
    · split at e
      · cases e
      · rename_i hc
        simp only [if_neg hc]
        split at e
        · rename_i ho; obtain ⟨k, hk⟩ := evalC_cont ho; exact ⟨k, by rw [hk]; exact e⟩
        · rename_i ho; obtain ⟨k, hk⟩ := evalC_cont ho; exact ⟨k, by rw [hk]; exact e⟩
        · cases e
    · cases e
theorem evalFin1_cont {lo : Nat} {ds : DSpec} {s3 : St} {v : AV} {r : Ex × St} (e : evalFin1 G IP (callD G IP) (loopD G IP lo) lo ds s3 v = some r) : ∃ k, evalFin1 G IP (run G IP k).1 ((run G IP k).2 lo) lo ds s3 v = some r := by
  simp only [evalFin1] at e ⊢
  split at e
  · split at e
    · rename_i h4
      obtain ⟨k, hk⟩ := evalRecv_cont h4
      exact ⟨k, by rw [hk]; exact e⟩
    · cases e
  · cases e
theorem evalFin_cont {lo : Nat} {ds : DSpec} {b : ICode} {st : St} {r : Ex × St} (e : evalFin G IP (callD G IP) (loopD G IP lo) lo ds (evalC G (callD G IP) (loopD G IP lo) lo b st) = some r) : ∃ k, evalFin G IP (run G IP k).1 ((run G IP k).2 lo) lo ds (evalC G (run G IP k).1 ((run G IP k).2 lo) lo b st) = some r := by
  cases hb : evalC G (callD G IP) (loopD G IP lo) lo b st with
  | none => rw [hb] at e; simp [evalFin] at e
  | some x =>
    rw [hb] at e
    obtain ⟨k1, h1⟩ := evalC_cont hb
    obtain ⟨ex, s3⟩ := x
    have fin : ∀ v, evalFin1 G IP (callD G IP) (loopD G IP lo) lo ds s3 v = some r → ∃ k, k1 ≤ k ∧ evalFin1 G IP (run G IP k).1 ((run G IP k).2 lo) lo ds s3 v = some r := fun v e => by
      obtain ⟨k2, h2⟩ := evalFin1_cont e
      have m2 := run_mono (G := G) (IP := IP) (Nat.le_max_right k1 k2)
      exact ⟨max k1 k2, Nat.le_max_left _ _, evalFin1_mono m2.1 (m2.2 lo) h2⟩
    have go : ∀ v, evalFin1 G IP (callD G IP) (loopD G IP lo) lo ds s3 v = some r → ∃ k, evalC G (run G IP k).1 ((run G IP k).2 lo) lo b st = some (ex, s3) ∧ evalFin1 G IP (run G IP k).1 ((run G IP k).2 lo) lo ds s3 v = some r := fun v e => by
      obtain ⟨k, q1, q2⟩ := fin v e
      have m1 := run_mono (G := G) (IP := IP) q1
      exact ⟨k, evalC_mono m1.1 (m1.2 lo) h1, q2⟩
    cases ex with
    | normal => obtain ⟨k, q1, q2⟩ := go _ e; exact ⟨k, by rw [q1]; exact q2⟩
    | ret => obtain ⟨k, q1, q2⟩ := go _ e; exact ⟨k, by rw [q1]; exact q2⟩
    | pan v => obtain ⟨k, q1, q2⟩ := go _ e; exact ⟨k, by rw [q1]; exact q2⟩
    | exit i => simp [evalFin] at e
theorem evalF_cont {lo : Nat} {fn : IFun} {st : St} {r : Ex × St} (e : evalF G IP (callD G IP) (loopD G IP lo) lo fn st = some r) : ∃ k, evalF G IP (run G IP k).1 ((run G IP k).2 lo) lo fn st = some r := by
  simp only [evalF] at e ⊢
  split at e
  · exact evalC_cont e
  · split at e
    · rename_i ho
      obtain ⟨k1, h1⟩ := evalC_cont ho
      split at e
      · rename_i hc
        obtain ⟨k2, h2⟩ := evalFin_cont e
        have m1 := run_mono (G := G) (IP := IP) (Nat.le_max_left k1 k2)
        have m2 := run_mono (G := G) (IP := IP) (Nat.le_max_right k1 k2)
        exact ⟨max k1 k2, by rw [evalC_mono m1.1 (m1.2 lo) h1]; simp only; rw [if_pos hc]; exact evalFin_mono m2.1 (m2.2 lo) h2⟩
      · cases e
    · rename_i hne
      obtain ⟨k, hk⟩ := evalC_cont e
      refine ⟨k, ?_⟩
      rw [hk]
      split
      · rename_i s1 hh; cases hh; exact absurd e (by simpa using hne s1)
      · rfl
theorem callBody_mono {c d : CallF} {l m : Nat → LoopF} (h : CallLe c d) (hl : ∀ lo, LoopLe (l lo) (m lo)) : CallLe (callBody G IP c l) (callBody G IP d m) := by
  intro f vs hp lo q r e
  simp only [callBody] at e ⊢
  split at e
  · cases e
  · rename_i fn hfn
    split at e
    · cases e
    · rename_i hc
      rw [if_neg hc]
      split at e
      · rename_i ho; rw [evalF_mono h (hl _) ho]; exact e
      · rename_i ho; rw [evalF_mono h (hl _) ho]; exact e
      · rename_i ho; rw [evalF_mono h (hl _) ho]; exact e
      · cases e
theorem loopBody_mono {c d : CallF} {l m : Nat → LoopF} (h : CallLe c d) (hl : ∀ lo, LoopLe (l lo) (m lo)) (lo : Nat) : LoopLe (loopBody G c l lo) (loopBody G d m lo) := by
  intro b st r e
  simp only [loopBody] at e ⊢
  split at e
  · rename_i ho; rw [evalC_mono h (hl _) ho]; exact hl _ _ _ _ e
  · rename_i hne
    rw [evalC_mono h (hl _) e]
    split
    · rename_i s1 hh; cases hh; exact absurd e (by simpa using hne s1)
    · rfl
theorem opt_ext {α : Type} {a b : Option α} (h1 : ∀ r, a = some r → b = some r) (h2 : ∀ r, b = some r → a = some r) : a = b := by
  cases a with
  | none => cases b with
    | none => rfl
    | some r => exact h2 r rfl
  | some r => exact (h1 r rfl).symm
/-- A call is its body's round, its callees and loops by their answers in the end. -/
theorem callD_eq (f : Nat) (vs : List AV) (hp : List HObj) (lo : Nat) (q : Bool) : callD G IP f vs hp lo q = callBody G IP (callD G IP) (loopD G IP) f vs hp lo q := by
  apply opt_ext
  · intro r h
    obtain ⟨k, hk⟩ := callD_iff.1 h
    cases k with
    | zero => simp [run] at hk
    | succ k => exact callBody_mono (run_callD k) (run_loopD k) _ _ _ _ _ _ hk
  · intro r e
    suffices ∃ k, callBody G IP (run G IP k).1 (run G IP k).2 f vs hp lo q = some r by
      obtain ⟨k, hk⟩ := this; exact callD_iff.2 ⟨k + 1, hk⟩
    simp only [callBody] at e ⊢
    split at e
    · cases e
    · rename_i fn hfn
      split at e
      · cases e
      · rename_i hc
        simp only [if_neg hc]
        split at e
        · rename_i ho; obtain ⟨k, hk⟩ := evalF_cont ho; exact ⟨k, by rw [hk]; exact e⟩
        · rename_i ho; obtain ⟨k, hk⟩ := evalF_cont ho; exact ⟨k, by rw [hk]; exact e⟩
        · rename_i ho; obtain ⟨k, hk⟩ := evalF_cont ho; exact ⟨k, by rw [hk]; exact e⟩
        · cases e
theorem loopD_eq (lo : Nat) (b : ICode) (st : St) : loopD G IP lo b st = loopBody G (callD G IP) (loopD G IP) lo b st := by
  apply opt_ext
  · intro r h
    obtain ⟨k, hk⟩ := loopD_iff.1 h
    cases k with
    | zero => simp [run] at hk
    | succ k => exact loopBody_mono (run_callD k) (run_loopD k) _ _ _ _ hk
  · intro r e
    suffices ∃ k, loopBody G (run G IP k).1 (run G IP k).2 lo b st = some r by
      obtain ⟨k, hk⟩ := this; exact loopD_iff.2 ⟨k + 1, hk⟩
    simp only [loopBody] at e ⊢
    split at e
    · rename_i ho
      obtain ⟨k1, h1⟩ := evalC_cont ho
      obtain ⟨k2, h2⟩ := loopD_iff.1 e
      refine ⟨max k1 k2, ?_⟩
      have m1 := run_mono (G := G) (IP := IP) (Nat.le_max_left k1 k2)
      have m2 := run_mono (G := G) (IP := IP) (Nat.le_max_right k1 k2)
      rw [evalC_mono m1.1 (m1.2 lo) h1]
      exact m2.2 lo _ _ _ h2
    · rename_i hne
      obtain ⟨k, hk⟩ := evalC_cont e
      refine ⟨k, ?_⟩
      rw [hk]
      split
      · rename_i s1 hh; cases hh; exact absurd e (by simpa using hne s1)
      · rfl
end
end Go.Proofs.Ytajlmldpbhendaa.Rf
end
section
/- From an answer in the end to a law's statement. -/
set_option linter.unusedSimpArgs false
set_option linter.unusedVariables false
namespace Go.Proofs.Ytajlmldpbhendaa.Rf
section
variable {H : Type} {enc : TypeId × Value → H} {P : Program} {W : World} {base : Nat}
theorem law_endD (hm : P.follows .mixedOrders = true) {IP : IProg} (hIP : ∀ f fn, IP f = some fn → chkFun P f fn = true) (hlaid : laidOutB P = true) {S : List TypeId} (hS : covS P S = true) {f : FuncId} {fn : Func}
    (hp : fn.params.toList.all (fun t => S.contains t && P.readableRec t && Nat.blt t P.types.size) = true) {s : ChangeSpec} (hvars : s.vars = []) {tb : TypeId} (hres : fn.resultTypes = #[tb]) (hb : P.underlying tb = some .bool)
    (hspec : ∀ ds : List (DataW H), ds.length = fn.params.size → s.fn H (ds ++ []) = ⟨[.lit (.bool true)], ds, []⟩) {args : Array Value} {ds gs : List (DataW H)} {before : List MemPlace}
    (hval : ∀ (j : Nat) t v, fn.params[j]? = some t → args[j]? = some v → Value.okWide P W .any base t v) (hW : DataW.Whole enc P fn.params.toList s.vars false W args.toList ds gs before)
    (hrun : ∀ avs, ArgsTy P fn.params.toList avs ds → ∃ q hp, callD noG IP f avs [] 0 q = some (.ret (.bool true) hp)) :
    Calls P f args W fun e W' => ∃ v, e = .returned v ∧ s.post enc P fn false true false false W args v W' :=
  law_end hm hIP hlaid hS hp hvars hres hb hspec hval hW fun avs ha => by
    obtain ⟨q, hp, h⟩ := hrun avs ha
    obtain ⟨k, hk⟩ := callD_iff.1 h
    exact ⟨k, q, hp, hk⟩
end
end Go.Proofs.Ytajlmldpbhendaa.Rf
end
section
/- The walk: how the plain machine is stepped by simp; loops by their states. -/
set_option linter.unusedSimpArgs false
set_option linter.unusedVariables false
namespace Go.Proofs.Ytajlmldpbhendaa.Rf

attribute [simp] frzs frz1 callBody evalF evalRecv evalFin evalFin1 toHeap ptrsFrom setPtrs AV.husk Fr.husk evalC evalDraw evalOps evalOp opd opds wanted St.put ret1 Fr.get Fr.set Fr.keep Fr.keepOk AV.loose evalRess evalRes1 AV.plain plains tupOf AV.closed AV.closedL enter memOk behind behindPut cut put ofCells binAV intBin strBin shiftBin eqAV unAV bound AV.spread AV.cells buildCells fillElems keyEq

@[simp] theorem Own.cp_nil : Own.cp .nil = .nil := rfl
@[simp] theorem Own.cp_no : Own.cp .no = .no := rfl
@[simp] theorem Own.cp_own0 (n : Nat) : Own.cp (.own n 0) = .no := rfl
@[simp] theorem Own.cp_ownS (n e : Nat) : Own.cp (.own n (e + 1)) = .view (e + 1) := by simp [Own.cp, Own.vw]
theorem Own.cp_own {n e : Nat} (h : e ≠ 0) : Own.cp (.own n e) = .view e := by simp [Own.cp, Own.vw, h]
theorem Own.cp_view {e : Nat} (h : e ≠ 0) : Own.cp (.view e) = .view e := by simp [Own.cp, Own.vw, h]
@[simp] theorem Own.cp_cp (o : Own) : o.cp.cp = o.cp := by
  cases o with
  | no => rfl
  | nil => rfl
  | own n e => by_cases h : e = 0 <;> simp [Own.cp, Own.vw, h]
  | view e => by_cases h : e = 0 <;> simp [Own.cp, Own.vw, h]
section
variable (k : IntKind) (n : Int) (b : Bool) (s : List UInt8) (xs cs : List AV) (o : Own) (i j : Nat) (v : AV)
@[simp] theorem cp1_none : AV.cp1 .none = .none := rfl
@[simp] theorem cp1_bool : AV.cp1 (.bool b) = .bool b := rfl
@[simp] theorem cp1_int' : AV.cp1 (.int k n) = .int k n := rfl
@[simp] theorem cp1_str : AV.cp1 (.str s) = .str s := rfl
@[simp] theorem cp1_agg : AV.cp1 (.agg cs) = .agg cs := rfl
@[simp] theorem cp1_list : AV.cp1 (.list xs o) = .list xs o.cp := by cases o <;> rfl
@[simp] theorem cp1_ptr : AV.cp1 (.ptr i j) = .ptr i j := rfl
@[simp] theorem cp1_nilp : AV.cp1 .nilp = .nilp := rfl
@[simp] theorem cp1_sref (a b c d : Nat) : AV.cp1 (.sref a b c d) = .sref a b c d := rfl
@[simp] theorem cpA_sref (a b c d : Nat) : AV.cpA (.sref a b c d) = .sref a b c d := rfl
@[simp] theorem cp_sref (a b c d : Nat) : AV.cp (.sref a b c d) = .sref a b c d := rfl
@[simp] theorem cp1_lref : AV.cp1 (.lref i j) = .lref i j := rfl
@[simp] theorem cp1_box : AV.cp1 (.box cs) = .box cs := rfl
@[simp] theorem cp1_eref : AV.cp1 (.eref v i) = .eref v i := rfl
@[simp] theorem cp1_lastr : AV.cp1 (.lastr i) = .lastr i := rfl
@[simp] theorem cp1_map : AV.cp1 (.map i) = .map i := rfl
@[simp] theorem cp1_nilm : AV.cp1 .nilm = .nilm := rfl
@[simp] theorem cp1_func : AV.cp1 (.func i cs) = .func i cs := rfl
@[simp] theorem cp1_nilf : AV.cp1 .nilf = .nilf := rfl
@[simp] theorem cp1_iface : AV.cp1 (.iface i v) = .iface i v := rfl
@[simp] theorem cp1_nili : AV.cp1 .nili = .nili := rfl
@[simp] theorem cp1_glob : AV.cp1 (.glob i j) = .glob i j := rfl
@[simp] theorem cp1_tup : AV.cp1 (.tup cs) = .tup cs := rfl
@[simp] theorem cpA_none : AV.cpA .none = .none := rfl
@[simp] theorem cpA_bool : AV.cpA (.bool b) = .bool b := rfl
@[simp] theorem cpA_int' : AV.cpA (.int k n) = .int k n := rfl
@[simp] theorem cpA_str : AV.cpA (.str s) = .str s := rfl
@[simp] theorem cpA_agg : AV.cpA (.agg cs) = .agg (cs.map AV.cp1) := rfl
@[simp] theorem cpA_list : AV.cpA (.list xs o) = .list xs o.cp := by cases o <;> rfl
@[simp] theorem cpA_ptr : AV.cpA (.ptr i j) = .ptr i j := rfl
@[simp] theorem cpA_nilp : AV.cpA .nilp = .nilp := rfl
@[simp] theorem cpA_map : AV.cpA (.map i) = .map i := rfl
@[simp] theorem cpA_nilm : AV.cpA .nilm = .nilm := rfl
@[simp] theorem cpA_func : AV.cpA (.func i cs) = .func i cs := rfl
@[simp] theorem cpA_nilf : AV.cpA .nilf = .nilf := rfl
@[simp] theorem cpA_iface : AV.cpA (.iface i v) = .iface i v := rfl
@[simp] theorem cpA_nili : AV.cpA .nili = .nili := rfl
@[simp] theorem cpA_glob : AV.cpA (.glob i j) = .glob i j := rfl
@[simp] theorem cp_none : AV.cp .none = .none := rfl
@[simp] theorem cp_bool : AV.cp (.bool b) = .bool b := rfl
@[simp] theorem cp_int' : AV.cp (.int k n) = .int k n := rfl
@[simp] theorem cp_str : AV.cp (.str s) = .str s := rfl
@[simp] theorem cp_agg : AV.cp (.agg cs) = .agg (cs.map AV.cp1) := rfl
@[simp] theorem cp_list : AV.cp (.list xs o) = .list xs o.cp := by cases o <;> rfl
@[simp] theorem cp_ptr : AV.cp (.ptr i j) = .ptr i j := rfl
@[simp] theorem cp_nilp : AV.cp .nilp = .nilp := rfl
@[simp] theorem cp_lref : AV.cp (.lref i j) = .lref i j := rfl
@[simp] theorem cp_box : AV.cp (.box cs) = .box cs := rfl
@[simp] theorem cp_eref : AV.cp (.eref v i) = .eref v i := rfl
@[simp] theorem cp_lastr : AV.cp (.lastr i) = .lastr i := rfl
@[simp] theorem cp_map : AV.cp (.map i) = .map i := rfl
@[simp] theorem cp_nilm : AV.cp .nilm = .nilm := rfl
@[simp] theorem cp_func : AV.cp (.func i cs) = .func i cs := rfl
@[simp] theorem cp_nilf : AV.cp .nilf = .nilf := rfl
@[simp] theorem cp_iface : AV.cp (.iface i v) = .iface i v := rfl
@[simp] theorem cp_nili : AV.cp .nili = .nili := rfl
@[simp] theorem cp_glob : AV.cp (.glob i j) = .glob i j := rfl
@[simp] theorem cp_tup : AV.cp (.tup cs) = .tup (cs.map AV.cpA) := rfl
end
section
variable {G : Nat → Option (List AV)} {IP : IProg}
/-- A loop by the states at its rounds' heads. -/
theorem loop_iter {lo : Nat} {b : ICode} (S : Nat → St) (n : Nat) {r : Ex × St} (hstep : ∀ i, i < n → evalC G (callD G IP) (loopD G IP lo) lo b (S i) = some (.normal, S (i + 1)))
    (hend : evalC G (callD G IP) (loopD G IP lo) lo b (S n) = some r) (hr : ∀ s, r ≠ (.normal, s)) : loopD G IP lo b (S 0) = some r := by
  have h : ∀ k, k ≤ n → loopD G IP lo b (S (n - k)) = some r := by
    intro k
    induction k with
    | zero =>
      intro _
      rw [loopD_eq, loopBody, Nat.sub_zero, hend]
      split
      · rename_i s hh; cases hh; exact absurd rfl (hr s)
      · rfl
    | succ k ih =>
      intro hk
      have h1 := hstep (n - (k + 1)) (by omega)
      rw [show n - (k + 1) + 1 = n - k by omega] at h1
      rw [loopD_eq, loopBody, h1]
      exact ih (by omega)
  have := h n (Nat.le_refl n)
  rwa [Nat.sub_self] at this
/-- A loop that is left at some index of a kind, or at its end. -/
theorem loop_some {lo : Nat} {b : ICode} (S : Nat → St) (n : Nat) (p : Nat → Bool) (Y : Nat → Ex × St) (r : Ex × St)
    (hstep : ∀ i, i < n → p i = false → evalC G (callD G IP) (loopD G IP lo) lo b (S i) = some (.normal, S (i + 1)))
    (hyes : ∀ i, i < n → p i = true → evalC G (callD G IP) (loopD G IP lo) lo b (S i) = some (Y i)) (hY : ∀ i s, Y i ≠ (.normal, s))
    (hend : evalC G (callD G IP) (loopD G IP lo) lo b (S n) = some r) (hr : ∀ s, r ≠ (.normal, s)) :
    (∃ m, m < n ∧ p m = true ∧ (∀ j, j < m → p j = false) ∧ loopD G IP lo b (S 0) = some (Y m)) ∨ ((∀ i, i < n → p i = false) ∧ loopD G IP lo b (S 0) = some r) := by
  by_cases hc : ∃ i, i < n ∧ p i = true
  · have : ∃ m, (m < n ∧ p m = true) ∧ ∀ j, j < m → p j = false := by
      obtain ⟨i, hi⟩ := hc
      induction i using Nat.strongRecOn with
      | _ i ih =>
        by_cases hj : ∃ j, j < i ∧ p j = true
        · obtain ⟨j, h1, h2⟩ := hj; exact ih j h1 ⟨by omega, h2⟩
        · refine ⟨i, hi, fun j h1 => ?_⟩
          cases h2 : p j with
          | false => rfl
          | true => exact absurd ⟨j, h1, h2⟩ hj
    obtain ⟨m, ⟨h1, h2⟩, h3⟩ := this
    exact .inl ⟨m, h1, h2, h3, loop_iter S m (fun i hi => hstep i (by omega) (h3 i hi)) (hyes m h1 h2) (hY m)⟩
  · have h0 : ∀ i, i < n → p i = false := fun i hi => by
      cases h2 : p i with
      | false => rfl
      | true => exact absurd ⟨i, hi, h2⟩ hc
    exact .inr ⟨h0, loop_iter S n (fun i hi => hstep i hi (h0 i hi)) hend hr⟩
/-- A loop that is left at the first index of a kind. -/
theorem loop_find {lo : Nat} {b : ICode} (S : Nat → St) (n : Nat) (p : Nat → Bool) (Y r : Ex × St)
    (hstep : ∀ i, i < n → p i = false → evalC G (callD G IP) (loopD G IP lo) lo b (S i) = some (.normal, S (i + 1)))
    (hyes : ∀ i, i < n → p i = true → evalC G (callD G IP) (loopD G IP lo) lo b (S i) = some Y) (hY : ∀ s, Y ≠ (.normal, s))
    (hend : evalC G (callD G IP) (loopD G IP lo) lo b (S n) = some r) (hr : ∀ s, r ≠ (.normal, s)) : loopD G IP lo b (S 0) = some (if (List.range n).any p then Y else r) := by
  by_cases hc : ∃ i, i < n ∧ p i = true
  · have : ∃ m, (m < n ∧ p m = true) ∧ ∀ j, j < m → p j = false := by
      obtain ⟨i, hi⟩ := hc
      induction i using Nat.strongRecOn with
      | _ i ih =>
        by_cases hj : ∃ j, j < i ∧ p j = true
        · obtain ⟨j, h1, h2⟩ := hj; exact ih j h1 ⟨by omega, h2⟩
        · refine ⟨i, hi, fun j h1 => ?_⟩
          cases h2 : p j with
          | false => rfl
          | true => exact absurd ⟨j, h1, h2⟩ hj
    obtain ⟨m, ⟨h1, h2⟩, h3⟩ := this
    rw [if_pos (by simp only [List.any_eq_true, List.mem_range]; exact ⟨m, h1, h2⟩)]
    exact loop_iter S m (fun i hi => hstep i (by omega) (h3 i hi)) (hyes m h1 h2) hY
  · rw [if_neg (by simp only [List.any_eq_true, List.mem_range]; exact hc)]
    refine loop_iter S n (fun i hi => hstep i hi ?_) hend hr
    cases h2 : p i with
    | false => rfl
    | true => exact absurd ⟨i, hi, h2⟩ hc
end

@[simp] theorem cp1_int (k : IntKind) : AV.cp1 ∘ AV.int k = AV.int k := rfl
@[simp] theorem beqI (a b : Int) : (a == b) = decide (a = b) := by by_cases h : a = b <;> simp [h]
@[simp] theorem bneI (a b : Int) : (a != b) = !decide (a = b) := by by_cases h : a = b <;> simp [h]
@[simp] theorem beqS (a b : List UInt8) : (a == b) = decide (a = b) := by by_cases h : a = b <;> simp [h]
@[simp] theorem bneS (a b : List UInt8) : (a != b) = !decide (a = b) := by by_cases h : a = b <;> simp [h]
@[simp] theorem okSize_nil (n : Nat) : okSize n [] = true := rfl
@[simp] theorem okSize_cons (n : Nat) (x : AV) (r : List AV) : okSize n (x :: r) = (x.cells.length == n) := rfl
@[simp] theorem closedL_app (n : Nat) : ∀ a b : List AV, AV.closedL n (a ++ b) = (AV.closedL n a && AV.closedL n b)
  | [], b => by simp [AV.closedL]
  | v :: r, b => by simp [AV.closedL, closedL_app n r b, Bool.and_assoc]
@[simp] theorem keep1_list (xs : List AV) (o : Own) : AV.keep1 (.list xs o) = .list xs o := rfl
@[simp] theorem keep1_int (k : IntKind) (n : Int) : AV.keep1 (.int k n) = .int k n := rfl
@[simp] theorem keep1_bool (b : Bool) : AV.keep1 (.bool b) = .bool b := rfl
@[simp] theorem keep1_str (s : List UInt8) : AV.keep1 (.str s) = .str s := rfl
@[simp] theorem keep1_agg (cs : List AV) : AV.keep1 (.agg cs) = .agg (cs.map AV.cp1) := rfl
def ownB (o : Bool) : Own := if o then .nil else .no
@[simp] theorem ownB_cp (o : Bool) : (ownB o).cp = ownB o := by cases o <;> rfl
@[simp] theorem ownB_own (o : Bool) (n e : Nat) : (ownB o = .own n e) = False := by cases o <;> simp [ownB]
theorem wrap_small {n : Int} (h0 : 0 ≤ n) (h1 : n ≤ 9223372036854775807) : IntKind.wrap .i64 n = n := by
  simp [IntKind.wrap, IntKind.signed, IntKind.bits]; omega
theorem wrap_succ {i n : Nat} (h : i < n) (hn : n ≤ 9223372036854775807) : IntKind.wrap .i64 ((i : Int) + 1) = ((i + 1 : Nat) : Int) := by
  rw [wrap_small (by omega) (by omega)]; rfl
theorem foldl_take_succ {α β : Type} (f : β → α → β) (s : β) (l : List α) (i : Nat) (h : i < l.length) : (l.take (i + 1)).foldl f s = f ((l.take i).foldl f s) l[i] := by
  rw [List.take_succ_eq_append_getElem h, List.foldl_append]; rfl
theorem cell_one {l : List Int} {k : IntKind} {n : Nat} (h : n < l.length) : ((l.map (AV.int k)).drop n).take 1 = [AV.int k (l.getD n 0)] := by
  rw [List.drop_eq_getElem_cons (by simpa using h)]
  simp [h]
end Go.Proofs.Ytajlmldpbhendaa.Rf
end
section
/- Texts of s-expressions: bytes, blanks, atoms. -/
set_option linter.unusedSimpArgs false
set_option linter.unusedVariables false
namespace Go.Proofs.Ytajlmldpbhendaa.Rf

def plainC (n : Int) : Bool := decide (n ≥ 33) && (decide (n ≤ 126) && (!decide (n = 40) && (!decide (n = 41) && !decide (n = 59))))
def blankC (n : Int) : Bool := decide (n = 32) || (decide (n = 9) || (decide (n = 10) || decide (n = 13)))
theorem plain1_D (n : Int) (hp : List HObj) (lo : Nat) (q : Bool) : callD G0 IP n_saturateref05_Byte [.int .u8 n] hp lo q = some (.ret (.bool (plainC n)) hp) := by
  rw [callD_eq]
  by_cases h1 : n ≥ 33
  · by_cases h2 : n ≤ 126
    · by_cases h3 : n = 40
      · subst h3; simp [IP_saturateref05_Byte, i_saturateref05_Byte, plainC]
      · by_cases h4 : n = 41
        · subst h4; simp [IP_saturateref05_Byte, i_saturateref05_Byte, plainC]
        · by_cases h5 : n = 59
          · subst h5; simp [IP_saturateref05_Byte, i_saturateref05_Byte, plainC]
          · simp [IP_saturateref05_Byte, i_saturateref05_Byte, plainC, h1, h2, h3, h4, h5]
    · simp [IP_saturateref05_Byte, i_saturateref05_Byte, plainC, h1, h2]
  · simp [IP_saturateref05_Byte, i_saturateref05_Byte, plainC, h1]
theorem plain2_D (n : Int) (hp : List HObj) (lo : Nat) (q : Bool) : callD G0 IP n_sexpr_plain [.int .u8 n] hp lo q = some (.ret (.bool (plainC n)) hp) := by
  rw [callD_eq]
  by_cases h1 : n ≥ 33
  · by_cases h2 : n ≤ 126
    · by_cases h3 : n = 40
      · subst h3; simp [IP_sexpr_plain, i_sexpr_plain, plainC]
      · by_cases h4 : n = 41
        · subst h4; simp [IP_sexpr_plain, i_sexpr_plain, plainC]
        · by_cases h5 : n = 59
          · subst h5; simp [IP_sexpr_plain, i_sexpr_plain, plainC]
          · simp [IP_sexpr_plain, i_sexpr_plain, plainC, h1, h2, h3, h4, h5]
    · simp [IP_sexpr_plain, i_sexpr_plain, plainC, h1, h2]
  · simp [IP_sexpr_plain, i_sexpr_plain, plainC, h1]
theorem blank_D (n : Int) (hp : List HObj) (lo : Nat) (q : Bool) : callD G0 IP n_saturateref05_blank [.int .u8 n] hp lo q = some (.ret (.bool (blankC n)) hp) := by
  rw [callD_eq]
  by_cases h1 : n = 32
  · subst h1; simp [IP_saturateref05_blank, i_saturateref05_blank, blankC]
  · by_cases h2 : n = 9
    · subst h2; simp [IP_saturateref05_blank, i_saturateref05_blank, blankC]
    · by_cases h3 : n = 10
      · subst h3; simp [IP_saturateref05_blank, i_saturateref05_blank, blankC]
      · by_cases h4 : n = 13
        · subst h4; simp [IP_saturateref05_blank, i_saturateref05_blank, blankC]
        · simp [IP_saturateref05_blank, i_saturateref05_blank, blankC, h1, h2, h3, h4]

/-- the byte at an offset, as a number -/
def byt (s : List UInt8) (i : Nat) : Int := ((s.getD i 0).toNat : Int)
theorem byt_some {s : List UInt8} {i : Nat} (h : i < s.length) : ∃ c : UInt8, s[i]? = some c ∧ byt s i = (c.toNat : Int) := ⟨s[i], by simp [h], by simp [byt, h]⟩
/-- where a comment ends: k bytes are left -/
def comK (s : List UInt8) : Nat → Nat → Nat
  | 0, i => i
  | k + 1, i => if byt s i = 10 then i else comK s k (i + 1)
theorem comK_le (s : List UInt8) : ∀ k i, i ≤ comK s k i ∧ comK s k i ≤ i + k
  | 0, i => by simp [comK]
  | k + 1, i => by
    simp only [comK]
    split
    · omega
    · have := comK_le s k (i + 1); omega
/-- the end of what is skipped; with n rounds to go -/
def skipK (s : List UInt8) : Nat → Nat → Nat
  | 0, i => i
  | n + 1, i => if i < s.length then (if blankC (byt s i) then skipK s n (i + 1) else if byt s i = 59 then skipK s n (comK s (s.length - i) i) else i) else i
theorem skipK_le (s : List UInt8) : ∀ n i, i ≤ s.length → i ≤ skipK s n i ∧ skipK s n i ≤ s.length
  | 0, i, h => by simp [skipK]; exact h
  | n + 1, i, h => by
    simp only [skipK]
    split
    · split
      · have := skipK_le s n (i + 1) (by omega); omega
      · split
        · have h1 := comK_le s (s.length - i) i
          have := skipK_le s n (comK s (s.length - i) i) (by omega); omega
        · omega
    · omega
def skipN (s : List UInt8) (i : Nat) : Nat := skipK s s.length i
/-- the end of an atom: k bytes are left -/
def atomK (s : List UInt8) : Nat → Nat → Nat
  | 0, i => i
  | k + 1, i => if plainC (byt s i) then atomK s k (i + 1) else i
def atomN (s : List UInt8) (i : Nat) : Nat := atomK s (s.length - i) i
theorem atomK_le (s : List UInt8) : ∀ k i, i ≤ atomK s k i ∧ atomK s k i ≤ i + k
  | 0, i => by simp [atomK]
  | k + 1, i => by
    simp only [atomK]
    split
    · have := atomK_le s k (i + 1); omega
    · omega
section
variable {s : List UInt8} {hp : List HObj} {lo : Nat}
theorem com1_L (hs : s.length ≤ 9223372036854775807) : ∀ (k i : Nat) (ex : Fr), ex = [] ∨ ex = [(24, .bool true)] → i + k = s.length →
    loopD G0 IP lo l_saturateref05_skip_1 ⟨(0, .str s) :: (1, .int .i64 i) :: ex, hp⟩ = some (.exit 2, ⟨[(0, .str s), (1, .int .i64 (comK s k i)), (34, .bool false)], hp⟩)
  | 0, i, ex, hex, h => by
    rw [loopD_eq, loopBody]
    have : ¬ (i : Int) < (s.length : Int) := by omega
    rcases hex with rfl | rfl <;> simp [l_saturateref05_skip_1, this, comK]
  | k + 1, i, ex, hex, h => by
    rw [loopD_eq, loopBody]
    have h1 : (i : Int) < (s.length : Int) := by omega
    obtain ⟨c, h2, hb⟩ := byt_some (s := s) (i := i) (by omega)
    have h3 := wrap_succ (i := i) (n := s.length) (by omega) hs
    have ih := com1_L hs k (i + 1) [] (.inl rfl) (by omega)
    simp only [comK, hb]
    by_cases hc : (c.toNat : Int) = 10
    · rcases hex with rfl | rfl <;> simp [l_saturateref05_skip_1, h1, h2, hc]
    · rcases hex with rfl | rfl <;> simp [l_saturateref05_skip_1, h1, h2, hc, h3] <;> exact ih
theorem skip1_L (hs : s.length ≤ 9223372036854775807) : ∀ (n i : Nat) (ex : Fr), ex = [] ∨ ex = [(34, .bool false)] → i ≤ s.length → s.length - i ≤ n →
    loopD G0 IP lo l_saturateref05_skip_0 ⟨(0, .str s) :: (1, .int .i64 i) :: ex, hp⟩ = some (.exit 0, ⟨[(0, .str s), (1, .int .i64 (skipK s n i)), (20, .bool false)], hp⟩)
  | n, i, ex, hex, hi, hn => by
    by_cases h0 : i < s.length
    · match n, hn with
      | 0, hn => exact absurd hn (by omega)
      | n + 1, hn =>
        rw [loopD_eq, loopBody]
        have h1 : (i : Int) < (s.length : Int) := by omega
        obtain ⟨c, h2, hb⟩ := byt_some (s := s) (i := i) h0
        have h3 := wrap_succ (i := i) (n := s.length) h0 hs
        simp only [skipK, if_pos h0, hb]
        cases hc : blankC (c.toNat : Int)
        · by_cases h4 : (c.toNat : Int) = 59
          · have hcm := com1_L (hp := hp) (lo := lo) hs (s.length - i) i [(24, .bool true)] (.inr rfl) (by omega)
            have hle := comK_le s (s.length - i) i
            have hgt : i < comK s (s.length - i) i := by
              obtain ⟨k, hk⟩ : ∃ k, s.length - i = k + 1 := ⟨s.length - i - 1, by omega⟩
              rw [hk]; simp only [comK, hb, h4]
              have := comK_le s k (i + 1)
              simp; omega
            have ih := skip1_L hs n (comK s (s.length - i) i) [(34, .bool false)] (.inr rfl) (by omega) (by omega)
            rcases hex with rfl | rfl <;> simp [l_saturateref05_skip_0, h1, h2, h4, blank_D, hcm, show blankC 59 = false from rfl] <;> exact ih
          · rcases hex with rfl | rfl <;> simp [l_saturateref05_skip_0, h1, h2, hc, h4, blank_D]
        · have h4 : ¬ (c.toNat : Int) = 59 := fun e => by rw [e] at hc; simp [blankC] at hc
          have ih := skip1_L hs n (i + 1) [] (.inl rfl) (by omega) (by omega)
          rcases hex with rfl | rfl <;> simp [l_saturateref05_skip_0, h1, h2, hc, h4, blank_D, h3] <;> exact ih
    · rw [loopD_eq, loopBody]
      have h1 : ¬ (i : Int) < (s.length : Int) := by omega
      have e : skipK s n i = i := by cases n <;> simp [skipK, h0]
      rw [e]
      rcases hex with rfl | rfl <;> simp [l_saturateref05_skip_0, h1]
theorem skip1_D (hs : s.length ≤ 9223372036854775807) (i : Nat) (hi : i ≤ s.length) (q : Bool) : callD G0 IP n_saturateref05_skip [.str s, .int .i64 i] hp lo q = some (.ret (.int .i64 (skipN s i)) hp) := by
  rw [callD_eq]
  have h := skip1_L (hp := hp) (lo := hp.length) hs s.length i [] (.inl rfl) hi (by omega)
  simp [IP_saturateref05_skip, i_saturateref05_skip, h, skipN]
theorem atom1_L (hs : s.length ≤ 9223372036854775807) : ∀ (k i : Nat), i + k = s.length →
    loopD G0 IP lo l_saturateref05_atom_0 ⟨[(0, .str s), (1, .int .i64 i)], hp⟩ = some (.exit 0, ⟨[(0, .str s), (1, .int .i64 (atomK s k i)), (14, .bool false)], hp⟩)
  | 0, i, h => by
    rw [loopD_eq, loopBody]
    have : ¬ (i : Int) < (s.length : Int) := by omega
    simp [l_saturateref05_atom_0, this, atomK]
  | k + 1, i, h => by
    rw [loopD_eq, loopBody]
    have h1 : (i : Int) < (s.length : Int) := by omega
    obtain ⟨c, h2, hb⟩ := byt_some (s := s) (i := i) (by omega)
    have h3 := wrap_succ (i := i) (n := s.length) (by omega) hs
    have ih := atom1_L hs k (i + 1) (by omega)
    simp only [atomK, hb]
    cases hc : plainC (c.toNat : Int)
    · simp [l_saturateref05_atom_0, h1, h2, hc, plain1_D]
    · simp [l_saturateref05_atom_0, h1, h2, hc, h3, plain1_D]
      exact ih
theorem atom1_D (hs : s.length ≤ 9223372036854775807) (i : Nat) (hi : i ≤ s.length) (q : Bool) : callD G0 IP n_saturateref05_atom [.str s, .int .i64 i] hp lo q = some (.ret (.int .i64 (atomN s i)) hp) := by
  rw [callD_eq]
  have h := atom1_L (hp := hp) (lo := hp.length) hs (s.length - i) i (by omega)
  simp [IP_saturateref05_atom, i_saturateref05_atom, h, atomN]
end
end Go.Proofs.Ytajlmldpbhendaa.Rf
end
section
/- The parser's own skipping. -/
set_option linter.unusedSimpArgs false
set_option linter.unusedVariables false
namespace Go.Proofs.Ytajlmldpbhendaa.Rf

/-- The heap with the parser's object last: its text, where it stands. -/
def PH (hp : List HObj) (s : List UInt8) (v : Int) : List HObj := hp ++ [.cells 0 [.str s, .int .i64 v, .list [] .nil]]
section
variable {hp : List HObj} {s : List UInt8} {lo : Nat}
@[simp] theorem PH_get (v : Int) : (PH hp s v)[hp.length]? = some (.cells 0 [.str s, .int .i64 v, .list [] .nil]) := by simp [PH]
@[simp] theorem PH_set (v u : Int) : (PH hp s v).set hp.length (.cells 0 [.str s, .int .i64 u, .list [] .nil]) = PH hp s u := by simp [PH]
theorem PH_len (v : Int) : (PH hp s v).length = hp.length + 1 := by simp [PH]

theorem com2_L (hs : s.length ≤ 9223372036854775807) (hlo : lo ≤ hp.length) : ∀ (k i : Nat) (ex : Fr), ex = [] ∨ ex = [(33, .bool true)] → i + k = s.length →
    loopD G0 IP lo l_sexpr_parser_skip_1 ⟨(0, .ptr hp.length 0) :: ex, PH hp s i⟩ = some (.exit 3, ⟨[(0, .ptr hp.length 0), (56, .bool false)], PH hp s (comK s k i)⟩)
  | 0, i, ex, hex, h => by
    rw [loopD_eq, loopBody]
    have : ¬ (i : Int) < (s.length : Int) := by omega
    rcases hex with rfl | rfl <;> simp [l_sexpr_parser_skip_1, this, comK]
  | k + 1, i, ex, hex, h => by
    rw [loopD_eq, loopBody]
    have h1 : (i : Int) < (s.length : Int) := by omega
    obtain ⟨c, h2, hb⟩ := byt_some (s := s) (i := i) (by omega)
    have h3 := wrap_succ (i := i) (n := s.length) (by omega) hs
    have ih := com2_L hs hlo k (i + 1) [] (.inl rfl) (by omega)
    simp only [comK, hb]
    by_cases hc : (c.toNat : Int) = 10
    · rcases hex with rfl | rfl <;> simp [l_sexpr_parser_skip_1, h1, h2, hc]
    · rcases hex with rfl | rfl <;> simp [l_sexpr_parser_skip_1, h1, h2, hc, h3, hlo] <;> exact ih
theorem skip2_L (hs : s.length ≤ 9223372036854775807) (hlo : lo ≤ hp.length) : ∀ (n i : Nat) (ex : Fr), ex = [] ∨ ex = [(56, .bool false)] → i ≤ s.length → s.length - i ≤ n →
    ∃ e st, loopD G0 IP lo l_sexpr_parser_skip_0 ⟨(0, .ptr hp.length 0) :: ex, PH hp s i⟩ = some (e, st) ∧ st.hp = PH hp s (skipK s n i) ∧ (e = .exit 0 ∨ e = .ret)
  | n, i, ex, hex, hi, hn => by
    by_cases h0 : i < s.length
    · match n, hn with
      | 0, hn => exact absurd hn (by omega)
      | n + 1, hn =>
        rw [loopD_eq, loopBody]
        have h1 : (i : Int) < (s.length : Int) := by omega
        obtain ⟨c, h2, hb⟩ := byt_some (s := s) (i := i) h0
        have h3 := wrap_succ (i := i) (n := s.length) h0 hs
        simp only [skipK, if_pos h0, hb]
        have ih0 := skip2_L hs hlo n (i + 1) [] (.inl rfl) (by omega) (by omega)
        by_cases b1 : (c.toNat : Int) = 32
        · rcases hex with rfl | rfl <;> simp [l_sexpr_parser_skip_0, h1, h2, b1, h3, hlo, show blankC 32 = true from rfl] <;> exact ih0
        · by_cases b2 : (c.toNat : Int) = 9
          · rcases hex with rfl | rfl <;> simp [l_sexpr_parser_skip_0, h1, h2, b2, h3, hlo, show blankC 9 = true from rfl] <;> exact ih0
          · by_cases b3 : (c.toNat : Int) = 10
            · rcases hex with rfl | rfl <;> simp [l_sexpr_parser_skip_0, h1, h2, b3, h3, hlo, show blankC 10 = true from rfl] <;> exact ih0
            · by_cases b4 : (c.toNat : Int) = 13
              · rcases hex with rfl | rfl <;> simp [l_sexpr_parser_skip_0, h1, h2, b4, h3, hlo, show blankC 13 = true from rfl] <;> exact ih0
              · have hc : blankC (c.toNat : Int) = false := by simp [blankC, b1, b2, b3, b4]
                by_cases h4 : (c.toNat : Int) = 59
                · have hcm := com2_L (hp := hp) (lo := lo) hs hlo (s.length - i) i [(33, .bool true)] (.inr rfl) (by omega)
                  have hle := comK_le s (s.length - i) i
                  have hgt : i < comK s (s.length - i) i := by
                    obtain ⟨k, hk⟩ : ∃ k, s.length - i = k + 1 := ⟨s.length - i - 1, by omega⟩
                    rw [hk]; simp only [comK, hb, h4]
                    have := comK_le s k (i + 1)
                    simp; omega
                  have ih := skip2_L hs hlo n (comK s (s.length - i) i) [(56, .bool false)] (.inr rfl) (by omega) (by omega)
                  rcases hex with rfl | rfl <;> simp [l_sexpr_parser_skip_0, h1, h2, h4, hcm, show blankC 59 = false from rfl] <;> exact ih
                · rcases hex with rfl | rfl <;> simp [l_sexpr_parser_skip_0, h1, h2, hc, h4, b1, b2, b3, b4] <;> exact ⟨_, _, ⟨rfl, rfl⟩, rfl, .inr rfl⟩
    · rw [loopD_eq, loopBody]
      have h1 : ¬ (i : Int) < (s.length : Int) := by omega
      have e : skipK s n i = i := by cases n <;> simp [skipK, h0]
      rw [e]
      rcases hex with rfl | rfl <;> simp [l_sexpr_parser_skip_0, h1] <;> exact ⟨_, _, ⟨rfl, rfl⟩, rfl, .inl rfl⟩
theorem skip2_D (hs : s.length ≤ 9223372036854775807) (hlo : lo ≤ hp.length) (i : Nat) (hi : i ≤ s.length) : callD G0 IP n_sexpr_parser_skip [.ptr hp.length 0] (PH hp s i) lo false = some (.ret (.tup []) (PH hp s (skipN s i))) := by
  rw [callD_eq]
  obtain ⟨e, st, h, h2, h3⟩ := skip2_L (hp := hp) (lo := lo) hs hlo s.length i [] (.inl rfl) hi (by omega)
  rcases h3 with rfl | rfl <;> simp [IP_sexpr_parser_skip, i_sexpr_parser_skip, h, h2, skipN]
end
end Go.Proofs.Ytajlmldpbhendaa.Rf
end
section
/- Terms. -/
set_option linter.unusedSimpArgs false
set_option linter.unusedVariables false
namespace Go.Proofs.Ytajlmldpbhendaa.Rf

inductive T where
  | mk (op width val : Int) (name : List UInt8) (o : Bool) (args : List T)
namespace T
def op : T → Int | .mk a _ _ _ _ _ => a
def width : T → Int | .mk _ a _ _ _ _ => a
def val : T → Int | .mk _ _ a _ _ _ => a
def name : T → List UInt8 | .mk _ _ _ a _ _ => a
def o : T → Bool | .mk _ _ _ _ a _ => a
def args : T → List T | .mk _ _ _ _ _ a => a
end T
mutual
def T.av : T → AV
  | .mk op w v n o as => .agg [.int .i64 op, .int .i64 w, .int .u64 v, .str n, .list (T.avs as) (ownB o)]
def T.avs : List T → List AV
  | [] => []
  | t :: r => t.av :: T.avs r
end
theorem T.av_eq (t : T) : t.av = .agg [.int .i64 t.op, .int .i64 t.width, .int .u64 t.val, .str t.name, .list (T.avs t.args) (ownB t.o)] := by cases t; rfl
abbrev T.cells (t : T) : List AV := [.int .i64 t.op, .int .i64 t.width, .int .u64 t.val, .str t.name, .list (T.avs t.args) (ownB t.o)]
theorem T.avs_eq : ∀ as : List T, T.avs as = as.map T.av
  | [] => rfl
  | t :: r => by simp [T.avs, T.avs_eq r]
@[simp] theorem T.avs_len (as : List T) : (T.avs as).length = as.length := by simp [T.avs_eq]
@[simp] theorem T.avs_getElem {as : List T} {i : Nat} (h : i < (T.avs as).length) : (T.avs as)[i] = (as[i]'(by simpa using h)).av := by simp [T.avs_eq]
theorem T.avs_get {as : List T} {i : Nat} (h : i < as.length) : (T.avs as)[i]? = some as[i].av := by simp [T.avs_eq, h]
mutual
def T.wf : T → Prop
  | .mk op w v n o as => (Lit.int .i64 op).wf = true ∧ (Lit.int .i64 w).wf = true ∧ (Lit.int .u64 v).wf = true ∧ n.length ≤ 9223372036854775807 ∧ as.length ≤ 9223372036854775807 ∧ (o = true → as = []) ∧ T.wfs as
def T.wfs : List T → Prop
  | [] => True
  | t :: r => t.wf ∧ T.wfs r
end
theorem T.wfs_iff : ∀ as : List T, T.wfs as ↔ ∀ t, t ∈ as → t.wf
  | [] => by simp [T.wfs]
  | t :: r => by simp [T.wfs, T.wfs_iff r]
theorem T.wf_eq (t : T) : t.wf ↔ (Lit.int .i64 t.op).wf = true ∧ (Lit.int .i64 t.width).wf = true ∧ (Lit.int .u64 t.val).wf = true ∧ t.name.length ≤ 9223372036854775807 ∧ t.args.length ≤ 9223372036854775807 ∧ (t.o = true → t.args = []) ∧ ∀ u, u ∈ t.args → u.wf := by
  cases t; simp only [T.wf, T.op, T.width, T.val, T.name, T.args, T.o, T.wfs_iff]
mutual
def T.same : T → T → Bool
  | .mk a b c d _ as, .mk a' b' c' d' _ as' => a == a' && (b == b' && (c == c' && (d == d' && T.sames as as')))
def T.sames : List T → List T → Bool
  | [], [] => true
  | t :: r, u :: s => t.same u && T.sames r s
  | [], _ :: _ => false
  | _ :: _, [] => false
end
theorem T.same_eq (t u : T) : t.same u = (t.op == u.op && (t.width == u.width && (t.val == u.val && (t.name == u.name && T.sames t.args u.args)))) := by cases t; cases u; rfl
theorem T.sames_eq : ∀ (as bs : List T) (h : as.length = bs.length), T.sames as bs = !(List.range as.length).any fun i => !(as.getD i (.mk 0 0 0 [] true [])).same (bs.getD i (.mk 0 0 0 [] true []))
  | [], [], _ => rfl
  | t :: r, u :: s, h => by
    rw [T.sames, T.sames_eq r s (by simpa using h), List.length_cons, List.range_succ_eq_map]
    simp [List.any_map, Function.comp_def]
  | [], _ :: _, h => by simp at h
  | _ :: _, [], h => by simp at h
theorem T.sames_len : ∀ (as bs : List T), as.length ≠ bs.length → T.sames as bs = false
  | [], [], h => by simp at h
  | t :: r, u :: s, h => by rw [T.sames, T.sames_len r s (by simpa using h), Bool.and_false]
  | [], _ :: _, h => rfl
  | _ :: _, [], h => rfl
mutual
def T.size : T → Nat
  | .mk _ _ _ _ _ as => 1 + T.sizes as
def T.sizes : List T → Nat
  | [] => 0
  | t :: r => t.size + T.sizes r
end
theorem T.size_eq (t : T) : t.size = 1 + T.sizes t.args := by cases t; rfl
theorem T.sizes_app : ∀ a b : List T, T.sizes (a ++ b) = T.sizes a + T.sizes b
  | [], b => by simp [T.sizes]
  | t :: r, b => by simp [T.sizes, T.sizes_app r b]; omega
theorem T.sizes_take {as : List T} {i : Nat} (h : i < as.length) : T.sizes (as.take (i + 1)) = T.sizes (as.take i) + as[i].size := by
  rw [List.take_succ_eq_append_getElem h, T.sizes_app]; simp [T.sizes]
theorem T.sizes_take_le (as : List T) (i : Nat) : T.sizes (as.take i) ≤ T.sizes as := by
  have := T.sizes_app (as.take i) (as.drop i); rw [List.take_append_drop] at this; omega
theorem T.ind {p : T → Prop} (h : ∀ t : T, (∀ u, u ∈ t.args → p u) → p t) (t : T) : p t :=
  T.rec (motive_1 := p) (motive_2 := fun as => ∀ u, u ∈ as → p u) (fun a b c d e as ih => h _ ih) (fun u hu => by simp at hu)
    (fun t r h1 h2 u hu => by
      rcases List.mem_cons.1 hu with e | hu
      · rw [e]; exact h1
      · exact h2 u hu) t
end Go.Proofs.Ytajlmldpbhendaa.Rf
end
section
/- Arguments that are terms. -/
set_option linter.unusedSimpArgs false
set_option linter.unusedVariables false
namespace Go.Proofs.Ytajlmldpbhendaa.Rf
section
variable {H : Type} {P : Program}
theorem HasTy.str {n : Nat} {t : TypeId} {cs : List AV} {d : DataW H} (hu : P.underlying t = some .string) (h : HasTy P n t cs d) : ∃ s, cs = [.str s] ∧ s.length ≤ 9223372036854775807 := by
  cases n with
  | zero => exact h.elim
  | succ n => simp only [HasTy, hu] at h; obtain ⟨m, h1, h2, _⟩ := h; exact ⟨m, h1, h2⟩
theorem HasTy.bool {n : Nat} {t : TypeId} {cs : List AV} {d : DataW H} (hu : P.underlying t = some .bool) (h : HasTy P n t cs d) : ∃ s, cs = [.bool s] := by
  cases n with
  | zero => exact h.elim
  | succ n => simp only [HasTy, hu] at h; obtain ⟨m, h1, h2⟩ := h; exact ⟨m, h1⟩
/-- a slice whose elements are all of a kind -/
theorem HasTy.slice {α : Type} {n : Nat} {t e : TypeId} {cs : List AV} {d : DataW H} (f : α → AV) (w : α → Prop) (hu : P.underlying t = some (.slice e)) (h : HasTy P n t cs d)
    (he : ∀ m, m < n → ∀ ds (d' : DataW H), HasTy P m e ds d' → ∃ x, elemAV P e ds = f x ∧ w x) :
    ∃ (o : Bool) (l : List α), cs = [.list (l.map f) (ownB o)] ∧ (o = true → l = []) ∧ l.length ≤ 9223372036854775807 ∧ ∀ x, x ∈ l → w x := by
  cases n with
  | zero => exact h.elim
  | succ n =>
    simp only [HasTy, hu] at h
    rcases h with ⟨rfl, _⟩ | ⟨xs, els, rest, rfl, _, h1, h2, h3⟩
    · exact ⟨true, [], rfl, fun _ => rfl, by simp, by simp⟩
    · have : ∀ (xs : List AV) (els : List (DataW H)), xs.length = els.length → (∀ (i : Nat) x d', xs[i]? = some x → els[i]? = some d' → ∃ ds, x = elemAV P e ds ∧ HasTy P n e ds d') → ∃ l : List α, xs = l.map f ∧ ∀ x, x ∈ l → w x := by
        intro xs
        induction xs with
        | nil => intro els _ _; exact ⟨[], rfl, by simp⟩
        | cons x xs ih =>
          intro els hl hh
          cases els with
          | nil => simp at hl
          | cons y els =>
            obtain ⟨ds, e1, e2⟩ := hh 0 x y rfl rfl
            obtain ⟨a, f1, f2⟩ := he n (by omega) ds y e2
            obtain ⟨l, l1, l2⟩ := ih els (by simpa using hl) fun i x d' a b => hh (i + 1) x d' (by simpa using a) (by simpa using b)
            exact ⟨a :: l, by simp [e1, f1, l1], fun z hz => by
              rcases List.mem_cons.1 hz with e | hz
              · rw [e]; exact f2
              · exact l2 z hz⟩
      obtain ⟨l, l1, l2⟩ := this xs els h1 h3
      subst l1
      have hm : maxLen = 9223372036854775807 := rfl
      rw [hm] at h2
      exact ⟨false, l, rfl, by simp, by simpa using h2, l2⟩
/-- a struct's fields -/
theorem HasTy.fields {n : Nat} {t : TypeId} {fs : Array Field} {cs : List AV} {d : DataW H} (hu : P.underlying t = some (.struct fs)) (h : HasTy P n t cs d) :
    ∃ parts : List (List AV), cs = parts.flatten ∧ parts.length = fs.size ∧ ∀ (i : Nat) f ds, fs[i]? = some f → parts[i]? = some ds → ∃ m, ∃ d' : DataW H, m < n ∧ HasTy P m f.type ds d' := by
  cases n with
  | zero => exact h.elim
  | succ n =>
    simp only [HasTy, hu] at h
    obtain ⟨parts, els, rfl, _, h1, h2, h3⟩ := h
    refine ⟨parts, rfl, h1, fun i f ds a b => ?_⟩
    have : i < els.length := by rw [h2, ← h1]; exact (List.getElem?_eq_some_iff.1 b).1
    exact ⟨n, els[i], by omega, h3 i f ds _ a b (List.getElem?_eq_getElem this)⟩
theorem HasTy.term {tt ts a b c e : TypeId} {fs : Array Field} (hu : P.underlying tt = some (.struct fs)) (hf : fs.toList.map Field.type = [a, b, c, e, ts])
    (ha : P.underlying a = some (.int .i64)) (hb : P.underlying b = some (.int .i64)) (hc : P.underlying c = some (.int .u64)) (he : P.underlying e = some .string) (hs : P.underlying ts = some (.slice tt)) :
    ∀ n cs (d : DataW H), HasTy P n tt cs d → ∃ t : T, cs = t.cells ∧ t.wf := by
  intro n
  induction n using Nat.strongRecOn with
  | _ n ih =>
    intro cs d h
    obtain ⟨parts, rfl, hl, hp⟩ := h.fields hu
    have hsz : fs.size = 5 := by have := congrArg List.length hf; simpa using this
    rw [hsz] at hl
    match parts, hl with
    | [p0, p1, p2, p3, p4], _ =>
      have g : ∀ (i : Nat) ds x, [p0, p1, p2, p3, p4][i]? = some ds → [a, b, c, e, ts][i]? = some x → ∃ m, ∃ d' : DataW H, m < n ∧ HasTy P m x ds d' := by
        intro i ds x h1 h2
        rw [← hf] at h2
        simp only [List.getElem?_map, Array.getElem?_toList, Option.map_eq_some_iff] at h2
        obtain ⟨f, f1, f2⟩ := h2
        obtain ⟨m, d', m1, m2⟩ := hp i f ds f1 h1
        exact ⟨m, d', m1, f2 ▸ m2⟩
      obtain ⟨m0, d0, _, q0⟩ := g 0 _ _ rfl rfl
      obtain ⟨m1, d1, _, q1⟩ := g 1 _ _ rfl rfl
      obtain ⟨m2, d2, _, q2⟩ := g 2 _ _ rfl rfl
      obtain ⟨m3, d3, _, q3⟩ := g 3 _ _ rfl rfl
      obtain ⟨m4, d4, k4, q4⟩ := g 4 _ _ rfl rfl
      obtain ⟨x0, rfl, w0⟩ := q0.int ha
      obtain ⟨x1, rfl, w1⟩ := q1.int hb
      obtain ⟨x2, rfl, w2⟩ := q2.int hc
      obtain ⟨x3, rfl, w3⟩ := q3.str he
      obtain ⟨o, l, rfl, o1, l1, l2⟩ := q4.slice T.av T.wf hs fun m hm ds d' h => by
        obtain ⟨x, x1, x2⟩ := ih m (by omega) ds d' h
        exact ⟨x, by unfold elemAV aggTy; rw [hu, x1, T.av_eq]; rfl, x2⟩
      refine ⟨.mk x0 x1 x2 x3 o l, ?_, ?_⟩
      · simp [T.cells, T.op, T.width, T.val, T.name, T.o, T.args, T.avs_eq]
      · rw [T.wf_eq]; exact ⟨w0, w1, w2, w3, l1, o1, l2⟩
theorem ArgTy.term {tt ts a b c e : TypeId} {fs : Array Field} {v : AV} {d : DataW H} (hu : P.underlying tt = some (.struct fs)) (hf : fs.toList.map Field.type = [a, b, c, e, ts])
    (ha : P.underlying a = some (.int .i64)) (hb : P.underlying b = some (.int .i64)) (hc : P.underlying c = some (.int .u64)) (he : P.underlying e = some .string) (hs : P.underlying ts = some (.slice tt))
    (h : ArgTy P tt v d) : ∃ t : T, v = t.av ∧ t.wf := by
  obtain ⟨n, cs, rfl, h⟩ := h
  obtain ⟨x, x1, x2⟩ := HasTy.term hu hf ha hb hc he hs n cs d h
  exact ⟨x, by unfold elemAV aggTy; rw [hu, x1, T.av_eq]; rfl, x2⟩
/-- an array -/
theorem ArgTy.array {α : Type} {t e : TypeId} {m : Nat} {v : AV} {d : DataW H} (f : α → List AV) (w : α → Prop) (hu : P.underlying t = some (.array m e)) (h : ArgTy P t v d)
    (he : ∀ n ds (d' : DataW H), HasTy P n e ds d' → ∃ x, ds = f x ∧ w x) : ∃ l : List α, l.length = m ∧ v = .agg (l.map f).flatten ∧ ∀ x, x ∈ l → w x := by
  obtain ⟨n, cs, rfl, h⟩ := h
  cases n with
  | zero => exact h.elim
  | succ n =>
    simp only [HasTy, hu] at h
    obtain ⟨parts, els, rfl, _, h1, h2, h3⟩ := h
    have : ∀ (xs : List (List AV)) (els : List (DataW H)), xs.length = els.length → (∀ (i : Nat) x d', xs[i]? = some x → els[i]? = some d' → HasTy P n e x d') → ∃ l : List α, xs = l.map f ∧ ∀ x, x ∈ l → w x := by
      intro xs
      induction xs with
      | nil => intro els _ _; exact ⟨[], rfl, by simp⟩
      | cons x xs ih =>
        intro els hl hh
        cases els with
        | nil => simp at hl
        | cons y els =>
          obtain ⟨a, f1, f2⟩ := he n x y (hh 0 x y rfl rfl)
          obtain ⟨l, l1, l2⟩ := ih els (by simpa using hl) fun i x d' a b => hh (i + 1) x d' (by simpa using a) (by simpa using b)
          exact ⟨a :: l, by simp [f1, l1], fun z hz => by
            rcases List.mem_cons.1 hz with e | hz
            · rw [e]; exact f2
            · exact l2 z hz⟩
    obtain ⟨l, l1, l2⟩ := this parts els (by omega) h3
    subst l1
    refine ⟨l, by simpa using h1, ?_, l2⟩
    unfold elemAV aggTy; rw [hu]; rfl
end
end Go.Proofs.Ytajlmldpbhendaa.Rf
end
section
/- S-expressions. -/
set_option linter.unusedSimpArgs false
set_option linter.unusedVariables false
namespace Go.Proofs.Ytajlmldpbhendaa.Rf

inductive S where
  | mk (atom : List UInt8) (o : Bool) (list : List S)
namespace S
def atom : S → List UInt8 | .mk a _ _ => a
def o : S → Bool | .mk _ a _ => a
def list : S → List S | .mk _ _ a => a
end S
mutual
def S.av : S → AV
  | .mk a o l => .agg [.str a, .list (S.avs l) (ownB o)]
def S.avs : List S → List AV
  | [] => []
  | t :: r => t.av :: S.avs r
end
theorem S.av_eq (t : S) : t.av = .agg [.str t.atom, .list (S.avs t.list) (ownB t.o)] := by cases t; rfl
theorem S.avs_eq : ∀ l : List S, S.avs l = l.map S.av
  | [] => rfl
  | t :: r => by simp [S.avs, S.avs_eq r]
@[simp] theorem S.avs_len (l : List S) : (S.avs l).length = l.length := by simp [S.avs_eq]
@[simp] theorem S.avs_nil : S.avs [] = [] := rfl
@[simp] theorem S.avs_getElem {l : List S} {i : Nat} (h : i < (S.avs l).length) : (S.avs l)[i] = (l[i]'(by simpa using h)).av := by simp [S.avs_eq]
theorem S.avs_get {l : List S} {i : Nat} (h : i < l.length) : (S.avs l)[i]? = some l[i].av := by simp [S.avs_eq, h]
theorem S.avs_app (a b : List S) : S.avs (a ++ b) = S.avs a ++ S.avs b := by simp [S.avs_eq]
mutual
def S.wf : S → Prop
  | .mk a o l => a.length ≤ 9223372036854775807 ∧ l.length ≤ 9223372036854775807 ∧ (o = true → l = []) ∧ S.wfs l
def S.wfs : List S → Prop
  | [] => True
  | t :: r => t.wf ∧ S.wfs r
end
theorem S.wfs_iff : ∀ l : List S, S.wfs l ↔ ∀ t, t ∈ l → t.wf
  | [] => by simp [S.wfs]
  | t :: r => by simp [S.wfs, S.wfs_iff r]
theorem S.wf_eq (t : S) : t.wf ↔ t.atom.length ≤ 9223372036854775807 ∧ t.list.length ≤ 9223372036854775807 ∧ (t.o = true → t.list = []) ∧ ∀ u, u ∈ t.list → u.wf := by
  cases t; simp only [S.wf, S.atom, S.list, S.o, S.wfs_iff]
mutual
def S.same : S → S → Bool
  | .mk a _ l, .mk a' _ l' => a == a' && S.sames l l'
def S.sames : List S → List S → Bool
  | [], [] => true
  | t :: r, u :: s => t.same u && S.sames r s
  | [], _ :: _ => false
  | _ :: _, [] => false
end
theorem S.same_eq (t u : S) : t.same u = (t.atom == u.atom && S.sames t.list u.list) := by cases t; cases u; rfl
theorem S.sames_eq : ∀ (as bs : List S) (h : as.length = bs.length), S.sames as bs = !(List.range as.length).any fun i => !(as.getD i (.mk [] true [])).same (bs.getD i (.mk [] true []))
  | [], [], _ => rfl
  | t :: r, u :: s, h => by
    rw [S.sames, S.sames_eq r s (by simpa using h), List.length_cons, List.range_succ_eq_map]
    simp [List.any_map, Function.comp_def]
  | [], _ :: _, h => by simp at h
  | _ :: _, [], h => by simp at h
theorem S.sames_len : ∀ (as bs : List S), as.length ≠ bs.length → S.sames as bs = false
  | [], [], h => by simp at h
  | t :: r, u :: s, h => by rw [S.sames, S.sames_len r s (by simpa using h), Bool.and_false]
  | [], _ :: _, h => rfl
  | _ :: _, [], h => rfl
theorem S.ind {p : S → Prop} (h : ∀ t : S, (∀ u, u ∈ t.list → p u) → p t) (t : S) : p t :=
  S.rec (motive_1 := p) (motive_2 := fun l => ∀ u, u ∈ l → p u) (fun a b c ih => h _ ih) (fun u hu => by simp at hu)
    (fun t r h1 h2 u hu => by
      rcases List.mem_cons.1 hu with e | hu
      · rw [e]; exact h1
      · exact h2 u hu) t
theorem S.same_refl (t : S) : t.same t = true := by
  induction t using S.ind with | h t ih =>
  have : ∀ l : List S, (∀ u, u ∈ l → u.same u = true) → S.sames l l = true := by
    intro l
    induction l with
    | nil => intro _; rfl
    | cons x r ihl => intro h; simp only [S.sames, h x (by simp), Bool.true_and]; exact ihl fun u hu => h u (by simp [hu])
  rw [S.same_eq, this t.list ih]; simp
theorem S.sames_refl (l : List S) : S.sames l l = true := by
  induction l with
  | nil => rfl
  | cons x r ih => simp only [S.sames, S.same_refl x, ih, Bool.true_and]
section
variable {H : Type} {P : Program}
theorem HasTy.sexp {tt ts a : TypeId} {fs : Array Field} (hu : P.underlying tt = some (.struct fs)) (hf : fs.toList.map Field.type = [a, ts]) (ha : P.underlying a = some .string) (hs : P.underlying ts = some (.slice tt)) :
    ∀ n cs (d : DataW H), HasTy P n tt cs d → ∃ t : S, cs = [.str t.atom, .list (S.avs t.list) (ownB t.o)] ∧ t.wf := by
  intro n
  induction n using Nat.strongRecOn with
  | _ n ih =>
    intro cs d h
    obtain ⟨parts, rfl, hl, hp⟩ := h.fields hu
    have hsz : fs.size = 2 := by have := congrArg List.length hf; simpa using this
    rw [hsz] at hl
    match parts, hl with
    | [p0, p1], _ =>
      have g : ∀ (i : Nat) ds x, [p0, p1][i]? = some ds → [a, ts][i]? = some x → ∃ m, ∃ d' : DataW H, m < n ∧ HasTy P m x ds d' := by
        intro i ds x h1 h2
        rw [← hf] at h2
        simp only [List.getElem?_map, Array.getElem?_toList, Option.map_eq_some_iff] at h2
        obtain ⟨f, f1, f2⟩ := h2
        obtain ⟨m, d', m1, m2⟩ := hp i f ds f1 h1
        exact ⟨m, d', m1, f2 ▸ m2⟩
      obtain ⟨m0, d0, _, q0⟩ := g 0 _ _ rfl rfl
      obtain ⟨m1, d1, _, q1⟩ := g 1 _ _ rfl rfl
      obtain ⟨x0, rfl, w0⟩ := q0.str ha
      obtain ⟨o, l, rfl, o1, l1, l2⟩ := q1.slice S.av S.wf hs fun m hm ds d' h => by
        obtain ⟨x, x1, x2⟩ := ih m (by omega) ds d' h
        exact ⟨x, by unfold elemAV aggTy; rw [hu, x1, S.av_eq]; rfl, x2⟩
      refine ⟨.mk x0 o l, ?_, ?_⟩
      · simp [S.atom, S.o, S.list, S.avs_eq]
      · rw [S.wf_eq]; exact ⟨w0, l1, o1, l2⟩
theorem ArgTy.sexp {tt ts a : TypeId} {fs : Array Field} {v : AV} {d : DataW H} (hu : P.underlying tt = some (.struct fs)) (hf : fs.toList.map Field.type = [a, ts]) (ha : P.underlying a = some .string) (hs : P.underlying ts = some (.slice tt))
    (h : ArgTy P tt v d) : ∃ t : S, v = t.av ∧ t.wf := by
  obtain ⟨n, cs, rfl, h⟩ := h
  obtain ⟨x, x1, x2⟩ := HasTy.sexp hu hf ha hs n cs d h
  exact ⟨x, by unfold elemAV aggTy; rw [hu, x1, S.av_eq]; rfl, x2⟩
theorem ArgTy.sexps {tt ts a : TypeId} {fs : Array Field} {v : AV} {d : DataW H} (hu : P.underlying tt = some (.struct fs)) (hf : fs.toList.map Field.type = [a, ts]) (ha : P.underlying a = some .string) (hs : P.underlying ts = some (.slice tt))
    (h : ArgTy P ts v d) : ∃ (o : Bool) (l : List S), v = .list (S.avs l) (ownB o) ∧ (o = true → l = []) ∧ l.length ≤ 9223372036854775807 ∧ ∀ t, t ∈ l → t.wf := by
  obtain ⟨n, cs, rfl, h⟩ := h
  obtain ⟨o, l, rfl, h1, h2, h3⟩ := h.slice S.av S.wf hs fun m hm ds d' h => by
    obtain ⟨x, x1, x2⟩ := HasTy.sexp hu hf ha hs m ds d' h
    exact ⟨x, by unfold elemAV aggTy; rw [hu, x1, S.av_eq]; rfl, x2⟩
  exact ⟨o, l, by unfold elemAV aggTy; rw [hs, S.avs_eq]; rfl, h1, h2, h3⟩
theorem ArgTy.str {t : TypeId} {v : AV} {d : DataW H} (hu : P.underlying t = some .string) (h : ArgTy P t v d) : ∃ s, v = .str s ∧ s.length ≤ 9223372036854775807 := by
  obtain ⟨n, cs, rfl, h⟩ := h
  obtain ⟨m, rfl, hm⟩ := h.str hu
  exact ⟨m, by unfold elemAV aggTy; rw [hu]; rfl, hm⟩
end
end Go.Proofs.Ytajlmldpbhendaa.Rf
end
section
/- The reference's parser. -/
set_option linter.unusedSimpArgs false
set_option linter.unusedVariables false
namespace Go.Proofs.Ytajlmldpbhendaa.Rf

inductive PR where
  | ok (e : S) (i : Nat)
  | err (i : Nat) (code : Int)
inductive LR where
  | stop (i : Nat) (acc : List S)
  | err (i : Nat) (code : Int)
mutual
def pOne (s : List UInt8) : Nat → Nat → Nat → PR
  | 0, i, _ => .err i 6
  | n + 1, i, d =>
    if byt s i = 40 then
      if d ≥ 64 then .err i 7 else
      match pLoop s n (skipN s (i + 1)) d [] with
      | .err j e => .err j e
      | .stop j acc => if j = s.length then .err j 6 else .ok (.mk [] acc.isEmpty acc) (j + 1)
    else if plainC (byt s i) then
      if d ≥ 64 then .err i 7 else .ok (.mk ((s.take (atomN s i)).drop i) true []) (atomN s i)
    else .err i 6
def pLoop (s : List UInt8) : Nat → Nat → Nat → List S → LR
  | 0, i, _, acc => .stop i acc
  | n + 1, i, d, acc =>
    if i < s.length then
      if byt s i = 41 then .stop i acc else
      match pOne s n i (d + 1) with
      | .err j e => .err j e
      | .ok x j => pLoop s n (skipN s j) d (acc ++ [x])
    else .stop i acc
end
theorem atomN_gt {s : List UInt8} {i : Nat} (h : i < s.length) (hp : plainC (byt s i) = true) : i < atomN s i ∧ atomN s i ≤ s.length := by
  obtain ⟨k, hk⟩ : ∃ k, s.length - i = k + 1 := ⟨s.length - i - 1, by omega⟩
  unfold atomN
  rw [hk]; simp only [atomK, hp, if_true]
  have := atomK_le s k (i + 1)
  omega
theorem skipN_le {s : List UInt8} {i : Nat} (h : i ≤ s.length) : i ≤ skipN s i ∧ skipN s i ≤ s.length := skipK_le s _ i h
theorem p_le (s : List UInt8) : ∀ n, (∀ i d x j, i < s.length → pOne s n i d = .ok x j → i < j ∧ j ≤ s.length) ∧ (∀ i d acc j acc', i ≤ s.length → acc.length ≤ i → pLoop s n i d acc = .stop j acc' → i ≤ j ∧ j ≤ s.length ∧ acc'.length ≤ j)
  | 0 => ⟨fun i d x j hi h => by simp [pOne] at h, fun i d acc j acc' hi ha h => by simp [pLoop] at h; obtain ⟨rfl, rfl⟩ := h; exact ⟨Nat.le_refl _, hi, ha⟩⟩
  | n + 1 => by
    obtain ⟨h1, h2⟩ := p_le s n
    refine ⟨fun i d x j hi h => ?_, fun i d acc j acc' hi ha h => ?_⟩
    · simp only [pOne] at h
      have hk := skipN_le (s := s) (i := i + 1) (by omega)
      split at h
      · split at h
        · cases h
        · split at h
          · cases h
          · rename_i j' acc' hl
            have := h2 _ _ _ _ _ hk.2 (by simp) hl
            split at h
            · cases h
            · cases h; omega
      · split at h
        · rename_i hp
          split at h
          · cases h
          · cases h; exact atomN_gt hi hp
        · cases h
    · simp only [pLoop] at h
      split at h
      · rename_i hlt
        split at h
        · cases h; omega
        · split at h
          · cases h
          · rename_i x j' ho
            have := h1 _ _ _ _ hlt ho
            have hk := skipN_le (s := s) (i := j') (by omega)
            have := h2 _ _ _ _ _ hk.2 (by simp; omega) h
            omega
      · cases h; omega
theorem perr_both (s : List UInt8) : ∀ n, (∀ i d j e, pOne s n i d = .err j e → ¬ e = 0) ∧ (∀ i d acc j e, pLoop s n i d acc = .err j e → ¬ e = 0)
  | 0 => ⟨fun i d j e h => by simp [pOne] at h; obtain ⟨_, rfl⟩ := h; simp, fun i d acc j e h => by simp [pLoop] at h⟩
  | n + 1 => by
    obtain ⟨h1, h2⟩ := perr_both s n
    refine ⟨fun i d j e h => ?_, fun i d acc j e h => ?_⟩
    · simp only [pOne] at h
      repeat' split at h
      all_goals first
        | (cases h; done)
        | (cases h; simp; done)
        | (rename_i hl; cases h; exact h2 _ _ _ _ _ hl)
    · simp only [pLoop] at h
      repeat' split at h
      all_goals first
        | (cases h; done)
        | (rename_i hl; cases h; exact h1 _ _ _ _ hl)
        | exact h2 _ _ _ _ _ h
theorem perr_ne (s : List UInt8) (n i d j : Nat) (e : Int) (h : pOne s n i d = .err j e) : ¬ e = 0 := (perr_both s n).1 i d j e h
mutual
theorem S.av_closed (n : Nat) : ∀ t : S, AV.closed n t.av = true
  | .mk a o l => by simp [S.av, AV.closed, AV.closedL, S.avs_closed n l]
theorem S.avs_closed (n : Nat) : ∀ l : List S, AV.closedL n (S.avs l) = true
  | [] => rfl
  | t :: r => by simp [S.avs, AV.closedL, S.av_closed n t, S.avs_closed n r]
end
@[simp] theorem S.okSize_avs (l : List S) : okSize 2 (S.avs l) = true := by
  cases l with
  | nil => rfl
  | cons t r => simp [S.avs, S.av_eq]
def outP : PR → AV
  | .ok x j => .tup [x.av, .int .i64 j, .int .i64 0]
  | .err j e => .tup [.agg [.str [], .list [] .nil], .int .i64 j, .int .i64 e]
def ownA (acc : List S) : Own := if acc.isEmpty then .nil else .own 2 0
@[simp] theorem ownA_cp (acc : List S) : (ownA acc).cp = ownB acc.isEmpty := by cases acc <;> rfl
@[simp] theorem ownA_app (acc : List S) (x : S) : ownA (acc ++ [x]) = .own 2 0 := by cases acc <;> rfl
theorem ownA_ok (acc : List S) : ownA acc = .nil ∨ ownA acc = .own 2 0 := by cases acc <;> simp [ownA]
section
variable {s : List UInt8}
theorem one_W (hs : s.length ≤ 65536) : ∀ n, (∀ (hp : List HObj) (lo : Nat) (q : Bool) (i d : Nat), i < s.length → d ≤ 64 → 2 * (s.length - i) ≤ n → callD G0 IP n_saturateref05_one [.str s, .int .i64 i, .int .i64 d] hp lo q = some (.ret (outP (pOne s n i d)) hp)) ∧
    (∀ (hp : List HObj) (lo : Nat) (i d : Nat) (acc : List S), i ≤ s.length → d < 64 → acc.length ≤ i → 2 * (s.length - i) + 1 ≤ n →
      loopD G0 IP lo l_saturateref05_one_0 ⟨[(0, .str s), (1, .int .i64 i), (2, .int .i64 d), (6, .box [.str [], .list [] .nil]), (10, .list (S.avs acc) (ownA acc))], hp⟩ =
        some (match pLoop s n i d acc with
          | .err j e => (.ret, ⟨[(6, .box [.str [], .list [] .nil]), (7, .int .i64 j), (8, .int .i64 e)], hp⟩)
          | .stop j acc' => (.exit 0, ⟨[(0, .str s), (1, .int .i64 j), (2, .int .i64 d), (6, .box [.str [], .list [] .nil]), (10, .list (S.avs acc') (ownA acc')), (63, .bool false)], hp⟩))) := by
  have hs' : s.length ≤ 9223372036854775807 := by omega
  intro n
  induction n with
  | zero => exact ⟨fun hp lo q i d hi _ h => absurd h (by omega), fun hp lo i d acc hi _ _ h => absurd h (by omega)⟩
  | succ n ih =>
    obtain ⟨ih1, ih2⟩ := ih
    refine ⟨fun hp lo q i d hi hd h => ?_, fun hp lo i d acc hi hd ha h => ?_⟩
    · rw [callD_eq]
      obtain ⟨c, h2, hb⟩ := byt_some (s := s) (i := i) hi
      have hw : IntKind.wrap .i64 ((i : Int) + 1) = (i : Int) + 1 := wrap_small (by omega) (by omega)
      have hk := skipN_le (s := s) (i := i + 1) (by omega)
      simp only [pOne, hb]
      by_cases h40 : (c.toNat : Int) = 40
      · by_cases h64 : d ≥ 64
        · have h64' : (64 : Int) ≤ (d : Int) := by omega
          simp [IP_saturateref05_one, i_saturateref05_one, h2, h40, h64, h64', outP]
        · have h64' : ¬ (64 : Int) ≤ (d : Int) := by omega
          have e2 : ∀ q, callD G0 IP n_saturateref05_skip [.str s, .int .i64 ((i : Int) + 1)] hp hp.length q = some (.ret (.int .i64 (skipN s (i + 1))) hp) := fun q => skip1_D hs' (i + 1) (by omega) q
          have e3 := ih2 hp hp.length (skipN s (i + 1)) d [] hk.2 (by omega) (by simp) (by omega)
          have hle := (p_le s n).2 (skipN s (i + 1)) d []
          cases hx : pLoop s n (skipN s (i + 1)) d [] with
          | err j e =>
            rw [hx] at e3
            simp [ownA] at e3
            simp [IP_saturateref05_one, i_saturateref05_one, h2, h40, h64, h64', outP, hw, e2, e3]
          | stop j acc =>
            rw [hx] at e3
            simp [ownA] at e3
            obtain ⟨_, hj, _⟩ := hle j acc hk.2 (by simp) hx
            by_cases hjl : j = s.length
            · simp [IP_saturateref05_one, i_saturateref05_one, h2, h40, h64, h64', outP, hw, e2, e3, hjl]
            · have hjl' : ¬ (j : Int) = (s.length : Int) := by omega
              have hw2 : IntKind.wrap .i64 ((j : Int) + 1) = (j : Int) + 1 := wrap_small (by omega) (by omega)
              simp [IP_saturateref05_one, i_saturateref05_one, h2, h40, h64, h64', outP, hw, e2, e3, hjl, hjl', hw2]
              exact ⟨S.avs_closed _ _, by cases acc <;> simp [S.av, ownB]⟩
      · cases hc : plainC (c.toNat : Int)
        · by_cases h41 : (c.toNat : Int) = 41
          · simp [IP_saturateref05_one, i_saturateref05_one, h2, h41, outP, show plainC 41 = false from rfl]
          · simp [IP_saturateref05_one, i_saturateref05_one, h2, h40, h41, hc, outP, plain1_D]
        · have h41 : ¬ (c.toNat : Int) = 41 := fun e => by rw [e] at hc; simp [plainC] at hc
          by_cases h64 : d ≥ 64
          · have h64' : (64 : Int) ≤ (d : Int) := by omega
            simp [IP_saturateref05_one, i_saturateref05_one, h2, h40, h41, hc, h64, h64', outP, plain1_D]
          · have h64' : ¬ (64 : Int) ≤ (d : Int) := by omega
            have e2 : ∀ q, callD G0 IP n_saturateref05_atom [.str s, .int .i64 i] hp hp.length q = some (.ret (.int .i64 (atomN s i)) hp) := fun q => atom1_D hs' i (by omega) q
            have ha := atomN_gt (s := s) (i := i) hi (by rw [hb]; exact hc)
            have ha1 : (i : Int) ≤ (atomN s i : Int) := by omega
            simp [IP_saturateref05_one, i_saturateref05_one, h2, h40, h41, hc, h64, h64', outP, plain1_D, e2, ha.1, ha.2, Nat.le_of_lt ha.1, S.av]
            rfl
    · rw [loopD_eq, loopBody]
      simp only [pLoop]
      by_cases h0 : i < s.length
      · have h1 : (i : Int) < (s.length : Int) := by omega
        obtain ⟨c, h2, hb⟩ := byt_some (s := s) (i := i) h0
        simp only [if_pos h0, hb]
        by_cases h41 : (c.toNat : Int) = 41
        · simp [l_saturateref05_one_0, h1, h2, h41]
        · have e1 : callD G0 IP n_saturateref05_one [.str s, .int .i64 i, .int .i64 ((d : Int) + 1)] hp lo false = some (.ret (outP (pOne s n i (d + 1))) hp) := ih1 hp lo false i (d + 1) h0 (by omega) (by omega)
          have hw : IntKind.wrap .i64 ((d : Int) + 1) = (d : Int) + 1 := wrap_small (by omega) (by omega)
          have he := (p_le s n).1 i (d + 1)
          simp only [if_neg h41]
          cases hx : pOne s n i (d + 1) with
          | err j e =>
            rw [hx] at e1
            simp only [outP] at e1
            have hne : ¬ e = 0 := perr_ne s n i (d + 1) j e hx
            simp [l_saturateref05_one_0, h1, h2, h41, hw, e1, hne]
          | ok x j =>
            rw [hx] at e1
            simp only [outP] at e1
            obtain ⟨hj1, hj2⟩ := he x j h0 hx
            have hsk := skipN_le (s := s) (i := j) hj2
            have e2 := skip1_D (hp := hp) (lo := lo) hs' j hj2 false
            have e3 := ih2 hp lo (skipN s j) d (acc ++ [x]) hsk.2 hd (by simp; omega) (by omega)
            have hb1 : (acc.length + 1) * 40 ≤ 140737488355328 := by omega
            have hb2 : acc.length + 1 ≤ 9223372036854775807 := by omega
            rw [S.av_eq] at e1
            rw [S.avs_app, ownA_app, show S.avs [x] = [.agg [.str x.atom, .list (S.avs x.list) (ownB x.o)]] by simp [S.avs, S.av_eq]] at e3
            simp [l_saturateref05_one_0, h1, h2, h41, hw, e1, e2, hb1, hb2, ownA_ok]
            exact e3
      · have h1 : ¬ (i : Int) < (s.length : Int) := by omega
        simp [l_saturateref05_one_0, h1, h0]
end
end Go.Proofs.Ytajlmldpbhendaa.Rf
end
section
/- The parser itself. -/
set_option linter.unusedSimpArgs false
set_option linter.unusedVariables false
namespace Go.Proofs.Ytajlmldpbhendaa.Rf

abbrev failAV (j : Nat) (e : Int) : AV := .iface 89 (.agg [.int .i64 j, .int .i64 e])
theorem fail_D (p q : Nat) (j e : Int) (hp : List HObj) (lo : Nat) : callD G0 IP n_sexpr_parser_fail [.ptr p q, .int .i64 j, .int .i64 e] hp lo false = some (.pan (.iface 89 (.agg [.int .i64 j, .int .i64 e])) hp) := by
  rw [callD_eq]
  simp [IP_sexpr_parser_fail, i_sexpr_parser_fail]
section
variable {hp : List HObj} {s : List UInt8} {lo : Nat}
theorem atom2_L (hs : s.length ≤ 65536) (hlo : lo ≤ hp.length) (f : Int) : ∀ (k i : Nat), i + k = s.length →
    loopD G0 IP lo l_sexpr_parser_expression_0 ⟨[(0, .ptr hp.length 0), (4, .box [.str [], .list [] .nil]), (6, .int .i64 f)], PH hp s i⟩ =
      some (.exit 0, ⟨[(0, .ptr hp.length 0), (4, .box [.str [], .list [] .nil]), (6, .int .i64 f), (66, .bool false)], PH hp s (atomK s k i)⟩)
  | 0, i, h => by
    rw [loopD_eq, loopBody]
    have : ¬ (i : Int) < (s.length : Int) := by omega
    simp [l_sexpr_parser_expression_0, this, atomK]
  | k + 1, i, h => by
    rw [loopD_eq, loopBody]
    have h1 : (i : Int) < (s.length : Int) := by omega
    obtain ⟨c, h2, hb⟩ := byt_some (s := s) (i := i) (by omega)
    have h3 := wrap_succ (i := i) (n := s.length) (by omega) (by omega)
    have ih := atom2_L hs hlo f k (i + 1) (by omega)
    simp only [atomK, hb]
    cases hc : plainC (c.toNat : Int)
    · simp [l_sexpr_parser_expression_0, h1, h2, hc, plain2_D]
    · simp [l_sexpr_parser_expression_0, h1, h2, hc, h3, plain2_D, hlo]
      exact ih
def outE (hp : List HObj) (s : List UInt8) : PR → COut
  | .ok x j => .ret x.av (PH hp s j)
  | .err j e => .pan (failAV j e) (PH hp s j)
def LRok (hp : List HObj) (s : List UInt8) : LR → Ex → St → Prop
  | .err j e, ex, st => ex = .pan (failAV j e) ∧ st.hp = PH hp s j
  | .stop j acc, ex, st => if j = s.length then ex = .pan (failAV j 6) ∧ st.hp = PH hp s j else ex = .ret ∧ st = ⟨[(4, .box [.str [], .list (S.avs acc) (ownB acc.isEmpty)])], PH hp s ((j + 1 : Nat) : Int)⟩
theorem expr_W (hs : s.length ≤ 65536) (hlo : lo ≤ hp.length) : ∀ n, (∀ (i d : Nat), i < s.length → d ≤ 64 → 2 * (s.length - i) ≤ n → callD G0 IP n_sexpr_parser_expression [.ptr hp.length 0, .int .i64 d] (PH hp s i) lo false = some (outE hp s (pOne s n i d))) ∧
    (∀ (i d : Nat) (acc : List S), i ≤ s.length → d < 64 → acc.length ≤ i → 2 * (s.length - skipN s i) + 1 ≤ n →
      ∃ ex st, loopD G0 IP lo l_sexpr_parser_expression_1 ⟨[(0, .ptr hp.length 0), (1, .int .i64 d), (4, .box [.str [], .list [] .nil]), (7, .box [.str [], .list (S.avs acc) (ownA acc)])], PH hp s i⟩ = some (ex, st) ∧ LRok hp s (pLoop s n (skipN s i) d acc) ex st) := by
  have hs' : s.length ≤ 9223372036854775807 := by omega
  intro n
  induction n with
  | zero => exact ⟨fun i d hi _ h => absurd h (by omega), fun i d acc hi _ _ h => absurd h (by omega)⟩
  | succ n ih =>
    obtain ⟨ih1, ih2⟩ := ih
    refine ⟨fun i d hi hd h => ?_, fun i d acc hi hd ha h => ?_⟩
    · rw [callD_eq]
      obtain ⟨c, h2, hb⟩ := byt_some (s := s) (i := i) hi
      have hw : IntKind.wrap .i64 ((i : Int) + 1) = (i : Int) + 1 := wrap_small (by omega) (by omega)
      have hwd : IntKind.wrap .i64 ((d : Int) + 1) = (d : Int) + 1 := wrap_small (by omega) (by omega)
      have hk := skipN_le (s := s) (i := i + 1) (by omega)
      simp only [pOne, hb]
      by_cases h40 : (c.toNat : Int) = 40
      · by_cases h64 : d ≥ 64
        · have h64' : (64 : Int) < (d : Int) + 1 := by omega
          simp [IP_sexpr_parser_expression, i_sexpr_parser_expression, h2, h40, h64, h64', hwd, outE, fail_D]
        · have h64' : ¬ (64 : Int) < (d : Int) + 1 := by omega
          obtain ⟨ex, st, e3, e4⟩ := ih2 (i + 1) d [] (by omega) (by omega) (by simp) (by omega)
          simp [ownA] at e3
          cases hx : pLoop s n (skipN s (i + 1)) d [] with
          | err j e =>
            rw [hx] at e4
            obtain ⟨rfl, e5⟩ := e4
            simp [IP_sexpr_parser_expression, i_sexpr_parser_expression, h2, h40, h64, h64', hwd, hw, hlo, outE, e3, e5]
          | stop j acc =>
            rw [hx] at e4
            simp only [LRok] at e4
            by_cases hjl : j = s.length
            · rw [if_pos hjl] at e4
              obtain ⟨rfl, e5⟩ := e4
              simp [IP_sexpr_parser_expression, i_sexpr_parser_expression, h2, h40, h64, h64', hwd, hw, hlo, outE, e3, e5, hjl]
            · rw [if_neg hjl] at e4
              obtain ⟨rfl, rfl⟩ := e4
              simp [IP_sexpr_parser_expression, i_sexpr_parser_expression, h2, h40, h64, h64', hwd, hw, hlo, outE, e3, hjl, S.av]
      · cases hc : plainC (c.toNat : Int)
        · simp [IP_sexpr_parser_expression, i_sexpr_parser_expression, h2, h40, hc, outE, fail_D, plain2_D]
        · by_cases h64 : d ≥ 64
          · have h64' : (64 : Int) < (d : Int) + 1 := by omega
            simp [IP_sexpr_parser_expression, i_sexpr_parser_expression, h2, h40, hc, h64, h64', hwd, outE, fail_D, plain2_D]
          · have h64' : ¬ (64 : Int) < (d : Int) + 1 := by omega
            have e2 := atom2_L (hp := hp) (lo := lo) hs hlo (i : Int) (s.length - i) i (by omega)
            have ha := atomN_gt (s := s) (i := i) hi (by rw [hb]; exact hc)
            unfold atomN at ha
            simp [IP_sexpr_parser_expression, i_sexpr_parser_expression, h2, h40, hc, h64, h64', hwd, outE, plain2_D, e2, ha.1, ha.2, Nat.le_of_lt ha.1, S.av, atomN, ownB]
    · rw [loopD_eq, loopBody]
      have e0 := skip2_D (hp := hp) (lo := lo) hs' hlo i hi
      have hk := skipN_le (s := s) (i := i) hi
      generalize hj : skipN s i = j at *
      simp only [pLoop]
      by_cases h0 : j < s.length
      · have h1 : ¬ (j : Int) = (s.length : Int) := by omega
        obtain ⟨c, h2, hb⟩ := byt_some (s := s) (i := j) h0
        simp only [if_pos h0, hb]
        by_cases h41 : (c.toNat : Int) = 41
        · have hw : IntKind.wrap .i64 ((j : Int) + 1) = (j : Int) + 1 := wrap_small (by omega) (by omega)
          have h1' : ¬ j = s.length := by omega
          refine ⟨.ret, ⟨[(4, .box [.str [], .list (S.avs acc) (ownB acc.isEmpty)])], PH hp s ((j + 1 : Nat) : Int)⟩, ?_, ?_⟩
          · simp [l_sexpr_parser_expression_1, e0, h1, h2, h41, hw, hlo]
          · simp only [h41, if_true, LRok]
            rw [if_neg h1']
            simp
        · have e1 : callD G0 IP n_sexpr_parser_expression [.ptr hp.length 0, .int .i64 ((d : Int) + 1)] (PH hp s j) lo false = some (outE hp s (pOne s n j (d + 1))) := ih1 j (d + 1) h0 (by omega) (by omega)
          have hw : IntKind.wrap .i64 ((d : Int) + 1) = (d : Int) + 1 := wrap_small (by omega) (by omega)
          have he := (p_le s n).1 j (d + 1)
          simp only [if_neg h41]
          cases hx : pOne s n j (d + 1) with
          | err k e =>
            rw [hx] at e1
            simp only [outE] at e1
            simp [l_sexpr_parser_expression_1, e0, h1, h2, h41, hw, e1]
            exact ⟨_, _, ⟨rfl, rfl⟩, rfl, rfl⟩
          | ok x k =>
            rw [hx] at e1
            simp only [outE] at e1
            obtain ⟨hj1, hj2⟩ := he x k h0 hx
            have hsk := skipN_le (s := s) (i := k) hj2
            obtain ⟨ex, st, e3, e4⟩ := ih2 k d (acc ++ [x]) hj2 hd (by simp; omega) (by omega)
            have hb1 : (acc.length + 1) * 40 ≤ 140737488355328 := by omega
            have hb2 : acc.length + 1 ≤ 9223372036854775807 := by omega
            rw [S.av_eq] at e1
            rw [S.avs_app, ownA_app, show S.avs [x] = [.agg [.str x.atom, .list (S.avs x.list) (ownB x.o)]] by simp [S.avs, S.av_eq]] at e3
            refine ⟨ex, st, ?_, e4⟩
            simp [l_sexpr_parser_expression_1, e0, h1, h2, h41, hw, e1, hb1, hb2, ownA_ok]
            exact e3
      · have h1' : j = s.length := by omega
        subst h1'
        simp only [if_neg h0, LRok, if_true]
        simp [l_sexpr_parser_expression_1, e0, fail_D]
        exact ⟨_, _, ⟨rfl, rfl⟩, rfl, rfl⟩
end
end Go.Proofs.Ytajlmldpbhendaa.Rf
end
section
/- All s-expressions of a text. -/
set_option linter.unusedSimpArgs false
set_option linter.unusedVariables false
namespace Go.Proofs.Ytajlmldpbhendaa.Rf

inductive TR where
  | ok (l : List S) (st : List Nat)
  | err (i : Nat) (code : Int)
def pTop (s : List UInt8) : Nat → Nat → List S → List Nat → TR
  | 0, _, acc, st => .ok acc st
  | n + 1, i, acc, st =>
    if i < s.length then
      match pOne s (2 * s.length) i 0 with
      | .err j e => .err j e
      | .ok x j => pTop s n (skipN s j) (acc ++ [x]) (st ++ [i])
    else .ok acc st
def pAll (s : List UInt8) : TR := if s.length > 65536 then .err 0 7 else pTop s (s.length + 1) (skipN s 0) [] []
section
variable {s : List UInt8} {hp : List HObj} {lo : Nat}
theorem top1_L (hs : s.length ≤ 65536) : ∀ (n i : Nat) (acc : List S) (st : List Nat), i ≤ s.length → acc.length ≤ i → s.length - i < n →
    loopD G0 IP lo l_saturateref05_ParseAll_0 ⟨[(0, .str s), (5, .list (S.avs acc) (ownA acc)), (6, .int .i64 i)], hp⟩ =
      some (match pTop s n i acc st with
        | .err j e => (.ret, ⟨[(2, .list [] .nil), (3, .int .i64 j), (4, .int .i64 e)], hp⟩)
        | .ok l _ => (.exit 0, ⟨[(0, .str s), (5, .list (S.avs l) (ownA l)), (6, .int .i64 s.length), (18, .bool false)], hp⟩)) := by
  have hs' : s.length ≤ 9223372036854775807 := by omega
  intro n
  induction n with
  | zero => intro i acc st hi ha h; omega
  | succ n ih =>
    intro i acc st hi ha h
    rw [loopD_eq, loopBody]
    simp only [pTop]
    by_cases h0 : i < s.length
    · have h1 : (i : Int) < (s.length : Int) := by omega
      have e1 : callD G0 IP n_saturateref05_one [.str s, .int .i64 i, .int .i64 0] hp lo false = some (.ret (outP (pOne s (2 * s.length) i 0)) hp) := (one_W hs (2 * s.length)).1 hp lo false i 0 h0 (by omega) (by omega)
      simp only [if_pos h0]
      cases hx : pOne s (2 * s.length) i 0 with
      | err j e =>
        rw [hx] at e1
        simp only [outP] at e1
        have hne : ¬ e = 0 := perr_ne s _ i 0 j e hx
        simp [l_saturateref05_ParseAll_0, h1, e1, hne]
      | ok x j =>
        rw [hx] at e1
        simp only [outP] at e1
        obtain ⟨hj1, hj2⟩ := (p_le s _).1 i 0 x j h0 hx
        have hsk := skipN_le (s := s) (i := j) hj2
        have e2 := skip1_D (hp := hp) (lo := lo) hs' j hj2 false
        have e3 := ih (skipN s j) (acc ++ [x]) (st ++ [i]) hsk.2 (by simp; omega) (by omega)
        have hb1 : (acc.length + 1) * 40 ≤ 140737488355328 := by omega
        have hb2 : acc.length + 1 ≤ 9223372036854775807 := by omega
        rw [S.av_eq] at e1
        rw [S.avs_app, ownA_app, show S.avs [x] = [.agg [.str x.atom, .list (S.avs x.list) (ownB x.o)]] by simp [S.avs, S.av_eq]] at e3
        simp [l_saturateref05_ParseAll_0, h1, e1, e2, hb1, hb2, ownA_ok]
        exact e3
    · have h1 : i = s.length := by omega
      subst h1
      simp [l_saturateref05_ParseAll_0]
def outA (own : List S → Own) : TR → AV
  | .ok l _ => .tup [.list (S.avs l) (own l), .int .i64 0, .int .i64 0]
  | .err j e => .tup [.list [] .nil, .int .i64 j, .int .i64 e]
theorem parseAll1_D (q : Bool) : callD G0 IP n_saturateref05_ParseAll [.str s] hp lo q = some (.ret (outA ownA (pAll s)) hp) := by
  rw [callD_eq]
  by_cases hs : s.length ≤ 65536
  · have h1 : ¬ (65536 : Int) < (s.length : Int) := by omega
    have h1' : ¬ s.length > 65536 := by omega
    have e2 : ∀ q, callD G0 IP n_saturateref05_skip [.str s, .int .i64 0] hp hp.length q = some (.ret (.int .i64 (skipN s 0)) hp) := fun q => skip1_D (by omega) 0 (by omega) q
    have hk := skipN_le (s := s) (i := 0) (by omega)
    have e3 := top1_L (hp := hp) (lo := hp.length) hs (s.length + 1) (skipN s 0) [] [] hk.2 (by simp) (by omega)
    simp only [pAll, if_neg h1']
    cases hx : pTop s (s.length + 1) (skipN s 0) [] [] with
    | err j e =>
      rw [hx] at e3
      simp [ownA] at e3
      simp [IP_saturateref05_ParseAll, i_saturateref05_ParseAll, h1, e2, e3, outA]
    | ok l st =>
      rw [hx] at e3
      simp [ownA] at e3
      simp [IP_saturateref05_ParseAll, i_saturateref05_ParseAll, h1, e2, e3, outA, ownA, S.avs_closed]
  · have h1 : (65536 : Int) < (s.length : Int) := by omega
    have h1' : s.length > 65536 := by omega
    simp [IP_saturateref05_ParseAll, i_saturateref05_ParseAll, h1, pAll, h1', outA]

abbrev intsA (l : List Nat) : List AV := l.map fun n : Nat => AV.int .i64 (n : Int)
def ownI (l : List Nat) : Own := if l.isEmpty then .nil else .own 1 0
@[simp] theorem ownI_cp (l : List Nat) : (ownI l).cp = ownB l.isEmpty := by cases l <;> rfl
@[simp] theorem ownI_app (l : List Nat) (x : Nat) : ownI (l ++ [x]) = .own 1 0 := by cases l <;> rfl
theorem ownI_ok (l : List Nat) : ownI l = .nil ∨ ownI l = .own 1 0 := by cases l <;> simp [ownI]
@[simp] theorem okSize_ints (l : List Nat) : okSize 1 (intsA l) = true := by cases l <;> simp [intsA]
def TRok (hp : List HObj) (s : List UInt8) : TR → Ex → St → Prop
  | .err j e, ex, st => ex = .pan (failAV j e) ∧ st.hp = PH hp s j ∧ ∃ v2 v3 v4 v5, st.fr.get 2 = .box [v2] ∧ st.fr.get 3 = .box [v3] ∧ st.fr.get 4 = .box [v4] ∧ st.fr.get 5 = .box [v5]
  | .ok l st', ex, st => ex = .exit 0 ∧ st = ⟨[(0, .str s), (2, .box [.list (S.avs l) (ownA l)]), (3, .box [.list (intsA st') (ownI st')]), (4, .box [.int .i64 0]), (5, .box [.int .i64 0]), (6, .ptr hp.length 0), (22, .bool false)], PH hp s s.length⟩
theorem top2_L (hs : s.length ≤ 65536) (hlo : lo ≤ hp.length) : ∀ (n i : Nat) (acc : List S) (st : List Nat), i ≤ s.length → acc.length ≤ i → st.length ≤ i → s.length - i < n →
    ∃ ex st', loopD G0 IP lo l_sexpr_all_0 ⟨[(0, .str s), (2, .box [.list (S.avs acc) (ownA acc)]), (3, .box [.list (intsA st) (ownI st)]), (4, .box [.int .i64 0]), (5, .box [.int .i64 0]), (6, .ptr hp.length 0)], PH hp s i⟩ = some (ex, st') ∧ TRok hp s (pTop s n i acc st) ex st' := by
  have hs' : s.length ≤ 9223372036854775807 := by omega
  intro n
  induction n with
  | zero => intro i acc st hi ha _ h; omega
  | succ n ih =>
    intro i acc st hi ha hst h
    rw [loopD_eq, loopBody]
    simp only [pTop]
    by_cases h0 : i < s.length
    · have h1 : (i : Int) < (s.length : Int) := by omega
      have e1 : callD G0 IP n_sexpr_parser_expression [.ptr hp.length 0, .int .i64 0] (PH hp s i) lo false = some (outE hp s (pOne s (2 * s.length) i 0)) := (expr_W hs hlo (2 * s.length)).1 i 0 h0 (by omega) (by omega)
      have hc1 : (st.length + 1) * 8 ≤ 140737488355328 := by omega
      have hc2 : st.length + 1 ≤ 9223372036854775807 := by omega
      simp only [if_pos h0]
      cases hx : pOne s (2 * s.length) i 0 with
      | err j e =>
        rw [hx] at e1
        simp only [outE] at e1
        simp [l_sexpr_all_0, h1, e1, hc1, hc2, ownI_ok]
        exact ⟨_, _, ⟨rfl, rfl⟩, rfl, rfl, _, _, _, _, rfl, rfl, rfl, rfl⟩
      | ok x j =>
        rw [hx] at e1
        simp only [outE] at e1
        obtain ⟨hj1, hj2⟩ := (p_le s _).1 i 0 x j h0 hx
        have hsk := skipN_le (s := s) (i := j) hj2
        have e2 := skip2_D (hp := hp) (lo := lo) hs' hlo j hj2
        obtain ⟨ex, st', e3, e4⟩ := ih (skipN s j) (acc ++ [x]) (st ++ [i]) hsk.2 (by simp; omega) (by simp; omega) (by omega)
        have hb1 : (acc.length + 1) * 40 ≤ 140737488355328 := by omega
        have hb2 : acc.length + 1 ≤ 9223372036854775807 := by omega
        rw [S.av_eq] at e1
        rw [S.avs_app, ownA_app, ownI_app, show S.avs [x] = [.agg [.str x.atom, .list (S.avs x.list) (ownB x.o)]] by simp [S.avs, S.av_eq]] at e3
        refine ⟨ex, st', ?_, e4⟩
        simp [l_sexpr_all_0, h1, e1, e2, hb1, hb2, hc1, hc2, ownA_ok, ownI_ok, Fr.noLast]
        rw [show intsA (st ++ [i]) = intsA st ++ [AV.int .i64 (i : Int)] by simp [intsA]] at e3
        exact e3
    · have h1 : i = s.length := by omega
      subst h1
      simp only [if_neg h0, TRok]
      simp [l_sexpr_all_0]
theorem recv_D (hp : List HObj) (v2 v3 v4 v5 : AV) (j : Nat) (e : Int) (lo : Nat) (hlo : lo ≤ hp.length) : evalRecv G0 IP (callD G0 IP) (loopD G0 IP lo) lo n_sexpr_all_1 [.ptr hp.length 0, .ptr (hp.length + 1) 0, .ptr (hp.length + 2) 0, .ptr (hp.length + 3) 0]
    (hp ++ [.cells 0 [v2], .cells 0 [v3], .cells 0 [v4], .cells 0 [v5]]) (failAV j e) = some (hp ++ [.cells 0 [.list [] .nil], .cells 0 [.list [] .nil], .cells 0 [.int .i64 j], .cells 0 [.int .i64 e]]) := by
  have h1 : lo ≤ hp.length + 1 := by omega
  have h2 : lo ≤ hp.length + 2 := by omega
  have h3 : lo ≤ hp.length + 3 := by omega
  simp [IP_sexpr_all_1, i_sexpr_all_1, hlo, h1, h2, h3, List.getElem?_append_right, List.set_append_right]
theorem recv0_D (hp : List HObj) (v2 v3 v4 v5 : AV) (lo : Nat) : evalRecv G0 IP (callD G0 IP) (loopD G0 IP lo) lo n_sexpr_all_1 [.ptr hp.length 0, .ptr (hp.length + 1) 0, .ptr (hp.length + 2) 0, .ptr (hp.length + 3) 0]
    (hp ++ [.cells 0 [v2], .cells 0 [v3], .cells 0 [v4], .cells 0 [v5]]) .nili = some (hp ++ [.cells 0 [v2], .cells 0 [v3], .cells 0 [v4], .cells 0 [v5]]) := by
  simp [IP_sexpr_all_1, i_sexpr_all_1]
end
end Go.Proofs.Ytajlmldpbhendaa.Rf
end
section
/- Parse and ParseAll, of the program and of the reference. -/
set_option linter.unusedSimpArgs false
set_option linter.unusedVariables false
namespace Go.Proofs.Ytajlmldpbhendaa.Rf

def outAll : TR → AV
  | .ok l st => .tup [.list (S.avs l) (ownB l.isEmpty), .list (intsA st) (ownB st.isEmpty), .int .i64 0, .int .i64 0]
  | .err j e => .tup [.list [] .nil, .list [] .nil, .int .i64 j, .int .i64 e]
theorem ints_closed (n : Nat) : ∀ l : List Nat, AV.closedL n (intsA l) = true
  | [] => rfl
  | x :: r => by simp [intsA, AV.closedL]; simpa [intsA] using ints_closed n r
theorem PH_fold (hp : List HObj) (s : List UInt8) (v : Int) : hp ++ [.cells 0 [.str s, .int .i64 v, .list [] .nil]] = PH hp s v := rfl
theorem get4_2 {α : Type} (xs : List α) (a b c d : α) (h : xs.length + 1 + 1 < (xs ++ [a, b, c, d]).length) : (xs ++ [a, b, c, d])[xs.length + 1 + 1] = c := by
  rw [List.getElem_append_right (by omega)]
  simp [show xs.length + 1 + 1 - xs.length = 2 by omega]
theorem get4_3 {α : Type} (xs : List α) (a b c d : α) (h : xs.length + 1 + 1 + 1 < (xs ++ [a, b, c, d]).length) : (xs ++ [a, b, c, d])[xs.length + 1 + 1 + 1] = d := by
  rw [List.getElem_append_right (by omega)]
  simp [show xs.length + 1 + 1 + 1 - xs.length = 3 by omega]
section
variable {s : List UInt8} {hp : List HObj} {lo : Nat}
theorem all_D (q : Bool) : callD G0 IP n_sexpr_all [.str s] hp lo q = some (.ret (outAll (pAll s)) hp) := by
  rw [callD_eq]
  by_cases hs : s.length ≤ 65536
  · have h1 : ¬ (65536 : Int) < (s.length : Int) := by omega
    have h1' : ¬ s.length > 65536 := by omega
    have e2 : callD G0 IP n_sexpr_parser_skip [.ptr hp.length 0] (PH hp s 0) hp.length false = some (.ret (.tup []) (PH hp s (skipN s 0))) := skip2_D (by omega) (Nat.le_refl _) 0 (by omega)
    have hk := skipN_le (s := s) (i := 0) (by omega)
    obtain ⟨ex, st', e3, e4⟩ := top2_L (hp := hp) (lo := hp.length) hs (Nat.le_refl _) (s.length + 1) (skipN s 0) [] [] hk.2 (by simp) (by simp) (by omega)
    simp [ownA, ownI] at e3
    simp only [pAll, if_neg h1']
    cases hx : pTop s (s.length + 1) (skipN s 0) [] [] with
    | err j e =>
      rw [hx] at e4
      obtain ⟨rfl, e5, v2, v3, v4, v5, g2, g3, g4, g5⟩ := e4
      have hr := recv_D (PH hp s j) v2 v3 v4 v5 j e hp.length (by rw [PH_len]; omega)
      simp [-evalRecv, IP_sexpr_all, i_sexpr_all, h1, PH_fold, e2, e3, e5, g2, g3, g4, g5, hr, outAll, get4_2, get4_3]
    | ok l st =>
      rw [hx] at e4
      obtain ⟨rfl, rfl⟩ := e4
      simp [-evalRecv, IP_sexpr_all, i_sexpr_all, h1, PH_fold, e2, e3, recv0_D, outAll, get4_2, get4_3, S.avs_closed, ints_closed]
  · have h1 : (65536 : Int) < (s.length : Int) := by omega
    have h1' : s.length > 65536 := by omega
    simp [IP_sexpr_all, i_sexpr_all, h1, pAll, h1', outAll]
end
end Go.Proofs.Ytajlmldpbhendaa.Rf
end
section
/- Parse and ParseAll, of the program and of the reference; Same. -/
set_option linter.unusedSimpArgs false
set_option linter.unusedVariables false
namespace Go.Proofs.Ytajlmldpbhendaa.Rf

theorem top_pre (s : List UInt8) : ∀ n i acc st l st', pTop s n i acc st = .ok l st' → (∃ a, l = acc ++ a) ∧ ∃ b, st' = st ++ b
  | 0, i, acc, st, l, st', h => by simp [pTop] at h; obtain ⟨rfl, rfl⟩ := h; exact ⟨⟨[], by simp⟩, [], by simp⟩
  | n + 1, i, acc, st, l, st', h => by
    simp only [pTop] at h
    split at h
    · split at h
      · cases h
      · obtain ⟨⟨a, h1⟩, b, h2⟩ := top_pre s n _ _ _ _ _ h
        exact ⟨⟨_ :: a, by rw [h1]; simp; rfl⟩, _ :: b, by rw [h2]; simp; rfl⟩
    · cases h; exact ⟨⟨[], by simp⟩, [], by simp⟩
theorem top_err (s : List UInt8) : ∀ n i acc st j e, pTop s n i acc st = .err j e → ¬ e = 0
  | 0, i, acc, st, j, e, h => by simp [pTop] at h
  | n + 1, i, acc, st, j, e, h => by
    simp only [pTop] at h
    split at h
    · split at h
      · rename_i hx; cases h; exact perr_ne s _ _ _ _ _ hx
      · exact top_err s n _ _ _ _ _ h
    · cases h
theorem pAll_err {s : List UInt8} {j : Nat} {e : Int} (h : pAll s = .err j e) : ¬ e = 0 := by
  unfold pAll at h
  split at h
  · cases h; simp
  · exact top_err s _ _ _ _ _ _ h
/-- where the second one begins -/
theorem pAll_two {s : List UInt8} {x y : S} {l : List S} {st : List Nat} (h : pAll s = .ok (x :: y :: l) st) : s.length ≤ 65536 ∧ skipN s 0 < s.length ∧ ∃ j, pOne s (2 * s.length) (skipN s 0) 0 = .ok x j ∧ st[1]? = some (skipN s j) ∧ j ≤ s.length := by
  unfold pAll at h
  split at h
  · cases h
  rename_i hs
  simp only [pTop] at h
  split at h
  rotate_left
  · cases h
  rename_i h0
  split at h
  · cases h
  rename_i x' j hx
  have hj := (p_le s _).1 _ 0 x' j h0 hx
  obtain ⟨m, hm⟩ : ∃ m, s.length = m + 1 := ⟨s.length - 1, by omega⟩
  have h' : pTop s (m + 1) (skipN s j) ([] ++ [x']) ([] ++ [skipN s 0]) = .ok (x :: y :: l) st := by rw [← hm]; exact h
  simp only [pTop] at h'
  split at h'
  rotate_left
  · cases h'
  split at h'
  · cases h'
  rename_i y' k hy
  obtain ⟨⟨a, h1⟩, b, h2⟩ := top_pre s _ _ _ _ _ _ h'
  simp at h1 h2
  exact ⟨by omega, h0, j, by rw [h1.1]; exact hx, by rw [h2]; rfl, hj.2⟩
theorem pAll_len {s : List UInt8} {l : List S} {st : List Nat} (h : pAll s = .ok l st) : st.length = l.length := by
  have : ∀ n i acc st l st', acc.length = st.length → pTop s n i acc st = .ok l st' → st'.length = l.length := by
    intro n
    induction n with
    | zero => intro i acc st l st' ha h; simp [pTop] at h; obtain ⟨rfl, rfl⟩ := h; exact ha.symm
    | succ n ih =>
      intro i acc st l st' ha h
      simp only [pTop] at h
      split at h
      · split at h
        · cases h
        · exact ih _ _ _ _ _ (by simp [ha]) h
      · cases h; exact ha.symm
  unfold pAll at h
  split at h
  · cases h
  · exact this _ _ _ _ _ _ rfl h
def outS1 (s : List UInt8) : TR → AV
  | .err j e => .tup [.agg [.str [], .list [] .nil], .int .i64 j, .int .i64 e]
  | .ok [] _ => .tup [.agg [.str [], .list [] .nil], .int .i64 s.length, .int .i64 6]
  | .ok [x] _ => .tup [x.av, .int .i64 0, .int .i64 0]
  | .ok (_ :: _ :: _) st => .tup [.agg [.str [], .list [] .nil], .int .i64 (st.getD 1 0 : Nat), .int .i64 6]
section
variable {s : List UInt8} {hp : List HObj} {lo : Nat}
theorem parseAll2_D (q : Bool) : callD G0 IP n_sexpr_ParseAll [.str s] hp lo q = some (.ret (outA (fun l => ownB l.isEmpty) (pAll s)) hp) := by
  rw [callD_eq]
  have e1 : ∀ q, callD G0 IP n_sexpr_all [.str s] hp hp.length q = some (.ret (outAll (pAll s)) hp) := fun q => all_D q
  cases hx : pAll s with
  | err j e =>
    simp only [hx, outAll] at e1
    simp [IP_sexpr_ParseAll, i_sexpr_ParseAll, e1, outA]
  | ok l st =>
    simp only [hx, outAll] at e1
    simp [IP_sexpr_ParseAll, i_sexpr_ParseAll, e1, outA, S.avs_closed]
theorem parse2_D (q : Bool) : callD G0 IP n_sexpr_Parse [.str s] hp lo q = some (.ret (outS1 s (pAll s)) hp) := by
  rw [callD_eq]
  have e1 : ∀ q, callD G0 IP n_sexpr_all [.str s] hp hp.length q = some (.ret (outAll (pAll s)) hp) := fun q => all_D q
  cases hx : pAll s with
  | err j e =>
    simp only [hx, outAll] at e1
    have hne := pAll_err hx
    simp [IP_sexpr_Parse, i_sexpr_Parse, e1, outS1, hne]
  | ok l st =>
    simp only [hx, outAll] at e1
    have hlen := pAll_len hx
    match l, st, hlen, e1 with
    | [], st, hlen, e1 =>
      simp at e1
      simp [IP_sexpr_Parse, i_sexpr_Parse, e1, outS1]
    | [x], st, hlen, e1 =>
      simp [S.avs, S.av_eq x] at e1
      have hc := S.av_closed hp.length x
      simp [S.av_eq x, AV.closed, AV.closedL] at hc
      simp [IP_sexpr_Parse, i_sexpr_Parse, e1, outS1, S.av_eq x, S.avs_closed]
    | x :: y :: l, st, hlen, e1 =>
      obtain ⟨b0, b1, r, rfl⟩ : ∃ b0 b1 r, st = b0 :: b1 :: r := by
        match st, hlen with
        | b0 :: b1 :: r, _ => exact ⟨b0, b1, r, rfl⟩
      simp [S.avs, intsA] at e1
      have h1 : (1 : Int) < (l.length : Int) + 1 + 1 := by omega
      have h0 : ¬ (l.length : Int) + 1 + 1 = 0 := by omega
      have h2 : (1 : Int) < (r.length : Int) + 1 + 1 := by omega
      simp [IP_sexpr_Parse, i_sexpr_Parse, e1, outS1, h0, h1, h2]
theorem parse1_D (q : Bool) : callD G0 IP n_saturateref05_Parse [.str s] hp lo q = some (.ret (outS1 s (pAll s)) hp) := by
  rw [callD_eq]
  have e1 : ∀ q, callD G0 IP n_saturateref05_ParseAll [.str s] hp hp.length q = some (.ret (outA ownA (pAll s)) hp) := fun q => parseAll1_D q
  cases hx : pAll s with
  | err j e =>
    simp only [hx, outA] at e1
    have hne := pAll_err hx
    simp [IP_saturateref05_Parse, i_saturateref05_Parse, e1, outS1, hne]
  | ok l st =>
    simp only [hx, outA] at e1
    match l, e1, hx with
    | [], e1, hx =>
      simp at e1
      simp [IP_saturateref05_Parse, i_saturateref05_Parse, e1, outS1]
    | [x], e1, hx =>
      simp [S.avs, S.av_eq x] at e1
      simp [IP_saturateref05_Parse, i_saturateref05_Parse, e1, outS1, S.av_eq x, S.avs_closed]
    | x :: y :: l, e1, hx =>
      obtain ⟨hs, h0, j, f1, f2, f3⟩ := pAll_two hx
      simp [S.avs] at e1
      have h1 : (1 : Int) < (l.length : Int) + 1 + 1 := by omega
      have h0' : ¬ (l.length : Int) + 1 + 1 = 0 := by omega
      have e2 : ∀ q, callD G0 IP n_saturateref05_skip [.str s, .int .i64 0] hp hp.length q = some (.ret (.int .i64 (skipN s 0)) hp) := fun q => skip1_D (by omega) 0 (by omega) q
      have e3 : ∀ q, callD G0 IP n_saturateref05_one [.str s, .int .i64 (skipN s 0), .int .i64 0] hp hp.length q = some (.ret (outP (pOne s (2 * s.length) (skipN s 0) 0)) hp) := fun q => (one_W hs (2 * s.length)).1 hp _ q (skipN s 0) 0 h0 (by omega) (by omega)
      have e4 : ∀ q, callD G0 IP n_saturateref05_skip [.str s, .int .i64 j] hp hp.length q = some (.ret (.int .i64 (skipN s j)) hp) := fun q => skip1_D (by omega) j f3 q
      simp only [f1, outP] at e3
      have f4 : st.getD 1 0 = skipN s j := by rw [List.getD_eq_getElem?_getD, f2]; rfl
      rw [S.av_eq x] at e3
      simp [IP_saturateref05_Parse, i_saturateref05_Parse, e1, e2, e3, e4, outS1, h0', h1]
      rw [f2]; rfl
end
end Go.Proofs.Ytajlmldpbhendaa.Rf
end
section
/- The chapter's examples. -/
namespace Go.Proofs.Ytajlmldpbhendaa.Rf
set_option maxRecDepth 100000 in
theorem sxlive_ok : (run G0 IP 60).1 n_saturatelaw05_live [] [] 0 false = some (.ret (.bool true) []) := by kernel_rfl
end Go.Proofs.Ytajlmldpbhendaa.Rf
end
section
/- The reference's equality; the law of parsing. -/
set_option linter.unusedSimpArgs false
set_option linter.unusedVariables false
namespace Go.Proofs.Ytajlmldpbhendaa.Rf

section
variable {hp : List HObj} {lo : Nat}
theorem sames_of {as : List S} (ih : ∀ t, t ∈ as → ∀ (u : S) (hp : List HObj) (lo : Nat) (q : Bool), callD G0 IP n_saturateref05_Same [t.av, u.av] hp lo q = some (.ret (.bool (t.same u)) hp)) (bs : List S) (hl : as.length ≤ 9223372036854775807) (o1 o2 : Own) (hp : List HObj) (lo : Nat) (q : Bool) :
    callD G0 IP n_saturateref05_SameAll [.list (S.avs as) o1, .list (S.avs bs) o2] hp lo q = some (.ret (.bool (S.sames as bs)) hp) := by
  rw [callD_eq]
  by_cases he : as.length = bs.length
  · have hloop := loop_find (G := G0) (IP := IP) (lo := hp.length) (b := l_saturateref05_SameAll_0)
      (fun i => ⟨[(0, .list (S.avs as) o1), (1, .list (S.avs bs) o2), (5, .int .i64 i)], hp⟩) as.length (fun i => !(as.getD i (.mk [] true [])).same (bs.getD i (.mk [] true [])))
      (.ret, ⟨[(4, .bool false)], hp⟩) (.exit 0, ⟨[(0, .list (S.avs as) o1), (1, .list (S.avs bs) o2), (5, .int .i64 as.length), (14, .bool false)], hp⟩)
      (fun i hi hp1 => by
        have hi2 : i < bs.length := by omega
        have e1 := ih as[i] (List.getElem_mem hi) bs[i] hp hp.length true
        have h2 : as[i].same bs[i] = true := by simpa [hi, hi2] using hp1
        rw [h2, S.av_eq, S.av_eq] at e1
        have hiI : (i : Int) < (as.length : Int) := by omega
        have hiI2 : (i : Int) < (bs.length : Int) := by omega
        have hw := wrap_succ hi hl
        simp [l_saturateref05_SameAll_0, hi, hi2, hiI, hiI2, S.av_eq as[i], S.av_eq bs[i], e1, hw])
      (fun i hi hp1 => by
        have hi2 : i < bs.length := by omega
        have e1 := ih as[i] (List.getElem_mem hi) bs[i] hp hp.length true
        have h2 : as[i].same bs[i] = false := by simpa [hi, hi2] using hp1
        rw [h2, S.av_eq, S.av_eq] at e1
        have hiI : (i : Int) < (as.length : Int) := by omega
        have hiI2 : (i : Int) < (bs.length : Int) := by omega
        simp [l_saturateref05_SameAll_0, hi, hi2, hiI, hiI2, S.av_eq as[i], S.av_eq bs[i], e1])
      (fun s => by simp) (by simp [l_saturateref05_SameAll_0]) (fun s => by simp)
    have hI : (as.length : Int) = (bs.length : Int) := by omega
    rw [S.sames_eq as bs he]
    simp only [Int.natCast_zero] at hloop
    cases hany : (List.range as.length).any fun i => !(as.getD i (.mk [] true [])).same (bs.getD i (.mk [] true []))
    · rw [hany] at hloop
      simp only [Bool.false_eq_true, if_false] at hloop
      simp [IP_saturateref05_SameAll, i_saturateref05_SameAll, hI, hloop]
    · rw [hany] at hloop
      simp only [if_true] at hloop
      simp [IP_saturateref05_SameAll, i_saturateref05_SameAll, hI, hloop]
  · have hI : ¬ (as.length : Int) = (bs.length : Int) := by omega
    rw [S.sames_len as bs he]
    simp [IP_saturateref05_SameAll, i_saturateref05_SameAll, hI]
theorem ref_same_D (t : S) : t.wf → ∀ (u : S) (hp : List HObj) (lo : Nat) (q : Bool), callD G0 IP n_saturateref05_Same [t.av, u.av] hp lo q = some (.ret (.bool (t.same u)) hp) := by
  induction t using S.ind with | h t ih =>
  intro hw u hp lo q
  rw [S.wf_eq] at hw
  have e1 := fun q => sames_of (as := t.list) (fun x hx => ih x hx (hw.2.2.2 x hx)) u.list hw.2.1 (ownB t.o) (ownB u.o) hp hp.length q
  rw [callD_eq, S.same_eq]
  rw [S.av_eq t, S.av_eq u]
  by_cases hc : t.atom = u.atom
  · simp [IP_saturateref05_Same, i_saturateref05_Same, hc, e1]
  · simp [IP_saturateref05_Same, i_saturateref05_Same, hc]
theorem ref_sames_D {as : List S} (hw : ∀ t, t ∈ as → t.wf) (bs : List S) (hl : as.length ≤ 9223372036854775807) (o1 o2 : Own) (q : Bool) : callD G0 IP n_saturateref05_SameAll [.list (S.avs as) o1, .list (S.avs bs) o2] hp lo q = some (.ret (.bool (S.sames as bs)) hp) :=
  sames_of (fun t ht => ref_same_D t (hw t ht)) bs hl o1 o2 hp lo q
end
theorem p_wf (s : List UInt8) (hs : s.length ≤ 65536) : ∀ n, (∀ i d x j, i < s.length → pOne s n i d = .ok x j → x.wf) ∧ (∀ i d acc j acc', i ≤ s.length → acc.length ≤ i → (∀ t, t ∈ acc → t.wf) → pLoop s n i d acc = .stop j acc' → ∀ t, t ∈ acc' → t.wf)
  | 0 => ⟨fun i d x j hi h => by simp [pOne] at h, fun i d acc j acc' hi ha hw h => by simp [pLoop] at h; obtain ⟨_, rfl⟩ := h; exact hw⟩
  | n + 1 => by
    obtain ⟨h1, h2⟩ := p_wf s hs n
    refine ⟨fun i d x j hi h => ?_, fun i d acc j acc' hi ha hw h => ?_⟩
    · simp only [pOne] at h
      have hk := skipN_le (s := s) (i := i + 1) (by omega)
      split at h
      · split at h
        · cases h
        · split at h
          · cases h
          · rename_i j' acc' hl
            have hle := (p_le s n).2 _ _ _ _ _ hk.2 (by simp) hl
            have hw := h2 _ _ _ _ _ hk.2 (by simp) (by simp) hl
            split at h
            · cases h
            · cases h
              rw [S.wf_eq]
              simp only [S.atom, S.list, S.o]
              exact ⟨by simp, by omega, by simp, hw⟩
      · split at h
        · split at h
          · cases h
          · cases h
            rw [S.wf_eq]
            simp only [S.atom, S.list, S.o]
            exact ⟨by simp; omega, by simp, by simp, by simp⟩
        · cases h
    · simp only [pLoop] at h
      split at h
      · rename_i hlt
        split at h
        · cases h; exact hw
        · split at h
          · cases h
          · rename_i x j' ho
            have hj := (p_le s n).1 _ _ _ _ hlt ho
            have hk := skipN_le (s := s) (i := j') (by omega)
            refine h2 _ _ _ _ _ hk.2 (by simp; omega) (fun t ht => ?_) h
            rcases List.mem_append.1 ht with ht | ht
            · exact hw t ht
            · simp at ht; subst ht; exact h1 _ _ _ _ hlt ho
      · cases h; exact hw
theorem top_wf (s : List UInt8) (hs : s.length ≤ 65536) : ∀ n i acc st l st', i ≤ s.length → acc.length ≤ i → (∀ t, t ∈ acc → t.wf) → pTop s n i acc st = .ok l st' → (∀ t, t ∈ l → t.wf) ∧ l.length ≤ s.length
  | 0, i, acc, st, l, st', hi, ha, hw, h => by simp [pTop] at h; obtain ⟨rfl, rfl⟩ := h; exact ⟨hw, by omega⟩
  | n + 1, i, acc, st, l, st', hi, ha, hw, h => by
    simp only [pTop] at h
    split at h
    · rename_i hlt
      split at h
      · cases h
      · rename_i x j hx
        have hj := (p_le s _).1 _ _ _ _ hlt hx
        have hk := skipN_le (s := s) (i := j) (by omega)
        refine top_wf s hs n _ _ _ _ _ hk.2 (by simp; omega) (fun t ht => ?_) h
        rcases List.mem_append.1 ht with ht | ht
        · exact hw t ht
        · simp at ht; subst ht; exact (p_wf s hs _).1 _ _ _ _ hlt hx
    · cases h; exact ⟨hw, by omega⟩
theorem pAll_wf {s : List UInt8} {l : List S} {st : List Nat} (h : pAll s = .ok l st) : (∀ t, t ∈ l → t.wf) ∧ l.length ≤ 65536 := by
  unfold pAll at h
  split at h
  · cases h
  · have hk := skipN_le (s := s) (i := 0) (by omega)
    have := top_wf s (by omega) _ _ _ _ _ _ hk.2 (by simp) (by simp) h
    exact ⟨this.1, by omega⟩
theorem live_D : callD G0 IP n_saturatelaw05_live [] [] 0 false = some (.ret (.bool true) []) := callD_iff.2 ⟨60, sxlive_ok⟩
theorem zero_wf : (S.mk [] true []).wf := by simp [S.wf, S.wfs]
theorem zero_av : (S.mk [] true []).av = .agg [.str [], .list [] .nil] := rfl
theorem outS1_same (s : List UInt8) : ∃ (x : S) (j e : Int), outS1 s (pAll s) = .tup [x.av, .int .i64 j, .int .i64 e] ∧ x.wf := by
  cases hx : pAll s with
  | err j e => exact ⟨.mk [] true [], j, e, rfl, zero_wf⟩
  | ok l st =>
    have hw := (pAll_wf hx).1
    match l, hw with
    | [], _ => exact ⟨.mk [] true [], _, _, rfl, zero_wf⟩
    | [x], hw => exact ⟨x, _, _, rfl, hw x (by simp)⟩
    | x :: y :: l, _ => exact ⟨.mk [] true [], _, _, rfl, zero_wf⟩
theorem outA_same (s : List UInt8) : ∃ (l : List S) (o : Own) (o' : Own) (j e : Int), outA ownA (pAll s) = .tup [.list (S.avs l) o, .int .i64 j, .int .i64 e] ∧ outA (fun l => ownB l.isEmpty) (pAll s) = .tup [.list (S.avs l) o', .int .i64 j, .int .i64 e] ∧ (∀ t, t ∈ l → t.wf) ∧ l.length ≤ 65536 := by
  cases hx : pAll s with
  | err j e => exact ⟨[], .nil, .nil, j, e, rfl, rfl, by simp, by simp⟩
  | ok l st =>
    obtain ⟨h1, h2⟩ := pAll_wf hx
    exact ⟨l, _, _, 0, 0, rfl, rfl, h1, h2⟩
theorem sexprParses_D (s : List UInt8) (q : Bool) : callD G0 IP n_saturatelaw05_SexprParses [.str s] [] 0 q = some (.ret (.bool true) []) := by
  rw [callD_eq]
  have el := live_D
  by_cases h1 : s.length > 3000 ∧ s.length ≤ 65536
  · have a1 : (3000 : Int) < (s.length : Int) := by omega
    have a2 : (s.length : Int) ≤ 65536 := by omega
    simp [IP_saturatelaw05_SexprParses, i_saturatelaw05_SexprParses, a1, a2, el]
  · have e1 : ∀ q, callD G0 IP n_sexpr_Parse [.str s] [] 0 q = _ := fun q => parse2_D q
    have e2 : ∀ q, callD G0 IP n_saturateref05_Parse [.str s] [] 0 q = _ := fun q => parse1_D q
    have e3 : ∀ q, callD G0 IP n_sexpr_ParseAll [.str s] [] 0 q = _ := fun q => parseAll2_D q
    have e4 : ∀ q, callD G0 IP n_saturateref05_ParseAll [.str s] [] 0 q = _ := fun q => parseAll1_D q
    obtain ⟨x, j, e, f1, f2⟩ := outS1_same s
    obtain ⟨l, o, o', k, e', g1, g2, g3, g4⟩ := outA_same s
    have e5 := fun q => ref_same_D x f2 x [] 0 q
    have e6 := fun q => ref_sames_D (hp := []) (lo := 0) g3 l (by omega) o'.cp o.cp q
    simp only [f1, g1, g2] at e1 e2 e3 e4
    rw [S.same_refl] at e5
    simp only [S.sames_refl] at e6
    rw [S.av_eq x] at e1 e2 e5
    by_cases h2 : s.length > 3000
    · have a1 : (3000 : Int) < (s.length : Int) := by omega
      have a2 : ¬ (s.length : Int) ≤ 65536 := by omega
      simp [IP_saturatelaw05_SexprParses, i_saturatelaw05_SexprParses, a1, a2, el, e1, e2, e3, e4, e5, e6]
    · have a1 : ¬ (3000 : Int) < (s.length : Int) := by omega
      simp [IP_saturatelaw05_SexprParses, i_saturatelaw05_SexprParses, a1, el, e1, e2, e3, e4, e5, e6]
end Go.Proofs.Ytajlmldpbhendaa.Rf
end
section
/- Texts that are built: strings.Builder, write, Print. -/
set_option linter.unusedSimpArgs false
set_option linter.unusedVariables false
namespace Go.Proofs.Ytajlmldpbhendaa.Rf

@[simp] theorem cp_data (xs : List AV) (e : Nat) : AV.cp (.data xs e) = .data xs e := rfl
abbrev bytesA (bs : List UInt8) : List AV := bs.map fun b => AV.int .u8 (b.toNat : Int)
/-- The heap with a builder last. -/
def BW (hp : List HObj) (bs : List UInt8) : List HObj := hp ++ [.cells 82 [.ptr hp.length 0, .list (bytesA bs) (.own 1 5)]]
def B0 (hp : List HObj) : List HObj := hp ++ [.cells 82 [.nilp, .list [] .nil]]
def BH (hp : List HObj) (bs : List UInt8) : List HObj := if bs = [] then B0 hp else BW hp bs
section
variable {hp : List HObj} {lo : Nat}
@[simp] theorem BW_get (bs : List UInt8) : (BW hp bs)[hp.length]? = some (.cells 82 [.ptr hp.length 0, .list (bytesA bs) (.own 1 5)]) := by simp [BW]
@[simp] theorem B0_get : (B0 hp)[hp.length]? = some (.cells 82 [.nilp, .list [] .nil]) := by simp [B0]
@[simp] theorem okSize_bytes (bs : List UInt8) : okSize 1 (bytesA bs) = true := by cases bs <;> simp [bytesA]
theorem copyW_D (hlo : lo ≤ hp.length) (bs : List UInt8) : callD G0 IP n_strings_Builder_copyCheck [.ptr hp.length 0] (BW hp bs) lo false = some (.ret (.tup []) (BW hp bs)) := by
  rw [callD_eq]
  simp [IP_strings_Builder_copyCheck, i_strings_Builder_copyCheck]
theorem copy0_D (hlo : lo ≤ hp.length) : callD G0 IP n_strings_Builder_copyCheck [.ptr hp.length 0] (B0 hp) lo false = some (.ret (.tup []) (hp ++ [.cells 82 [.ptr hp.length 0, .list [] .nil]])) := by
  rw [callD_eq]
  simp [IP_strings_Builder_copyCheck, i_strings_Builder_copyCheck, hlo]
  simp [B0]
theorem wbyte_D (hlo : lo ≤ hp.length) (bs : List UInt8) (c : UInt8) (hb : bs.length + 1 ≤ 140737488355328) : callD G0 IP n_strings_Builder_WriteByte [.ptr hp.length 0, .int .u8 c.toNat] (BH hp bs) lo false = some (.ret .nili (BH hp (bs ++ [c]))) := by
  rw [callD_eq]
  have h63 : bs.length + 1 ≤ 9223372036854775807 := by omega
  by_cases h0 : bs = []
  · subst h0
    have e1 := copy0_D (hp := hp) (lo := lo) hlo
    simp [IP_strings_Builder_WriteByte, i_strings_Builder_WriteByte, BH, e1, hlo]
    simp [BW]
  · have e1 := copyW_D (hp := hp) (lo := lo) hlo bs
    simp [IP_strings_Builder_WriteByte, i_strings_Builder_WriteByte, BH, h0, e1, hlo, hb, h63]
    simp [BW]
theorem wstr_D (hlo : lo ≤ hp.length) (bs cs : List UInt8) (hc : cs ≠ []) (hb : bs.length + cs.length ≤ 140737488355328) : callD G0 IP n_strings_Builder_WriteString [.ptr hp.length 0, .str cs] (BH hp bs) lo false = some (.ret (.tup [.int .i64 cs.length, .nili]) (BH hp (bs ++ cs))) := by
  rw [callD_eq]
  have h63 : bs.length + cs.length ≤ 9223372036854775807 := by omega
  by_cases h0 : bs = []
  · subst h0
    have e1 := copy0_D (hp := hp) (lo := lo) hlo
    have hb' : cs.length ≤ 140737488355328 := by simpa using hb
    have h63' : cs.length ≤ 9223372036854775807 := by omega
    simp [IP_strings_Builder_WriteString, i_strings_Builder_WriteString, BH, e1, hlo, hc, hb', h63']
    simp [BW]
  · have e1 := copyW_D (hp := hp) (lo := lo) hlo bs
    simp [IP_strings_Builder_WriteString, i_strings_Builder_WriteString, BH, h0, hc, e1, hlo, hb, h63]
    simp [BW]
theorem bytesOf_bytes : ∀ bs : List UInt8, bytesOf (bytesA bs) = some bs
  | [] => rfl
  | b :: r => by
    have h := bytesOf_bytes r
    have h1 : (b.toNat : Int) < 256 := by have := b.toNat_lt; omega
    simp only [bytesA, List.map_cons, bytesOf]
    rw [if_pos ⟨by omega, h1⟩]
    simp only [bytesA] at h
    rw [h]; simp
theorem bstr_D (hlo : lo ≤ hp.length) (bs : List UInt8) (hb : bs.length ≤ 140737488355328) : callD G0 IP n_strings_Builder_String [.ptr hp.length 0] (BH hp bs) lo false = some (.ret (.str bs) (BH hp bs)) := by
  rw [callD_eq]
  have h63 : (bs.length : Int) ≤ 9223372036854775807 := by omega
  by_cases h0 : bs = []
  · subst h0
    simp [IP_strings_Builder_String, i_strings_Builder_String, BH]
  · have h1 := bytesOf_bytes bs
    simp only [bytesA] at h1
    simp [IP_strings_Builder_String, i_strings_Builder_String, BH, h0, Own.cp_own, Own.cp_view, h1, h63]
end
mutual
def S.text : S → List UInt8
  | .mk a _ l => if a = [] then 40 :: (S.texts true l ++ [41]) else a
def S.texts : Bool → List S → List UInt8
  | _, [] => []
  | b, t :: r => (if b then [] else [32]) ++ (t.text ++ S.texts false r)
end
theorem S.text_eq (t : S) : t.text = if t.atom = [] then 40 :: (S.texts true t.list ++ [41]) else t.atom := by cases t; rfl
theorem S.text_ne (t : S) : t.text ≠ [] := by
  rw [S.text_eq]; split <;> simp_all
theorem S.texts_app (b : Bool) : ∀ (l : List S) (t : S), S.texts b (l ++ [t]) = S.texts b l ++ ((if b && l.isEmpty then [] else [32]) ++ t.text)
  | [], t => by cases b <;> simp [S.texts]
  | u :: r, t => by
    rw [List.cons_append]
    simp only [S.texts]
    rw [S.texts_app false r t]
    simp
section
variable {hp : List HObj} {lo : Nat}
theorem texts_take_len {b : Bool} {l : List S} {i : Nat} (h : i < l.length) : S.texts b (l.take (i + 1)) = S.texts b (l.take i) ++ ((if b && decide (i = 0) then [] else [32]) ++ l[i].text) := by
  rw [List.take_succ_eq_append_getElem h, S.texts_app]
  have : (l.take i).isEmpty = decide (i = 0) := by
    cases i with
    | zero => simp
    | succ i => cases l with
      | nil => simp at h
      | cons x r => simp
  rw [this]
theorem texts_le {b : Bool} (l : List S) (i : Nat) : (S.texts b (l.take i)).length ≤ (S.texts b l).length := by
  have : ∀ (l : List S) (b : Bool) (i : Nat), (S.texts b (l.take i)).length ≤ (S.texts b l).length := by
    intro l
    induction l with
    | nil => intro b i; simp
    | cons x r ih =>
      intro b i
      cases i with
      | zero => simp [S.texts]
      | succ i =>
        simp only [List.take_succ_cons, S.texts, List.length_append]
        have := ih false i
        omega
  exact this l b i
theorem write_D (t : S) : t.wf → ∀ {hp : List HObj} {lo : Nat}, lo ≤ hp.length → ∀ (bs : List UInt8), bs.length + t.text.length ≤ 140737488355328 → callD G0 IP n_sexpr_write [.ptr hp.length 0, t.av] (BH hp bs) lo false = some (.ret (.tup []) (BH hp (bs ++ t.text))) := by
  induction t using S.ind with | h t ih =>
  intro hw hp lo hlo bs hb
  rw [S.wf_eq] at hw
  obtain ⟨_, hl, _, hws⟩ := hw
  rw [callD_eq]
  have ht := S.text_eq t
  by_cases ha : t.atom = []
  · rw [if_pos ha] at ht
    rw [ht] at hb ⊢
    simp only [List.length_cons, List.length_append, List.length_nil] at hb
    have e1 := wbyte_D (hp := hp) (lo := lo) hlo bs 40 (by omega)
    have e2 := wbyte_D (hp := hp) (lo := lo) hlo (bs ++ 40 :: S.texts true t.list) 41 (by simp; omega)
    have hloop := loop_iter (G := G0) (IP := IP) (lo := lo) (b := l_sexpr_write_0)
      (fun i => ⟨[(0, .ptr hp.length 0), (16, .list (S.avs t.list) (ownB t.o)), (17, .int .i64 t.list.length), (18, .int .i64 i)], BH hp (bs ++ 40 :: S.texts true (t.list.take i))⟩) t.list.length
      (r := (.exit 0, ⟨[(0, .ptr hp.length 0), (16, .list (S.avs t.list) (ownB t.o)), (17, .int .i64 t.list.length), (18, .int .i64 t.list.length), (19, .bool false)], BH hp (bs ++ 40 :: S.texts true t.list)⟩)) (fun i hi => by
        have hle := texts_le (b := true) t.list (i + 1)
        rw [texts_take_len hi] at hle
        simp only [List.length_append] at hle
        have hw := wrap_succ hi hl
        have hiI : (i : Int) < (t.list.length : Int) := by omega
        by_cases h0 : i = 0
        · subst h0
          have e3 := ih t.list[0] (List.getElem_mem hi) (hws _ (List.getElem_mem hi)) hlo (bs ++ [40]) (by simp at hle ⊢; omega)
          rw [S.av_eq] at e3
          rw [texts_take_len hi]
          simp [l_sexpr_write_0, hi, S.av_eq t.list[0], S.texts] at e3 ⊢
          simp [e3, show IntKind.wrap .i64 1 = 1 from rfl]
        · have h0' : 0 < i := by omega
          have hle2 : ((if true && decide (i = 0) then ([] : List UInt8) else [32])).length = 1 := by simp [h0]
          rw [hle2] at hle
          have e4 := wbyte_D (hp := hp) (lo := lo) hlo (bs ++ 40 :: S.texts true (t.list.take i)) 32 (by simp; omega)
          have e3 := ih t.list[i] (List.getElem_mem hi) (hws _ (List.getElem_mem hi)) hlo (bs ++ 40 :: S.texts true (t.list.take i) ++ [32]) (by simp; omega)
          rw [S.av_eq] at e3
          rw [texts_take_len hi, ← hw]
          simp at e3 e4
          simp [l_sexpr_write_0, hi, hiI, h0, h0', S.av_eq t.list[i], e3, e4])
      (by simp [l_sexpr_write_0]) (by simp)
    simp [S.texts] at hloop
    simp at e1 e2
    rw [S.av_eq t]
    simp [IP_sexpr_write, i_sexpr_write, ha, e1, e2, hloop]
  · rw [if_neg ha] at ht
    rw [ht] at hb ⊢
    have e1 := wstr_D (hp := hp) (lo := lo) hlo bs t.atom ha hb
    rw [S.av_eq t]
    simp [IP_sexpr_write, i_sexpr_write, ha, e1]
end
end Go.Proofs.Ytajlmldpbhendaa.Rf
end
section
/- Blanks and one atom, as long as a text may be. -/
set_option linter.unusedSimpArgs false
set_option linter.unusedVariables false
namespace Go.Proofs.Ytajlmldpbhendaa.Rf

def spc (n : Nat) : List UInt8 := List.replicate n 32 ++ [97]
@[simp] theorem spc_len (n : Nat) : (spc n).length = n + 1 := by simp [spc]
theorem byt_spc {n i : Nat} (h : i < n) : byt (spc n) i = 32 := by
  simp [byt, spc, List.getD, List.getElem?_append, h]
theorem byt_spc_end (n : Nat) : byt (spc n) n = 97 := by
  simp [byt, spc, List.getD, List.getElem?_append]
theorem skipK_spc (n : Nat) : ∀ k i, i ≤ n → n - i < k → skipK (spc n) k i = n
  | 0, i, _, h => by omega
  | k + 1, i, hi, hk => by
    simp only [skipK, spc_len]
    rw [if_pos (by omega)]
    by_cases h : i = n
    · subst h
      rw [byt_spc_end, if_neg (by decide), if_neg (by decide)]
    · rw [byt_spc (by omega), if_pos (by decide)]
      exact skipK_spc n k (i + 1) (by omega) (by omega)
theorem skipN_spc (n : Nat) : skipN (spc n) 0 = n := skipK_spc n _ 0 (by omega) (by simp)
theorem skipN_end (s : List UInt8) : skipN s s.length = s.length := by
  unfold skipN
  cases h : s.length with
  | zero => rfl
  | succ k => simp [skipK, h]
theorem atomN_spc (n : Nat) : atomN (spc n) n = n + 1 := by
  unfold atomN
  rw [spc_len, show n + 1 - n = 1 by omega]
  simp only [atomK]
  rw [byt_spc_end, if_pos (by decide)]
theorem pOne_spc (n k : Nat) : pOne (spc n) (k + 1) n 0 = .ok (.mk [97] true []) (n + 1) := by
  simp only [pOne]
  rw [byt_spc_end, if_neg (by decide), if_pos (by decide), if_neg (by decide), atomN_spc]
  congr 2
  rw [List.take_of_length_le (by simp)]
  simp [spc]
theorem pAll_spc {n : Nat} (h : n + 1 ≤ 65536) : pAll (spc n) = .ok [.mk [97] true []] [n] := by
  unfold pAll
  rw [if_neg (by simp; omega), skipN_spc, spc_len]
  simp only [pTop, spc_len]
  rw [if_pos (by omega)]
  rw [show 2 * (n + 1) = (2 * n + 1) + 1 by omega, pOne_spc]
  have := skipN_end (spc n)
  rw [spc_len] at this
  simp only [this, pTop, spc_len]
  rw [if_neg (by omega)]
  rfl
theorem pAll_long {s : List UInt8} (h : 65536 < s.length) : pAll s = .err 0 7 := by unfold pAll; rw [if_pos h]

def bufA (i j : Nat) : List AV := List.replicate i (.int .u8 32) ++ List.replicate j (.int .u8 0)
@[simp] theorem bufA_len (i j : Nat) : (bufA i j).length = i + j := by simp [bufA]
theorem bufA_put {i j : Nat} : (bufA i (j + 1)).take i ++ [AV.int .u8 32] ++ (bufA i (j + 1)).drop (i + 1) = bufA (i + 1) j := by
  have h1 : (bufA i (j + 1)).take i = List.replicate i (.int .u8 32) := by simp [bufA]
  have h2 : (bufA i (j + 1)).drop (i + 1) = List.replicate j (.int .u8 0) := by
    simp [bufA, List.drop_append, List.drop_replicate, show i + 1 - i = 1 by omega]
  rw [h1, h2, bufA, List.replicate_succ']
theorem bufA_end (n : Nat) : (bufA (n + 1) 0).take n ++ [AV.int .u8 97] ++ (bufA (n + 1) 0).drop (n + 1) = (spc n).map fun b => AV.int .u8 b.toNat := by
  unfold bufA spc
  simp [List.take_append_of_le_length]
theorem live2_ok (X : List AV) : (run G0 IP 60).1 n_saturatelaw05_live [] [.cells 5 X] 0 false = some (.ret (.bool true) [.cells 5 X]) := by kernel_rfl
theorem live2_D (X : List AV) : callD G0 IP n_saturatelaw05_live [] [.cells 5 X] 0 false = some (.ret (.bool true) [.cells 5 X]) := callD_iff.2 ⟨60, live2_ok X⟩
set_option maxRecDepth 20000 in
theorem sexprLong_D {m : Int} (h0 : 0 ≤ m) (h1 : m < 256) (q : Bool) : callD G0 IP n_saturatelaw05_SexprLong [.int .u8 m] [] 0 q = some (.ret (.bool true) []) := by
  obtain ⟨n, hn1, hn2, hn⟩ : ∃ n : Nat, 65532 ≤ n ∧ n ≤ 65538 ∧ Int.tmod m 7 = (n : Int) - 65532 := ⟨65532 + (m % 7).toNat, by omega, by omega, by rw [Int.tmod_eq_emod_of_nonneg h0]; omega⟩
  have hw0 : IntKind.wrap .i64 m = m := wrap_small (by omega) (by omega)
  have hw1 : IntKind.wrap .i64 (65533 + Int.tmod m 7) = ((n + 1 : Nat) : Int) := by rw [hn, wrap_small (by omega) (by omega)]; omega
  have hw2 : IntKind.wrap .i64 (n : Int) = (n : Int) := wrap_small (by omega) (by omega)
  rw [callD_eq]
  have hloop := loop_iter (G := G0) (IP := IP) (lo := 0) (b := l_saturatelaw05_SexprLong_0)
    (fun i => ⟨[(3, .int .i64 ((n + 1 : Nat) : Int)), (4, .sref 0 0 (n + 1) 1), (5, .int .i64 i)], [.cells 5 (bufA i (n + 1 - i))]⟩) (n + 1)
    (r := (.exit 0, ⟨[(3, .int .i64 ((n + 1 : Nat) : Int)), (4, .sref 0 0 (n + 1) 1), (5, .int .i64 ((n + 1 : Nat) : Int)), (20, .bool false)], [.cells 5 (bufA (n + 1) 0)]⟩)) (fun i hi => by
      have hw := wrap_succ hi (by omega)
      obtain ⟨j, hj⟩ : ∃ j, n + 1 - i = j + 1 := ⟨n - i, by omega⟩
      have e2 : n + 1 - (i + 1) = j := by omega
      rw [hj, e2, ← hw, ← bufA_put]
      simp [l_saturatelaw05_SexprLong_0, hi, show (i : Int) < (n : Int) + 1 by omega, show i < n + 1 by omega, show i + 1 ≤ i + (j + 1) by omega])
    (by simp [l_saturatelaw05_SexprLong_0]) (by simp)
  simp at hloop
  have hb0 : List.replicate (n + 1) (AV.int .u8 0) = bufA 0 (n + 1) := by simp [bufA]
  have f1 : n ≤ 140737488355327 := by omega
  have f2 : (0 : Int) ≤ (n : Int) + 1 := by omega
  have f3 : (n : Int) + 1 ≤ 9223372036854775807 := by omega
  have f4 : (n : Int) < (n : Int) + 1 := by omega
  have hbe := bufA_end n
  have hby : bytesOf ((spc n).map fun b => AV.int .u8 b.toNat) = some (spc n) := bytesOf_bytes _
  have hbl : ((spc n).map fun b => AV.int .u8 b.toNat).length = n + 1 := by simp
  have htk : ((spc n).map fun b => AV.int .u8 b.toNat).take (n + 1) = (spc n).map fun b => AV.int .u8 b.toNat := List.take_of_length_le (by simp)
  generalize ((spc n).map fun b => AV.int .u8 b.toNat) = B at *
  have hlv := live2_D B
  have hp1 := parse2_D (hp := [.cells 5 B]) (lo := 0) (s := spc n)
  have hp2 := parseAll2_D (hp := [.cells 5 B]) (lo := 0) (s := spc n)
  simp only [List.append_assoc, List.singleton_append] at hbe
  by_cases hN : n + 1 ≤ 65536
  · have g1 : ¬ (65536 : Int) < (n : Int) + 1 := by omega
    rw [pAll_spc hN] at hp1 hp2
    simp only [outS1, outA, S.av_eq, S.avs, S.atom, S.list, S.o] at hp1 hp2
    simp [IP_saturatelaw05_SexprLong, i_saturatelaw05_SexprLong, hw0, hw1, hw2, hloop, hb0, f1, f2, f3, f4, hbe, hbl, hby, htk, hp1, hp2, g1, hlv, ownB]
  · have g1 : (65536 : Int) < (n : Int) + 1 := by omega
    rw [pAll_long (by simp; omega)] at hp1 hp2
    simp only [outS1, outA] at hp1 hp2
    simp [IP_saturatelaw05_SexprLong, i_saturatelaw05_SexprLong, hw0, hw1, hw2, hloop, hb0, f1, f2, f3, f4, hbe, hbl, hby, htk, hp1, hp2, g1, hlv]
end Go.Proofs.Ytajlmldpbhendaa.Rf
end
