/- More rounds tell the same. -/
import Derived.Test.YtkofimhnehkdoaaGreatDoorRfG1
import Derived.Test.YtkofimhnehkdoaaGreatDoorRfG6
import Derived.Stop.LaidErr
import Derived.LaidSub
import Derived.Test.YtkofimhnehkdoaaGreatDoorRfG7
section
set_option linter.unusedSimpArgs false
set_option linter.unusedVariables false
namespace Go.Proofs.YtkofimhnehkdoaaGreatDoor.Rf

def CallLe (c d : CallF) : Prop := ∀ f vs hp lo q r, c f vs hp lo q = some r → d f vs hp lo q = some r
def LoopLe (c d : LoopF) : Prop := ∀ b st r, c b st = some r → d b st = some r
section
variable {G : Nat → Option (List AV)} {c d : CallF} {lo : Nat}
theorem evalOp_mono (h : CallLe c d) {o : IOp} {st : St} {r : OpR} (e : evalOp G c lo o st = some r) : evalOp G d lo o st = some r := by
  cases o
  case call f xs q =>
    simp only [evalOp] at e ⊢
    split at e
    · cases e
    · rename_i hp
      rw [if_neg hp]
      split at e
      · split at e
        · cases e
        · rename_i hpc
          rw [if_neg hpc]
          split at e
          · rename_i hc; rw [h _ _ _ _ _ _ hc]; exact e
          · rename_i hc; rw [h _ _ _ _ _ _ hc]; exact e
          · cases e
      · cases e
  all_goals exact e
theorem evalOps_mono (h : CallLe c d) : ∀ {os : List IOper} {st : St} {r : Ex × St}, evalOps G c lo os st = some r → evalOps G d lo os st = some r
  | [], st, r, e => e
  | o :: os, st, r, e => by
    simp only [evalOps] at e ⊢
    split at e
    · split at e
      · rename_i ho; rw [evalOp_mono h ho]
        split at e
        · rename_i hp; simp only [hp]; exact evalOps_mono h e
        · cases e
      · rename_i ho; rw [evalOp_mono h ho]; exact e
      · cases e
    · split at e
      · rename_i hp; exact evalOps_mono h e
      · cases e
    · cases e
theorem evalDraw_mono (h : CallLe c d) {ops : List IOper} {pans : List Nat} : ∀ {ord : List Nat} {st : St} {r : Ex × St}, evalDraw G c lo ops pans ord st = some r → evalDraw G d lo ops pans ord st = some r
  | [], st, r, e => e
  | i :: ord, st, r, e => by
    simp only [evalDraw] at e ⊢
    split at e
    · cases e
    · split at e
      · rename_i ho; rw [evalOps_mono h ho]; exact evalDraw_mono h e
      · rename_i ho; rw [evalOps_mono h ho]; exact e
      · cases e
theorem evalC_mono (h : CallLe c d) {l m : LoopF} (hl : LoopLe l m) : ∀ {x : ICode} {st : St} {r : Ex × St}, evalC G c l lo x st = some r → evalC G d m lo x st = some r := by
  intro x
  induction x with
  | skip => intro st r e; exact e
  | region ops live =>
    intro st r e
    simp only [evalC] at e ⊢
    split at e
    · rename_i ho; rw [evalOps_mono h ho]; exact e
    · rename_i hne
      rw [evalOps_mono h e]
      split
      · rename_i s1 hh; cases hh; exact absurd e (by simpa using hne s1)
      · rfl
  | draw ops ord pans live =>
    intro st r e
    simp only [evalC] at e ⊢
    cases hb : evalDraw G c lo ops pans ord st with
    | none => rw [hb] at e; cases e
    | some x => rw [evalDraw_mono h hb]; rw [hb] at e; exact e
  | seq a b iha ihb =>
    intro st r e
    simp only [evalC] at e ⊢
    split at e
    · rename_i ho; rw [iha ho]; exact ihb e
    · rename_i hne
      rw [iha e]
      split
      · rename_i s1 hh; cases hh; exact absurd e (by simpa using hne s1)
      · rfl
  | cond c a b iha ihb =>
    intro st r e
    simp only [evalC] at e ⊢
    split at e
    · split at e
      · rename_i h1; rw [if_pos h1]; exact iha e
      · rename_i h1; rw [if_neg h1]; exact ihb e
    · cases e
  | block id b ih =>
    intro st r e
    simp only [evalC] at e ⊢
    split at e
    · rename_i ho; rw [ih ho]; exact e
    · rename_i hne
      rw [ih e]
      split
      · rename_i i s1 hh; cases hh; exact absurd e (by simpa using hne i s1)
      · rfl
  | loop b ih => intro st r e; exact hl _ _ _ e
  | exit id => intro st r e; exact e
  | ret => intro st r e; exact e
  | stuck => intro st r e; exact e
theorem evalRecv_mono (h : CallLe c d) {l m : LoopF} (hl : LoopLe l m) {IP : IProg} {f : Nat} {caps : List AV} {hp : List HObj} {v : AV} {r : List HObj} (e : evalRecv G IP c l lo f caps hp v = some r) : evalRecv G IP d m lo f caps hp v = some r := by
  simp only [evalRecv] at e ⊢
  split at e
  · cases e
  · split at e
    · split at e
      · cases e
      · rename_i hc
        rw [if_neg hc]
        split at e
        · rename_i ho; rw [evalC_mono h hl ho]; exact e
        · rename_i ho; rw [evalC_mono h hl ho]; exact e
        · cases e
    · cases e
theorem evalFin1_mono (h : CallLe c d) {l m : LoopF} (hl : LoopLe l m) {IP : IProg} {ds : DSpec} {s3 : St} {v : AV} {r : Ex × St} (e : evalFin1 G IP c l lo ds s3 v = some r) : evalFin1 G IP d m lo ds s3 v = some r := by
  simp only [evalFin1] at e ⊢
  split at e
  · split at e
    · rename_i h4; rw [evalRecv_mono h hl h4]; exact e
    · cases e
  · cases e
theorem evalFin_mono (h : CallLe c d) {l m : LoopF} (hl : LoopLe l m) {IP : IProg} {ds : DSpec} {b : ICode} {st : St} {r : Ex × St} (e : evalFin G IP c l lo ds (evalC G c l lo b st) = some r) : evalFin G IP d m lo ds (evalC G d m lo b st) = some r := by
  cases hb : evalC G c l lo b st with
  | none => rw [hb] at e; simp [evalFin] at e
  | some x =>
    rw [evalC_mono h hl hb]
    rw [hb] at e
    obtain ⟨ex, s3⟩ := x
    cases ex <;> simp only [evalFin] at e ⊢ <;> first | exact evalFin1_mono h hl e | (cases e; done)
theorem evalF_mono (h : CallLe c d) {l m : LoopF} (hl : LoopLe l m) {IP : IProg} {fn : IFun} {st : St} {r : Ex × St} (e : evalF G IP c l lo fn st = some r) : evalF G IP d m lo fn st = some r := by
  simp only [evalF] at e ⊢
  split at e
  · exact evalC_mono h hl e
  · split at e
    · rename_i ho
      rw [evalC_mono h hl ho]
      simp only
      split at e
      · rename_i hc; rw [if_pos hc]; exact evalFin_mono h hl e
      · cases e
    · rename_i hne
      rw [evalC_mono h hl e]
      split
      · rename_i s1 hh; cases hh; exact absurd e (by simpa using hne s1)
      · rfl
theorem run_succ (IP : IProg) : ∀ k, CallLe (run G IP k).1 (run G IP (k + 1)).1 ∧ ∀ lo, LoopLe ((run G IP k).2 lo) ((run G IP (k + 1)).2 lo)
  | 0 => ⟨fun f vs hp lo q r e => by simp [run] at e, fun lo b st r e => by simp [run] at e⟩
  | k + 1 => by
    obtain ⟨h1, h2⟩ := run_succ IP k
    refine ⟨fun f vs hp lo q r e => ?_, fun lo b st r e => ?_⟩
    · rw [show (run G IP (k + 1)).1 = callBody G IP (run G IP k).1 (run G IP k).2 from rfl] at e
      rw [show (run G IP (k + 1 + 1)).1 = callBody G IP (run G IP (k + 1)).1 (run G IP (k + 1)).2 from rfl]
      simp only [callBody] at e ⊢
      split at e
      · cases e
      · rename_i fn hfn
        split at e
        · cases e
        · rename_i hc
          rw [if_neg hc]
          split at e
          · rename_i ho; rw [evalF_mono h1 (h2 _) ho]; exact e
          · rename_i ho; rw [evalF_mono h1 (h2 _) ho]; exact e
          · rename_i ho; rw [evalF_mono h1 (h2 _) ho]; exact e
          · cases e
    · rw [show (run G IP (k + 1)).2 lo = loopBody G (run G IP k).1 (run G IP k).2 lo from rfl] at e
      rw [show (run G IP (k + 1 + 1)).2 lo = loopBody G (run G IP (k + 1)).1 (run G IP (k + 1)).2 lo from rfl]
      simp only [loopBody] at e ⊢
      split at e
      · rename_i ho; rw [evalC_mono h1 (h2 _) ho]; exact h2 _ _ _ _ e
      · rename_i hne
        rw [evalC_mono h1 (h2 _) e]
        split
        · rename_i s1 hh; cases hh; exact absurd e (by simpa using hne s1)
        · rfl
theorem run_mono {IP : IProg} {k k' : Nat} (h : k ≤ k') : CallLe (run G IP k).1 (run G IP k').1 ∧ ∀ lo, LoopLe ((run G IP k).2 lo) ((run G IP k').2 lo) := by
  induction h with
  | refl => exact ⟨fun _ _ _ _ _ _ e => e, fun _ _ _ _ e => e⟩
  | step h ih =>
    obtain ⟨a, b⟩ := run_succ (G := G) IP _
    exact ⟨fun f vs hp lo q r e => a _ _ _ _ _ _ (ih.1 _ _ _ _ _ _ e), fun lo x st r e => b lo _ _ _ (ih.2 lo _ _ _ e)⟩
end
end Go.Proofs.YtkofimhnehkdoaaGreatDoor.Rf
end
section
/- The machine without a count of rounds: what the calls answer in the end. -/
set_option linter.unusedSimpArgs false
set_option linter.unusedVariables false
namespace Go.Proofs.YtkofimhnehkdoaaGreatDoor.Rf
section
variable (G : Nat → Option (List AV)) (IP : IProg)
open Classical in
/-- The answer of a call, if some number of rounds gives one. -/
noncomputable def callD : CallF := fun f vs hp lo q => if h : ∃ k r, (run G IP k).1 f vs hp lo q = some r then some h.choose_spec.choose else none
open Classical in
noncomputable def loopD (lo : Nat) : LoopF := fun b st => if h : ∃ k r, (run G IP k).2 lo b st = some r then some h.choose_spec.choose else none
variable {G IP}
theorem callD_iff {f : Nat} {vs : List AV} {hp : List HObj} {lo : Nat} {q : Bool} {r : COut} : callD G IP f vs hp lo q = some r ↔ ∃ k, (run G IP k).1 f vs hp lo q = some r := by
  unfold callD
  constructor
  · intro h
    split at h
    · rename_i hh; cases h; exact ⟨_, hh.choose_spec.choose_spec⟩
    · cases h
  · rintro ⟨k, hk⟩
    have hh : ∃ k r, (run G IP k).1 f vs hp lo q = some r := ⟨k, r, hk⟩
    rw [dif_pos hh]
    have e1 := (run_mono (G := G) (IP := IP) (Nat.le_max_left k hh.choose)).1 _ _ _ _ _ _ hk
    have e2 := (run_mono (G := G) (IP := IP) (Nat.le_max_right k hh.choose)).1 _ _ _ _ _ _ hh.choose_spec.choose_spec
    rw [e1] at e2; exact e2.symm
theorem loopD_iff {lo : Nat} {b : ICode} {st : St} {r : Ex × St} : loopD G IP lo b st = some r ↔ ∃ k, (run G IP k).2 lo b st = some r := by
  unfold loopD
  constructor
  · intro h
    split at h
    · rename_i hh; cases h; exact ⟨_, hh.choose_spec.choose_spec⟩
    · cases h
  · rintro ⟨k, hk⟩
    have hh : ∃ k r, (run G IP k).2 lo b st = some r := ⟨k, r, hk⟩
    rw [dif_pos hh]
    have e1 := (run_mono (G := G) (IP := IP) (Nat.le_max_left k hh.choose)).2 lo _ _ _ hk
    have e2 := (run_mono (G := G) (IP := IP) (Nat.le_max_right k hh.choose)).2 lo _ _ _ hh.choose_spec.choose_spec
    rw [e1] at e2; exact e2.symm
theorem run_callD (k : Nat) : CallLe (run G IP k).1 (callD G IP) := fun _ _ _ _ _ _ h => callD_iff.2 ⟨k, h⟩
theorem run_loopD (k lo : Nat) : LoopLe ((run G IP k).2 lo) (loopD G IP lo) := fun _ _ _ h => loopD_iff.2 ⟨k, h⟩

theorem evalOp_cont {lo : Nat} {o : IOp} {st : St} {r : OpR} (e : evalOp G (callD G IP) lo o st = some r) : ∃ k, evalOp G (run G IP k).1 lo o st = some r := by
  cases o
  case call f xs q =>
    simp only [evalOp] at e ⊢
    split at e
    · cases e
    · rename_i hp
      simp only [if_neg hp]
      split at e
      · split at e
        · cases e
        · rename_i hpc
          simp only [if_neg hpc]
          split at e
          · rename_i hc; obtain ⟨k, hk⟩ := callD_iff.1 hc; exact ⟨k, by rw [hk]; exact e⟩
          · rename_i hc; obtain ⟨k, hk⟩ := callD_iff.1 hc; exact ⟨k, by rw [hk]; exact e⟩
          · cases e
      · cases e
  all_goals exact ⟨0, e⟩
theorem evalOps_cont {lo : Nat} : ∀ {os : List IOper} {st : St} {r : Ex × St}, evalOps G (callD G IP) lo os st = some r → ∃ k, evalOps G (run G IP k).1 lo os st = some r
  | [], st, r, e => ⟨0, e⟩
  | o :: os, st, r, e => by
    simp only [evalOps] at e ⊢
    split at e
    · split at e
      · rename_i ho
        obtain ⟨k1, h1⟩ := evalOp_cont ho
        split at e
        · rename_i hp
          obtain ⟨k2, h2⟩ := evalOps_cont e
          refine ⟨max k1 k2, ?_⟩
          rw [evalOp_mono (run_mono (Nat.le_max_left k1 k2)).1 h1]
          simp only [hp]
          exact evalOps_mono (run_mono (Nat.le_max_right k1 k2)).1 h2
        · cases e
      · rename_i ho
        obtain ⟨k1, h1⟩ := evalOp_cont ho
        exact ⟨k1, by rw [h1]; exact e⟩
      · cases e
    · split at e
      · rename_i hp
        exact evalOps_cont e
      · cases e
    · cases e
theorem evalDraw_cont {lo : Nat} {ops : List IOper} {pans : List Nat} : ∀ {ord : List Nat} {st : St} {r : Ex × St}, evalDraw G (callD G IP) lo ops pans ord st = some r → ∃ k, evalDraw G (run G IP k).1 lo ops pans ord st = some r
  | [], st, r, e => ⟨0, e⟩
  | i :: ord, st, r, e => by
    simp only [evalDraw] at e ⊢
    split at e
    · cases e
    · split at e
      · rename_i ho
        obtain ⟨k1, h1⟩ := evalOps_cont ho
        obtain ⟨k2, h2⟩ := evalDraw_cont e
        refine ⟨max k1 k2, ?_⟩
        rw [evalOps_mono (run_mono (Nat.le_max_left k1 k2)).1 h1]
        exact evalDraw_mono (run_mono (Nat.le_max_right k1 k2)).1 h2
      · rename_i ho
        obtain ⟨k1, h1⟩ := evalOps_cont ho
        exact ⟨k1, by rw [h1]; exact e⟩
      · cases e
theorem evalC_cont {lo : Nat} : ∀ {x : ICode} {st : St} {r : Ex × St}, evalC G (callD G IP) (loopD G IP lo) lo x st = some r → ∃ k, evalC G (run G IP k).1 ((run G IP k).2 lo) lo x st = some r := by
  intro x
  induction x with
  | skip => intro st r e; exact ⟨0, e⟩
  | region ops live =>
    intro st r e
    simp only [evalC] at e ⊢
    split at e
    · rename_i ho; obtain ⟨k, hk⟩ := evalOps_cont ho; exact ⟨k, by rw [hk]; exact e⟩
    · rename_i hne
      obtain ⟨k, hk⟩ := evalOps_cont e
      refine ⟨k, ?_⟩
      rw [hk]
      split
      · rename_i s1 hh; cases hh; exact absurd e (by simpa using hne s1)
      · rfl
  | draw ops ord pans live =>
    intro st r e
    simp only [evalC] at e ⊢
    cases hb : evalDraw G (callD G IP) lo ops pans ord st with
    | none => rw [hb] at e; cases e
    | some x =>
      obtain ⟨k, hk⟩ := evalDraw_cont hb
      exact ⟨k, by rw [hk]; rw [hb] at e; exact e⟩
  | seq a b iha ihb =>
    intro st r e
    simp only [evalC] at e ⊢
    split at e
    · rename_i ho
      obtain ⟨k1, h1⟩ := iha ho
      obtain ⟨k2, h2⟩ := ihb e
      refine ⟨max k1 k2, ?_⟩
      have m1 := run_mono (G := G) (IP := IP) (Nat.le_max_left k1 k2)
      have m2 := run_mono (G := G) (IP := IP) (Nat.le_max_right k1 k2)
      rw [evalC_mono m1.1 (m1.2 lo) h1]
      exact evalC_mono m2.1 (m2.2 lo) h2
    · rename_i hne
      obtain ⟨k, hk⟩ := iha e
      refine ⟨k, ?_⟩
      rw [hk]
      split
      · rename_i s1 hh; cases hh; exact absurd e (by simpa using hne s1)
      · rfl
  | cond c a b iha ihb =>
    intro st r e
    simp only [evalC] at e ⊢
    split at e
    · split at e
      · rename_i h1; simp only [if_pos h1]; exact iha e
      · rename_i h1; simp only [if_neg h1]; exact ihb e
    · cases e
  | block id b ih =>
    intro st r e
    simp only [evalC] at e ⊢
    split at e
    · rename_i ho; obtain ⟨k, hk⟩ := ih ho; exact ⟨k, by rw [hk]; exact e⟩
    · rename_i hne
      obtain ⟨k, hk⟩ := ih e
      refine ⟨k, ?_⟩
      rw [hk]
      split
      · rename_i i s1 hh; cases hh; exact absurd e (by simpa using hne i s1)
      · rfl
  | loop b ih => intro st r e; obtain ⟨k, hk⟩ := loopD_iff.1 e; exact ⟨k, hk⟩
  | exit id => intro st r e; exact ⟨0, e⟩
  | ret => intro st r e; exact ⟨0, e⟩
  | stuck => intro st r e; exact ⟨0, e⟩

theorem evalRecv_cont {lo : Nat} {f : Nat} {caps : List AV} {hp : List HObj} {v : AV} {r : List HObj} (e : evalRecv G IP (callD G IP) (loopD G IP lo) lo f caps hp v = some r) : ∃ k, evalRecv G IP (run G IP k).1 ((run G IP k).2 lo) lo f caps hp v = some r := by
  simp only [evalRecv] at e ⊢
  split at e
  · cases e
  · split at e
    · split at e
      · cases e
      · rename_i hc
        simp only [if_neg hc]
        split at e
        · rename_i ho; obtain ⟨k, hk⟩ := evalC_cont ho; exact ⟨k, by rw [hk]; exact e⟩
        · rename_i ho; obtain ⟨k, hk⟩ := evalC_cont ho; exact ⟨k, by rw [hk]; exact e⟩
        · cases e
    · cases e
theorem evalFin1_cont {lo : Nat} {ds : DSpec} {s3 : St} {v : AV} {r : Ex × St} (e : evalFin1 G IP (callD G IP) (loopD G IP lo) lo ds s3 v = some r) : ∃ k, evalFin1 G IP (run G IP k).1 ((run G IP k).2 lo) lo ds s3 v = some r := by
  simp only [evalFin1] at e ⊢
  split at e
  · split at e
    · rename_i h4
      obtain ⟨k, hk⟩ := evalRecv_cont h4
      exact ⟨k, by rw [hk]; exact e⟩
    · cases e
  · cases e
theorem evalFin_cont {lo : Nat} {ds : DSpec} {b : ICode} {st : St} {r : Ex × St} (e : evalFin G IP (callD G IP) (loopD G IP lo) lo ds (evalC G (callD G IP) (loopD G IP lo) lo b st) = some r) : ∃ k, evalFin G IP (run G IP k).1 ((run G IP k).2 lo) lo ds (evalC G (run G IP k).1 ((run G IP k).2 lo) lo b st) = some r := by
  cases hb : evalC G (callD G IP) (loopD G IP lo) lo b st with
  | none => rw [hb] at e; simp [evalFin] at e
  | some x =>
    rw [hb] at e
    obtain ⟨k1, h1⟩ := evalC_cont hb
    obtain ⟨ex, s3⟩ := x
    have fin : ∀ v, evalFin1 G IP (callD G IP) (loopD G IP lo) lo ds s3 v = some r → ∃ k, k1 ≤ k ∧ evalFin1 G IP (run G IP k).1 ((run G IP k).2 lo) lo ds s3 v = some r := fun v e => by
      obtain ⟨k2, h2⟩ := evalFin1_cont e
      have m2 := run_mono (G := G) (IP := IP) (Nat.le_max_right k1 k2)
      exact ⟨max k1 k2, Nat.le_max_left _ _, evalFin1_mono m2.1 (m2.2 lo) h2⟩
    have go : ∀ v, evalFin1 G IP (callD G IP) (loopD G IP lo) lo ds s3 v = some r → ∃ k, evalC G (run G IP k).1 ((run G IP k).2 lo) lo b st = some (ex, s3) ∧ evalFin1 G IP (run G IP k).1 ((run G IP k).2 lo) lo ds s3 v = some r := fun v e => by
      obtain ⟨k, q1, q2⟩ := fin v e
      have m1 := run_mono (G := G) (IP := IP) q1
      exact ⟨k, evalC_mono m1.1 (m1.2 lo) h1, q2⟩
    cases ex with
    | normal => obtain ⟨k, q1, q2⟩ := go _ e; exact ⟨k, by rw [q1]; exact q2⟩
    | ret => obtain ⟨k, q1, q2⟩ := go _ e; exact ⟨k, by rw [q1]; exact q2⟩
    | pan v => obtain ⟨k, q1, q2⟩ := go _ e; exact ⟨k, by rw [q1]; exact q2⟩
    | exit i => simp [evalFin] at e
theorem evalF_cont {lo : Nat} {fn : IFun} {st : St} {r : Ex × St} (e : evalF G IP (callD G IP) (loopD G IP lo) lo fn st = some r) : ∃ k, evalF G IP (run G IP k).1 ((run G IP k).2 lo) lo fn st = some r := by
  simp only [evalF] at e ⊢
  split at e
  · exact evalC_cont e
  · split at e
    · rename_i ho
      obtain ⟨k1, h1⟩ := evalC_cont ho
      split at e
      · rename_i hc
        obtain ⟨k2, h2⟩ := evalFin_cont e
        have m1 := run_mono (G := G) (IP := IP) (Nat.le_max_left k1 k2)
        have m2 := run_mono (G := G) (IP := IP) (Nat.le_max_right k1 k2)
        exact ⟨max k1 k2, by rw [evalC_mono m1.1 (m1.2 lo) h1]; simp only; rw [if_pos hc]; exact evalFin_mono m2.1 (m2.2 lo) h2⟩
      · cases e
    · rename_i hne
      obtain ⟨k, hk⟩ := evalC_cont e
      refine ⟨k, ?_⟩
      rw [hk]
      split
      · rename_i s1 hh; cases hh; exact absurd e (by simpa using hne s1)
      · rfl
theorem callBody_mono {c d : CallF} {l m : Nat → LoopF} (h : CallLe c d) (hl : ∀ lo, LoopLe (l lo) (m lo)) : CallLe (callBody G IP c l) (callBody G IP d m) := by
  intro f vs hp lo q r e
  simp only [callBody] at e ⊢
  split at e
  · cases e
  · rename_i fn hfn
    split at e
    · cases e
    · rename_i hc
      rw [if_neg hc]
      split at e
      · rename_i ho; rw [evalF_mono h (hl _) ho]; exact e
      · rename_i ho; rw [evalF_mono h (hl _) ho]; exact e
      · rename_i ho; rw [evalF_mono h (hl _) ho]; exact e
      · cases e
theorem loopBody_mono {c d : CallF} {l m : Nat → LoopF} (h : CallLe c d) (hl : ∀ lo, LoopLe (l lo) (m lo)) (lo : Nat) : LoopLe (loopBody G c l lo) (loopBody G d m lo) := by
  intro b st r e
  simp only [loopBody] at e ⊢
  split at e
  · rename_i ho; rw [evalC_mono h (hl _) ho]; exact hl _ _ _ _ e
  · rename_i hne
    rw [evalC_mono h (hl _) e]
    split
    · rename_i s1 hh; cases hh; exact absurd e (by simpa using hne s1)
    · rfl
theorem opt_ext {α : Type} {a b : Option α} (h1 : ∀ r, a = some r → b = some r) (h2 : ∀ r, b = some r → a = some r) : a = b := by
  cases a with
  | none => cases b with
    | none => rfl
    | some r => exact h2 r rfl
  | some r => exact (h1 r rfl).symm
/-- A call is its body's round, its callees and loops by their answers in the end. -/
theorem callD_eq (f : Nat) (vs : List AV) (hp : List HObj) (lo : Nat) (q : Bool) : callD G IP f vs hp lo q = callBody G IP (callD G IP) (loopD G IP) f vs hp lo q := by
  apply opt_ext
  · intro r h
    obtain ⟨k, hk⟩ := callD_iff.1 h
    cases k with
    | zero => simp [run] at hk
    | succ k => exact callBody_mono (run_callD k) (run_loopD k) _ _ _ _ _ _ hk
  · intro r e
    suffices ∃ k, callBody G IP (run G IP k).1 (run G IP k).2 f vs hp lo q = some r by
      obtain ⟨k, hk⟩ := this; exact callD_iff.2 ⟨k + 1, hk⟩
    simp only [callBody] at e ⊢
    split at e
    · cases e
    · rename_i fn hfn
      split at e
      · cases e
      · rename_i hc
        simp only [if_neg hc]
        split at e
        · rename_i ho; obtain ⟨k, hk⟩ := evalF_cont ho; exact ⟨k, by rw [hk]; exact e⟩
        · rename_i ho; obtain ⟨k, hk⟩ := evalF_cont ho; exact ⟨k, by rw [hk]; exact e⟩
        · rename_i ho; obtain ⟨k, hk⟩ := evalF_cont ho; exact ⟨k, by rw [hk]; exact e⟩
        · cases e
theorem loopD_eq (lo : Nat) (b : ICode) (st : St) : loopD G IP lo b st = loopBody G (callD G IP) (loopD G IP) lo b st := by
  apply opt_ext
  · intro r h
    obtain ⟨k, hk⟩ := loopD_iff.1 h
    cases k with
    | zero => simp [run] at hk
    | succ k => exact loopBody_mono (run_callD k) (run_loopD k) _ _ _ _ hk
  · intro r e
    suffices ∃ k, loopBody G (run G IP k).1 (run G IP k).2 lo b st = some r by
      obtain ⟨k, hk⟩ := this; exact loopD_iff.2 ⟨k + 1, hk⟩
    simp only [loopBody] at e ⊢
    split at e
    · rename_i ho
      obtain ⟨k1, h1⟩ := evalC_cont ho
      obtain ⟨k2, h2⟩ := loopD_iff.1 e
      refine ⟨max k1 k2, ?_⟩
      have m1 := run_mono (G := G) (IP := IP) (Nat.le_max_left k1 k2)
      have m2 := run_mono (G := G) (IP := IP) (Nat.le_max_right k1 k2)
      rw [evalC_mono m1.1 (m1.2 lo) h1]
      exact m2.2 lo _ _ _ h2
    · rename_i hne
      obtain ⟨k, hk⟩ := evalC_cont e
      refine ⟨k, ?_⟩
      rw [hk]
      split
      · rename_i s1 hh; cases hh; exact absurd e (by simpa using hne s1)
      · rfl
end
end Go.Proofs.YtkofimhnehkdoaaGreatDoor.Rf
end
section
/- From an answer in the end to a law's statement. -/
set_option linter.unusedSimpArgs false
set_option linter.unusedVariables false
namespace Go.Proofs.YtkofimhnehkdoaaGreatDoor.Rf
section
variable {H : Type} {enc : TypeId × Value → H} {P : Program} {W : World} {base : Nat}
theorem law_endD (hm : P.follows .mixedOrders = true) {IP : IProg} (hIP : ∀ f fn, IP f = some fn → chkFun P f fn = true) (hlaid : laidOutB P = true) {S : List TypeId} (hS : covS P S = true) {f : FuncId} {fn : Func}
    (hp : fn.params.toList.all (fun t => S.contains t && P.readableRec t && Nat.blt t P.types.size) = true) {s : ChangeSpec} (hvars : s.vars = []) {tb : TypeId} (hres : fn.resultTypes = #[tb]) (hb : P.underlying tb = some .bool)
    (hspec : ∀ ds : List (DataW H), ds.length = fn.params.size → s.fn H (ds ++ []) = ⟨[.lit (.bool true)], ds, []⟩) {args : Array Value} {ds gs : List (DataW H)} {before : List MemPlace}
    (hval : ∀ (j : Nat) t v, fn.params[j]? = some t → args[j]? = some v → Value.okWide P W .any base t v) (hW : DataW.Whole enc P fn.params.toList s.vars false W args.toList ds gs before)
    (hrun : ∀ avs, ArgsTy P fn.params.toList avs ds → ∃ q hp, callD noG IP f avs [] 0 q = some (.ret (.bool true) hp)) :
    Calls P f args W fun e W' => ∃ v, e = .returned v ∧ s.post enc P fn false true false false W args v W' :=
  law_end hm hIP hlaid hS hp hvars hres hb hspec hval hW fun avs ha => by
    obtain ⟨q, hp, h⟩ := hrun avs ha
    obtain ⟨k, hk⟩ := callD_iff.1 h
    exact ⟨k, q, hp, hk⟩
end
end Go.Proofs.YtkofimhnehkdoaaGreatDoor.Rf
end
section
/- From an answer in the end to a law's statement, where the row lists package-level variables; how long the arguments are. -/
set_option linter.unusedSimpArgs false
set_option linter.unusedVariables false
namespace Go.Proofs.YtkofimhnehkdoaaGreatDoor.Rf

/-! ## what a known datum reads as -/
mutual
def datAV {H : Type} : DataW H → Option (List AV)
  | .lit (.int k n) => some [.int k n]
  | .lit (.string s) => some [.str s]
  | .lit (.bool b) => some [.bool b]
  | .agg ds => datAVs ds
  | _ => none
def datAVs {H : Type} : List (DataW H) → Option (List AV)
  | [] => some []
  | d :: r => match datAV d, datAVs r with | some a, some b => some (a ++ b) | _, _ => none
end
section
variable {H : Type} {P : Program}
theorem HasTy.dat : ∀ {n : Nat} {t : TypeId} {cs : List AV} {d : DataW H}, HasTy P n t cs d → ∀ {as : List AV}, datAV d = some as → cs = as := by
  intro n
  induction n with
  | zero => intro t cs d h; exact h.elim
  | succ n ih =>
    intro t cs d h as hd
    have flat : ∀ {parts : List (List AV)} {els : List (DataW H)} {as : List AV}, els.length = parts.length → (∀ (i : Nat) ds d', parts[i]? = some ds → els[i]? = some d' → ∃ e, HasTy P n e ds d') → datAVs els = some as → parts.flatten = as := by
      intro parts
      induction parts with
      | nil => intro els as hl _ hd; cases els with
        | nil => simp [datAVs] at hd; subst hd; rfl
        | cons d r => simp at hl
      | cons ds parts ihp =>
        intro els as hl hh hd
        cases els with
        | nil => simp at hl
        | cons d r =>
          simp only [datAVs] at hd
          split at hd
          · rename_i a b ha hb
            cases hd
            obtain ⟨e, he⟩ := hh 0 _ _ rfl rfl
            rw [List.flatten_cons, ih he ha, ihp (by simpa using hl) (fun i ds d' x y => hh (i + 1) ds d' (by simpa using x) (by simpa using y)) hb]
          · cases hd
    simp only [HasTy] at h
    cases hu : P.underlying t with
    | none => simp [hu] at h
    | some de =>
      rw [hu] at h
      cases de <;> simp only [] at h <;> try (exact h.elim)
      case bool => obtain ⟨b, rfl, rfl⟩ := h; simp [datAV] at hd; exact hd
      case int k => obtain ⟨m, rfl, _, rfl⟩ := h; simp [datAV] at hd; exact hd
      case string => obtain ⟨s, rfl, _, rfl⟩ := h; simp [datAV] at hd; exact hd
      case slice e =>
        rcases h with ⟨rfl, rfl⟩ | ⟨xs, els, rest, _, rfl, _⟩ <;> simp [datAV] at hd
      case struct fs =>
        obtain ⟨parts, els, rfl, rfl, h1, h2, h3⟩ := h
        simp only [datAV] at hd
        refine flat (by omega) (fun i ds d' a b => ?_) hd
        have hi : i < fs.size := by have := (List.getElem?_eq_some_iff.1 a).1; omega
        exact ⟨_, h3 i fs[i] ds d' (Array.getElem?_eq_getElem hi) a b⟩
      case array m e =>
        obtain ⟨parts, els, rfl, rfl, h1, h2, h3⟩ := h
        simp only [datAV] at hd
        exact flat (by omega) (fun i ds d' a b => ⟨e, h3 i ds d' a b⟩) hd
end

/-! ## the listed variables -/
section
variable {H : Type} {enc : TypeId × Value → H} {P : Program} {W : World}
/-- One listed variable stands as its plain cells say. -/
def GlobAt (P : Program) (W : World) (b : Nat) (cs : List AV) : Prop := ∃ (vs : List Value) (ty : TypeId), W.heap[b]? = some (.cells vs.toArray ty (0, 0)) ∧ VS (gh0 W) W cs vs ∧ Ones vs
theorem laid_mem {laid : List (String × DataW Unit)} : ∀ {l : List (String × DataW Unit)} {ps qs : List MemPlace}, DataW.LaidVars P W l ps → (∀ x, x ∈ ps → x ∈ qs) → ∀ {n : String} {d : DataW Unit}, (n, d) ∈ l →
    ∃ g t cs fuel p, P.globalNamed n = some g ∧ (P.globals[g]?).map (·.type) = some t ∧ W.var? P n = some cs ∧ DataW.trod (fun _ => ()) P W 0 (fun _ => true) false fuel t cs.toList = some (d, p) ∧ ∀ x, x ∈ MemPlace.row ⟨g, 0, none⟩ cs.size → x ∈ qs
  | [], ps, qs, _, _, n, d, h => by simp at h
  | (m, e) :: r, ps, qs, ⟨g, t, cs, fuel, p, q, h1, h2, h3, h4, h5, h6⟩, hq, n, d, hm => by
    rcases List.mem_cons.1 hm with e1 | hm
    · cases e1
      exact ⟨g, t, cs, fuel, p, h1, h2, h3, h4, fun x hx => hq x (by rw [h6]; simp [hx])⟩
    · exact laid_mem (laid := laid) h5 (fun x hx => hq x (by rw [h6]; simp [hx])) hm
theorem glob_dat {S : List TypeId} (hS : covS P S = true) {laid : List (String × DataW Unit)} (h : laidMet P laid W) {n : String} {d : DataW Unit} (hm : (n, d) ∈ laid) {g : Nat} (hg : P.globalNamed n = some g) {t : TypeId} (ht : (P.globals[g]?).map (·.type) = some t) (hc : t ∈ S)
    {as : List AV} (hd : datAV d = some as) (h0 : as ≠ []) : GlobAt P W g as := by
  obtain ⟨ps, hl, _, hrows⟩ := h
  obtain ⟨g1, t1, cs, fuel, p, h1, h2, h3, h4, h5⟩ := laid_mem (laid := laid) hl (fun _ h => h) hm
  obtain rfl := Option.some.inj (hg.symm.trans h1)
  obtain rfl := Option.some.inj (ht.symm.trans h2)
  obtain ⟨avs, v1, v2, v3, _⟩ := trod_V (g := gh0 W) hS (fun b o h => gh0_imm h) fuel t _ _ hc h4
  have hav := v3.dat hd
  subst hav
  have hsz : 0 < cs.size := by
    have := v1.len
    cases avs with
    | nil => exact absurd rfl h0
    | cons a r => simp at this; omega
  have hcell : MemPlace.cell g 0 ∈ ps := h5 _ (by
    unfold MemPlace.row
    simp only [List.mem_map, List.mem_range]
    exact ⟨0, hsz, by simp [MemPlace.cell, Addr.add]⟩)
  obtain ⟨⟨c, ty, hh⟩, _⟩ := hrows g 0 hcell
  unfold World.var? at h3
  rw [hg] at h3
  simp only [Option.bind_some, hh] at h3
  cases h3
  exact ⟨cs.toList, ty, by simpa using hh, v1, v2⟩
/-- A listed error: an interface that holds something of one type. -/
theorem glob_err {laid : List (String × DataW Unit)} (h : laidMet P laid W) {n nm : String} {text : List UInt8} {r : List (String × DataW Unit)} (hl : ∃ pre, laid = pre ++ (n, .iface nm (.ptr (.agg [.lit (.string text)]))) :: r)
    {g : Nat} {ti tp te ts : TypeId} {ms : Array (String × TypeId)} {f : Field} (hg : P.globalNamed n = some g) (ht : (P.globals[g]?).map (·.type) = some ti) (hi : P.underlying ti = some (.interface ms)) (hrow : ∀ u, P.typeName? 3 u = some nm → u = tp)
    (hp : P.underlying tp = some (.pointer te)) (he : P.underlying te = some (.struct #[f])) (hft : f.type = ts) (hfo : f.offset = 0) (hs : P.underlying ts = some .string) (hc : P.cellsOf te = 1) (hcs : P.cellsOf ts = 1) : GlobAt P W g [.iface tp .none] := by
  obtain ⟨pre, rfl⟩ := hl
  have h' : laidMet P ((n, .iface nm (.ptr (.agg [.lit (.string text)]))) :: r) W := by
    induction pre with
    | nil => exact h
    | cons x pre ih => exact ih h.tail
  obtain ⟨a, s, e1, _⟩ := laid_sentinel h' hg ht hi hrow hp he hft hfo hs hc hcs
  obtain ⟨ps, hl, _, hrows⟩ := h'
  obtain ⟨g1, t1, cs, fuel, p, h1, h2, h3, h4, h5⟩ := laid_mem (laid := []) hl (fun _ h => h) (List.mem_cons_self ..)
  obtain rfl := Option.some.inj (hg.symm.trans h1)
  rw [e1] at h3; cases h3
  have hcell : MemPlace.cell g 0 ∈ ps := h5 _ (by
    unfold MemPlace.row
    simp only [List.mem_map, List.mem_range]
    exact ⟨0, by simp, by simp [MemPlace.cell, Addr.add]⟩)
  obtain ⟨⟨c, ty, hh⟩, _⟩ := hrows g 0 hcell
  unfold World.var? at e1
  rw [hg] at e1
  simp only [Option.bind_some, hh] at e1
  cases e1
  exact ⟨_, ty, hh, by simp only [VS, V]; exact ⟨_, [], rfl, ⟨_, rfl, trivial⟩, rfl⟩, by intro u hu; simp at hu; subst hu; rfl⟩
end
/-! ## how long the arguments' strings are -/
mutual
def AV.lim : AV → Prop
  | .str s => s.length ≤ 140737488351232
  | .agg cs => AV.lims cs
  | .list xs _ => AV.lims xs
  | _ => True
def AV.lims : List AV → Prop
  | [] => True
  | v :: r => v.lim ∧ AV.lims r
end
theorem AV.lims_iff : ∀ l : List AV, AV.lims l ↔ ∀ v, v ∈ l → v.lim
  | [] => by simp [AV.lims]
  | v :: r => by simp [AV.lims, AV.lims_iff r]
theorem AV.lims_flatten {parts : List (List AV)} (h : ∀ p, p ∈ parts → AV.lims p) : AV.lims parts.flatten := by
  rw [AV.lims_iff]
  intro v hv
  obtain ⟨p, hp, hv⟩ := List.mem_flatten.1 hv
  exact (AV.lims_iff p).1 (h p hp) v hv
section
variable {H : Type} {P : Program}
theorem elemAV_lim {e : TypeId} {ds : List AV} (h : AV.lims ds) : (elemAV P e ds).lim := by
  unfold elemAV
  split
  · exact h
  · cases ds with
    | nil => trivial
    | cons a r => exact h.1
theorem weightsAll_mem {e : TypeId} : ∀ {els : List (DataW H)} {i : Nat} {d : DataW H}, els[i]? = some d → ∀ n, n ∈ d.weights P e → n ∈ DataW.weightsAll P e els
  | [], i, d, h => by simp at h
  | x :: r, 0, d, h => by simp at h; subst h; intro n hn; simp [DataW.weightsAll, hn]
  | x :: r, i + 1, d, h => by
    intro n hn
    simp only [DataW.weightsAll, List.mem_append]
    exact .inr (weightsAll_mem (by simpa using h) n hn)
theorem HasTy.lim : ∀ {n : Nat} {t : TypeId} {cs : List AV} {d : DataW H}, HasTy P n t cs d → (∀ m, m ∈ d.weights P t → m ≤ reachBytes) → AV.lims cs := by
  intro n
  induction n with
  | zero => intro t cs d h; exact h.elim
  | succ n ih =>
    intro t cs d h hz
    simp only [HasTy] at h
    cases hu : P.underlying t with
    | none => simp [hu] at h
    | some de =>
      rw [hu] at h
      cases de <;> simp only [] at h <;> try (exact h.elim)
      case bool => obtain ⟨b, rfl, rfl⟩ := h; simp [AV.lims, AV.lim]
      case int k => obtain ⟨m, rfl, _, rfl⟩ := h; simp [AV.lims, AV.lim]
      case string =>
        obtain ⟨s, rfl, _, rfl⟩ := h
        simp only [AV.lims, AV.lim, and_true]
        have := hz s.length (by simp [DataW.weights])
        simpa [reachBytes] using this
      case slice e =>
        rcases h with ⟨rfl, rfl⟩ | ⟨xs, els, rest, rfl, rfl, hl, _, hx⟩
        · simp [AV.lims, AV.lim]
        · simp only [AV.lims, AV.lim, and_true]
          rw [AV.lims_iff]
          intro v hv
          obtain ⟨i, hi⟩ := List.mem_iff_getElem?.1 hv
          have hil := (List.getElem?_eq_some_iff.1 hi).1
          have he : els[i]? = some els[i] := List.getElem?_eq_getElem (by omega)
          obtain ⟨ds, rfl, hds⟩ := hx i v _ hi he
          exact elemAV_lim (ih hds fun m hm => hz m (by
            simp only [DataW.weights, hu, List.mem_cons, List.mem_append]
            exact .inr (.inl (weightsAll_mem he m hm))))
      case struct fs =>
        obtain ⟨parts, els, rfl, rfl, h1, h2, h3⟩ := h
        refine AV.lims_flatten fun p hp => ?_
        obtain ⟨i, hi⟩ := List.mem_iff_getElem?.1 hp
        have hil := (List.getElem?_eq_some_iff.1 hi).1
        have he : els[i]? = some els[i] := List.getElem?_eq_getElem (by omega)
        have hf : fs[i]? = some fs[i] := Array.getElem?_eq_getElem (by omega)
        exact ih (h3 i _ _ _ hf hi he) fun m hm => hz m (by
          simp only [DataW.weights, hu]
          exact DataW.weights_mem_each (j := i) (by simp [hf]) he m hm)
      case array m e =>
        obtain ⟨parts, els, rfl, rfl, h1, h2, h3⟩ := h
        refine AV.lims_flatten fun p hp => ?_
        obtain ⟨i, hi⟩ := List.mem_iff_getElem?.1 hp
        have hil := (List.getElem?_eq_some_iff.1 hi).1
        have he : els[i]? = some els[i] := List.getElem?_eq_getElem (by omega)
        exact ih (h3 i _ _ hi he) fun m hm => hz m (by
          simp only [DataW.weights, hu]
          exact weightsAll_mem he m hm)
theorem ArgsTy.lims : ∀ {ts : List TypeId} {vs : List AV} {ds : List (DataW H)}, ArgsTy P ts vs ds → (∀ (j : Nat) t d, ts[j]? = some t → ds[j]? = some d → ∀ m, m ∈ d.weights P t → m ≤ reachBytes) → AV.lims vs
  | _, _, _, .nil, _ => trivial
  | _, _, _, .cons h k, hz => by
    obtain ⟨n, cs, rfl, h⟩ := h
    exact ⟨elemAV_lim (h.lim (hz 0 _ _ rfl rfl)), k.lims fun j t d a b => hz (j + 1) t d (by simpa using a) (by simpa using b)⟩
end

/-! ## the end -/
section
variable {H : Type} {enc : TypeId × Value → H} {P : Program} {W : World} {base : Nat}
theorem calls_of_runG {G : Nat → Option (List AV)} (hG : ∀ b cs, G b = some cs → GlobAt P W b cs) (hm : P.follows .mixedOrders = true) {IP : IProg} (hIP : ∀ f fn, IP f = some fn → chkFun P f fn = true) {f : FuncId} {avs : List AV} {us : List Value} (hv : VS (gh0 W) W avs us) (hno : avs.all noOwn = true)
    {k : Nat} {q : Bool} {hp : List HObj} (hr : (run G IP k).1 f avs [] 0 q = some (.ret (.bool true) hp)) :
    Calls P f us.toArray W fun e W' => e = .returned (.bool true) ∧ RowKit.Below W.heap.size W W' := by
  obtain ⟨hc, _⟩ := run_sound (G := G) hm hIP k
  have hpl : plains avs = true := by
    simp only [plains, List.all_eq_true] at hno ⊢
    intro x hx
    have := hno x hx
    cases x <;> simp_all [noOwn, AV.plain]
  have hrel : Rel G (gh0 W) ⟨[], []⟩ (avs.zip us) #[] W := by
    refine ⟨fun s => by simp [Fr.get, VF, VX, V, Owns], fun j v cv hj => ?_, ⟨rfl, fun id o h => by simp at h⟩, fun b o hb => by simp only [gh0]; rw [if_neg (by omega)], fun b cs h => ?_⟩
    · obtain ⟨h1, h2⟩ := zip_get hj
      have hvv := hv.get' h1 h2
      have hn : noOwn v = true := by simp only [List.all_eq_true] at hno; exact hno v (List.mem_of_getElem? h1)
      have hp' : v.plain = true := by simp only [plains, List.all_eq_true] at hpl; exact hpl v (List.mem_of_getElem? h1)
      rw [VF_loose (AV.loose_of_plain hp'), VX_plain hp']
      refine ⟨hvv, Owns.not_own (fun xs sz e0 e => ?_) fun vs e => ?_⟩
      · rw [e] at hn; simp [noOwn] at hn
      · rw [e] at hn; simp [noOwn] at hn
    · obtain ⟨vs, ty, h1, h2, h3⟩ := hG b cs h
      exact ⟨vs, ty, h1, ⟨h2, h3⟩, fun o => gh0_imm (Array.getElem?_eq_some_iff.1 h1).1⟩
  obtain ⟨_, hcall⟩ := hc f avs [] 0 q _ (gh0 W) W us hr hv.len hpl hrel
  refine Calls.mono hcall fun e W' h => ?_
  cases e with
  | returned cv =>
    obtain ⟨g', v, hp', e1, k1, s1⟩ := h
    cases e1
    have f1 := k1.ps 0 _ _ rfl
    rw [VF_loose rfl] at f1
    simp only [VX, V] at f1
    refine ⟨by rw [f1.1], s1.os, s1.tape, s1.output, s1.size, fun b hb => s1.blk b hb fun o => ?_⟩
    rw [gh0_imm hb]; exact ⟨trivial, by simp⟩
  | panicked chain =>
    obtain ⟨g', v, hp', cv, e1, _⟩ := h
    cases e1
  | outgrown => exact h.elim
theorem law_endG {G : Nat → Option (List AV)} (hG : ∀ b cs, G b = some cs → GlobAt P W b cs) (hm : P.follows .mixedOrders = true) {IP : IProg} (hIP : ∀ f fn, IP f = some fn → chkFun P f fn = true) (hlaid : laidOutB P = true) {S : List TypeId} (hS : covS P S = true) {f : FuncId} {fn : Func}
    (hp : fn.params.toList.all (fun t => S.contains t && P.readableRec t && Nat.blt t P.types.size) = true) {s : ChangeSpec} (hvars : s.vars = []) {tb : TypeId} (hres : fn.resultTypes = #[tb]) (hb : P.underlying tb = some .bool)
    (hspec : ∀ ds : List (DataW H), ds.length = fn.params.size → s.fn H (ds ++ []) = ⟨[.lit (.bool true)], ds, []⟩) {args : Array Value} {ds gs : List (DataW H)} {before : List MemPlace}
    (hval : ∀ (j : Nat) t v, fn.params[j]? = some t → args[j]? = some v → Value.okWide P W .any base t v) (hW : DataW.Whole enc P fn.params.toList s.vars false W args.toList ds gs before)
    (hz : (DataW.weightsEach P (fn.params.toList ++ s.plain.varTypes P) (ds ++ gs)).all (· ≤ reachBytes) = true)
    (hrun : ∀ avs, ArgsTy P fn.params.toList avs ds → AV.lims avs → ∃ q hp, callD G IP f avs [] 0 q = some (.ret (.bool true) hp)) :
    Calls P f args W fun e W' => ∃ v, e = .returned v ∧ s.post enc P fn false true false false W args v W' := by
  have hW0 := hW
  obtain ⟨p, q, hA, hV, rfl, hfz, hnd⟩ := hW
  have hgs : gs = [] ∧ q = [] := by
    rw [hvars] at hV
    cases gs with
    | nil => exact ⟨rfl, hV⟩
    | cons g gs => exact hV.elim
  obtain ⟨rfl, rfl⟩ := hgs
  simp only [List.all_eq_true, Bool.and_eq_true] at hp
  obtain ⟨avs, a1, a2, a3⟩ := args_V hS (fun t ht => by have := (hp t ht).1.1; simpa using this) (fun j t v h1 h2 => hval j t v (by simpa using h1) (by simpa using h2)) hA
  have hlen := trodAll_len hA
  have hlim : AV.lims avs := a3.lims fun j t d h1 h2 m hm => by
    have := List.all_eq_true.1 hz m (DataW.weights_mem_each (j := j) (by rw [List.getElem?_append, if_pos (List.getElem?_eq_some_iff.1 h1).1]; exact h1) (by simpa using h2) m hm)
    simpa using this
  obtain ⟨q, hp', hr⟩ := hrun avs a3 hlim
  obtain ⟨k, hr⟩ := callD_iff.1 hr
  have hsp := hspec ds (by simpa using hlen.1)
  have hcall := calls_of_runG hG hm hIP a1 a2 hr
  rw [show args.toList.toArray = args by simp] at hcall
  refine Calls.mono hcall fun e W' ⟨he, bel⟩ => ⟨_, he, ds, [], p ++ [], [], p, [], hW0, ?_, ?_, ?_, bel.frame _, fun h => by cases h⟩
  · rw [hsp, hres]; exact ChangeShapes.trodAll_mk1 (open Go.ChangeShapes Go.WideShapes Go.ChangeAt Go.RowKit in shut_bool hb _)
  · rw [hsp]
    exact args_back hlaid bel (fun t ht => by
      have := hp t ht
      exact ⟨this.1.2, by simpa using this.2⟩) hA
  · rw [hsp, hvars]; rfl
end
end Go.Proofs.YtkofimhnehkdoaaGreatDoor.Rf
end
section
/- The walk: how the plain machine is stepped by simp; loops by their states. -/
set_option linter.unusedSimpArgs false
set_option linter.unusedVariables false
namespace Go.Proofs.YtkofimhnehkdoaaGreatDoor.Rf

attribute [simp] frzs frz1 callBody evalF evalRecv evalFin evalFin1 toHeap ptrsFrom setPtrs AV.husk Fr.husk evalC evalDraw evalOps evalOp opd opds wanted St.put ret1 Fr.get Fr.set Fr.keep Fr.keepOk AV.loose evalRess evalRes1 AV.plain plains tupOf AV.closed AV.closedL enter memOk behind behindPut cut put ofCells binAV intBin strBin shiftBin eqAV unAV bound AV.spread AV.cells buildCells fillElems keyEq

@[simp] theorem Own.cp_nil : Own.cp .nil = .nil := rfl
@[simp] theorem Own.cp_no : Own.cp .no = .no := rfl
@[simp] theorem Own.cp_own0 (n : Nat) : Own.cp (.own n 0) = .no := rfl
@[simp] theorem Own.cp_ownS (n e : Nat) : Own.cp (.own n (e + 1)) = .view (e + 1) := by simp [Own.cp, Own.vw]
theorem Own.cp_own {n e : Nat} (h : e ≠ 0) : Own.cp (.own n e) = .view e := by simp [Own.cp, Own.vw, h]
theorem Own.cp_view {e : Nat} (h : e ≠ 0) : Own.cp (.view e) = .view e := by simp [Own.cp, Own.vw, h]
@[simp] theorem Own.cp_cp (o : Own) : o.cp.cp = o.cp := by
  cases o with
  | no => rfl
  | nil => rfl
  | own n e => by_cases h : e = 0 <;> simp [Own.cp, Own.vw, h]
  | view e => by_cases h : e = 0 <;> simp [Own.cp, Own.vw, h]
section
variable (k : IntKind) (n : Int) (b : Bool) (s : List UInt8) (xs cs : List AV) (o : Own) (i j : Nat) (v : AV)
@[simp] theorem cp1_none : AV.cp1 .none = .none := rfl
@[simp] theorem cp1_bool : AV.cp1 (.bool b) = .bool b := rfl
@[simp] theorem cp1_int' : AV.cp1 (.int k n) = .int k n := rfl
@[simp] theorem cp1_str : AV.cp1 (.str s) = .str s := rfl
@[simp] theorem cp1_agg : AV.cp1 (.agg cs) = .agg cs := rfl
@[simp] theorem cp1_list : AV.cp1 (.list xs o) = .list xs o.cp := by cases o <;> rfl
@[simp] theorem cp1_ptr : AV.cp1 (.ptr i j) = .ptr i j := rfl
@[simp] theorem cp1_nilp : AV.cp1 .nilp = .nilp := rfl
@[simp] theorem cp1_sref (a b c d : Nat) : AV.cp1 (.sref a b c d) = .sref a b c d := rfl
@[simp] theorem cpA_sref (a b c d : Nat) : AV.cpA (.sref a b c d) = .sref a b c d := rfl
@[simp] theorem cp_sref (a b c d : Nat) : AV.cp (.sref a b c d) = .sref a b c d := rfl
@[simp] theorem cp1_lref : AV.cp1 (.lref i j) = .lref i j := rfl
@[simp] theorem cp1_box : AV.cp1 (.box cs) = .box cs := rfl
@[simp] theorem cp1_eref : AV.cp1 (.eref v i) = .eref v i := rfl
@[simp] theorem cp1_lastr : AV.cp1 (.lastr i) = .lastr i := rfl
@[simp] theorem cp1_map : AV.cp1 (.map i) = .map i := rfl
@[simp] theorem cp1_nilm : AV.cp1 .nilm = .nilm := rfl
@[simp] theorem cp1_func : AV.cp1 (.func i cs) = .func i cs := rfl
@[simp] theorem cp1_nilf : AV.cp1 .nilf = .nilf := rfl
@[simp] theorem cp1_iface : AV.cp1 (.iface i v) = .iface i v := rfl
@[simp] theorem cp1_nili : AV.cp1 .nili = .nili := rfl
@[simp] theorem cp1_glob : AV.cp1 (.glob i j) = .glob i j := rfl
@[simp] theorem cp1_tup : AV.cp1 (.tup cs) = .tup cs := rfl
@[simp] theorem cpA_none : AV.cpA .none = .none := rfl
@[simp] theorem cpA_bool : AV.cpA (.bool b) = .bool b := rfl
@[simp] theorem cpA_int' : AV.cpA (.int k n) = .int k n := rfl
@[simp] theorem cpA_str : AV.cpA (.str s) = .str s := rfl
@[simp] theorem cpA_agg : AV.cpA (.agg cs) = .agg (cs.map AV.cp1) := rfl
@[simp] theorem cpA_list : AV.cpA (.list xs o) = .list xs o.cp := by cases o <;> rfl
@[simp] theorem cpA_ptr : AV.cpA (.ptr i j) = .ptr i j := rfl
@[simp] theorem cpA_nilp : AV.cpA .nilp = .nilp := rfl
@[simp] theorem cpA_map : AV.cpA (.map i) = .map i := rfl
@[simp] theorem cpA_nilm : AV.cpA .nilm = .nilm := rfl
@[simp] theorem cpA_func : AV.cpA (.func i cs) = .func i cs := rfl
@[simp] theorem cpA_nilf : AV.cpA .nilf = .nilf := rfl
@[simp] theorem cpA_iface : AV.cpA (.iface i v) = .iface i v := rfl
@[simp] theorem cpA_nili : AV.cpA .nili = .nili := rfl
@[simp] theorem cpA_glob : AV.cpA (.glob i j) = .glob i j := rfl
@[simp] theorem cp_none : AV.cp .none = .none := rfl
@[simp] theorem cp_bool : AV.cp (.bool b) = .bool b := rfl
@[simp] theorem cp_int' : AV.cp (.int k n) = .int k n := rfl
@[simp] theorem cp_str : AV.cp (.str s) = .str s := rfl
@[simp] theorem cp_agg : AV.cp (.agg cs) = .agg (cs.map AV.cp1) := rfl
@[simp] theorem cp_list : AV.cp (.list xs o) = .list xs o.cp := by cases o <;> rfl
@[simp] theorem cp_ptr : AV.cp (.ptr i j) = .ptr i j := rfl
@[simp] theorem cp_nilp : AV.cp .nilp = .nilp := rfl
@[simp] theorem cp_lref : AV.cp (.lref i j) = .lref i j := rfl
@[simp] theorem cp_box : AV.cp (.box cs) = .box cs := rfl
@[simp] theorem cp_eref : AV.cp (.eref v i) = .eref v i := rfl
@[simp] theorem cp_lastr : AV.cp (.lastr i) = .lastr i := rfl
@[simp] theorem cp_map : AV.cp (.map i) = .map i := rfl
@[simp] theorem cp_nilm : AV.cp .nilm = .nilm := rfl
@[simp] theorem cp_func : AV.cp (.func i cs) = .func i cs := rfl
@[simp] theorem cp_nilf : AV.cp .nilf = .nilf := rfl
@[simp] theorem cp_iface : AV.cp (.iface i v) = .iface i v := rfl
@[simp] theorem cp_nili : AV.cp .nili = .nili := rfl
@[simp] theorem cp_glob : AV.cp (.glob i j) = .glob i j := rfl
@[simp] theorem cp_tup : AV.cp (.tup cs) = .tup (cs.map AV.cpA) := rfl
end
section
variable {G : Nat → Option (List AV)} {IP : IProg}
/-- A loop by the states at its rounds' heads. -/
theorem loop_iter {lo : Nat} {b : ICode} (S : Nat → St) (n : Nat) {r : Ex × St} (hstep : ∀ i, i < n → evalC G (callD G IP) (loopD G IP lo) lo b (S i) = some (.normal, S (i + 1)))
    (hend : evalC G (callD G IP) (loopD G IP lo) lo b (S n) = some r) (hr : ∀ s, r ≠ (.normal, s)) : loopD G IP lo b (S 0) = some r := by
  have h : ∀ k, k ≤ n → loopD G IP lo b (S (n - k)) = some r := by
    intro k
    induction k with
    | zero =>
      intro _
      rw [loopD_eq, loopBody, Nat.sub_zero, hend]
      split
      · rename_i s hh; cases hh; exact absurd rfl (hr s)
      · rfl
    | succ k ih =>
      intro hk
      have h1 := hstep (n - (k + 1)) (by omega)
      rw [show n - (k + 1) + 1 = n - k by omega] at h1
      rw [loopD_eq, loopBody, h1]
      exact ih (by omega)
  have := h n (Nat.le_refl n)
  rwa [Nat.sub_self] at this
/-- A loop that is left at some index of a kind, or at its end. -/
theorem loop_some {lo : Nat} {b : ICode} (S : Nat → St) (n : Nat) (p : Nat → Bool) (Y : Nat → Ex × St) (r : Ex × St)
    (hstep : ∀ i, i < n → p i = false → evalC G (callD G IP) (loopD G IP lo) lo b (S i) = some (.normal, S (i + 1)))
    (hyes : ∀ i, i < n → p i = true → evalC G (callD G IP) (loopD G IP lo) lo b (S i) = some (Y i)) (hY : ∀ i s, Y i ≠ (.normal, s))
    (hend : evalC G (callD G IP) (loopD G IP lo) lo b (S n) = some r) (hr : ∀ s, r ≠ (.normal, s)) :
    (∃ m, m < n ∧ p m = true ∧ (∀ j, j < m → p j = false) ∧ loopD G IP lo b (S 0) = some (Y m)) ∨ ((∀ i, i < n → p i = false) ∧ loopD G IP lo b (S 0) = some r) := by
  by_cases hc : ∃ i, i < n ∧ p i = true
  · have : ∃ m, (m < n ∧ p m = true) ∧ ∀ j, j < m → p j = false := by
      obtain ⟨i, hi⟩ := hc
      induction i using Nat.strongRecOn with
      | _ i ih =>
        by_cases hj : ∃ j, j < i ∧ p j = true
        · obtain ⟨j, h1, h2⟩ := hj; exact ih j h1 ⟨by omega, h2⟩
        · refine ⟨i, hi, fun j h1 => ?_⟩
          cases h2 : p j with
          | false => rfl
          | true => exact absurd ⟨j, h1, h2⟩ hj
    obtain ⟨m, ⟨h1, h2⟩, h3⟩ := this
    exact .inl ⟨m, h1, h2, h3, loop_iter S m (fun i hi => hstep i (by omega) (h3 i hi)) (hyes m h1 h2) (hY m)⟩
  · have h0 : ∀ i, i < n → p i = false := fun i hi => by
      cases h2 : p i with
      | false => rfl
      | true => exact absurd ⟨i, hi, h2⟩ hc
    exact .inr ⟨h0, loop_iter S n (fun i hi => hstep i hi (h0 i hi)) hend hr⟩
/-- A loop that is left at the first index of a kind. -/
theorem loop_find {lo : Nat} {b : ICode} (S : Nat → St) (n : Nat) (p : Nat → Bool) (Y r : Ex × St)
    (hstep : ∀ i, i < n → p i = false → evalC G (callD G IP) (loopD G IP lo) lo b (S i) = some (.normal, S (i + 1)))
    (hyes : ∀ i, i < n → p i = true → evalC G (callD G IP) (loopD G IP lo) lo b (S i) = some Y) (hY : ∀ s, Y ≠ (.normal, s))
    (hend : evalC G (callD G IP) (loopD G IP lo) lo b (S n) = some r) (hr : ∀ s, r ≠ (.normal, s)) : loopD G IP lo b (S 0) = some (if (List.range n).any p then Y else r) := by
  by_cases hc : ∃ i, i < n ∧ p i = true
  · have : ∃ m, (m < n ∧ p m = true) ∧ ∀ j, j < m → p j = false := by
      obtain ⟨i, hi⟩ := hc
      induction i using Nat.strongRecOn with
      | _ i ih =>
        by_cases hj : ∃ j, j < i ∧ p j = true
        · obtain ⟨j, h1, h2⟩ := hj; exact ih j h1 ⟨by omega, h2⟩
        · refine ⟨i, hi, fun j h1 => ?_⟩
          cases h2 : p j with
          | false => rfl
          | true => exact absurd ⟨j, h1, h2⟩ hj
    obtain ⟨m, ⟨h1, h2⟩, h3⟩ := this
    rw [if_pos (by simp only [List.any_eq_true, List.mem_range]; exact ⟨m, h1, h2⟩)]
    exact loop_iter S m (fun i hi => hstep i (by omega) (h3 i hi)) (hyes m h1 h2) hY
  · rw [if_neg (by simp only [List.any_eq_true, List.mem_range]; exact hc)]
    refine loop_iter S n (fun i hi => hstep i hi ?_) hend hr
    cases h2 : p i with
    | false => rfl
    | true => exact absurd ⟨i, hi, h2⟩ hc
end

@[simp] theorem cp1_int (k : IntKind) : AV.cp1 ∘ AV.int k = AV.int k := rfl
@[simp] theorem beqI (a b : Int) : (a == b) = decide (a = b) := by by_cases h : a = b <;> simp [h]
@[simp] theorem bneI (a b : Int) : (a != b) = !decide (a = b) := by by_cases h : a = b <;> simp [h]
@[simp] theorem beqS (a b : List UInt8) : (a == b) = decide (a = b) := by by_cases h : a = b <;> simp [h]
@[simp] theorem bneS (a b : List UInt8) : (a != b) = !decide (a = b) := by by_cases h : a = b <;> simp [h]
@[simp] theorem okSize_nil (n : Nat) : okSize n [] = true := rfl
@[simp] theorem okSize_cons (n : Nat) (x : AV) (r : List AV) : okSize n (x :: r) = (x.cells.length == n) := rfl
@[simp] theorem closedL_app (n : Nat) : ∀ a b : List AV, AV.closedL n (a ++ b) = (AV.closedL n a && AV.closedL n b)
  | [], b => by simp [AV.closedL]
  | v :: r, b => by simp [AV.closedL, closedL_app n r b, Bool.and_assoc]
@[simp] theorem keep1_list (xs : List AV) (o : Own) : AV.keep1 (.list xs o) = .list xs o := rfl
@[simp] theorem keep1_int (k : IntKind) (n : Int) : AV.keep1 (.int k n) = .int k n := rfl
@[simp] theorem keep1_bool (b : Bool) : AV.keep1 (.bool b) = .bool b := rfl
@[simp] theorem keep1_str (s : List UInt8) : AV.keep1 (.str s) = .str s := rfl
@[simp] theorem keep1_agg (cs : List AV) : AV.keep1 (.agg cs) = .agg (cs.map AV.cp1) := rfl
def ownB (o : Bool) : Own := if o then .nil else .no
@[simp] theorem ownB_cp (o : Bool) : (ownB o).cp = ownB o := by cases o <;> rfl
@[simp] theorem ownB_own (o : Bool) (n e : Nat) : (ownB o = .own n e) = False := by cases o <;> simp [ownB]
theorem wrap_small {n : Int} (h0 : 0 ≤ n) (h1 : n ≤ 9223372036854775807) : IntKind.wrap .i64 n = n := by
  simp [IntKind.wrap, IntKind.signed, IntKind.bits]; omega
theorem wrap_succ {i n : Nat} (h : i < n) (hn : n ≤ 9223372036854775807) : IntKind.wrap .i64 ((i : Int) + 1) = ((i + 1 : Nat) : Int) := by
  rw [wrap_small (by omega) (by omega)]; rfl
theorem foldl_take_succ {α β : Type} (f : β → α → β) (s : β) (l : List α) (i : Nat) (h : i < l.length) : (l.take (i + 1)).foldl f s = f ((l.take i).foldl f s) l[i] := by
  rw [List.take_succ_eq_append_getElem h, List.foldl_append]; rfl
theorem cell_one {l : List Int} {k : IntKind} {n : Nat} (h : n < l.length) : ((l.map (AV.int k)).drop n).take 1 = [AV.int k (l.getD n 0)] := by
  rw [List.drop_eq_getElem_cons (by simpa using h)]
  simp [h]
end Go.Proofs.YtkofimhnehkdoaaGreatDoor.Rf
end
section
/- Numerals. -/
set_option linter.unusedSimpArgs false
set_option linter.unusedVariables false
namespace Go.Proofs.YtkofimhnehkdoaaGreatDoor.Rf

def dig (n : Nat) : UInt8 := UInt8.ofNat (48 + n)
theorem dig_toNat {n : Nat} (h : n < 10) : (dig n).toNat = 48 + n := by
  unfold dig; rw [UInt8.toNat_ofNat']; omega
def dec (n : Nat) : List UInt8 := if n < 10 then [dig n] else dec (n / 10) ++ [dig (n % 10)]
termination_by n
decreasing_by omega
theorem dec_small {n : Nat} (h : n < 10) : dec n = [dig n] := by rw [dec, if_pos h]
theorem dec_big {n : Nat} (h : 10 ≤ n) : dec n = dec (n / 10) ++ [dig (n % 10)] := by rw [dec, if_neg (by omega)]
theorem dec_ne (n : Nat) : dec n ≠ [] := by
  by_cases h : n < 10
  · rw [dec_small h]; simp
  · rw [dec_big (by omega)]; simp
theorem dec_len (k : Nat) : ∀ n, n < 10 ^ (k + 1) → (dec n).length ≤ k + 1 := by
  induction k with
  | zero => intro n h; rw [dec_small (by omega)]; simp
  | succ k ih =>
    intro n h
    by_cases h1 : n < 10
    · rw [dec_small h1]; simp
    · rw [dec_big (by omega), List.length_append]
      have := ih (n / 10) (by rw [Nat.pow_succ] at h; omega)
      simp; omega
theorem dec_len20 {n : Nat} (h : n < 18446744073709551616) : (dec n).length ≤ 20 := dec_len 19 n (by omega)
def isDig (c : UInt8) : Bool := decide (48 ≤ c.toNat) && decide (c.toNat ≤ 57)
theorem isDig_dig {n : Nat} (h : n < 10) : isDig (dig n) = true := by simp [isDig, dig_toNat h]; omega
theorem dec_digs (n : Nat) : ∀ c, c ∈ dec n → isDig c = true := by
  induction n using Nat.strongRecOn with
  | _ n ih =>
    intro c hc
    by_cases h : n < 10
    · rw [dec_small h] at hc; simp at hc; subst hc; exact isDig_dig h
    · rw [dec_big (by omega), List.mem_append] at hc
      rcases hc with hc | hc
      · exact ih (n / 10) (by omega) c hc
      · simp at hc; subst hc; exact isDig_dig (by omega)
def digVal (s : List UInt8) : Nat := s.foldl (fun v c => 10 * v + (c.toNat - 48)) 0
theorem digVal_snoc (s : List UInt8) (c : UInt8) : digVal (s ++ [c]) = 10 * digVal s + (c.toNat - 48) := by simp [digVal, List.foldl_append]
theorem digVal_dec (n : Nat) : digVal (dec n) = n := by
  induction n using Nat.strongRecOn with
  | _ n ih =>
    by_cases h : n < 10
    · rw [dec_small h]; simp [digVal, dig_toNat h]
    · rw [dec_big (by omega), digVal_snoc, ih (n / 10) (by omega), dig_toNat (by omega)]; omega
/-- Digits without a leading zero. -/
def numOk (s : List UInt8) : Bool := !s.isEmpty && (!(decide (1 < s.length) && (s.head? == some 48)) && s.all isDig)
theorem dec_head {n : Nat} (h : 0 < n) : (dec n).head? ≠ some 48 := by
  induction n using Nat.strongRecOn with
  | _ n ih =>
    by_cases h1 : n < 10
    · rw [dec_small h1]; simp; intro e
      have := congrArg UInt8.toNat e
      rw [dig_toNat h1] at this; simp at this; omega
    · rw [dec_big (by omega)]
      have := ih (n / 10) (by omega) (by omega)
      cases hd : dec (n / 10) with
      | nil => exact absurd hd (dec_ne _)
      | cons a r => rw [hd] at this; simpa using this
theorem numOk_dec (n : Nat) : numOk (dec n) = true := by
  unfold numOk
  have h1 : (dec n).isEmpty = false := by
    cases h : dec n with
    | nil => exact absurd h (dec_ne n)
    | cons a r => rfl
  have h2 : (dec n).all isDig = true := List.all_eq_true.2 (dec_digs n)
  rw [h1, h2]
  by_cases h : 0 < n
  · have := dec_head h
    simp [this]
  · have : n = 0 := by omega
    subst this; rw [dec_small (by omega)]; simp
/-- The number of a numeral, and its error. -/
def numE (s : List UInt8) : Int × Int := if numOk s = false then (0, 6) else if 18446744073709551616 ≤ digVal s then (0, 2) else (digVal s, 0)
theorem numE_dec {n : Nat} (h : n < 18446744073709551616) : numE (dec n) = ((n : Int), 0) := by
  unfold numE; rw [if_neg (by rw [numOk_dec]; simp), digVal_dec, if_neg (by omega)]
theorem numE_ok {s : List UInt8} (h : (numE s).2 = 0) : numOk s = true ∧ digVal s < 18446744073709551616 ∧ (numE s).1 = digVal s := by
  unfold numE at h ⊢
  split at h
  · simp at h
  · split at h
    · simp at h
    · rename_i h1 h2; rw [if_neg h1, if_neg h2]; exact ⟨by simpa using h1, by omega, rfl⟩
/-- A numeral is the digits of its number. -/
theorem dec_digVal {s : List UInt8} (h : numOk s = true) : dec (digVal s) = s := by
  simp only [numOk, Bool.and_eq_true, Bool.not_eq_true', List.all_eq_true] at h
  obtain ⟨h1, h2, h3⟩ := h
  have key : ∀ (r : List UInt8) (a : UInt8), isDig a = true → a ≠ 48 → (∀ c, c ∈ r → isDig c = true) → dec (digVal (a :: r)) = a :: r ∧ 0 < digVal (a :: r) := by
    intro r
    induction hr : r.length generalizing r with
    | zero =>
      intro a ha hn _
      have : r = [] := List.length_eq_zero_iff.1 hr
      subst this
      simp [isDig] at ha
      have h0 : a.toNat ≠ 48 := fun e => hn (UInt8.toNat_inj.1 (by simpa using e))
      have hv : digVal [a] = a.toNat - 48 := by simp [digVal]
      rw [hv, dec_small (by omega)]
      refine ⟨?_, by omega⟩
      congr 1
      apply UInt8.toNat_inj.1; rw [dig_toNat (by omega)]; omega
    | succ n ih =>
      intro a ha hn hd
      have hne : r ≠ [] := by intro e; subst e; simp at hr
      obtain ⟨q, c, rfl⟩ : ∃ q c, r = q ++ [c] := ⟨r.dropLast, r.getLast hne, (List.dropLast_concat_getLast hne).symm⟩
      obtain ⟨i1, i2⟩ := ih q (by simp at hr; omega) a ha hn (fun c hc => hd c (by simp [hc]))
      have hc := hd c (by simp)
      simp [isDig] at hc
      have hv : digVal (a :: (q ++ [c])) = 10 * digVal (a :: q) + (c.toNat - 48) := by rw [← List.cons_append, digVal_snoc]
      rw [hv, dec_big (by omega)]
      refine ⟨?_, by omega⟩
      rw [show (10 * digVal (a :: q) + (c.toNat - 48)) / 10 = digVal (a :: q) by omega, i1, show (10 * digVal (a :: q) + (c.toNat - 48)) % 10 = c.toNat - 48 by omega]
      have : dig (c.toNat - 48) = c := by apply UInt8.toNat_inj.1; rw [dig_toNat (by omega)]; omega
      rw [this]; simp
  cases s with
  | nil => simp at h1
  | cons a r =>
    by_cases ha : a = 48
    · subst ha
      have : r = [] := by
        cases r with
        | nil => rfl
        | cons b r => simp at h2
      subst this
      simp [digVal]; rw [dec_small (by omega)]; rfl
    · exact (key r a (h3 a (by simp)) ha (fun c hc => h3 c (by simp [hc]))).1
end Go.Proofs.YtkofimhnehkdoaaGreatDoor.Rf
end
section
/- The library's functions on strings. -/
set_option linter.unusedSimpArgs false
set_option linter.unusedVariables false
namespace Go.Proofs.YtkofimhnehkdoaaGreatDoor.Rf
section
variable {hp : List HObj} {lo : Nat} (q : Bool)
def hasPre (s p : List UInt8) : Bool := decide (p.length ≤ s.length) && decide (s.take p.length = p)
theorem hasPreL_D (s p : List UInt8) : callD G0 IP n_internal_stringslite_HasPrefix [.str s, .str p] hp lo q = some (.ret (.bool (hasPre s p)) hp) := by
  rw [callD_eq]
  by_cases h : p.length ≤ s.length
  · have h1 : (p.length : Int) ≤ (s.length : Int) := by omega
    simp [IP_internal_stringslite_HasPrefix, i_internal_stringslite_HasPrefix, h, h1, hasPre]
  · have h1 : ¬ (p.length : Int) ≤ (s.length : Int) := by omega
    simp [IP_internal_stringslite_HasPrefix, i_internal_stringslite_HasPrefix, h, h1, hasPre]
theorem hasPre_D (s p : List UInt8) : callD G0 IP n_strings_HasPrefix [.str s, .str p] hp lo q = some (.ret (.bool (hasPre s p)) hp) := by
  rw [callD_eq]
  simp [IP_strings_HasPrefix, i_strings_HasPrefix, hasPreL_D]
theorem cutPreL_D (s p : List UInt8) : callD G0 IP n_internal_stringslite_CutPrefix [.str s, .str p] hp lo q = some (.ret (.tup [.str (if hasPre s p then s.drop p.length else s), .bool (hasPre s p)]) hp) := by
  rw [callD_eq]
  cases h : hasPre s p with
  | true =>
    have h1 : p.length ≤ s.length := by simp [hasPre] at h; exact h.1
    simp [IP_internal_stringslite_CutPrefix, i_internal_stringslite_CutPrefix, hasPreL_D, h, h1]
  | false => simp [IP_internal_stringslite_CutPrefix, i_internal_stringslite_CutPrefix, hasPreL_D, h]
theorem cutPre_D (s p : List UInt8) : callD G0 IP n_strings_CutPrefix [.str s, .str p] hp lo q = some (.ret (.tup [.str (if hasPre s p then s.drop p.length else s), .bool (hasPre s p)]) hp) := by
  rw [callD_eq]
  simp [IP_strings_CutPrefix, i_strings_CutPrefix, cutPreL_D]
theorem idxBL_D (s : List UInt8) (n : Int) : callD G0 IP n_internal_stringslite_IndexByte [.str s, .int .u8 n] hp lo q = some (.ret (.int .i64 (idxB s (UInt8.ofNat n.toNat))) hp) := by
  rw [callD_eq]
  simp [IP_internal_stringslite_IndexByte, i_internal_stringslite_IndexByte]
theorem idxB_D (s : List UInt8) (n : Int) : callD G0 IP n_strings_IndexByte [.str s, .int .u8 n] hp lo q = some (.ret (.int .i64 (idxB s (UInt8.ofNat n.toNat))) hp) := by
  rw [callD_eq]
  simp [IP_strings_IndexByte, i_strings_IndexByte, idxBL_D]
theorem idxB_ge : ∀ (s : List UInt8) (c : UInt8), -1 ≤ idxB s c ∧ idxB s c < s.length
  | [], c => by simp [idxB]
  | b :: l, c => by
    have := idxB_ge l c
    simp only [idxB]
    split
    · simp
    · split
      · simp; omega
      · rename_i h; simp at h; simp; omega
theorem idxB_mem : ∀ (s : List UInt8) (c : UInt8), (0 ≤ idxB s c ↔ c ∈ s)
  | [], c => by simp [idxB]
  | b :: l, c => by
    have ih := idxB_mem l c
    have hg := idxB_ge l c
    simp only [idxB, List.mem_cons]
    by_cases h : b = c
    · subst h; simp
    · have h' : ¬ c = b := fun e => h e.symm
      simp only [show (b == c) = false by simp [h], Bool.false_eq_true, if_false, h', false_or]
      split
      · rename_i h2; simp at h2; rw [← ih]; omega
      · rename_i h2; simp at h2; rw [← ih]; omega
theorem index1_D (s : List UInt8) (c : UInt8) : callD G0 IP n_internal_stringslite_Index [.str s, .str [c]] hp lo q = some (.ret (.int .i64 (idxB s c)) hp) := by
  rw [callD_eq]
  by_cases h : [c] = s
  · subst h
    simp [IP_internal_stringslite_Index, i_internal_stringslite_Index, idxB]
  · simp [IP_internal_stringslite_Index, i_internal_stringslite_Index, h, idxBL_D]
/-- What stands ahead of the first c, behind it, and whether there is one. -/
def cutB (s : List UInt8) (c : UInt8) : List UInt8 × List UInt8 × Bool := if 0 ≤ idxB s c then (s.take (idxB s c).toNat, s.drop ((idxB s c).toNat + 1), true) else (s, [], false)
theorem cut1L_D (s : List UInt8) (hs : s.length ≤ 9223372036854775806) (c : UInt8) : callD G0 IP n_internal_stringslite_Cut [.str s, .str [c]] hp lo q = some (.ret (.tup [.str (cutB s c).1, .str (cutB s c).2.1, .bool (cutB s c).2.2]) hp) := by
  rw [callD_eq]
  have hg := idxB_ge s c
  by_cases h : 0 ≤ idxB s c
  · have hw : IntKind.wrap .i64 (idxB s c + 1) = idxB s c + 1 := wrap_small (by omega) (by omega)
    have h1 : (idxB s c).toNat ≤ s.length := by omega
    have h2 : (idxB s c + 1).toNat = (idxB s c).toNat + 1 := by omega
    have h3 : (idxB s c).toNat + 1 ≤ s.length := by omega
    have h4 : 0 ≤ idxB s c + 1 := by omega
    simp [IP_internal_stringslite_Cut, i_internal_stringslite_Cut, index1_D, h, hw, h1, h2, h3, h4, cutB]
  · simp [IP_internal_stringslite_Cut, i_internal_stringslite_Cut, index1_D, h, cutB]
theorem cut1_D (s : List UInt8) (hs : s.length ≤ 9223372036854775806) (c : UInt8) : callD G0 IP n_strings_Cut [.str s, .str [c]] hp lo q = some (.ret (.tup [.str (cutB s c).1, .str (cutB s c).2.1, .bool (cutB s c).2.2]) hp) := by
  rw [callD_eq]
  have e := fun (hp : List HObj) (lo : Nat) (q : Bool) => cut1L_D (hp := hp) (lo := lo) q s hs c
  simp [IP_strings_Cut, i_strings_Cut, e]
end
end Go.Proofs.YtkofimhnehkdoaaGreatDoor.Rf
end
section
/- Numbers read: the library's ParseUint, the program's, the reference's. -/
set_option linter.unusedSimpArgs false
set_option linter.unusedVariables false
namespace Go.Proofs.YtkofimhnehkdoaaGreatDoor.Rf
theorem wrapU (n : Int) : IntKind.wrap .u64 n = n % 18446744073709551616 := by
  simp [IntKind.wrap, IntKind.signed, IntKind.bits]
theorem wrapU_small {n : Int} (h0 : 0 ≤ n) (h1 : n < 18446744073709551616) : IntKind.wrap .u64 n = n := by rw [wrapU]; omega
theorem wrap8_small {n : Int} (h0 : 0 ≤ n) (h1 : n < 256) : IntKind.wrap .u8 n = n := by
  simp [IntKind.wrap, IntKind.signed, IntKind.bits]; omega
theorem idxB_decs (c : UInt8) : (idxB [48, 49, 50, 51, 52, 53, 54, 55, 56, 57] c < 0) ↔ isDig c = false := by
  have h := idxB_mem [48, 49, 50, 51, 52, 53, 54, 55, 56, 57] c
  have h2 : c ∈ ([48, 49, 50, 51, 52, 53, 54, 55, 56, 57] : List UInt8) ↔ isDig c = true := by
    simp only [List.mem_cons, List.not_mem_nil, or_false, isDig, Bool.and_eq_true, decide_eq_true_eq, ← UInt8.toNat_inj]
    have := c.toNat_lt
    simp
    omega
  rw [h2] at h
  cases hd : isDig c with
  | true => rw [hd] at h; simp at h ⊢; omega
  | false => rw [hd] at h; simp at h ⊢; omega
theorem u8_cast (c : UInt8) : UInt8.ofNat (c.toNat : Int).toNat = c := by simp
theorem any_range_isDig (s : List UInt8) : ((List.range s.length).any fun i => !isDig (s.getD i 0)) = !s.all isDig := by
  induction s with
  | nil => rfl
  | cons c r ih =>
    rw [List.length_cons, List.range_succ_eq_map]
    simp [List.any_map, Function.comp_def] at ih ⊢
    rw [ih]
section
variable {hp : List HObj} {lo : Nat} (q : Bool)
theorem numeral_D (s : List UInt8) (hs : s.length ≤ 9223372036854775807) : callD G0 IP n_digits_numeral [.str s, .str [48, 49, 50, 51, 52, 53, 54, 55, 56, 57]] hp lo q = some (.ret (.bool (numOk s)) hp) := by
  rw [callD_eq]
  cases s with
  | nil => simp [IP_digits_numeral, i_digits_numeral, numOk]
  | cons a r =>
    generalize hse : a :: r = s at *
    have hne : s ≠ [] := by rw [← hse]; simp
    have h0 : s[0]? = some a := by rw [← hse]; rfl
    have hloop := loop_find (G := G0) (IP := IP) (lo := hp.length) (b := l_digits_numeral_0)
      (fun i => ⟨[(0, .str s), (1, .str [48, 49, 50, 51, 52, 53, 54, 55, 56, 57]), (19, .int .i64 s.length), (20, .int .i64 i)], hp⟩) s.length (fun i => !isDig (s.getD i 0))
      (.ret, ⟨[(4, .bool false)], hp⟩) (.exit 0, ⟨[(0, .str s), (1, .str [48, 49, 50, 51, 52, 53, 54, 55, 56, 57]), (19, .int .i64 s.length), (20, .int .i64 s.length), (21, .bool false)], hp⟩)
      (fun i hi hp => by
        have hw := wrap_succ hi hs
        have hd : ¬ idxB [48, 49, 50, 51, 52, 53, 54, 55, 56, 57] s[i] < 0 := by rw [idxB_decs]; simp [List.getD, hi] at hp; simp [hp]
        rw [← hw]
        simp [l_digits_numeral_0, hi, idxB_D, hd])
      (fun i hi hp => by
        have hd : idxB [48, 49, 50, 51, 52, 53, 54, 55, 56, 57] s[i] < 0 := by rw [idxB_decs]; simp [List.getD, hi] at hp; simp [hp]
        simp [l_digits_numeral_0, hi, idxB_D, hd])
      (by simp) (by simp [l_digits_numeral_0]) (by simp)
    rw [any_range_isDig] at hloop
    simp only [Int.natCast_zero] at hloop
    have hh : s.head? = some a := by rw [← hse]; rfl
    have hemp : s.isEmpty = false := by rw [← hse]; rfl
    by_cases hl : (1 : Int) < (s.length : Int)
    · have hl' : 1 < s.length := by omega
      by_cases ha : a = 48
      · subst ha
        simp [IP_digits_numeral, i_digits_numeral, numOk, hne, h0, hl, hl', hh, hemp]
      · have ha' : ¬ (a.toNat : Int) = 48 := by intro e; apply ha; apply UInt8.toNat_inj.1; simp; omega
        cases hd : s.all isDig with
        | true => simp [IP_digits_numeral, i_digits_numeral, numOk, hne, h0, hl, hl', hh, ha, ha', hloop, hd, hemp]
        | false => simp [IP_digits_numeral, i_digits_numeral, numOk, hne, h0, hl, hl', hh, ha, ha', hloop, hd, hemp]
    · have hl' : ¬ 1 < s.length := by omega
      cases hd : s.all isDig with
      | true => simp [IP_digits_numeral, i_digits_numeral, numOk, hne, h0, hl, hl', hh, hloop, hd, hemp]
      | false => simp [IP_digits_numeral, i_digits_numeral, numOk, hne, h0, hl, hl', hh, hloop, hd, hemp]
theorem digVal_take {s : List UInt8} {i : Nat} (h : i < s.length) : digVal (s.take (i + 1)) = 10 * digVal (s.take i) + (s[i].toNat - 48) := by
  rw [List.take_succ_eq_append_getElem h, digVal_snoc]
/-- What ParseUint answers for digits. -/
def pU (s : List UInt8) : AV := if 18446744073709551616 ≤ digVal s then .tup [.int .u64 18446744073709551615, .iface 211 (.int .i64 1)] else .tup [.int .u64 (digVal s), .nili]
theorem digVal_le {s : List UInt8} {i : Nat} (h : i ≤ s.length) : digVal (s.take i) ≤ digVal s := by
  have key : ∀ (k : Nat), i + k ≤ s.length → digVal (s.take i) ≤ digVal (s.take (i + k)) := by
    intro k
    induction k with
    | zero => intro _; exact Nat.le_refl _
    | succ k ih =>
      intro hk
      have := ih (by omega)
      rw [← Nat.add_assoc, digVal_take (by omega)]; omega
  have := key (s.length - i) (by omega)
  rwa [show i + (s.length - i) = s.length by omega, List.take_length] at this
theorem any_over (s : List UInt8) : ((List.range s.length).any fun i => decide (18446744073709551616 ≤ digVal (s.take (i + 1)))) = decide (18446744073709551616 ≤ digVal s) := by
  rw [Bool.eq_iff_iff]
  simp only [List.any_eq_true, List.mem_range, decide_eq_true_eq]
  constructor
  · rintro ⟨i, hi, h⟩; exact Nat.le_trans h (digVal_le (by omega))
  · intro h
    have hl : s.length ≠ 0 := by
      intro e
      have : s = [] := List.length_eq_zero_iff.1 e
      have h2 : digVal s = 0 := by subst this; rfl
      omega
    exact ⟨s.length - 1, by omega, by rwa [show s.length - 1 + 1 = s.length by omega, List.take_length]⟩
theorem parseUintI_D (s : List UInt8) (hs : s.length ≤ 140737488355328) (h0 : s ≠ []) (hd : s.all isDig = true) : callD G0 IP n_internal_strconv_ParseUint [.str s, .int .i64 10, .int .i64 64] hp lo false = some (.ret (pU s) hp) := by
  rw [callD_eq]
  have hc : ∀ i (h : i < s.length), 48 ≤ s[i].toNat ∧ s[i].toNat ≤ 57 := fun i h => by
    have := List.all_eq_true.1 hd s[i] (List.getElem_mem h)
    simpa [isDig] using this
  have hloop := loop_find (G := G0) (IP := IP) (lo := lo) (b := l_internal_strconv_ParseUint_0)
    (fun i => ⟨[(1, .int .i64 10), (8, .bool false), (9, .str s), (10, .int .u64 1844674407370955162), (11, .int .u64 18446744073709551615), (12, .bool false), (13, .int .u64 (digVal (s.take i))), (99, .list (s.map fun b => .int .u8 b.toNat) .no), (100, .int .i64 s.length), (101, .int .i64 i)], hp⟩)
    s.length (fun i => decide (18446744073709551616 ≤ digVal (s.take (i + 1))))
    (.ret, ⟨[(6, .int .u64 18446744073709551615), (7, .iface 211 (.int .i64 1))], hp⟩)
    (.exit 3, ⟨[(1, .int .i64 10), (8, .bool false), (9, .str s), (10, .int .u64 1844674407370955162), (11, .int .u64 18446744073709551615), (12, .bool false), (13, .int .u64 (digVal s)), (99, .list (s.map fun b => .int .u8 b.toNat) .no), (100, .int .i64 s.length), (101, .int .i64 s.length), (102, .bool false)], hp⟩)
    (fun i hi hp => by
      have hw := wrap_succ hi (by omega)
      obtain ⟨c1, c2⟩ := hc i hi
      simp only [decide_eq_false_iff_not] at hp
      have ht := digVal_take hi
      rw [ht] at hp
      have e1 : ¬ ((s[i].toNat : Int) = 95) := by omega
      have e2 : (48 : Int) ≤ (s[i].toNat : Int) := by omega
      have e3 : (s[i].toNat : Int) ≤ 57 := by omega
      have e4 : IntKind.wrap .u8 ((s[i].toNat : Int) - 48) = ((s[i].toNat - 48 : Nat) : Int) := by rw [wrap8_small (by omega) (by omega)]; omega
      have e5 : ¬ (10 : Int) ≤ ((s[i].toNat - 48 : Nat) : Int) := by omega
      have e6 : ¬ (1844674407370955162 : Int) ≤ (digVal (s.take i) : Int) := by omega
      have e7 : IntKind.wrap .u64 ((digVal (s.take i) : Int) * 10) = ((10 * digVal (s.take i) : Nat) : Int) := by rw [wrapU_small (by omega) (by omega)]; omega
      have e8 : IntKind.wrap .u64 ((s[i].toNat - 48 : Nat) : Int) = ((s[i].toNat - 48 : Nat) : Int) := wrapU_small (by omega) (by omega)
      have e9 : IntKind.wrap .u64 (((10 * digVal (s.take i) : Nat) : Int) + ((s[i].toNat - 48 : Nat) : Int)) = ((10 * digVal (s.take i) + (s[i].toNat - 48) : Nat) : Int) := by rw [wrapU_small (by omega) (by omega)]; omega
      have e10 : ¬ ((10 * digVal (s.take i) + (s[i].toNat - 48) : Nat) : Int) < ((10 * digVal (s.take i) : Nat) : Int) := by omega
      have e11 : ¬ ((10 * digVal (s.take i) + (s[i].toNat - 48) : Nat) : Int) > 18446744073709551615 := by omega
      rw [← hw, ht]
      generalize ((10 * digVal (s.take i) + (s[i].toNat - 48) : Nat) : Int) = N at *
      generalize ((10 * digVal (s.take i) : Nat) : Int) = M at *
      generalize ((s[i].toNat - 48 : Nat) : Int) = D at *
      generalize (digVal (s.take i) : Int) = V at *
      simp [l_internal_strconv_ParseUint_0, hi, e1, e2, e3, e4, e5, e6, e7, e8, e9, e10, e11, show IntKind.wrap .u8 10 = 10 from rfl, show IntKind.wrap .u64 10 = 10 from rfl])
    (fun i hi hp => by
      obtain ⟨c1, c2⟩ := hc i hi
      simp only [decide_eq_true_eq] at hp
      have ht := digVal_take hi
      rw [ht] at hp
      have e1 : ¬ ((s[i].toNat : Int) = 95) := by omega
      have e2 : (48 : Int) ≤ (s[i].toNat : Int) := by omega
      have e3 : (s[i].toNat : Int) ≤ 57 := by omega
      have e4 : IntKind.wrap .u8 ((s[i].toNat : Int) - 48) = ((s[i].toNat - 48 : Nat) : Int) := by rw [wrap8_small (by omega) (by omega)]; omega
      have e5 : ¬ (10 : Int) ≤ ((s[i].toNat - 48 : Nat) : Int) := by omega
      by_cases e6 : (1844674407370955162 : Int) ≤ (digVal (s.take i) : Int)
      · generalize ((s[i].toNat - 48 : Nat) : Int) = D at *
        generalize (digVal (s.take i) : Int) = V at *
        simp [l_internal_strconv_ParseUint_0, hi, e1, e2, e3, e4, e5, e6, show IntKind.wrap .u8 10 = 10 from rfl, show IntKind.wrap .u64 10 = 10 from rfl]
      · have e7 : IntKind.wrap .u64 ((digVal (s.take i) : Int) * 10) = ((10 * digVal (s.take i) : Nat) : Int) := by rw [wrapU_small (by omega) (by omega)]; omega
        have e8 : IntKind.wrap .u64 ((s[i].toNat - 48 : Nat) : Int) = ((s[i].toNat - 48 : Nat) : Int) := wrapU_small (by omega) (by omega)
        have e9 : IntKind.wrap .u64 (((10 * digVal (s.take i) : Nat) : Int) + ((s[i].toNat - 48 : Nat) : Int)) = (((10 * digVal (s.take i) + (s[i].toNat - 48) : Nat) : Int) - 18446744073709551616) := by rw [wrapU]; omega
        have e10 : (((10 * digVal (s.take i) + (s[i].toNat - 48) : Nat) : Int) - 18446744073709551616) < ((10 * digVal (s.take i) : Nat) : Int) := by omega
        generalize (((10 * digVal (s.take i) + (s[i].toNat - 48) : Nat) : Int) - 18446744073709551616) = N at *
        generalize ((10 * digVal (s.take i) : Nat) : Int) = M at *
        generalize ((s[i].toNat - 48 : Nat) : Int) = D at *
        generalize (digVal (s.take i) : Int) = V at *
        simp [l_internal_strconv_ParseUint_0, hi, e1, e2, e3, e4, e5, e6, e7, e8, e9, e10, show IntKind.wrap .u8 10 = 10 from rfl, show IntKind.wrap .u64 10 = 10 from rfl])
    (by simp) (by simp [l_internal_strconv_ParseUint_0]) (by simp)
  rw [any_over] at hloop
  simp only [List.take_zero, show digVal [] = 0 from rfl, Int.natCast_zero] at hloop
  by_cases hv : 18446744073709551616 ≤ digVal s
  · simp [IP_internal_strconv_ParseUint, i_internal_strconv_ParseUint, h0, hs, hloop, hv, pU, show IntKind.wrap .u64 64 = 64 from rfl, show IntKind.wrap .u64 18446744073709551616 = 0 from rfl, show IntKind.wrap .u64 (-1) = 18446744073709551615 from rfl, IntKind.bits]
  · simp [IP_internal_strconv_ParseUint, i_internal_strconv_ParseUint, h0, hs, hloop, hv, pU, show IntKind.wrap .u64 64 = 64 from rfl, show IntKind.wrap .u64 18446744073709551616 = 0 from rfl, show IntKind.wrap .u64 (-1) = 18446744073709551615 from rfl, IntKind.bits]
theorem numE_nonempty {s : List UInt8} (h : numOk s = true) : s ≠ [] ∧ s.all isDig = true := by
  simp only [numOk, Bool.and_eq_true] at h
  refine ⟨?_, h.2.2⟩
  intro e; subst e; simp at h
end
end Go.Proofs.YtkofimhnehkdoaaGreatDoor.Rf
end
section
/- Operators. -/
set_option linter.unusedSimpArgs false
set_option linter.unusedVariables false
namespace Go.Proofs.YtkofimhnehkdoaaGreatDoor.Rf
def opN : List (List UInt8) := [[], [118, 97, 114], [99, 111, 110, 115, 116], [110, 111, 116], [110, 101, 103], [97, 110, 100], [111, 114], [120, 111, 114], [97, 100, 100], [115, 117, 98], [109, 117, 108], [117, 100, 105, 118], [117, 114, 101, 109], [115, 104, 108], [108, 115, 104, 114], [97, 115, 104, 114], [101, 113], [117, 108, 116], [115, 108, 116], [105, 116, 101], [99, 111, 110, 99, 97, 116], [101, 120, 116, 114, 97, 99, 116], [122, 101, 120, 116], [115, 101, 120, 116], [104, 111, 108, 101], [110, 117, 109], [101, 118, 97, 108]]
theorem g_0_eq : g_0 = opN.map AV.str := rfl
theorem g_0_len : g_0.length = 27 := rfl
def nm (n : Nat) : List UInt8 := opN.getD n []
theorem g_0_at {n : Nat} (h : n < 27) : (g_0.drop n).take 1 = [AV.str (nm n)] := by
  rw [g_0_eq, List.drop_eq_getElem_cons (by simpa [opN] using h)]
  simp [nm, List.getD, show n < opN.length by simpa [opN] using h]
def opOk (op : Int) : Bool := decide (1 ≤ op) && decide (op ≤ 26)
theorem opOk_cases {op : Int} (h : opOk op = true) : op = 1 ∨ op = 2 ∨ op = 3 ∨ op = 4 ∨ op = 5 ∨ op = 6 ∨ op = 7 ∨ op = 8 ∨ op = 9 ∨ op = 10 ∨ op = 11 ∨ op = 12 ∨ op = 13 ∨ op = 14 ∨ op = 15 ∨ op = 16 ∨ op = 17 ∨ op = 18 ∨ op = 19 ∨ op = 20 ∨ op = 21 ∨ op = 22 ∨ op = 23 ∨ op = 24 ∨ op = 25 ∨ op = 26 := by
  simp [opOk] at h; omega
theorem opOk_nat {op : Int} (h : opOk op = true) : ∃ n : Nat, op = n ∧ 1 ≤ n ∧ n ≤ 26 := by
  simp [opOk] at h; exact ⟨op.toNat, by omega, by omega, by omega⟩
def nameE (op : Int) : List UInt8 := if opOk op then nm op.toNat else []
def ofE (s : List UInt8) : Int × Bool := match (List.range 26).find? fun i => decide (nm (i + 1) = s) with | some i => (((i + 1 : Nat) : Int), true) | none => (0, false)
def arE (op : Int) : Int := if opOk op = false then -1 else if op = 1 ∨ op = 2 ∨ op = 24 ∨ op = 25 then 0 else if op = 3 ∨ op = 4 ∨ op = 21 ∨ op = 22 ∨ op = 23 ∨ op = 26 then 1 else if op = 19 then 3 else 2
def insE (w : Int) : Bool := decide (0 ≤ w) && decide (w ≤ 64)
def leafE (op w v : Int) : Int × Int := if insE w = false ∨ (op = 2 ∧ 0 < w ∧ 2 ^ w.toNat ≤ v) then (0, 3) else (w, 0)
def resE (op w v f : Int) : Int × Int := if w < 1 ∨ 64 < w ∨ f < 1 then (0, 3) else if (op ≠ 21 ∧ w < f) ∨ (op = 21 ∧ (f < w ∨ f - w < v)) then (0, 3) else (w, 0)
def widE (op w v : Int) (as : List Int) : Int × Int :=
  if opOk op = false ∨ (as.length : Int) ≠ arE op then (0, 4) else
  if as.all insE = false then (0, 3) else
  if op = 1 ∨ op = 2 ∨ op = 24 ∨ op = 25 then leafE op w v else
  if op = 3 ∨ op = 4 ∨ op = 26 then (as.getD 0 0, 0) else
  if op = 21 ∨ op = 22 ∨ op = 23 then resE op w v (as.getD 0 0) else
  if op = 19 then (if as.getD 0 0 = 1 ∧ as.getD 1 0 = as.getD 2 0 then (as.getD 1 0, 0) else (0, 3)) else
  if op = 20 then (if 1 ≤ as.getD 0 0 ∧ 1 ≤ as.getD 1 0 ∧ as.getD 0 0 + as.getD 1 0 ≤ 64 then (as.getD 0 0 + as.getD 1 0, 0) else (0, 3)) else
  if op = 16 ∨ op = 17 ∨ op = 18 then (if as.getD 0 0 = as.getD 1 0 then (1, 0) else (0, 3)) else
  if as.getD 0 0 = as.getD 1 0 then (as.getD 0 0, 0) else (0, 3)
section
variable {hp : List HObj} {lo : Nat} (q : Bool)
theorem known_D (op : Int) : callD G0 IP n_opinfo_known [.int .i64 op] hp lo q = some (.ret (.bool (opOk op)) hp) := by
  rw [callD_eq]
  by_cases h : 1 ≤ op
  · by_cases h2 : op ≤ 26 <;> simp [IP_opinfo_known, i_opinfo_known, opOk, h, h2]
  · simp [IP_opinfo_known, i_opinfo_known, opOk, h]
theorem opName_D (op : Int) : callD G0 IP n_opinfo_Name [.int .i64 op] hp lo q = some (.ret (.str (nameE op)) hp) := by
  rw [callD_eq]
  cases h : opOk op with
  | false => simp [IP_opinfo_Name, i_opinfo_Name, known_D, h, nameE]
  | true =>
    obtain ⟨n, rfl, h1, h2⟩ := opOk_nat h
    have e1 : (n : Int) < 27 := by omega
    have e2 : n + 1 ≤ 27 := by omega
    simp [IP_opinfo_Name, i_opinfo_Name, known_D, h, nameE, G0_0, e1, e2, g_0_at (show n < 27 by omega), g_0_len]
theorem opOf_D (s : List UInt8) : callD G0 IP n_opinfo_Of [.str s] hp lo q = some (.ret (.tup [.int .i64 (ofE s).1, .bool (ofE s).2]) hp) := by
  rw [callD_eq]
  have hloop := loop_some (G := G0) (IP := IP) (lo := hp.length) (b := l_opinfo_Of_0)
    (fun i => ⟨[(0, .str s), (4, .int .i64 ((i : Int) + 1))], hp⟩) 26 (fun i => decide (nm (i + 1) = s)) (fun i => (.ret, ⟨[(2, .int .i64 ((i : Int) + 1)), (3, .bool true)], hp⟩))
    (.exit 0, ⟨[(0, .str s), (4, .int .i64 27), (6, .bool false)], hp⟩)
    (fun i hi hp => by
      have e1 : (i : Int) + 1 ≤ 26 := by omega
      have e2 : (0 : Int) ≤ (i : Int) + 1 := by omega
      have e3 : (i : Int) + 1 < 27 := by omega
      have e4 : i + 1 + 1 ≤ 27 := by omega
      have e5 : IntKind.wrap .i64 ((i : Int) + 1 + 1) = (i : Int) + 1 + 1 := wrap_small (by omega) (by omega)
      have e6 : ((i : Int) + 1).toNat = i + 1 := by omega
      simp only [decide_eq_false_iff_not] at hp
      simp [l_opinfo_Of_0, G0_0, e1, e2, e3, e4, e5, e6, g_0_at (show i + 1 < 27 by omega), g_0_len, hp])
    (fun i hi hp => by
      have e1 : (i : Int) + 1 ≤ 26 := by omega
      have e2 : (0 : Int) ≤ (i : Int) + 1 := by omega
      have e3 : (i : Int) + 1 < 27 := by omega
      have e4 : i + 1 + 1 ≤ 27 := by omega
      have e6 : ((i : Int) + 1).toNat = i + 1 := by omega
      simp only [decide_eq_true_eq] at hp
      simp [l_opinfo_Of_0, G0_0, e1, e2, e3, e4, e6, g_0_at (show i + 1 < 27 by omega), g_0_len, hp])
    (fun i s => by simp) (by simp [l_opinfo_Of_0]) (by simp)
  simp only [Int.natCast_zero, Int.zero_add] at hloop
  rcases hloop with ⟨m, hm, hp1, hp2, hl⟩ | ⟨hno, hl⟩
  · have hf : (List.range 26).find? (fun i => decide (nm (i + 1) = s)) = some m := by
      rw [List.find?_range_eq_some]
      exact ⟨hp1, by simpa using hm, fun j hj => by simpa using hp2 j hj⟩
    have he : ofE s = (((m + 1 : Nat) : Int), true) := by simp [ofE, hf]
    simp [IP_opinfo_Of, i_opinfo_Of, hl, he]
  · have hf : (List.range 26).find? (fun i => decide (nm (i + 1) = s)) = none := by
      rw [List.find?_eq_none]
      intro i hi; simp at hi; have := hno i hi; simpa using this
    have he : ofE s = (0, false) := by simp [ofE, hf]
    simp [IP_opinfo_Of, i_opinfo_Of, hl, he]
theorem arity_D (op : Int) : callD G0 IP n_opinfo_Arity [.int .i64 op] hp lo q = some (.ret (.int .i64 (arE op)) hp) := by
  rw [callD_eq]
  cases h : opOk op with
  | true =>
    rcases opOk_cases h with rfl | rfl | rfl | rfl | rfl | rfl | rfl | rfl | rfl | rfl | rfl | rfl | rfl | rfl | rfl | rfl | rfl | rfl | rfl | rfl | rfl | rfl | rfl | rfl | rfl | rfl
    all_goals simp [IP_opinfo_Arity, i_opinfo_Arity, arE, opOk, show IntKind.wrap .i64 1 = 1 from rfl, show IntKind.wrap .i64 2 = 2 from rfl, show IntKind.wrap .i64 3 = 3 from rfl]
  | false =>
    have hk : ∀ k : Int, 1 ≤ k → k ≤ 26 → (op = k) = False := fun k h1 h2 => by
      simp only [eq_iff_iff, iff_false]; intro e; subst e; simp [opOk] at h; omega
    simp [IP_opinfo_Arity, i_opinfo_Arity, arE, h, hk]
theorem opLeaf_D (op : Int) : callD G0 IP n_opinfo_Leaf [.int .i64 op] hp lo q = some (.ret (.bool (decide (arE op = 0))) hp) := by
  rw [callD_eq]
  simp [IP_opinfo_Leaf, i_opinfo_Leaf, arity_D]
theorem inside_D (w : Int) : callD G0 IP n_opinfo_inside [.int .i64 w] hp lo q = some (.ret (.bool (insE w)) hp) := by
  rw [callD_eq]
  by_cases h : 0 ≤ w
  · by_cases h2 : w ≤ 64 <;> simp [IP_opinfo_inside, i_opinfo_inside, insE, h, h2]
  · simp [IP_opinfo_inside, i_opinfo_inside, insE, h]
theorem agreed_D (ok : Bool) (r : Int) : callD G0 IP n_opinfo_agreed [.bool ok, .int .i64 r] hp lo q = some (.ret (.tup [.int .i64 (if ok then r else 0), .int .i64 (if ok then 0 else 3)]) hp) := by
  rw [callD_eq]
  cases ok <;> simp [IP_opinfo_agreed, i_opinfo_agreed]
end
end Go.Proofs.YtkofimhnehkdoaaGreatDoor.Rf
end
section
/- Widths of operators: the program's. -/
set_option linter.unusedSimpArgs false
set_option linter.unusedVariables false
namespace Go.Proofs.YtkofimhnehkdoaaGreatDoor.Rf
theorem fdiv_pow {v : Int} (h0 : 0 ≤ v) {w : Nat} : (v.fdiv (2 ^ w) = 0) ↔ v < 2 ^ w := by
  have hp : (0 : Int) < 2 ^ w := Int.pow_pos (by omega)
  rw [Int.fdiv_eq_ediv_of_nonneg _ (by omega)]
  constructor
  · intro h
    have := Int.lt_ediv_add_one_mul_self v hp
    rw [h] at this; simpa using this
  · intro h; exact Int.ediv_eq_zero_of_lt h0 h
section
variable {hp : List HObj} {lo : Nat} (q : Bool)
theorem opLeafW_D (op w v : Int) (hv : 0 ≤ v) : callD G0 IP n_opinfo_leaf [.int .i64 op, .int .i64 w, .int .u64 v] hp lo q = some (.ret (.tup [.int .i64 (leafE op w v).1, .int .i64 (leafE op w v).2]) hp) := by
  rw [callD_eq]
  cases hi : insE w with
  | false => simp [IP_opinfo_leaf, i_opinfo_leaf, inside_D, hi, leafE]
  | true =>
    by_cases h1 : op = 2
    · by_cases h2 : 0 < w
      · have hw : w ≤ 64 := by simp [insE] at hi; exact hi.2
        have h3 : ¬ w < 0 := by omega
        have hm : min w.toNat 64 = w.toNat := by omega
        have hd := fdiv_pow hv (w := w.toNat)
        by_cases h4 : v < 2 ^ w.toNat
        · have h5 : ¬ (2 : Int) ^ w.toNat ≤ v := by omega
          simp [IP_opinfo_leaf, i_opinfo_leaf, inside_D, hi, leafE, h1, h2, h3, IntKind.bits, hm, hd.2 h4, h5]
        · have h5 : (2 : Int) ^ w.toNat ≤ v := by omega
          have h6 : ¬ v.fdiv (2 ^ w.toNat) = 0 := fun e => h4 (hd.1 e)
          simp [IP_opinfo_leaf, i_opinfo_leaf, inside_D, hi, leafE, h1, h2, h3, IntKind.bits, hm, h6, h5]
      · simp [IP_opinfo_leaf, i_opinfo_leaf, inside_D, hi, leafE, h1, h2]
    · simp [IP_opinfo_leaf, i_opinfo_leaf, inside_D, hi, leafE, h1]
theorem resized_D (op w v f : Int) (hf : f ≤ 64) (hv : 0 ≤ v) : callD G0 IP n_opinfo_resized [.int .i64 op, .int .i64 w, .int .u64 v, .int .i64 f] hp lo q = some (.ret (.tup [.int .i64 (resE op w v f).1, .int .i64 (resE op w v f).2]) hp) := by
  rw [callD_eq]
  by_cases h1 : w < 1
  · simp [IP_opinfo_resized, i_opinfo_resized, resE, h1]
  · by_cases h2 : 64 < w
    · simp [IP_opinfo_resized, i_opinfo_resized, resE, h1, h2]
    · by_cases h3 : f < 1
      · simp [IP_opinfo_resized, i_opinfo_resized, resE, h1, h2, h3]
      · by_cases h4 : op = 21
        · by_cases h5 : f < w
          · simp [IP_opinfo_resized, i_opinfo_resized, resE, h1, h2, h3, h4, h5]
          · have e1 : IntKind.wrap .i64 (f - w) = f - w := wrap_small (by omega) (by omega)
            have e2 : IntKind.wrap .u64 (f - w) = f - w := wrapU_small (by omega) (by omega)
            by_cases h6 : f - w < v
            · simp [IP_opinfo_resized, i_opinfo_resized, resE, h1, h2, h3, h4, h5, h6, e1, e2]
            · simp [IP_opinfo_resized, i_opinfo_resized, resE, h1, h2, h3, h4, h5, h6, e1, e2]
        · by_cases h5 : w < f
          · simp [IP_opinfo_resized, i_opinfo_resized, resE, h1, h2, h3, h4, h5]
          · simp [IP_opinfo_resized, i_opinfo_resized, resE, h1, h2, h3, h4, h5]
theorem any_ins (as : List Int) : ((List.range as.length).any fun i => !insE (as.getD i 0)) = !as.all insE := by
  induction as with
  | nil => rfl
  | cons c r ih =>
    rw [List.length_cons, List.range_succ_eq_map]
    simp [List.any_map, Function.comp_def] at ih ⊢
    rw [ih]
end
end Go.Proofs.YtkofimhnehkdoaaGreatDoor.Rf
end
section
/- Widths of operators: the program's. -/
set_option linter.unusedSimpArgs false
set_option linter.unusedVariables false
namespace Go.Proofs.YtkofimhnehkdoaaGreatDoor.Rf
section
variable {hp : List HObj} {lo : Nat} (q : Bool)
def wfr (op w v : Int) (as : List Int) (o : Own) (i : Nat) : Fr := [(0, .int .i64 op), (1, .int .i64 w), (2, .int .u64 v), (3, .list (as.map (AV.int .i64)) o), (22, .list (as.map (AV.int .i64)) o.cp), (23, .int .i64 as.length), (24, .int .i64 i)]
theorem width_loop (op w v : Int) (as : List Int) (o : Own) (ha : as.length ≤ 9223372036854775807) (hp : List HObj) (lo : Nat) : loopD G0 IP lo l_opinfo_Width_0 ⟨wfr op w v as o 0, hp⟩ =
    some (if as.all insE = false then (.ret, ⟨[(8, .int .i64 0), (9, .int .i64 3)], hp⟩) else (.exit 0, ⟨wfr op w v as o as.length ++ [(25, .bool false)], hp⟩)) := by
  have hloop := loop_find (G := G0) (IP := IP) (lo := lo) (b := l_opinfo_Width_0)
    (fun i => ⟨wfr op w v as o i, hp⟩) as.length (fun i => !insE (as.getD i 0))
    (.ret, ⟨[(8, .int .i64 0), (9, .int .i64 3)], hp⟩)
    (.exit 0, ⟨wfr op w v as o as.length ++ [(25, .bool false)], hp⟩)
    (fun i hi hp => by
      have hw := wrap_succ hi ha
      simp [List.getD, hi] at hp
      simp only [wfr]
      rw [← hw]
      simp [l_opinfo_Width_0, hi, inside_D, hp])
    (fun i hi hp => by
      simp [List.getD, hi] at hp
      simp [l_opinfo_Width_0, wfr, hi, inside_D, hp])
    (by simp) (by simp [l_opinfo_Width_0, wfr]) (by simp)
  rw [any_ins] at hloop
  rw [hloop]
  cases as.all insE <;> rfl
theorem width_bad (op w v : Int) (as : List Int) (o : Own) (h : opOk op = false ∨ (as.length : Int) ≠ arE op) : callD G0 IP n_opinfo_Width [.int .i64 op, .int .i64 w, .int .u64 v, .list (as.map (AV.int .i64)) o] hp lo q = some (.ret (.tup [.int .i64 0, .int .i64 4]) hp) := by
  rw [callD_eq]
  cases hk : opOk op with
  | false => simp [IP_opinfo_Width, i_opinfo_Width, known_D, hk]
  | true =>
    have hl : ¬ (as.length : Int) = arE op := by rcases h with h | h; rw [h] at hk; cases hk; exact h
    simp [IP_opinfo_Width, i_opinfo_Width, known_D, arity_D, hk, hl]
theorem width_out (op w v : Int) (as : List Int) (o : Own) (ha : as.length ≤ 9223372036854775807) (hk : opOk op = true) (hl : (as.length : Int) = arE op) (hall : as.all insE = false) : callD G0 IP n_opinfo_Width [.int .i64 op, .int .i64 w, .int .u64 v, .list (as.map (AV.int .i64)) o] hp lo q = some (.ret (.tup [.int .i64 0, .int .i64 3]) hp) := by
  rw [callD_eq]
  have hloop := width_loop op w v as o ha hp hp.length
  rw [if_pos hall] at hloop
  simp only [wfr, Int.natCast_zero, hl] at hloop
  simp [IP_opinfo_Width, i_opinfo_Width, known_D, arity_D, hk, hl, hloop]
theorem width_1 (w v : Int) (hv : 0 ≤ v)  (o : Own) (hall : List.all [] insE = true) : callD G0 IP n_opinfo_Width [.int .i64 1, .int .i64 w, .int .u64 v, .list (([] : List Int).map (AV.int .i64)) o] hp lo q =
    some (.ret (.tup [.int .i64 (leafE 1 w v).1, .int .i64 (leafE 1 w v).2]) hp) := by
  rw [callD_eq]
  have hloop := width_loop 1 w v [] o (by simp) hp hp.length
  rw [if_neg (by simp [hall])] at hloop
  simp [wfr] at hloop
  have hk : opOk 1 = true := rfl
  have hb : arE 1 = 0 := rfl
  have e := fun (hp : List HObj) (lo : Nat) (q : Bool) => opLeafW_D (hp := hp) (lo := lo) q 1 w v hv
  simp [IP_opinfo_Width, i_opinfo_Width, known_D, arity_D, hk, hb, hloop, e]
theorem width_2 (w v : Int) (hv : 0 ≤ v)  (o : Own) (hall : List.all [] insE = true) : callD G0 IP n_opinfo_Width [.int .i64 2, .int .i64 w, .int .u64 v, .list (([] : List Int).map (AV.int .i64)) o] hp lo q =
    some (.ret (.tup [.int .i64 (leafE 2 w v).1, .int .i64 (leafE 2 w v).2]) hp) := by
  rw [callD_eq]
  have hloop := width_loop 2 w v [] o (by simp) hp hp.length
  rw [if_neg (by simp [hall])] at hloop
  simp [wfr] at hloop
  have hk : opOk 2 = true := rfl
  have hb : arE 2 = 0 := rfl
  have e := fun (hp : List HObj) (lo : Nat) (q : Bool) => opLeafW_D (hp := hp) (lo := lo) q 2 w v hv
  simp [IP_opinfo_Width, i_opinfo_Width, known_D, arity_D, hk, hb, hloop, e]
theorem width_24 (w v : Int) (hv : 0 ≤ v)  (o : Own) (hall : List.all [] insE = true) : callD G0 IP n_opinfo_Width [.int .i64 24, .int .i64 w, .int .u64 v, .list (([] : List Int).map (AV.int .i64)) o] hp lo q =
    some (.ret (.tup [.int .i64 (leafE 24 w v).1, .int .i64 (leafE 24 w v).2]) hp) := by
  rw [callD_eq]
  have hloop := width_loop 24 w v [] o (by simp) hp hp.length
  rw [if_neg (by simp [hall])] at hloop
  simp [wfr] at hloop
  have hk : opOk 24 = true := rfl
  have hb : arE 24 = 0 := rfl
  have e := fun (hp : List HObj) (lo : Nat) (q : Bool) => opLeafW_D (hp := hp) (lo := lo) q 24 w v hv
  simp [IP_opinfo_Width, i_opinfo_Width, known_D, arity_D, hk, hb, hloop, e]
theorem width_25 (w v : Int) (hv : 0 ≤ v)  (o : Own) (hall : List.all [] insE = true) : callD G0 IP n_opinfo_Width [.int .i64 25, .int .i64 w, .int .u64 v, .list (([] : List Int).map (AV.int .i64)) o] hp lo q =
    some (.ret (.tup [.int .i64 (leafE 25 w v).1, .int .i64 (leafE 25 w v).2]) hp) := by
  rw [callD_eq]
  have hloop := width_loop 25 w v [] o (by simp) hp hp.length
  rw [if_neg (by simp [hall])] at hloop
  simp [wfr] at hloop
  have hk : opOk 25 = true := rfl
  have hb : arE 25 = 0 := rfl
  have e := fun (hp : List HObj) (lo : Nat) (q : Bool) => opLeafW_D (hp := hp) (lo := lo) q 25 w v hv
  simp [IP_opinfo_Width, i_opinfo_Width, known_D, arity_D, hk, hb, hloop, e]
theorem width_3 (w v : Int) (hv : 0 ≤ v) (a : Int) (o : Own) (hall : List.all [a] insE = true) : callD G0 IP n_opinfo_Width [.int .i64 3, .int .i64 w, .int .u64 v, .list (([a] : List Int).map (AV.int .i64)) o] hp lo q =
    some (.ret (.tup [.int .i64 (((a, 0) : Int × Int)).1, .int .i64 (((a, 0) : Int × Int)).2]) hp) := by
  rw [callD_eq]
  have hloop := width_loop 3 w v [a] o (by simp) hp hp.length
  rw [if_neg (by simp [hall])] at hloop
  simp [wfr] at hloop
  have hk : opOk 3 = true := rfl
  have hb : arE 3 = 1 := rfl
  simp [IP_opinfo_Width, i_opinfo_Width, known_D, arity_D, hk, hb, hloop]
theorem width_4 (w v : Int) (hv : 0 ≤ v) (a : Int) (o : Own) (hall : List.all [a] insE = true) : callD G0 IP n_opinfo_Width [.int .i64 4, .int .i64 w, .int .u64 v, .list (([a] : List Int).map (AV.int .i64)) o] hp lo q =
    some (.ret (.tup [.int .i64 (((a, 0) : Int × Int)).1, .int .i64 (((a, 0) : Int × Int)).2]) hp) := by
  rw [callD_eq]
  have hloop := width_loop 4 w v [a] o (by simp) hp hp.length
  rw [if_neg (by simp [hall])] at hloop
  simp [wfr] at hloop
  have hk : opOk 4 = true := rfl
  have hb : arE 4 = 1 := rfl
  simp [IP_opinfo_Width, i_opinfo_Width, known_D, arity_D, hk, hb, hloop]
theorem width_26 (w v : Int) (hv : 0 ≤ v) (a : Int) (o : Own) (hall : List.all [a] insE = true) : callD G0 IP n_opinfo_Width [.int .i64 26, .int .i64 w, .int .u64 v, .list (([a] : List Int).map (AV.int .i64)) o] hp lo q =
    some (.ret (.tup [.int .i64 (((a, 0) : Int × Int)).1, .int .i64 (((a, 0) : Int × Int)).2]) hp) := by
  rw [callD_eq]
  have hloop := width_loop 26 w v [a] o (by simp) hp hp.length
  rw [if_neg (by simp [hall])] at hloop
  simp [wfr] at hloop
  have hk : opOk 26 = true := rfl
  have hb : arE 26 = 1 := rfl
  simp [IP_opinfo_Width, i_opinfo_Width, known_D, arity_D, hk, hb, hloop]
theorem width_21 (w v : Int) (hv : 0 ≤ v) (a : Int) (o : Own) (hall : List.all [a] insE = true) : callD G0 IP n_opinfo_Width [.int .i64 21, .int .i64 w, .int .u64 v, .list (([a] : List Int).map (AV.int .i64)) o] hp lo q =
    some (.ret (.tup [.int .i64 (resE 21 w v a).1, .int .i64 (resE 21 w v a).2]) hp) := by
  rw [callD_eq]
  have hloop := width_loop 21 w v [a] o (by simp) hp hp.length
  rw [if_neg (by simp [hall])] at hloop
  simp [wfr] at hloop
  have hk : opOk 21 = true := rfl
  have hb : arE 21 = 1 := rfl
  have ha64 : a ≤ 64 := by simp [insE] at hall; exact hall.2
  have e := fun (hp : List HObj) (lo : Nat) (q : Bool) => resized_D (hp := hp) (lo := lo) q 21 w v a ha64 hv
  simp [IP_opinfo_Width, i_opinfo_Width, known_D, arity_D, hk, hb, hloop, e]
theorem width_22 (w v : Int) (hv : 0 ≤ v) (a : Int) (o : Own) (hall : List.all [a] insE = true) : callD G0 IP n_opinfo_Width [.int .i64 22, .int .i64 w, .int .u64 v, .list (([a] : List Int).map (AV.int .i64)) o] hp lo q =
    some (.ret (.tup [.int .i64 (resE 22 w v a).1, .int .i64 (resE 22 w v a).2]) hp) := by
  rw [callD_eq]
  have hloop := width_loop 22 w v [a] o (by simp) hp hp.length
  rw [if_neg (by simp [hall])] at hloop
  simp [wfr] at hloop
  have hk : opOk 22 = true := rfl
  have hb : arE 22 = 1 := rfl
  have ha64 : a ≤ 64 := by simp [insE] at hall; exact hall.2
  have e := fun (hp : List HObj) (lo : Nat) (q : Bool) => resized_D (hp := hp) (lo := lo) q 22 w v a ha64 hv
  simp [IP_opinfo_Width, i_opinfo_Width, known_D, arity_D, hk, hb, hloop, e]
theorem width_23 (w v : Int) (hv : 0 ≤ v) (a : Int) (o : Own) (hall : List.all [a] insE = true) : callD G0 IP n_opinfo_Width [.int .i64 23, .int .i64 w, .int .u64 v, .list (([a] : List Int).map (AV.int .i64)) o] hp lo q =
    some (.ret (.tup [.int .i64 (resE 23 w v a).1, .int .i64 (resE 23 w v a).2]) hp) := by
  rw [callD_eq]
  have hloop := width_loop 23 w v [a] o (by simp) hp hp.length
  rw [if_neg (by simp [hall])] at hloop
  simp [wfr] at hloop
  have hk : opOk 23 = true := rfl
  have hb : arE 23 = 1 := rfl
  have ha64 : a ≤ 64 := by simp [insE] at hall; exact hall.2
  have e := fun (hp : List HObj) (lo : Nat) (q : Bool) => resized_D (hp := hp) (lo := lo) q 23 w v a ha64 hv
  simp [IP_opinfo_Width, i_opinfo_Width, known_D, arity_D, hk, hb, hloop, e]
theorem width_19 (w v : Int) (hv : 0 ≤ v) (a : Int) (b : Int) (c : Int) (o : Own) (hall : List.all [a, b, c] insE = true) : callD G0 IP n_opinfo_Width [.int .i64 19, .int .i64 w, .int .u64 v, .list (([a, b, c] : List Int).map (AV.int .i64)) o] hp lo q =
    some (.ret (.tup [.int .i64 (if a = 1 ∧ b = c then ((b, 0) : Int × Int) else (0, 3)).1, .int .i64 (if a = 1 ∧ b = c then ((b, 0) : Int × Int) else (0, 3)).2]) hp) := by
  rw [callD_eq]
  have hloop := width_loop 19 w v [a, b, c] o (by simp) hp hp.length
  rw [if_neg (by simp [hall])] at hloop
  simp [wfr] at hloop
  have hk : opOk 19 = true := rfl
  have hb : arE 19 = 3 := rfl
  by_cases h1 : a = 1
  · subst h1
    by_cases h2 : b = c
    · subst h2
      simp [IP_opinfo_Width, i_opinfo_Width, known_D, arity_D, hk, hb, hloop, agreed_D]
    · simp [IP_opinfo_Width, i_opinfo_Width, known_D, arity_D, hk, hb, hloop, agreed_D, h2]
  · simp [IP_opinfo_Width, i_opinfo_Width, known_D, arity_D, hk, hb, hloop, agreed_D, h1]
theorem width_20 (w v : Int) (hv : 0 ≤ v) (a : Int) (b : Int) (o : Own) (hall : List.all [a, b] insE = true) : callD G0 IP n_opinfo_Width [.int .i64 20, .int .i64 w, .int .u64 v, .list (([a, b] : List Int).map (AV.int .i64)) o] hp lo q =
    some (.ret (.tup [.int .i64 (if 1 ≤ a ∧ 1 ≤ b ∧ a + b ≤ 64 then ((a + b, 0) : Int × Int) else (0, 3)).1, .int .i64 (if 1 ≤ a ∧ 1 ≤ b ∧ a + b ≤ 64 then ((a + b, 0) : Int × Int) else (0, 3)).2]) hp) := by
  rw [callD_eq]
  have hloop := width_loop 20 w v [a, b] o (by simp) hp hp.length
  rw [if_neg (by simp [hall])] at hloop
  simp [wfr] at hloop
  have hk : opOk 20 = true := rfl
  have hb : arE 20 = 2 := rfl
  have ha : 0 ≤ a ∧ a ≤ 64 ∧ 0 ≤ b ∧ b ≤ 64 := by simp [insE] at hall; omega
  have e1 : IntKind.wrap .i64 (a + b) = a + b := wrap_small (by omega) (by omega)
  by_cases h1 : 1 ≤ a
  · by_cases h2 : 1 ≤ b
    · by_cases h3 : a + b ≤ 64
      · simp [IP_opinfo_Width, i_opinfo_Width, known_D, arity_D, hk, hb, hloop, agreed_D, h1, h2, h3, e1]
      · simp [IP_opinfo_Width, i_opinfo_Width, known_D, arity_D, hk, hb, hloop, agreed_D, h1, h2, h3, e1]
    · simp [IP_opinfo_Width, i_opinfo_Width, known_D, arity_D, hk, hb, hloop, agreed_D, h1, h2, e1]
  · simp [IP_opinfo_Width, i_opinfo_Width, known_D, arity_D, hk, hb, hloop, agreed_D, h1, e1]
theorem width_16 (w v : Int) (hv : 0 ≤ v) (a : Int) (b : Int) (o : Own) (hall : List.all [a, b] insE = true) : callD G0 IP n_opinfo_Width [.int .i64 16, .int .i64 w, .int .u64 v, .list (([a, b] : List Int).map (AV.int .i64)) o] hp lo q =
    some (.ret (.tup [.int .i64 (if a = b then ((1, 0) : Int × Int) else (0, 3)).1, .int .i64 (if a = b then ((1, 0) : Int × Int) else (0, 3)).2]) hp) := by
  rw [callD_eq]
  have hloop := width_loop 16 w v [a, b] o (by simp) hp hp.length
  rw [if_neg (by simp [hall])] at hloop
  simp [wfr] at hloop
  have hk : opOk 16 = true := rfl
  have hb : arE 16 = 2 := rfl
  by_cases h1 : a = b
  · subst h1
    simp [IP_opinfo_Width, i_opinfo_Width, known_D, arity_D, hk, hb, hloop, agreed_D]
  · simp [IP_opinfo_Width, i_opinfo_Width, known_D, arity_D, hk, hb, hloop, agreed_D, h1]
theorem width_17 (w v : Int) (hv : 0 ≤ v) (a : Int) (b : Int) (o : Own) (hall : List.all [a, b] insE = true) : callD G0 IP n_opinfo_Width [.int .i64 17, .int .i64 w, .int .u64 v, .list (([a, b] : List Int).map (AV.int .i64)) o] hp lo q =
    some (.ret (.tup [.int .i64 (if a = b then ((1, 0) : Int × Int) else (0, 3)).1, .int .i64 (if a = b then ((1, 0) : Int × Int) else (0, 3)).2]) hp) := by
  rw [callD_eq]
  have hloop := width_loop 17 w v [a, b] o (by simp) hp hp.length
  rw [if_neg (by simp [hall])] at hloop
  simp [wfr] at hloop
  have hk : opOk 17 = true := rfl
  have hb : arE 17 = 2 := rfl
  by_cases h1 : a = b
  · subst h1
    simp [IP_opinfo_Width, i_opinfo_Width, known_D, arity_D, hk, hb, hloop, agreed_D]
  · simp [IP_opinfo_Width, i_opinfo_Width, known_D, arity_D, hk, hb, hloop, agreed_D, h1]
theorem width_18 (w v : Int) (hv : 0 ≤ v) (a : Int) (b : Int) (o : Own) (hall : List.all [a, b] insE = true) : callD G0 IP n_opinfo_Width [.int .i64 18, .int .i64 w, .int .u64 v, .list (([a, b] : List Int).map (AV.int .i64)) o] hp lo q =
    some (.ret (.tup [.int .i64 (if a = b then ((1, 0) : Int × Int) else (0, 3)).1, .int .i64 (if a = b then ((1, 0) : Int × Int) else (0, 3)).2]) hp) := by
  rw [callD_eq]
  have hloop := width_loop 18 w v [a, b] o (by simp) hp hp.length
  rw [if_neg (by simp [hall])] at hloop
  simp [wfr] at hloop
  have hk : opOk 18 = true := rfl
  have hb : arE 18 = 2 := rfl
  by_cases h1 : a = b
  · subst h1
    simp [IP_opinfo_Width, i_opinfo_Width, known_D, arity_D, hk, hb, hloop, agreed_D]
  · simp [IP_opinfo_Width, i_opinfo_Width, known_D, arity_D, hk, hb, hloop, agreed_D, h1]
theorem width_5 (w v : Int) (hv : 0 ≤ v) (a : Int) (b : Int) (o : Own) (hall : List.all [a, b] insE = true) : callD G0 IP n_opinfo_Width [.int .i64 5, .int .i64 w, .int .u64 v, .list (([a, b] : List Int).map (AV.int .i64)) o] hp lo q =
    some (.ret (.tup [.int .i64 (if a = b then ((a, 0) : Int × Int) else (0, 3)).1, .int .i64 (if a = b then ((a, 0) : Int × Int) else (0, 3)).2]) hp) := by
  rw [callD_eq]
  have hloop := width_loop 5 w v [a, b] o (by simp) hp hp.length
  rw [if_neg (by simp [hall])] at hloop
  simp [wfr] at hloop
  have hk : opOk 5 = true := rfl
  have hb : arE 5 = 2 := rfl
  by_cases h1 : a = b
  · subst h1
    simp [IP_opinfo_Width, i_opinfo_Width, known_D, arity_D, hk, hb, hloop, agreed_D]
  · simp [IP_opinfo_Width, i_opinfo_Width, known_D, arity_D, hk, hb, hloop, agreed_D, h1]
theorem width_6 (w v : Int) (hv : 0 ≤ v) (a : Int) (b : Int) (o : Own) (hall : List.all [a, b] insE = true) : callD G0 IP n_opinfo_Width [.int .i64 6, .int .i64 w, .int .u64 v, .list (([a, b] : List Int).map (AV.int .i64)) o] hp lo q =
    some (.ret (.tup [.int .i64 (if a = b then ((a, 0) : Int × Int) else (0, 3)).1, .int .i64 (if a = b then ((a, 0) : Int × Int) else (0, 3)).2]) hp) := by
  rw [callD_eq]
  have hloop := width_loop 6 w v [a, b] o (by simp) hp hp.length
  rw [if_neg (by simp [hall])] at hloop
  simp [wfr] at hloop
  have hk : opOk 6 = true := rfl
  have hb : arE 6 = 2 := rfl
  by_cases h1 : a = b
  · subst h1
    simp [IP_opinfo_Width, i_opinfo_Width, known_D, arity_D, hk, hb, hloop, agreed_D]
  · simp [IP_opinfo_Width, i_opinfo_Width, known_D, arity_D, hk, hb, hloop, agreed_D, h1]
theorem width_7 (w v : Int) (hv : 0 ≤ v) (a : Int) (b : Int) (o : Own) (hall : List.all [a, b] insE = true) : callD G0 IP n_opinfo_Width [.int .i64 7, .int .i64 w, .int .u64 v, .list (([a, b] : List Int).map (AV.int .i64)) o] hp lo q =
    some (.ret (.tup [.int .i64 (if a = b then ((a, 0) : Int × Int) else (0, 3)).1, .int .i64 (if a = b then ((a, 0) : Int × Int) else (0, 3)).2]) hp) := by
  rw [callD_eq]
  have hloop := width_loop 7 w v [a, b] o (by simp) hp hp.length
  rw [if_neg (by simp [hall])] at hloop
  simp [wfr] at hloop
  have hk : opOk 7 = true := rfl
  have hb : arE 7 = 2 := rfl
  by_cases h1 : a = b
  · subst h1
    simp [IP_opinfo_Width, i_opinfo_Width, known_D, arity_D, hk, hb, hloop, agreed_D]
  · simp [IP_opinfo_Width, i_opinfo_Width, known_D, arity_D, hk, hb, hloop, agreed_D, h1]
theorem width_8 (w v : Int) (hv : 0 ≤ v) (a : Int) (b : Int) (o : Own) (hall : List.all [a, b] insE = true) : callD G0 IP n_opinfo_Width [.int .i64 8, .int .i64 w, .int .u64 v, .list (([a, b] : List Int).map (AV.int .i64)) o] hp lo q =
    some (.ret (.tup [.int .i64 (if a = b then ((a, 0) : Int × Int) else (0, 3)).1, .int .i64 (if a = b then ((a, 0) : Int × Int) else (0, 3)).2]) hp) := by
  rw [callD_eq]
  have hloop := width_loop 8 w v [a, b] o (by simp) hp hp.length
  rw [if_neg (by simp [hall])] at hloop
  simp [wfr] at hloop
  have hk : opOk 8 = true := rfl
  have hb : arE 8 = 2 := rfl
  by_cases h1 : a = b
  · subst h1
    simp [IP_opinfo_Width, i_opinfo_Width, known_D, arity_D, hk, hb, hloop, agreed_D]
  · simp [IP_opinfo_Width, i_opinfo_Width, known_D, arity_D, hk, hb, hloop, agreed_D, h1]
theorem width_9 (w v : Int) (hv : 0 ≤ v) (a : Int) (b : Int) (o : Own) (hall : List.all [a, b] insE = true) : callD G0 IP n_opinfo_Width [.int .i64 9, .int .i64 w, .int .u64 v, .list (([a, b] : List Int).map (AV.int .i64)) o] hp lo q =
    some (.ret (.tup [.int .i64 (if a = b then ((a, 0) : Int × Int) else (0, 3)).1, .int .i64 (if a = b then ((a, 0) : Int × Int) else (0, 3)).2]) hp) := by
  rw [callD_eq]
  have hloop := width_loop 9 w v [a, b] o (by simp) hp hp.length
  rw [if_neg (by simp [hall])] at hloop
  simp [wfr] at hloop
  have hk : opOk 9 = true := rfl
  have hb : arE 9 = 2 := rfl
  by_cases h1 : a = b
  · subst h1
    simp [IP_opinfo_Width, i_opinfo_Width, known_D, arity_D, hk, hb, hloop, agreed_D]
  · simp [IP_opinfo_Width, i_opinfo_Width, known_D, arity_D, hk, hb, hloop, agreed_D, h1]
theorem width_10 (w v : Int) (hv : 0 ≤ v) (a : Int) (b : Int) (o : Own) (hall : List.all [a, b] insE = true) : callD G0 IP n_opinfo_Width [.int .i64 10, .int .i64 w, .int .u64 v, .list (([a, b] : List Int).map (AV.int .i64)) o] hp lo q =
    some (.ret (.tup [.int .i64 (if a = b then ((a, 0) : Int × Int) else (0, 3)).1, .int .i64 (if a = b then ((a, 0) : Int × Int) else (0, 3)).2]) hp) := by
  rw [callD_eq]
  have hloop := width_loop 10 w v [a, b] o (by simp) hp hp.length
  rw [if_neg (by simp [hall])] at hloop
  simp [wfr] at hloop
  have hk : opOk 10 = true := rfl
  have hb : arE 10 = 2 := rfl
  by_cases h1 : a = b
  · subst h1
    simp [IP_opinfo_Width, i_opinfo_Width, known_D, arity_D, hk, hb, hloop, agreed_D]
  · simp [IP_opinfo_Width, i_opinfo_Width, known_D, arity_D, hk, hb, hloop, agreed_D, h1]
theorem width_11 (w v : Int) (hv : 0 ≤ v) (a : Int) (b : Int) (o : Own) (hall : List.all [a, b] insE = true) : callD G0 IP n_opinfo_Width [.int .i64 11, .int .i64 w, .int .u64 v, .list (([a, b] : List Int).map (AV.int .i64)) o] hp lo q =
    some (.ret (.tup [.int .i64 (if a = b then ((a, 0) : Int × Int) else (0, 3)).1, .int .i64 (if a = b then ((a, 0) : Int × Int) else (0, 3)).2]) hp) := by
  rw [callD_eq]
  have hloop := width_loop 11 w v [a, b] o (by simp) hp hp.length
  rw [if_neg (by simp [hall])] at hloop
  simp [wfr] at hloop
  have hk : opOk 11 = true := rfl
  have hb : arE 11 = 2 := rfl
  by_cases h1 : a = b
  · subst h1
    simp [IP_opinfo_Width, i_opinfo_Width, known_D, arity_D, hk, hb, hloop, agreed_D]
  · simp [IP_opinfo_Width, i_opinfo_Width, known_D, arity_D, hk, hb, hloop, agreed_D, h1]
theorem width_12 (w v : Int) (hv : 0 ≤ v) (a : Int) (b : Int) (o : Own) (hall : List.all [a, b] insE = true) : callD G0 IP n_opinfo_Width [.int .i64 12, .int .i64 w, .int .u64 v, .list (([a, b] : List Int).map (AV.int .i64)) o] hp lo q =
    some (.ret (.tup [.int .i64 (if a = b then ((a, 0) : Int × Int) else (0, 3)).1, .int .i64 (if a = b then ((a, 0) : Int × Int) else (0, 3)).2]) hp) := by
  rw [callD_eq]
  have hloop := width_loop 12 w v [a, b] o (by simp) hp hp.length
  rw [if_neg (by simp [hall])] at hloop
  simp [wfr] at hloop
  have hk : opOk 12 = true := rfl
  have hb : arE 12 = 2 := rfl
  by_cases h1 : a = b
  · subst h1
    simp [IP_opinfo_Width, i_opinfo_Width, known_D, arity_D, hk, hb, hloop, agreed_D]
  · simp [IP_opinfo_Width, i_opinfo_Width, known_D, arity_D, hk, hb, hloop, agreed_D, h1]
theorem width_13 (w v : Int) (hv : 0 ≤ v) (a : Int) (b : Int) (o : Own) (hall : List.all [a, b] insE = true) : callD G0 IP n_opinfo_Width [.int .i64 13, .int .i64 w, .int .u64 v, .list (([a, b] : List Int).map (AV.int .i64)) o] hp lo q =
    some (.ret (.tup [.int .i64 (if a = b then ((a, 0) : Int × Int) else (0, 3)).1, .int .i64 (if a = b then ((a, 0) : Int × Int) else (0, 3)).2]) hp) := by
  rw [callD_eq]
  have hloop := width_loop 13 w v [a, b] o (by simp) hp hp.length
  rw [if_neg (by simp [hall])] at hloop
  simp [wfr] at hloop
  have hk : opOk 13 = true := rfl
  have hb : arE 13 = 2 := rfl
  by_cases h1 : a = b
  · subst h1
    simp [IP_opinfo_Width, i_opinfo_Width, known_D, arity_D, hk, hb, hloop, agreed_D]
  · simp [IP_opinfo_Width, i_opinfo_Width, known_D, arity_D, hk, hb, hloop, agreed_D, h1]
theorem width_14 (w v : Int) (hv : 0 ≤ v) (a : Int) (b : Int) (o : Own) (hall : List.all [a, b] insE = true) : callD G0 IP n_opinfo_Width [.int .i64 14, .int .i64 w, .int .u64 v, .list (([a, b] : List Int).map (AV.int .i64)) o] hp lo q =
    some (.ret (.tup [.int .i64 (if a = b then ((a, 0) : Int × Int) else (0, 3)).1, .int .i64 (if a = b then ((a, 0) : Int × Int) else (0, 3)).2]) hp) := by
  rw [callD_eq]
  have hloop := width_loop 14 w v [a, b] o (by simp) hp hp.length
  rw [if_neg (by simp [hall])] at hloop
  simp [wfr] at hloop
  have hk : opOk 14 = true := rfl
  have hb : arE 14 = 2 := rfl
  by_cases h1 : a = b
  · subst h1
    simp [IP_opinfo_Width, i_opinfo_Width, known_D, arity_D, hk, hb, hloop, agreed_D]
  · simp [IP_opinfo_Width, i_opinfo_Width, known_D, arity_D, hk, hb, hloop, agreed_D, h1]
theorem width_15 (w v : Int) (hv : 0 ≤ v) (a : Int) (b : Int) (o : Own) (hall : List.all [a, b] insE = true) : callD G0 IP n_opinfo_Width [.int .i64 15, .int .i64 w, .int .u64 v, .list (([a, b] : List Int).map (AV.int .i64)) o] hp lo q =
    some (.ret (.tup [.int .i64 (if a = b then ((a, 0) : Int × Int) else (0, 3)).1, .int .i64 (if a = b then ((a, 0) : Int × Int) else (0, 3)).2]) hp) := by
  rw [callD_eq]
  have hloop := width_loop 15 w v [a, b] o (by simp) hp hp.length
  rw [if_neg (by simp [hall])] at hloop
  simp [wfr] at hloop
  have hk : opOk 15 = true := rfl
  have hb : arE 15 = 2 := rfl
  by_cases h1 : a = b
  · subst h1
    simp [IP_opinfo_Width, i_opinfo_Width, known_D, arity_D, hk, hb, hloop, agreed_D]
  · simp [IP_opinfo_Width, i_opinfo_Width, known_D, arity_D, hk, hb, hloop, agreed_D, h1]
end
end Go.Proofs.YtkofimhnehkdoaaGreatDoor.Rf
end
section
/- Operators: the reference's. -/
set_option linter.unusedSimpArgs false
set_option linter.unusedVariables false
namespace Go.Proofs.YtkofimhnehkdoaaGreatDoor.Rf
def leafB (op : Int) : Bool := decide (op = 1) || (decide (op = 2) || (decide (op = 24) || decide (op = 25)))
theorem any_eq (op : Int) (l : List Int) : ((List.range l.length).any fun i => decide (l.getD i 0 = op)) = l.any fun x => decide (x = op) := by
  induction l with
  | nil => rfl
  | cons c r ih =>
    rw [List.length_cons, List.range_succ_eq_map]
    simp [List.any_map, Function.comp_def] at ih ⊢
    rw [ih]
theorem eq_comm_dec (a b : Int) : decide (a = b) = decide (b = a) := by
  by_cases h : a = b
  · simp [h]
  · rw [decide_eq_false h, decide_eq_false fun e : b = a => h e.symm]
section
variable {hp : List HObj} {lo : Nat} (q : Bool)
theorem is4_D (op : Int) (l : List Int) (o : Own) (hl : l.length ≤ 9223372036854775807) : callD G0 IP n_saturateref04_Is [.int .i64 op, .list (l.map (AV.int .i64)) o] hp lo q = some (.ret (.bool (l.any fun x => decide (x = op))) hp) := by
  rw [callD_eq]
  have hloop := loop_find (G := G0) (IP := IP) (lo := hp.length) (b := l_saturateref04_Is_0)
    (fun i => ⟨[(0, .int .i64 op), (1, .list (l.map (AV.int .i64)) o), (7, .int .i64 l.length), (8, .int .i64 i)], hp⟩) l.length (fun i => decide (l.getD i 0 = op))
    (.ret, ⟨[(4, .bool true)], hp⟩) (.exit 0, ⟨[(0, .int .i64 op), (1, .list (l.map (AV.int .i64)) o), (7, .int .i64 l.length), (8, .int .i64 l.length), (9, .bool false)], hp⟩)
    (fun i hi hp => by
      have hw := wrap_succ hi hl
      simp [List.getD, hi] at hp
      rw [← hw]
      simp [l_saturateref04_Is_0, hi, show (i : Int) < (l.length : Int) by omega, hp])
    (fun i hi hp => by
      simp [List.getD, hi] at hp
      simp [l_saturateref04_Is_0, hi, show (i : Int) < (l.length : Int) by omega, hp])
    (by simp) (by simp [l_saturateref04_Is_0]) (by simp)
  rw [any_eq] at hloop
  simp only [Int.natCast_zero] at hloop
  cases h : l.any fun x => decide (x = op) with
  | true => rw [h] at hloop; simp only [if_true] at hloop; simp [IP_saturateref04_Is, i_saturateref04_Is, hloop]
  | false => rw [h] at hloop; simp only [Bool.false_eq_true, if_false] at hloop; simp [IP_saturateref04_Is, i_saturateref04_Is, hloop]
theorem leaf4_D (op : Int) : callD G0 IP n_saturateref04_Leaf [.int .i64 op] hp lo q = some (.ret (.bool (leafB op)) hp) := by
  rw [callD_eq]
  have e := fun (hp : List HObj) (lo : Nat) (q : Bool) (o : Own) => is4_D (hp := hp) (lo := lo) q op [1, 2, 24, 25] o (by simp)
  simp only [List.map_cons, List.map_nil, List.any_cons, List.any_nil, Bool.or_false, eq_comm_dec _ op] at e
  simp [IP_saturateref04_Leaf, i_saturateref04_Leaf, e, leafB]
theorem arity4_D (op : Int) : callD G0 IP n_saturateref04_Arity [.int .i64 op] hp lo q = some (.ret (.int .i64 (arE op)) hp) := by
  rw [callD_eq]
  have e := fun (hp : List HObj) (lo : Nat) (q : Bool) (o : Own) => is4_D (hp := hp) (lo := lo) q op [3, 4, 21, 22, 23, 26] o (by simp)
  simp only [List.map_cons, List.map_nil, List.any_cons, List.any_nil, Bool.or_false, eq_comm_dec _ op] at e
  by_cases h1 : op < 1
  · have hk : opOk op = false := by simp [opOk]; omega
    simp [IP_saturateref04_Arity, i_saturateref04_Arity, arE, hk, h1]
  · by_cases h2 : 26 < op
    · have hk : opOk op = false := by simp [opOk]; omega
      simp [IP_saturateref04_Arity, i_saturateref04_Arity, arE, hk, h1, h2]
    · have hk : opOk op = true := by simp [opOk]; omega
      cases hL : leafB op with
      | true =>
        have h3 : op = 1 ∨ op = 2 ∨ op = 24 ∨ op = 25 := by simpa [leafB] using hL
        simp [IP_saturateref04_Arity, i_saturateref04_Arity, arE, hk, h1, h2, leaf4_D, hL, h3]
      | false =>
        have h3 : ¬ (op = 1 ∨ op = 2 ∨ op = 24 ∨ op = 25) := by simpa [leafB] using hL
        by_cases h4 : op = 3 ∨ op = 4 ∨ op = 21 ∨ op = 22 ∨ op = 23 ∨ op = 26
        · have h5 : (decide (op = 3) || (decide (op = 4) || (decide (op = 21) || (decide (op = 22) || (decide (op = 23) || decide (op = 26)))))) = true := by simpa using h4
          rw [h5] at e
          rw [arE, if_neg (by simp [hk]), if_neg h3, if_pos h4]
          simp [IP_saturateref04_Arity, i_saturateref04_Arity, h1, h2, leaf4_D, hL, e]
        · have h5 : (decide (op = 3) || (decide (op = 4) || (decide (op = 21) || (decide (op = 22) || (decide (op = 23) || decide (op = 26)))))) = false := by simpa using h4
          rw [h5] at e
          rw [arE, if_neg (by simp [hk]), if_neg h3, if_neg h4]
          by_cases h6 : op = 19
          · subst h6
            simp [IP_saturateref04_Arity, i_saturateref04_Arity, leaf4_D, hL, e]
          · simp [IP_saturateref04_Arity, i_saturateref04_Arity, h1, h2, leaf4_D, hL, e, h6]
theorem wid4_D (w : Int) : callD G0 IP n_saturateref04_width [.int .i64 w] hp lo q = some (.ret (.bool (insE w)) hp) := by
  rw [callD_eq]
  by_cases h : 0 ≤ w
  · by_cases h2 : w ≤ 64 <;> simp [IP_saturateref04_width, i_saturateref04_width, insE, h, h2]
  · simp [IP_saturateref04_width, i_saturateref04_width, insE, h]
theorem leafW4_D (op w v : Int) (hv : v < 18446744073709551616) : callD G0 IP n_saturateref04_leaf [.int .i64 op, .int .i64 w, .int .u64 v] hp lo q = some (.ret (.tup [.int .i64 (leafE op w v).1, .int .i64 (leafE op w v).2]) hp) := by
  rw [callD_eq]
  cases hi : insE w with
  | false => simp [IP_saturateref04_leaf, i_saturateref04_leaf, wid4_D, hi, leafE]
  | true =>
    have hw : 0 ≤ w ∧ w ≤ 64 := by simpa [insE] using hi
    by_cases h1 : op = 2
    · by_cases h2 : 0 < w
      · by_cases h3 : w < 64
        · have e1 : IntKind.wrap .u64 w = w := wrapU_small (by omega) (by omega)
          have h4 : ¬ w < 0 := by omega
          have hm : min w.toNat 64 = w.toNat := by omega
          have hp2 : (2 : Int) ^ w.toNat < 18446744073709551616 := by
            have : (2 : Nat) ^ w.toNat < 2 ^ 64 := Nat.pow_lt_pow_right (by omega) (by omega)
            have h := Int.ofNat_lt.2 this
            simpa using h
          have hp0 : (0 : Int) < 2 ^ w.toNat := Int.pow_pos (by omega)
          have e2 : IntKind.wrap .u64 (1 * 2 ^ w.toNat) = 2 ^ w.toNat := by rw [Int.one_mul]; exact wrapU_small (by omega) (by omega)
          rw [Int.one_mul] at e2
          by_cases h5 : (2 : Int) ^ w.toNat ≤ v
          · simp [IP_saturateref04_leaf, i_saturateref04_leaf, wid4_D, hi, leafE, h1, h2, h3, e1, h4, IntKind.bits, hm, e2, h5]
          · simp [IP_saturateref04_leaf, i_saturateref04_leaf, wid4_D, hi, leafE, h1, h2, h3, e1, h4, IntKind.bits, hm, e2, h5]
        · have hw64 : w = 64 := by omega
          subst hw64
          have h5 : ¬ (18446744073709551616 : Int) ≤ v := by omega
          have h6 : ¬ (2 : Int) ^ (64 : Int).toNat ≤ v := h5
          simp [IP_saturateref04_leaf, i_saturateref04_leaf, wid4_D, hi, leafE, h1, h5, h6]
      · simp [IP_saturateref04_leaf, i_saturateref04_leaf, wid4_D, hi, leafE, h1, h2]
    · simp [IP_saturateref04_leaf, i_saturateref04_leaf, wid4_D, hi, leafE, h1]
theorem parts4_D (op w v f : Int) (hf : f ≤ 64) : callD G0 IP n_saturateref04_parts [.int .i64 op, .int .i64 w, .int .u64 v, .int .i64 f] hp lo q = some (.ret (.tup [.int .i64 (resE op w v f).1, .int .i64 (resE op w v f).2]) hp) := by
  rw [callD_eq]
  cases hi : insE w with
  | false =>
    have h1 : w < 1 ∨ 64 < w ∨ f < 1 := by simp [insE] at hi; omega
    simp [IP_saturateref04_parts, i_saturateref04_parts, wid4_D, hi, resE, h1]
  | true =>
    have hw : 0 ≤ w ∧ w ≤ 64 := by simpa [insE] using hi
    have h2 : ¬ 64 < w := by omega
    by_cases h1 : w < 1
    · simp [IP_saturateref04_parts, i_saturateref04_parts, wid4_D, hi, resE, h1]
    · by_cases h3 : f < 1
      · simp [IP_saturateref04_parts, i_saturateref04_parts, wid4_D, hi, resE, h1, h2, h3]
      · by_cases h4 : op = 21
        · by_cases h5 : f < w
          · simp [IP_saturateref04_parts, i_saturateref04_parts, wid4_D, hi, resE, h1, h2, h3, h4, h5]
          · have e1 : IntKind.wrap .i64 (f - w) = f - w := wrap_small (by omega) (by omega)
            have e2 : IntKind.wrap .u64 (f - w) = f - w := wrapU_small (by omega) (by omega)
            by_cases h6 : f - w < v
            · simp [IP_saturateref04_parts, i_saturateref04_parts, wid4_D, hi, resE, h1, h2, h3, h4, h5, h6, e1, e2]
            · simp [IP_saturateref04_parts, i_saturateref04_parts, wid4_D, hi, resE, h1, h2, h3, h4, h5, h6, e1, e2]
        · by_cases h5 : w < f
          · simp [IP_saturateref04_parts, i_saturateref04_parts, wid4_D, hi, resE, h1, h2, h3, h4, h5]
          · simp [IP_saturateref04_parts, i_saturateref04_parts, wid4_D, hi, resE, h1, h2, h3, h4, h5]
end
end Go.Proofs.YtkofimhnehkdoaaGreatDoor.Rf
end
section
/- Widths of operators: the program's, joined; names. -/
set_option linter.unusedSimpArgs false
set_option linter.unusedVariables false
namespace Go.Proofs.YtkofimhnehkdoaaGreatDoor.Rf
theorem len0 {as : List Int} (h : (as.length : Int) = 0) : as = [] := List.eq_nil_of_length_eq_zero (by omega)
theorem len1 {as : List Int} (h : (as.length : Int) = 1) : ∃ a, as = [a] := by
  rcases as with _ | ⟨a, _ | ⟨b, r⟩⟩
  · simp at h
  · exact ⟨a, rfl⟩
  · simp at h; omega
theorem len2 {as : List Int} (h : (as.length : Int) = 2) : ∃ a b, as = [a, b] := by
  rcases as with _ | ⟨a, _ | ⟨b, _ | ⟨c, r⟩⟩⟩
  · simp at h
  · simp at h
  · exact ⟨a, b, rfl⟩
  · simp at h; omega
theorem len3 {as : List Int} (h : (as.length : Int) = 3) : ∃ a b c, as = [a, b, c] := by
  rcases as with _ | ⟨a, _ | ⟨b, _ | ⟨c, _ | ⟨d, r⟩⟩⟩⟩
  · simp at h
  · simp at h
  · simp at h
  · exact ⟨a, b, c, rfl⟩
  · simp at h; omega
theorem widE_in {op w v : Int} {as : List Int} (h : ¬ (opOk op = false ∨ (as.length : Int) ≠ arE op)) (hall : as.all insE = true) : widE op w v as = (if op = 1 ∨ op = 2 ∨ op = 24 ∨ op = 25 then leafE op w v else
        if op = 3 ∨ op = 4 ∨ op = 26 then (as.getD 0 0, 0) else
        if op = 21 ∨ op = 22 ∨ op = 23 then resE op w v (as.getD 0 0) else
        if op = 19 then (if as.getD 0 0 = 1 ∧ as.getD 1 0 = as.getD 2 0 then (as.getD 1 0, 0) else (0, 3)) else
        if op = 20 then (if 1 ≤ as.getD 0 0 ∧ 1 ≤ as.getD 1 0 ∧ as.getD 0 0 + as.getD 1 0 ≤ 64 then (as.getD 0 0 + as.getD 1 0, 0) else (0, 3)) else
        if op = 16 ∨ op = 17 ∨ op = 18 then (if as.getD 0 0 = as.getD 1 0 then (1, 0) else (0, 3)) else
        if as.getD 0 0 = as.getD 1 0 then (as.getD 0 0, 0) else (0, 3)) := by
  rw [widE, if_neg h, if_neg (by simp [hall])]
section
variable {hp : List HObj} {lo : Nat} (q : Bool)
theorem width_D (op w v : Int) (hv : 0 ≤ v) (as : List Int) (o : Own) (ha : as.length ≤ 9223372036854775807) : callD G0 IP n_opinfo_Width [.int .i64 op, .int .i64 w, .int .u64 v, .list (as.map (AV.int .i64)) o] hp lo q =
    some (.ret (.tup [.int .i64 (widE op w v as).1, .int .i64 (widE op w v as).2]) hp) := by
  by_cases h : opOk op = false ∨ (as.length : Int) ≠ arE op
  · rw [width_bad q op w v as o h, widE, if_pos h]
  · have hk : opOk op = true := by cases hk : opOk op <;> simp_all
    have hl : (as.length : Int) = arE op := Decidable.byContradiction fun e => h (.inr e)
    cases hall : as.all insE with
    | false => rw [width_out q op w v as o ha hk hl hall, widE, if_neg h, if_pos hall]
    | true =>
      rw [widE_in h hall]
      rcases opOk_cases hk with rfl | rfl | rfl | rfl | rfl | rfl | rfl | rfl | rfl | rfl | rfl | rfl | rfl | rfl | rfl | rfl | rfl | rfl | rfl | rfl | rfl | rfl | rfl | rfl | rfl | rfl
      · obtain rfl := len0 hl; exact width_1 q w v hv o hall
      · obtain rfl := len0 hl; exact width_2 q w v hv o hall
      · obtain ⟨a, rfl⟩ := len1 hl; exact width_3 q w v hv a o hall
      · obtain ⟨a, rfl⟩ := len1 hl; exact width_4 q w v hv a o hall
      · obtain ⟨a, b, rfl⟩ := len2 hl; exact width_5 q w v hv a b o hall
      · obtain ⟨a, b, rfl⟩ := len2 hl; exact width_6 q w v hv a b o hall
      · obtain ⟨a, b, rfl⟩ := len2 hl; exact width_7 q w v hv a b o hall
      · obtain ⟨a, b, rfl⟩ := len2 hl; exact width_8 q w v hv a b o hall
      · obtain ⟨a, b, rfl⟩ := len2 hl; exact width_9 q w v hv a b o hall
      · obtain ⟨a, b, rfl⟩ := len2 hl; exact width_10 q w v hv a b o hall
      · obtain ⟨a, b, rfl⟩ := len2 hl; exact width_11 q w v hv a b o hall
      · obtain ⟨a, b, rfl⟩ := len2 hl; exact width_12 q w v hv a b o hall
      · obtain ⟨a, b, rfl⟩ := len2 hl; exact width_13 q w v hv a b o hall
      · obtain ⟨a, b, rfl⟩ := len2 hl; exact width_14 q w v hv a b o hall
      · obtain ⟨a, b, rfl⟩ := len2 hl; exact width_15 q w v hv a b o hall
      · obtain ⟨a, b, rfl⟩ := len2 hl; exact width_16 q w v hv a b o hall
      · obtain ⟨a, b, rfl⟩ := len2 hl; exact width_17 q w v hv a b o hall
      · obtain ⟨a, b, rfl⟩ := len2 hl; exact width_18 q w v hv a b o hall
      · obtain ⟨a, b, c, rfl⟩ := len3 hl; exact width_19 q w v hv a b c o hall
      · obtain ⟨a, b, rfl⟩ := len2 hl; exact width_20 q w v hv a b o hall
      · obtain ⟨a, rfl⟩ := len1 hl; exact width_21 q w v hv a o hall
      · obtain ⟨a, rfl⟩ := len1 hl; exact width_22 q w v hv a o hall
      · obtain ⟨a, rfl⟩ := len1 hl; exact width_23 q w v hv a o hall
      · obtain rfl := len0 hl; exact width_24 q w v hv o hall
      · obtain rfl := len0 hl; exact width_25 q w v hv o hall
      · obtain ⟨a, rfl⟩ := len1 hl; exact width_26 q w v hv a o hall
end
end Go.Proofs.YtkofimhnehkdoaaGreatDoor.Rf
end
section
/- The reference's names of operators. -/
set_option linter.unusedSimpArgs false
set_option linter.unusedVariables false
namespace Go.Proofs.YtkofimhnehkdoaaGreatDoor.Rf
section
variable {hp : List HObj} {lo : Nat} (q : Bool)
theorem nameSel {n : Nat} (h : n < 27) : ([AV.str [], AV.str [118, 97, 114], AV.str [99, 111, 110, 115, 116], AV.str [110, 111, 116], AV.str [110, 101, 103], AV.str [97, 110, 100], AV.str [111, 114], AV.str [120, 111, 114], AV.str [97, 100, 100], AV.str [115, 117, 98], AV.str [109, 117, 108], AV.str [117, 100, 105, 118], AV.str [117, 114, 101, 109], AV.str [115, 104, 108], AV.str [108, 115, 104, 114], AV.str [97, 115, 104, 114], AV.str [101, 113], AV.str [117, 108, 116], AV.str [115, 108, 116], AV.str [105, 116, 101], AV.str [99, 111, 110, 99, 97, 116], AV.str [101, 120, 116, 114, 97, 99, 116], AV.str [122, 101, 120, 116], AV.str [115, 101, 120, 116], AV.str [104, 111, 108, 101], AV.str [110, 117, 109], AV.str [101, 118, 97, 108]])[n]? = some (AV.str (nm n)) := by
  have e := g_0_at h
  rw [List.drop_eq_getElem_cons (by rw [g_0_len]; exact h)] at e
  simp only [List.take_succ_cons, List.take_zero, List.cons.injEq, and_true] at e
  show g_0[n]? = _
  rw [List.getElem?_eq_getElem (by rw [g_0_len]; exact h), e]
theorem name4_D (op : Int) : callD G0 IP n_saturateref04_Name [.int .i64 op] hp lo q = some (.ret (.str (nameE op)) hp) := by
  rw [callD_eq]
  cases h : opOk op with
  | false =>
    have h1 : op < 1 ∨ ¬ op < 1 ∧ 26 < op := by simp [opOk] at h; omega
    rcases h1 with h1 | ⟨h1, h2⟩
    · simp [IP_saturateref04_Name, i_saturateref04_Name, h1, h, nameE]
    · simp [IP_saturateref04_Name, i_saturateref04_Name, h1, h2, h, nameE]
  | true =>
    obtain ⟨n, rfl, h1, h2⟩ := opOk_nat h
    have e1 : (n : Int) < 27 := by omega
    have e2 : n + 1 ≤ 27 := by omega
    have e3 : ¬ (n : Int) < 1 := by omega
    have e4 : ¬ (26 : Int) < n := by omega
    simp [IP_saturateref04_Name, i_saturateref04_Name, h, nameE, e1, e2, e3, e4, nameSel (show n < 27 by omega)]
end
end Go.Proofs.YtkofimhnehkdoaaGreatDoor.Rf
end
