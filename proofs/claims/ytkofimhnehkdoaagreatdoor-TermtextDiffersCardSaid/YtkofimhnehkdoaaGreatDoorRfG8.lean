/- A part of the proof: see the last text. -/
import Derived.Test.YtkofimhnehkdoaaGreatDoorRfG1
import Derived.Test.YtkofimhnehkdoaaGreatDoorRfG6
import Derived.Stop.LaidErr
import Derived.LaidSub
import Derived.Test.YtkofimhnehkdoaaGreatDoorRfG7
section
set_option linter.unusedSimpArgs false
set_option linter.unusedVariables false
namespace Go.Proofs.YtkofimhnehkdoaaGreatDoor.Rf
def CallLe (c d : CallF) : Prop := ∀ f vs hp lo q r, c f vs hp lo q = some r → d f vs hp lo q = some r
def LoopLe (c d : LoopF) : Prop := ∀ b st r, c b st = some r → d b st = some r
section
variable {G : Nat → Option (List AV)} {c d : CallF} {lo : Nat}
theorem evalOp_mono (h : CallLe c d) {o : IOp} {st : St} {r : OpR} (e : evalOp G c lo o st = some r) : evalOp G d lo o st = some r := by
  cases o
  case call f xs q =>
    simp only [evalOp] at e ⊢
    split at e
    · cases e
    · rename_i hp
      rw [if_neg hp]
      split at e
      · split at e
        · cases e
        · rename_i hpc
          rw [if_neg hpc]
          split at e
          · rename_i hc; rw [h _ _ _ _ _ _ hc]; exact e
          · rename_i hc; rw [h _ _ _ _ _ _ hc]; exact e
          · cases e
      · cases e
  all_goals exact e
theorem evalOps_mono (h : CallLe c d) : ∀ {os : List IOper} {st : St} {r : Ex × St}, evalOps G c lo os st = some r → evalOps G d lo os st = some r
  | [], st, r, e => e
  | o :: os, st, r, e => by
    simp only [evalOps] at e ⊢
    split at e
    · split at e
      · rename_i ho; rw [evalOp_mono h ho]
        split at e
        · rename_i hp; simp only [hp]; exact evalOps_mono h e
        · cases e
      · rename_i ho; rw [evalOp_mono h ho]; exact e
      · cases e
    · split at e
      · rename_i hp; exact evalOps_mono h e
      · cases e
    · cases e
theorem evalDraw_mono (h : CallLe c d) {ops : List IOper} {pans : List Nat} : ∀ {ord : List Nat} {st : St} {r : Ex × St}, evalDraw G c lo ops pans ord st = some r → evalDraw G d lo ops pans ord st = some r
  | [], st, r, e => e
  | i :: ord, st, r, e => by
    simp only [evalDraw] at e ⊢
    split at e
    · cases e
    · split at e
      · rename_i ho; rw [evalOps_mono h ho]; exact evalDraw_mono h e
      · rename_i ho; rw [evalOps_mono h ho]; exact e
      · cases e
theorem evalC_mono (h : CallLe c d) {l m : LoopF} (hl : LoopLe l m) : ∀ {x : ICode} {st : St} {r : Ex × St}, evalC G c l lo x st = some r → evalC G d m lo x st = some r := by
  intro x
  induction x with
  | skip => intro st r e; exact e
  | region ops live =>
    intro st r e
    simp only [evalC] at e ⊢
    split at e
    · rename_i ho; rw [evalOps_mono h ho]; exact e
    · rename_i hne
      rw [evalOps_mono h e]
      split
      · rename_i s1 hh; cases hh; exact absurd e (by simpa using hne s1)
      · rfl
  | draw ops ord pans live =>
    intro st r e
    simp only [evalC] at e ⊢
    cases hb : evalDraw G c lo ops pans ord st with
    | none => rw [hb] at e; cases e
    | some x => rw [evalDraw_mono h hb]; rw [hb] at e; exact e
  | seq a b iha ihb =>
    intro st r e
    simp only [evalC] at e ⊢
    split at e
    · rename_i ho; rw [iha ho]; exact ihb e
    · rename_i hne
      rw [iha e]
      split
      · rename_i s1 hh; cases hh; exact absurd e (by simpa using hne s1)
      · rfl
  | cond c a b iha ihb =>
    intro st r e
    simp only [evalC] at e ⊢
    split at e
    · split at e
      · rename_i h1; rw [if_pos h1]; exact iha e
      · rename_i h1; rw [if_neg h1]; exact ihb e
    · cases e
  | block id b ih =>
    intro st r e
    simp only [evalC] at e ⊢
    split at e
    · rename_i ho; rw [ih ho]; exact e
    · rename_i hne
      rw [ih e]
      split
      · rename_i i s1 hh; cases hh; exact absurd e (by simpa using hne i s1)
      · rfl
  | loop b ih => intro st r e; exact hl _ _ _ e
  | exit id => intro st r e; exact e
  | ret => intro st r e; exact e
  | stuck => intro st r e; exact e
theorem evalRecv_mono (h : CallLe c d) {l m : LoopF} (hl : LoopLe l m) {IP : IProg} {f : Nat} {caps : List AV} {hp : List HObj} {v : AV} {r : List HObj} (e : evalRecv G IP c l lo f caps hp v = some r) : evalRecv G IP d m lo f caps hp v = some r := by
  simp only [evalRecv] at e ⊢
  split at e
  · cases e
  · split at e
    · split at e
      · cases e
      · rename_i hc
        rw [if_neg hc]
        split at e
        · rename_i ho; rw [evalC_mono h hl ho]; exact e
        · rename_i ho; rw [evalC_mono h hl ho]; exact e
        · cases e
    · cases e
theorem evalFin1_mono (h : CallLe c d) {l m : LoopF} (hl : LoopLe l m) {IP : IProg} {ds : DSpec} {s3 : St} {v : AV} {r : Ex × St} (e : evalFin1 G IP c l lo ds s3 v = some r) : evalFin1 G IP d m lo ds s3 v = some r := by
  simp only [evalFin1] at e ⊢
  split at e
  · split at e
    · rename_i h4; rw [evalRecv_mono h hl h4]; exact e
    · cases e
  · cases e
theorem evalFin_mono (h : CallLe c d) {l m : LoopF} (hl : LoopLe l m) {IP : IProg} {ds : DSpec} {b : ICode} {st : St} {r : Ex × St} (e : evalFin G IP c l lo ds (evalC G c l lo b st) = some r) : evalFin G IP d m lo ds (evalC G d m lo b st) = some r := by
  cases hb : evalC G c l lo b st with
  | none => rw [hb] at e; simp [evalFin] at e
  | some x =>
    rw [evalC_mono h hl hb]
    rw [hb] at e
    obtain ⟨ex, s3⟩ := x
    cases ex <;> simp only [evalFin] at e ⊢ <;> first | exact evalFin1_mono h hl e | (cases e; done)
theorem evalF_mono (h : CallLe c d) {l m : LoopF} (hl : LoopLe l m) {IP : IProg} {fn : IFun} {st : St} {r : Ex × St} (e : evalF G IP c l lo fn st = some r) : evalF G IP d m lo fn st = some r := by
  simp only [evalF] at e ⊢
  split at e
  · exact evalC_mono h hl e
  · split at e
    · rename_i ho
      rw [evalC_mono h hl ho]
      simp only
      split at e
      · rename_i hc; rw [if_pos hc]; exact evalFin_mono h hl e
      · cases e
    · rename_i hne
      rw [evalC_mono h hl e]
      split
      · rename_i s1 hh; cases hh; exact absurd e (by simpa using hne s1)
      · rfl
theorem run_succ (IP : IProg) : ∀ k, CallLe (run G IP k).1 (run G IP (k + 1)).1 ∧ ∀ lo, LoopLe ((run G IP k).2 lo) ((run G IP (k + 1)).2 lo)
  | 0 => ⟨fun f vs hp lo q r e => by simp [run] at e, fun lo b st r e => by simp [run] at e⟩
  | k + 1 => by
    obtain ⟨h1, h2⟩ := run_succ IP k
    refine ⟨fun f vs hp lo q r e => ?_, fun lo b st r e => ?_⟩
    · rw [show (run G IP (k + 1)).1 = callBody G IP (run G IP k).1 (run G IP k).2 from rfl] at e
      rw [show (run G IP (k + 1 + 1)).1 = callBody G IP (run G IP (k + 1)).1 (run G IP (k + 1)).2 from rfl]
      simp only [callBody] at e ⊢
      split at e
      · cases e
      · rename_i fn hfn
        split at e
        · cases e
        · rename_i hc
          rw [if_neg hc]
          split at e
          · rename_i ho; rw [evalF_mono h1 (h2 _) ho]; exact e
          · rename_i ho; rw [evalF_mono h1 (h2 _) ho]; exact e
          · rename_i ho; rw [evalF_mono h1 (h2 _) ho]; exact e
          · cases e
    · rw [show (run G IP (k + 1)).2 lo = loopBody G (run G IP k).1 (run G IP k).2 lo from rfl] at e
      rw [show (run G IP (k + 1 + 1)).2 lo = loopBody G (run G IP (k + 1)).1 (run G IP (k + 1)).2 lo from rfl]
      simp only [loopBody] at e ⊢
      split at e
      · rename_i ho; rw [evalC_mono h1 (h2 _) ho]; exact h2 _ _ _ _ e
      · rename_i hne
        rw [evalC_mono h1 (h2 _) e]
        split
        · rename_i s1 hh; cases hh; exact absurd e (by simpa using hne s1)
        · rfl
theorem run_mono {IP : IProg} {k k' : Nat} (h : k ≤ k') : CallLe (run G IP k).1 (run G IP k').1 ∧ ∀ lo, LoopLe ((run G IP k).2 lo) ((run G IP k').2 lo) := by
  induction h with
  | refl => exact ⟨fun _ _ _ _ _ _ e => e, fun _ _ _ _ e => e⟩
  | step h ih =>
    obtain ⟨a, b⟩ := run_succ (G := G) IP _
    exact ⟨fun f vs hp lo q r e => a _ _ _ _ _ _ (ih.1 _ _ _ _ _ _ e), fun lo x st r e => b lo _ _ _ (ih.2 lo _ _ _ e)⟩
end
end Go.Proofs.YtkofimhnehkdoaaGreatDoor.Rf
end
section
set_option linter.unusedSimpArgs false
set_option linter.unusedVariables false
namespace Go.Proofs.YtkofimhnehkdoaaGreatDoor.Rf
section
variable (G : Nat → Option (List AV)) (IP : IProg)
open Classical in
noncomputable def callD : CallF := fun f vs hp lo q => if h : ∃ k r, (run G IP k).1 f vs hp lo q = some r then some h.choose_spec.choose else none
open Classical in
noncomputable def loopD (lo : Nat) : LoopF := fun b st => if h : ∃ k r, (run G IP k).2 lo b st = some r then some h.choose_spec.choose else none
variable {G IP}
theorem callD_iff {f : Nat} {vs : List AV} {hp : List HObj} {lo : Nat} {q : Bool} {r : COut} : callD G IP f vs hp lo q = some r ↔ ∃ k, (run G IP k).1 f vs hp lo q = some r := by
  unfold callD
  constructor
  · intro h
    split at h
    · rename_i hh; cases h; exact ⟨_, hh.choose_spec.choose_spec⟩
    · cases h
  · rintro ⟨k, hk⟩
    have hh : ∃ k r, (run G IP k).1 f vs hp lo q = some r := ⟨k, r, hk⟩
    rw [dif_pos hh]
    have e1 := (run_mono (G := G) (IP := IP) (Nat.le_max_left k hh.choose)).1 _ _ _ _ _ _ hk
    have e2 := (run_mono (G := G) (IP := IP) (Nat.le_max_right k hh.choose)).1 _ _ _ _ _ _ hh.choose_spec.choose_spec
    rw [e1] at e2; exact e2.symm
theorem loopD_iff {lo : Nat} {b : ICode} {st : St} {r : Ex × St} : loopD G IP lo b st = some r ↔ ∃ k, (run G IP k).2 lo b st = some r := by
  unfold loopD
  constructor
  · intro h
    split at h
    · rename_i hh; cases h; exact ⟨_, hh.choose_spec.choose_spec⟩
    · cases h
  · rintro ⟨k, hk⟩
    have hh : ∃ k r, (run G IP k).2 lo b st = some r := ⟨k, r, hk⟩
    rw [dif_pos hh]
    have e1 := (run_mono (G := G) (IP := IP) (Nat.le_max_left k hh.choose)).2 lo _ _ _ hk
    have e2 := (run_mono (G := G) (IP := IP) (Nat.le_max_right k hh.choose)).2 lo _ _ _ hh.choose_spec.choose_spec
    rw [e1] at e2; exact e2.symm
theorem run_callD (k : Nat) : CallLe (run G IP k).1 (callD G IP) := fun _ _ _ _ _ _ h => callD_iff.2 ⟨k, h⟩
theorem run_loopD (k lo : Nat) : LoopLe ((run G IP k).2 lo) (loopD G IP lo) := fun _ _ _ h => loopD_iff.2 ⟨k, h⟩
theorem evalOp_cont {lo : Nat} {o : IOp} {st : St} {r : OpR} (e : evalOp G (callD G IP) lo o st = some r) : ∃ k, evalOp G (run G IP k).1 lo o st = some r := by
  cases o
  case call f xs q =>
    simp only [evalOp] at e ⊢
    split at e
    · cases e
    · rename_i hp
      simp only [if_neg hp]
      split at e
      · split at e
        · cases e
        · rename_i hpc
          simp only [if_neg hpc]
          split at e
          · rename_i hc; obtain ⟨k, hk⟩ := callD_iff.1 hc; exact ⟨k, by rw [hk]; exact e⟩
          · rename_i hc; obtain ⟨k, hk⟩ := callD_iff.1 hc; exact ⟨k, by rw [hk]; exact e⟩
          · cases e
      · cases e
  all_goals exact ⟨0, e⟩
theorem evalOps_cont {lo : Nat} : ∀ {os : List IOper} {st : St} {r : Ex × St}, evalOps G (callD G IP) lo os st = some r → ∃ k, evalOps G (run G IP k).1 lo os st = some r
  | [], st, r, e => ⟨0, e⟩
  | o :: os, st, r, e => by
    simp only [evalOps] at e ⊢
    split at e
    · split at e
      · rename_i ho
        obtain ⟨k1, h1⟩ := evalOp_cont ho
        split at e
        · rename_i hp
          obtain ⟨k2, h2⟩ := evalOps_cont e
          refine ⟨max k1 k2, ?_⟩
          rw [evalOp_mono (run_mono (Nat.le_max_left k1 k2)).1 h1]
          simp only [hp]
          exact evalOps_mono (run_mono (Nat.le_max_right k1 k2)).1 h2
        · cases e
      · rename_i ho
        obtain ⟨k1, h1⟩ := evalOp_cont ho
        exact ⟨k1, by rw [h1]; exact e⟩
      · cases e
    · split at e
      · rename_i hp
        exact evalOps_cont e
      · cases e
    · cases e
theorem evalDraw_cont {lo : Nat} {ops : List IOper} {pans : List Nat} : ∀ {ord : List Nat} {st : St} {r : Ex × St}, evalDraw G (callD G IP) lo ops pans ord st = some r → ∃ k, evalDraw G (run G IP k).1 lo ops pans ord st = some r
  | [], st, r, e => ⟨0, e⟩
  | i :: ord, st, r, e => by
    simp only [evalDraw] at e ⊢
    split at e
    · cases e
    · split at e
      · rename_i ho
        obtain ⟨k1, h1⟩ := evalOps_cont ho
        obtain ⟨k2, h2⟩ := evalDraw_cont e
        refine ⟨max k1 k2, ?_⟩
        rw [evalOps_mono (run_mono (Nat.le_max_left k1 k2)).1 h1]
        exact evalDraw_mono (run_mono (Nat.le_max_right k1 k2)).1 h2
      · rename_i ho
        obtain ⟨k1, h1⟩ := evalOps_cont ho
        exact ⟨k1, by rw [h1]; exact e⟩
      · cases e
theorem evalC_cont {lo : Nat} : ∀ {x : ICode} {st : St} {r : Ex × St}, evalC G (callD G IP) (loopD G IP lo) lo x st = some r → ∃ k, evalC G (run G IP k).1 ((run G IP k).2 lo) lo x st = some r := by
  intro x
  induction x with
  | skip => intro st r e; exact ⟨0, e⟩
  | region ops live =>
    intro st r e
    simp only [evalC] at e ⊢
    split at e
    · rename_i ho; obtain ⟨k, hk⟩ := evalOps_cont ho; exact ⟨k, by rw [hk]; exact e⟩
    · rename_i hne
      obtain ⟨k, hk⟩ := evalOps_cont e
      refine ⟨k, ?_⟩
      rw [hk]
      split
      · rename_i s1 hh; cases hh; exact absurd e (by simpa using hne s1)
      · rfl
  | draw ops ord pans live =>
    intro st r e
    simp only [evalC] at e ⊢
    cases hb : evalDraw G (callD G IP) lo ops pans ord st with
    | none => rw [hb] at e; cases e
    | some x =>
      obtain ⟨k, hk⟩ := evalDraw_cont hb
      exact ⟨k, by rw [hk]; rw [hb] at e; exact e⟩
  | seq a b iha ihb =>
    intro st r e
    simp only [evalC] at e ⊢
    split at e
    · rename_i ho
      obtain ⟨k1, h1⟩ := iha ho
      obtain ⟨k2, h2⟩ := ihb e
      refine ⟨max k1 k2, ?_⟩
      have m1 := run_mono (G := G) (IP := IP) (Nat.le_max_left k1 k2)
      have m2 := run_mono (G := G) (IP := IP) (Nat.le_max_right k1 k2)
      rw [evalC_mono m1.1 (m1.2 lo) h1]
      exact evalC_mono m2.1 (m2.2 lo) h2
    · rename_i hne
      obtain ⟨k, hk⟩ := iha e
      refine ⟨k, ?_⟩
      rw [hk]
      split
      · rename_i s1 hh; cases hh; exact absurd e (by simpa using hne s1)
      · rfl
  | cond c a b iha ihb =>
    intro st r e
    simp only [evalC] at e ⊢
    split at e
    · split at e
      · rename_i h1; simp only [if_pos h1]; exact iha e
      · rename_i h1; simp only [if_neg h1]; exact ihb e
    · cases e
  | block id b ih =>
    intro st r e
    simp only [evalC] at e ⊢
    split at e
    · rename_i ho; obtain ⟨k, hk⟩ := ih ho; exact ⟨k, by rw [hk]; exact e⟩
    · rename_i hne
      obtain ⟨k, hk⟩ := ih e
      refine ⟨k, ?_⟩
      rw [hk]
      split
      · rename_i i s1 hh; cases hh; exact absurd e (by simpa using hne i s1)
      · rfl
  | loop b ih => intro st r e; obtain ⟨k, hk⟩ := loopD_iff.1 e; exact ⟨k, hk⟩
  | exit id => intro st r e; exact ⟨0, e⟩
  | ret => intro st r e; exact ⟨0, e⟩
  | stuck => intro st r e; exact ⟨0, e⟩
theorem evalRecv_cont {lo : Nat} {f : Nat} {caps : List AV} {hp : List HObj} {v : AV} {r : List HObj} (e : evalRecv G IP (callD G IP) (loopD G IP lo) lo f caps hp v = some r) : ∃ k, evalRecv G IP (run G IP k).1 ((run G IP k).2 lo) lo f caps hp v = some r := by
  simp only [evalRecv] at e ⊢
  split at e
  · cases e
  · split at e
    · split at e
      · cases e
      · rename_i hc
        simp only [if_neg hc]
        split at e
        · rename_i ho; obtain ⟨k, hk⟩ := evalC_cont ho; exact ⟨k, by rw [hk]; exact e⟩
        · rename_i ho; obtain ⟨k, hk⟩ := evalC_cont ho; exact ⟨k, by rw [hk]; exact e⟩
        · cases e
    · cases e
theorem evalFin1_cont {lo : Nat} {ds : DSpec} {s3 : St} {v : AV} {r : Ex × St} (e : evalFin1 G IP (callD G IP) (loopD G IP lo) lo ds s3 v = some r) : ∃ k, evalFin1 G IP (run G IP k).1 ((run G IP k).2 lo) lo ds s3 v = some r := by
  simp only [evalFin1] at e ⊢
  split at e
  · split at e
    · rename_i h4
      obtain ⟨k, hk⟩ := evalRecv_cont h4
      exact ⟨k, by rw [hk]; exact e⟩
    · cases e
  · cases e
theorem evalFin_cont {lo : Nat} {ds : DSpec} {b : ICode} {st : St} {r : Ex × St} (e : evalFin G IP (callD G IP) (loopD G IP lo) lo ds (evalC G (callD G IP) (loopD G IP lo) lo b st) = some r) : ∃ k, evalFin G IP (run G IP k).1 ((run G IP k).2 lo) lo ds (evalC G (run G IP k).1 ((run G IP k).2 lo) lo b st) = some r := by
  cases hb : evalC G (callD G IP) (loopD G IP lo) lo b st with
  | none => rw [hb] at e; simp [evalFin] at e
  | some x =>
    rw [hb] at e
    obtain ⟨k1, h1⟩ := evalC_cont hb
    obtain ⟨ex, s3⟩ := x
    have fin : ∀ v, evalFin1 G IP (callD G IP) (loopD G IP lo) lo ds s3 v = some r → ∃ k, k1 ≤ k ∧ evalFin1 G IP (run G IP k).1 ((run G IP k).2 lo) lo ds s3 v = some r := fun v e => by
      obtain ⟨k2, h2⟩ := evalFin1_cont e
      have m2 := run_mono (G := G) (IP := IP) (Nat.le_max_right k1 k2)
      exact ⟨max k1 k2, Nat.le_max_left _ _, evalFin1_mono m2.1 (m2.2 lo) h2⟩
    have go : ∀ v, evalFin1 G IP (callD G IP) (loopD G IP lo) lo ds s3 v = some r → ∃ k, evalC G (run G IP k).1 ((run G IP k).2 lo) lo b st = some (ex, s3) ∧ evalFin1 G IP (run G IP k).1 ((run G IP k).2 lo) lo ds s3 v = some r := fun v e => by
      obtain ⟨k, q1, q2⟩ := fin v e
      have m1 := run_mono (G := G) (IP := IP) q1
      exact ⟨k, evalC_mono m1.1 (m1.2 lo) h1, q2⟩
    cases ex with
    | normal => obtain ⟨k, q1, q2⟩ := go _ e; exact ⟨k, by rw [q1]; exact q2⟩
    | ret => obtain ⟨k, q1, q2⟩ := go _ e; exact ⟨k, by rw [q1]; exact q2⟩
    | pan v => obtain ⟨k, q1, q2⟩ := go _ e; exact ⟨k, by rw [q1]; exact q2⟩
    | exit i => simp [evalFin] at e
theorem evalF_cont {lo : Nat} {fn : IFun} {st : St} {r : Ex × St} (e : evalF G IP (callD G IP) (loopD G IP lo) lo fn st = some r) : ∃ k, evalF G IP (run G IP k).1 ((run G IP k).2 lo) lo fn st = some r := by
  simp only [evalF] at e ⊢
  split at e
  · exact evalC_cont e
  · split at e
    · rename_i ho
      obtain ⟨k1, h1⟩ := evalC_cont ho
      split at e
      · rename_i hc
        obtain ⟨k2, h2⟩ := evalFin_cont e
        have m1 := run_mono (G := G) (IP := IP) (Nat.le_max_left k1 k2)
        have m2 := run_mono (G := G) (IP := IP) (Nat.le_max_right k1 k2)
        exact ⟨max k1 k2, by rw [evalC_mono m1.1 (m1.2 lo) h1]; simp only; rw [if_pos hc]; exact evalFin_mono m2.1 (m2.2 lo) h2⟩
      · cases e
    · rename_i hne
      obtain ⟨k, hk⟩ := evalC_cont e
      refine ⟨k, ?_⟩
      rw [hk]
      split
      · rename_i s1 hh; cases hh; exact absurd e (by simpa using hne s1)
      · rfl
theorem callBody_mono {c d : CallF} {l m : Nat → LoopF} (h : CallLe c d) (hl : ∀ lo, LoopLe (l lo) (m lo)) : CallLe (callBody G IP c l) (callBody G IP d m) := by
  intro f vs hp lo q r e
  simp only [callBody] at e ⊢
  split at e
  · cases e
  · rename_i fn hfn
    split at e
    · cases e
    · rename_i hc
      rw [if_neg hc]
      split at e
      · rename_i ho; rw [evalF_mono h (hl _) ho]; exact e
      · rename_i ho; rw [evalF_mono h (hl _) ho]; exact e
      · rename_i ho; rw [evalF_mono h (hl _) ho]; exact e
      · cases e
theorem loopBody_mono {c d : CallF} {l m : Nat → LoopF} (h : CallLe c d) (hl : ∀ lo, LoopLe (l lo) (m lo)) (lo : Nat) : LoopLe (loopBody G c l lo) (loopBody G d m lo) := by
  intro b st r e
  simp only [loopBody] at e ⊢
  split at e
  · rename_i ho; rw [evalC_mono h (hl _) ho]; exact hl _ _ _ _ e
  · rename_i hne
    rw [evalC_mono h (hl _) e]
    split
    · rename_i s1 hh; cases hh; exact absurd e (by simpa using hne s1)
    · rfl
theorem opt_ext {α : Type} {a b : Option α} (h1 : ∀ r, a = some r → b = some r) (h2 : ∀ r, b = some r → a = some r) : a = b := by
  cases a with
  | none => cases b with
    | none => rfl
    | some r => exact h2 r rfl
  | some r => exact (h1 r rfl).symm
theorem callD_eq (f : Nat) (vs : List AV) (hp : List HObj) (lo : Nat) (q : Bool) : callD G IP f vs hp lo q = callBody G IP (callD G IP) (loopD G IP) f vs hp lo q := by
  apply opt_ext
  · intro r h
    obtain ⟨k, hk⟩ := callD_iff.1 h
    cases k with
    | zero => simp [run] at hk
    | succ k => exact callBody_mono (run_callD k) (run_loopD k) _ _ _ _ _ _ hk
  · intro r e
    suffices ∃ k, callBody G IP (run G IP k).1 (run G IP k).2 f vs hp lo q = some r by
      obtain ⟨k, hk⟩ := this; exact callD_iff.2 ⟨k + 1, hk⟩
    simp only [callBody] at e ⊢
    split at e
    · cases e
    · rename_i fn hfn
      split at e
      · cases e
      · rename_i hc
        simp only [if_neg hc]
        split at e
        · rename_i ho; obtain ⟨k, hk⟩ := evalF_cont ho; exact ⟨k, by rw [hk]; exact e⟩
        · rename_i ho; obtain ⟨k, hk⟩ := evalF_cont ho; exact ⟨k, by rw [hk]; exact e⟩
        · rename_i ho; obtain ⟨k, hk⟩ := evalF_cont ho; exact ⟨k, by rw [hk]; exact e⟩
        · cases e
theorem loopD_eq (lo : Nat) (b : ICode) (st : St) : loopD G IP lo b st = loopBody G (callD G IP) (loopD G IP) lo b st := by
  apply opt_ext
  · intro r h
    obtain ⟨k, hk⟩ := loopD_iff.1 h
    cases k with
    | zero => simp [run] at hk
    | succ k => exact loopBody_mono (run_callD k) (run_loopD k) _ _ _ _ hk
  · intro r e
    suffices ∃ k, loopBody G (run G IP k).1 (run G IP k).2 lo b st = some r by
      obtain ⟨k, hk⟩ := this; exact loopD_iff.2 ⟨k + 1, hk⟩
    simp only [loopBody] at e ⊢
    split at e
    · rename_i ho
      obtain ⟨k1, h1⟩ := evalC_cont ho
      obtain ⟨k2, h2⟩ := loopD_iff.1 e
      refine ⟨max k1 k2, ?_⟩
      have m1 := run_mono (G := G) (IP := IP) (Nat.le_max_left k1 k2)
      have m2 := run_mono (G := G) (IP := IP) (Nat.le_max_right k1 k2)
      rw [evalC_mono m1.1 (m1.2 lo) h1]
      exact m2.2 lo _ _ _ h2
    · rename_i hne
      obtain ⟨k, hk⟩ := evalC_cont e
      refine ⟨k, ?_⟩
      rw [hk]
      split
      · rename_i s1 hh; cases hh; exact absurd e (by simpa using hne s1)
      · rfl
end
end Go.Proofs.YtkofimhnehkdoaaGreatDoor.Rf
end
section
set_option linter.unusedSimpArgs false
set_option linter.unusedVariables false
namespace Go.Proofs.YtkofimhnehkdoaaGreatDoor.Rf
section
variable {H : Type} {enc : TypeId × Value → H} {P : Program} {W : World} {base : Nat}
end
end Go.Proofs.YtkofimhnehkdoaaGreatDoor.Rf
end
section
set_option linter.unusedSimpArgs false
set_option linter.unusedVariables false
namespace Go.Proofs.YtkofimhnehkdoaaGreatDoor.Rf
mutual
def datAV {H : Type} : DataW H → Option (List AV)
  | .lit (.int k n) => some [.int k n]
  | .lit (.string s) => some [.str s]
  | .lit (.bool b) => some [.bool b]
  | .agg ds => datAVs ds
  | _ => none
def datAVs {H : Type} : List (DataW H) → Option (List AV)
  | [] => some []
  | d :: r => match datAV d, datAVs r with | some a, some b => some (a ++ b) | _, _ => none
end
section
variable {H : Type} {P : Program}
theorem HasTy.dat : ∀ {n : Nat} {t : TypeId} {cs : List AV} {d : DataW H}, HasTy P n t cs d → ∀ {as : List AV}, datAV d = some as → cs = as := by
  intro n
  induction n with
  | zero => intro t cs d h; exact h.elim
  | succ n ih =>
    intro t cs d h as hd
    have flat : ∀ {parts : List (List AV)} {els : List (DataW H)} {as : List AV}, els.length = parts.length → (∀ (i : Nat) ds d', parts[i]? = some ds → els[i]? = some d' → ∃ e, HasTy P n e ds d') → datAVs els = some as → parts.flatten = as := by
      intro parts
      induction parts with
      | nil => intro els as hl _ hd; cases els with
        | nil => simp [datAVs] at hd; subst hd; rfl
        | cons d r => simp at hl
      | cons ds parts ihp =>
        intro els as hl hh hd
        cases els with
        | nil => simp at hl
        | cons d r =>
          simp only [datAVs] at hd
          split at hd
          · rename_i a b ha hb
            cases hd
            obtain ⟨e, he⟩ := hh 0 _ _ rfl rfl
            rw [List.flatten_cons, ih he ha, ihp (by simpa using hl) (fun i ds d' x y => hh (i + 1) ds d' (by simpa using x) (by simpa using y)) hb]
          · cases hd
    simp only [HasTy] at h
    cases hu : P.underlying t with
    | none => simp [hu] at h
    | some de =>
      rw [hu] at h
      cases de <;> simp only [] at h <;> try (exact h.elim)
      case bool => obtain ⟨b, rfl, rfl⟩ := h; simp [datAV] at hd; exact hd
      case int k => obtain ⟨m, rfl, _, rfl⟩ := h; simp [datAV] at hd; exact hd
      case string => obtain ⟨s, rfl, _, rfl⟩ := h; simp [datAV] at hd; exact hd
      case slice e =>
        rcases h with ⟨rfl, rfl⟩ | ⟨xs, els, rest, _, rfl, _⟩ <;> simp [datAV] at hd
      case struct fs =>
        obtain ⟨parts, els, rfl, rfl, h1, h2, h3⟩ := h
        simp only [datAV] at hd
        refine flat (by omega) (fun i ds d' a b => ?_) hd
        have hi : i < fs.size := by have := (List.getElem?_eq_some_iff.1 a).1; omega
        exact ⟨_, h3 i fs[i] ds d' (Array.getElem?_eq_getElem hi) a b⟩
      case array m e =>
        obtain ⟨parts, els, rfl, rfl, h1, h2, h3⟩ := h
        simp only [datAV] at hd
        exact flat (by omega) (fun i ds d' a b => ⟨e, h3 i ds d' a b⟩) hd
end
section
variable {H : Type} {enc : TypeId × Value → H} {P : Program} {W : World}
def GlobAt (P : Program) (W : World) (b : Nat) (cs : List AV) : Prop := ∃ (vs : List Value) (ty : TypeId), W.heap[b]? = some (.cells vs.toArray ty (0, 0)) ∧ VS (gh0 W) W cs vs ∧ Ones vs
theorem laid_mem {laid : List (String × DataW Unit)} : ∀ {l : List (String × DataW Unit)} {ps qs : List MemPlace}, DataW.LaidVars P W l ps → (∀ x, x ∈ ps → x ∈ qs) → ∀ {n : String} {d : DataW Unit}, (n, d) ∈ l →
    ∃ g t cs fuel p, P.globalNamed n = some g ∧ (P.globals[g]?).map (·.type) = some t ∧ W.var? P n = some cs ∧ DataW.trod (fun _ => ()) P W 0 (fun _ => true) false fuel t cs.toList = some (d, p) ∧ ∀ x, x ∈ MemPlace.row ⟨g, 0, none⟩ cs.size → x ∈ qs
  | [], ps, qs, _, _, n, d, h => by simp at h
  | (m, e) :: r, ps, qs, ⟨g, t, cs, fuel, p, q, h1, h2, h3, h4, h5, h6⟩, hq, n, d, hm => by
    rcases List.mem_cons.1 hm with e1 | hm
    · cases e1
      exact ⟨g, t, cs, fuel, p, h1, h2, h3, h4, fun x hx => hq x (by rw [h6]; simp [hx])⟩
    · exact laid_mem (laid := laid) h5 (fun x hx => hq x (by rw [h6]; simp [hx])) hm
theorem glob_dat {S : List TypeId} (hS : covS P S = true) {laid : List (String × DataW Unit)} (h : laidMet P laid W) {n : String} {d : DataW Unit} (hm : (n, d) ∈ laid) {g : Nat} (hg : P.globalNamed n = some g) {t : TypeId} (ht : (P.globals[g]?).map (·.type) = some t) (hc : t ∈ S)
    {as : List AV} (hd : datAV d = some as) (h0 : as ≠ []) : GlobAt P W g as := by
  obtain ⟨ps, hl, _, hrows⟩ := h
  obtain ⟨g1, t1, cs, fuel, p, h1, h2, h3, h4, h5⟩ := laid_mem (laid := laid) hl (fun _ h => h) hm
  obtain rfl := Option.some.inj (hg.symm.trans h1)
  obtain rfl := Option.some.inj (ht.symm.trans h2)
  obtain ⟨avs, v1, v2, v3, _⟩ := trod_V (g := gh0 W) hS (fun b o h => gh0_imm h) fuel t _ _ hc h4
  have hav := v3.dat hd
  subst hav
  have hsz : 0 < cs.size := by
    have := v1.len
    cases avs with
    | nil => exact absurd rfl h0
    | cons a r => simp at this; omega
  have hcell : MemPlace.cell g 0 ∈ ps := h5 _ (by
    unfold MemPlace.row
    simp only [List.mem_map, List.mem_range]
    exact ⟨0, hsz, by simp [MemPlace.cell, Addr.add]⟩)
  obtain ⟨⟨c, ty, hh⟩, _⟩ := hrows g 0 hcell
  unfold World.var? at h3
  rw [hg] at h3
  simp only [Option.bind_some, hh] at h3
  cases h3
  exact ⟨cs.toList, ty, by simpa using hh, v1, v2⟩
theorem glob_err {laid : List (String × DataW Unit)} (h : laidMet P laid W) {n nm : String} {text : List UInt8} {r : List (String × DataW Unit)} (hl : ∃ pre, laid = pre ++ (n, .iface nm (.ptr (.agg [.lit (.string text)]))) :: r)
    {g : Nat} {ti tp te ts : TypeId} {ms : Array (String × TypeId)} {f : Field} (hg : P.globalNamed n = some g) (ht : (P.globals[g]?).map (·.type) = some ti) (hi : P.underlying ti = some (.interface ms)) (hrow : ∀ u, P.typeName? 3 u = some nm → u = tp)
    (hp : P.underlying tp = some (.pointer te)) (he : P.underlying te = some (.struct #[f])) (hft : f.type = ts) (hfo : f.offset = 0) (hs : P.underlying ts = some .string) (hc : P.cellsOf te = 1) (hcs : P.cellsOf ts = 1) : GlobAt P W g [.iface tp .none] := by
  obtain ⟨pre, rfl⟩ := hl
  have h' : laidMet P ((n, .iface nm (.ptr (.agg [.lit (.string text)]))) :: r) W := by
    induction pre with
    | nil => exact h
    | cons x pre ih => exact ih h.tail
  obtain ⟨a, s, e1, _⟩ := laid_sentinel h' hg ht hi hrow hp he hft hfo hs hc hcs
  obtain ⟨ps, hl, _, hrows⟩ := h'
  obtain ⟨g1, t1, cs, fuel, p, h1, h2, h3, h4, h5⟩ := laid_mem (laid := []) hl (fun _ h => h) (List.mem_cons_self ..)
  obtain rfl := Option.some.inj (hg.symm.trans h1)
  rw [e1] at h3; cases h3
  have hcell : MemPlace.cell g 0 ∈ ps := h5 _ (by
    unfold MemPlace.row
    simp only [List.mem_map, List.mem_range]
    exact ⟨0, by simp, by simp [MemPlace.cell, Addr.add]⟩)
  obtain ⟨⟨c, ty, hh⟩, _⟩ := hrows g 0 hcell
  unfold World.var? at e1
  rw [hg] at e1
  simp only [Option.bind_some, hh] at e1
  cases e1
  exact ⟨_, ty, hh, by simp only [VS, V]; exact ⟨_, [], rfl, ⟨_, rfl, trivial⟩, rfl⟩, by intro u hu; simp at hu; subst hu; rfl⟩
end
mutual
def AV.lim : AV → Prop
  | .str s => s.length ≤ 140737488351232
  | .agg cs => AV.lims cs
  | .list xs _ => AV.lims xs
  | _ => True
def AV.lims : List AV → Prop
  | [] => True
  | v :: r => v.lim ∧ AV.lims r
end
theorem AV.lims_iff : ∀ l : List AV, AV.lims l ↔ ∀ v, v ∈ l → v.lim
  | [] => by simp [AV.lims]
  | v :: r => by simp [AV.lims, AV.lims_iff r]
theorem AV.lims_flatten {parts : List (List AV)} (h : ∀ p, p ∈ parts → AV.lims p) : AV.lims parts.flatten := by
  rw [AV.lims_iff]
  intro v hv
  obtain ⟨p, hp, hv⟩ := List.mem_flatten.1 hv
  exact (AV.lims_iff p).1 (h p hp) v hv
section
variable {H : Type} {P : Program}
theorem elemAV_lim {e : TypeId} {ds : List AV} (h : AV.lims ds) : (elemAV P e ds).lim := by
  unfold elemAV
  split
  · exact h
  · cases ds with
    | nil => trivial
    | cons a r => exact h.1
theorem weightsAll_mem {e : TypeId} : ∀ {els : List (DataW H)} {i : Nat} {d : DataW H}, els[i]? = some d → ∀ n, n ∈ d.weights P e → n ∈ DataW.weightsAll P e els
  | [], i, d, h => by simp at h
  | x :: r, 0, d, h => by simp at h; subst h; intro n hn; simp [DataW.weightsAll, hn]
  | x :: r, i + 1, d, h => by
    intro n hn
    simp only [DataW.weightsAll, List.mem_append]
    exact .inr (weightsAll_mem (by simpa using h) n hn)
theorem HasTy.lim : ∀ {n : Nat} {t : TypeId} {cs : List AV} {d : DataW H}, HasTy P n t cs d → (∀ m, m ∈ d.weights P t → m ≤ reachBytes) → AV.lims cs := by
  intro n
  induction n with
  | zero => intro t cs d h; exact h.elim
  | succ n ih =>
    intro t cs d h hz
    simp only [HasTy] at h
    cases hu : P.underlying t with
    | none => simp [hu] at h
    | some de =>
      rw [hu] at h
      cases de <;> simp only [] at h <;> try (exact h.elim)
      case bool => obtain ⟨b, rfl, rfl⟩ := h; simp [AV.lims, AV.lim]
      case int k => obtain ⟨m, rfl, _, rfl⟩ := h; simp [AV.lims, AV.lim]
      case string =>
        obtain ⟨s, rfl, _, rfl⟩ := h
        simp only [AV.lims, AV.lim, and_true]
        have := hz s.length (by simp [DataW.weights])
        simpa [reachBytes] using this
      case slice e =>
        rcases h with ⟨rfl, rfl⟩ | ⟨xs, els, rest, rfl, rfl, hl, _, hx⟩
        · simp [AV.lims, AV.lim]
        · simp only [AV.lims, AV.lim, and_true]
          rw [AV.lims_iff]
          intro v hv
          obtain ⟨i, hi⟩ := List.mem_iff_getElem?.1 hv
          have hil := (List.getElem?_eq_some_iff.1 hi).1
          have he : els[i]? = some els[i] := List.getElem?_eq_getElem (by omega)
          obtain ⟨ds, rfl, hds⟩ := hx i v _ hi he
          exact elemAV_lim (ih hds fun m hm => hz m (by
            simp only [DataW.weights, hu, List.mem_cons, List.mem_append]
            exact .inr (.inl (weightsAll_mem he m hm))))
      case struct fs =>
        obtain ⟨parts, els, rfl, rfl, h1, h2, h3⟩ := h
        refine AV.lims_flatten fun p hp => ?_
        obtain ⟨i, hi⟩ := List.mem_iff_getElem?.1 hp
        have hil := (List.getElem?_eq_some_iff.1 hi).1
        have he : els[i]? = some els[i] := List.getElem?_eq_getElem (by omega)
        have hf : fs[i]? = some fs[i] := Array.getElem?_eq_getElem (by omega)
        exact ih (h3 i _ _ _ hf hi he) fun m hm => hz m (by
          simp only [DataW.weights, hu]
          exact DataW.weights_mem_each (j := i) (by simp [hf]) he m hm)
      case array m e =>
        obtain ⟨parts, els, rfl, rfl, h1, h2, h3⟩ := h
        refine AV.lims_flatten fun p hp => ?_
        obtain ⟨i, hi⟩ := List.mem_iff_getElem?.1 hp
        have hil := (List.getElem?_eq_some_iff.1 hi).1
        have he : els[i]? = some els[i] := List.getElem?_eq_getElem (by omega)
        exact ih (h3 i _ _ hi he) fun m hm => hz m (by
          simp only [DataW.weights, hu]
          exact weightsAll_mem he m hm)
theorem ArgsTy.lims : ∀ {ts : List TypeId} {vs : List AV} {ds : List (DataW H)}, ArgsTy P ts vs ds → (∀ (j : Nat) t d, ts[j]? = some t → ds[j]? = some d → ∀ m, m ∈ d.weights P t → m ≤ reachBytes) → AV.lims vs
  | _, _, _, .nil, _ => trivial
  | _, _, _, .cons h k, hz => by
    obtain ⟨n, cs, rfl, h⟩ := h
    exact ⟨elemAV_lim (h.lim (hz 0 _ _ rfl rfl)), k.lims fun j t d a b => hz (j + 1) t d (by simpa using a) (by simpa using b)⟩
end
section
variable {H : Type} {enc : TypeId × Value → H} {P : Program} {W : World} {base : Nat}
theorem calls_of_runG {G : Nat → Option (List AV)} (hG : ∀ b cs, G b = some cs → GlobAt P W b cs) (hm : P.follows .mixedOrders = true) {IP : IProg} (hIP : ∀ f fn, IP f = some fn → chkFun P f fn = true) {f : FuncId} {avs : List AV} {us : List Value} (hv : VS (gh0 W) W avs us) (hno : avs.all noOwn = true)
    {k : Nat} {q : Bool} {hp : List HObj} (hr : (run G IP k).1 f avs [] 0 q = some (.ret (.bool true) hp)) :
    Calls P f us.toArray W fun e W' => e = .returned (.bool true) ∧ RowKit.Below W.heap.size W W' := by
  obtain ⟨hc, _⟩ := run_sound (G := G) hm hIP k
  have hpl : plains avs = true := by
    simp only [plains, List.all_eq_true] at hno ⊢
    intro x hx
    have := hno x hx
    cases x <;> simp_all [noOwn, AV.plain]
  have hrel : Rel G (gh0 W) ⟨[], []⟩ (avs.zip us) #[] W := by
    refine ⟨fun s => by simp [Fr.get, VF, VX, V, Owns], fun j v cv hj => ?_, ⟨rfl, fun id o h => by simp at h⟩, fun b o hb => by simp only [gh0]; rw [if_neg (by omega)], fun b cs h => ?_⟩
    · obtain ⟨h1, h2⟩ := zip_get hj
      have hvv := hv.get' h1 h2
      have hn : noOwn v = true := by simp only [List.all_eq_true] at hno; exact hno v (List.mem_of_getElem? h1)
      have hp' : v.plain = true := by simp only [plains, List.all_eq_true] at hpl; exact hpl v (List.mem_of_getElem? h1)
      rw [VF_loose (AV.loose_of_plain hp'), VX_plain hp']
      refine ⟨hvv, Owns.not_own (fun xs sz e0 e => ?_) fun vs e => ?_⟩
      · rw [e] at hn; simp [noOwn] at hn
      · rw [e] at hn; simp [noOwn] at hn
    · obtain ⟨vs, ty, h1, h2, h3⟩ := hG b cs h
      exact ⟨vs, ty, h1, ⟨h2, h3⟩, fun o => gh0_imm (Array.getElem?_eq_some_iff.1 h1).1⟩
  obtain ⟨_, hcall⟩ := hc f avs [] 0 q _ (gh0 W) W us hr hv.len hpl hrel
  refine Calls.mono hcall fun e W' h => ?_
  cases e with
  | returned cv =>
    obtain ⟨g', v, hp', e1, k1, s1⟩ := h
    cases e1
    have f1 := k1.ps 0 _ _ rfl
    rw [VF_loose rfl] at f1
    simp only [VX, V] at f1
    refine ⟨by rw [f1.1], s1.os, s1.tape, s1.output, s1.size, fun b hb => s1.blk b hb fun o => ?_⟩
    rw [gh0_imm hb]; exact ⟨trivial, by simp⟩
  | panicked chain =>
    obtain ⟨g', v, hp', cv, e1, _⟩ := h
    cases e1
  | outgrown => exact h.elim
theorem law_endG {G : Nat → Option (List AV)} (hG : ∀ b cs, G b = some cs → GlobAt P W b cs) (hm : P.follows .mixedOrders = true) {IP : IProg} (hIP : ∀ f fn, IP f = some fn → chkFun P f fn = true) (hlaid : laidOutB P = true) {S : List TypeId} (hS : covS P S = true) {f : FuncId} {fn : Func}
    (hp : fn.params.toList.all (fun t => S.contains t && P.readableRec t && Nat.blt t P.types.size) = true) {s : ChangeSpec} (hvars : s.vars = []) {tb : TypeId} (hres : fn.resultTypes = #[tb]) (hb : P.underlying tb = some .bool)
    (hspec : ∀ ds : List (DataW H), ds.length = fn.params.size → s.fn H (ds ++ []) = ⟨[.lit (.bool true)], ds, []⟩) {args : Array Value} {ds gs : List (DataW H)} {before : List MemPlace}
    (hval : ∀ (j : Nat) t v, fn.params[j]? = some t → args[j]? = some v → Value.okWide P W .any base t v) (hW : DataW.Whole enc P fn.params.toList s.vars false W args.toList ds gs before)
    (hz : (DataW.weightsEach P (fn.params.toList ++ s.plain.varTypes P) (ds ++ gs)).all (· ≤ reachBytes) = true)
    (hrun : ∀ avs, ArgsTy P fn.params.toList avs ds → AV.lims avs → ∃ q hp, callD G IP f avs [] 0 q = some (.ret (.bool true) hp)) :
    Calls P f args W fun e W' => ∃ v, e = .returned v ∧ s.post enc P fn false true false false W args v W' := by
  have hW0 := hW
  obtain ⟨p, q, hA, hV, rfl, hfz, hnd⟩ := hW
  have hgs : gs = [] ∧ q = [] := by
    rw [hvars] at hV
    cases gs with
    | nil => exact ⟨rfl, hV⟩
    | cons g gs => exact hV.elim
  obtain ⟨rfl, rfl⟩ := hgs
  simp only [List.all_eq_true, Bool.and_eq_true] at hp
  obtain ⟨avs, a1, a2, a3⟩ := args_V hS (fun t ht => by have := (hp t ht).1.1; simpa using this) (fun j t v h1 h2 => hval j t v (by simpa using h1) (by simpa using h2)) hA
  have hlen := trodAll_len hA
  have hlim : AV.lims avs := a3.lims fun j t d h1 h2 m hm => by
    have := List.all_eq_true.1 hz m (DataW.weights_mem_each (j := j) (by rw [List.getElem?_append, if_pos (List.getElem?_eq_some_iff.1 h1).1]; exact h1) (by simpa using h2) m hm)
    simpa using this
  obtain ⟨q, hp', hr⟩ := hrun avs a3 hlim
  obtain ⟨k, hr⟩ := callD_iff.1 hr
  have hsp := hspec ds (by simpa using hlen.1)
  have hcall := calls_of_runG hG hm hIP a1 a2 hr
  rw [show args.toList.toArray = args by simp] at hcall
  refine Calls.mono hcall fun e W' ⟨he, bel⟩ => ⟨_, he, ds, [], p ++ [], [], p, [], hW0, ?_, ?_, ?_, bel.frame _, fun h => by cases h⟩
  · rw [hsp, hres]; exact ChangeShapes.trodAll_mk1 (open Go.ChangeShapes Go.WideShapes Go.ChangeAt Go.RowKit in shut_bool hb _)
  · rw [hsp]
    exact args_back hlaid bel (fun t ht => by
      have := hp t ht
      exact ⟨this.1.2, by simpa using this.2⟩) hA
  · rw [hsp, hvars]; rfl
end
end Go.Proofs.YtkofimhnehkdoaaGreatDoor.Rf
end
section
set_option linter.unusedSimpArgs false
set_option linter.unusedVariables false
namespace Go.Proofs.YtkofimhnehkdoaaGreatDoor.Rf
attribute [simp] frzs frz1 callBody evalF evalRecv evalFin evalFin1 toHeap ptrsFrom setPtrs AV.husk Fr.husk evalC evalDraw evalOps evalOp opd opds wanted St.put ret1 Fr.get Fr.set Fr.keep Fr.keepOk AV.loose evalRess evalRes1 AV.plain plains tupOf AV.closed AV.closedL enter memOk behind behindPut cut put ofCells binAV intBin strBin shiftBin eqAV unAV bound AV.spread AV.cells buildCells fillElems keyEq
@[simp] theorem Own.cp_nil : Own.cp .nil = .nil := rfl
@[simp] theorem Own.cp_no : Own.cp .no = .no := rfl
@[simp] theorem Own.cp_own0 (n : Nat) : Own.cp (.own n 0) = .no := rfl
@[simp] theorem Own.cp_ownS (n e : Nat) : Own.cp (.own n (e + 1)) = .view (e + 1) := by simp [Own.cp, Own.vw]
theorem Own.cp_own {n e : Nat} (h : e ≠ 0) : Own.cp (.own n e) = .view e := by simp [Own.cp, Own.vw, h]
theorem Own.cp_view {e : Nat} (h : e ≠ 0) : Own.cp (.view e) = .view e := by simp [Own.cp, Own.vw, h]
@[simp] theorem Own.cp_cp (o : Own) : o.cp.cp = o.cp := by
  cases o with
  | no => rfl
  | nil => rfl
  | own n e => by_cases h : e = 0 <;> simp [Own.cp, Own.vw, h]
  | view e => by_cases h : e = 0 <;> simp [Own.cp, Own.vw, h]
section
variable (k : IntKind) (n : Int) (b : Bool) (s : List UInt8) (xs cs : List AV) (o : Own) (i j : Nat) (v : AV)
@[simp] theorem cp1_none : AV.cp1 .none = .none := rfl
@[simp] theorem cp1_bool : AV.cp1 (.bool b) = .bool b := rfl
@[simp] theorem cp1_int' : AV.cp1 (.int k n) = .int k n := rfl
@[simp] theorem cp1_str : AV.cp1 (.str s) = .str s := rfl
@[simp] theorem cp1_agg : AV.cp1 (.agg cs) = .agg cs := rfl
@[simp] theorem cp1_list : AV.cp1 (.list xs o) = .list xs o.cp := by cases o <;> rfl
@[simp] theorem cp1_ptr : AV.cp1 (.ptr i j) = .ptr i j := rfl
@[simp] theorem cp1_nilp : AV.cp1 .nilp = .nilp := rfl
@[simp] theorem cp1_sref (a b c d : Nat) : AV.cp1 (.sref a b c d) = .sref a b c d := rfl
@[simp] theorem cpA_sref (a b c d : Nat) : AV.cpA (.sref a b c d) = .sref a b c d := rfl
@[simp] theorem cp_sref (a b c d : Nat) : AV.cp (.sref a b c d) = .sref a b c d := rfl
@[simp] theorem cp1_lref : AV.cp1 (.lref i j) = .lref i j := rfl
@[simp] theorem cp1_box : AV.cp1 (.box cs) = .box cs := rfl
@[simp] theorem cp1_eref : AV.cp1 (.eref v i) = .eref v i := rfl
@[simp] theorem cp1_lastr : AV.cp1 (.lastr i) = .lastr i := rfl
@[simp] theorem cp1_map : AV.cp1 (.map i) = .map i := rfl
@[simp] theorem cp1_nilm : AV.cp1 .nilm = .nilm := rfl
@[simp] theorem cp1_func : AV.cp1 (.func i cs) = .func i cs := rfl
@[simp] theorem cp1_nilf : AV.cp1 .nilf = .nilf := rfl
@[simp] theorem cp1_iface : AV.cp1 (.iface i v) = .iface i v := rfl
@[simp] theorem cp1_nili : AV.cp1 .nili = .nili := rfl
@[simp] theorem cp1_glob : AV.cp1 (.glob i j) = .glob i j := rfl
@[simp] theorem cp1_tup : AV.cp1 (.tup cs) = .tup cs := rfl
@[simp] theorem cpA_none : AV.cpA .none = .none := rfl
@[simp] theorem cpA_bool : AV.cpA (.bool b) = .bool b := rfl
@[simp] theorem cpA_int' : AV.cpA (.int k n) = .int k n := rfl
@[simp] theorem cpA_str : AV.cpA (.str s) = .str s := rfl
@[simp] theorem cpA_agg : AV.cpA (.agg cs) = .agg (cs.map AV.cp1) := rfl
@[simp] theorem cpA_list : AV.cpA (.list xs o) = .list xs o.cp := by cases o <;> rfl
@[simp] theorem cpA_ptr : AV.cpA (.ptr i j) = .ptr i j := rfl
@[simp] theorem cpA_nilp : AV.cpA .nilp = .nilp := rfl
@[simp] theorem cpA_map : AV.cpA (.map i) = .map i := rfl
@[simp] theorem cpA_nilm : AV.cpA .nilm = .nilm := rfl
@[simp] theorem cpA_func : AV.cpA (.func i cs) = .func i cs := rfl
@[simp] theorem cpA_nilf : AV.cpA .nilf = .nilf := rfl
@[simp] theorem cpA_iface : AV.cpA (.iface i v) = .iface i v := rfl
@[simp] theorem cpA_nili : AV.cpA .nili = .nili := rfl
@[simp] theorem cpA_glob : AV.cpA (.glob i j) = .glob i j := rfl
@[simp] theorem cp_none : AV.cp .none = .none := rfl
@[simp] theorem cp_bool : AV.cp (.bool b) = .bool b := rfl
@[simp] theorem cp_int' : AV.cp (.int k n) = .int k n := rfl
@[simp] theorem cp_str : AV.cp (.str s) = .str s := rfl
@[simp] theorem cp_agg : AV.cp (.agg cs) = .agg (cs.map AV.cp1) := rfl
@[simp] theorem cp_list : AV.cp (.list xs o) = .list xs o.cp := by cases o <;> rfl
@[simp] theorem cp_ptr : AV.cp (.ptr i j) = .ptr i j := rfl
@[simp] theorem cp_nilp : AV.cp .nilp = .nilp := rfl
@[simp] theorem cp_lref : AV.cp (.lref i j) = .lref i j := rfl
@[simp] theorem cp_box : AV.cp (.box cs) = .box cs := rfl
@[simp] theorem cp_eref : AV.cp (.eref v i) = .eref v i := rfl
@[simp] theorem cp_lastr : AV.cp (.lastr i) = .lastr i := rfl
@[simp] theorem cp_map : AV.cp (.map i) = .map i := rfl
@[simp] theorem cp_nilm : AV.cp .nilm = .nilm := rfl
@[simp] theorem cp_func : AV.cp (.func i cs) = .func i cs := rfl
@[simp] theorem cp_nilf : AV.cp .nilf = .nilf := rfl
@[simp] theorem cp_iface : AV.cp (.iface i v) = .iface i v := rfl
@[simp] theorem cp_nili : AV.cp .nili = .nili := rfl
@[simp] theorem cp_glob : AV.cp (.glob i j) = .glob i j := rfl
@[simp] theorem cp_tup : AV.cp (.tup cs) = .tup (cs.map AV.cpA) := rfl
end
section
variable {G : Nat → Option (List AV)} {IP : IProg}
theorem loop_iter {lo : Nat} {b : ICode} (S : Nat → St) (n : Nat) {r : Ex × St} (hstep : ∀ i, i < n → evalC G (callD G IP) (loopD G IP lo) lo b (S i) = some (.normal, S (i + 1)))
    (hend : evalC G (callD G IP) (loopD G IP lo) lo b (S n) = some r) (hr : ∀ s, r ≠ (.normal, s)) : loopD G IP lo b (S 0) = some r := by
  have h : ∀ k, k ≤ n → loopD G IP lo b (S (n - k)) = some r := by
    intro k
    induction k with
    | zero =>
      intro _
      rw [loopD_eq, loopBody, Nat.sub_zero, hend]
      split
      · rename_i s hh; cases hh; exact absurd rfl (hr s)
      · rfl
    | succ k ih =>
      intro hk
      have h1 := hstep (n - (k + 1)) (by omega)
      rw [show n - (k + 1) + 1 = n - k by omega] at h1
      rw [loopD_eq, loopBody, h1]
      exact ih (by omega)
  have := h n (Nat.le_refl n)
  rwa [Nat.sub_self] at this
theorem loop_some {lo : Nat} {b : ICode} (S : Nat → St) (n : Nat) (p : Nat → Bool) (Y : Nat → Ex × St) (r : Ex × St)
    (hstep : ∀ i, i < n → p i = false → evalC G (callD G IP) (loopD G IP lo) lo b (S i) = some (.normal, S (i + 1)))
    (hyes : ∀ i, i < n → p i = true → evalC G (callD G IP) (loopD G IP lo) lo b (S i) = some (Y i)) (hY : ∀ i s, Y i ≠ (.normal, s))
    (hend : evalC G (callD G IP) (loopD G IP lo) lo b (S n) = some r) (hr : ∀ s, r ≠ (.normal, s)) :
    (∃ m, m < n ∧ p m = true ∧ (∀ j, j < m → p j = false) ∧ loopD G IP lo b (S 0) = some (Y m)) ∨ ((∀ i, i < n → p i = false) ∧ loopD G IP lo b (S 0) = some r) := by
  by_cases hc : ∃ i, i < n ∧ p i = true
  · have : ∃ m, (m < n ∧ p m = true) ∧ ∀ j, j < m → p j = false := by
      obtain ⟨i, hi⟩ := hc
      induction i using Nat.strongRecOn with
      | _ i ih =>
        by_cases hj : ∃ j, j < i ∧ p j = true
        · obtain ⟨j, h1, h2⟩ := hj; exact ih j h1 ⟨by omega, h2⟩
        · refine ⟨i, hi, fun j h1 => ?_⟩
          cases h2 : p j with
          | false => rfl
          | true => exact absurd ⟨j, h1, h2⟩ hj
    obtain ⟨m, ⟨h1, h2⟩, h3⟩ := this
    exact .inl ⟨m, h1, h2, h3, loop_iter S m (fun i hi => hstep i (by omega) (h3 i hi)) (hyes m h1 h2) (hY m)⟩
  · have h0 : ∀ i, i < n → p i = false := fun i hi => by
      cases h2 : p i with
      | false => rfl
      | true => exact absurd ⟨i, hi, h2⟩ hc
    exact .inr ⟨h0, loop_iter S n (fun i hi => hstep i hi (h0 i hi)) hend hr⟩
theorem loop_find {lo : Nat} {b : ICode} (S : Nat → St) (n : Nat) (p : Nat → Bool) (Y r : Ex × St)
    (hstep : ∀ i, i < n → p i = false → evalC G (callD G IP) (loopD G IP lo) lo b (S i) = some (.normal, S (i + 1)))
    (hyes : ∀ i, i < n → p i = true → evalC G (callD G IP) (loopD G IP lo) lo b (S i) = some Y) (hY : ∀ s, Y ≠ (.normal, s))
    (hend : evalC G (callD G IP) (loopD G IP lo) lo b (S n) = some r) (hr : ∀ s, r ≠ (.normal, s)) : loopD G IP lo b (S 0) = some (if (List.range n).any p then Y else r) := by
  by_cases hc : ∃ i, i < n ∧ p i = true
  · have : ∃ m, (m < n ∧ p m = true) ∧ ∀ j, j < m → p j = false := by
      obtain ⟨i, hi⟩ := hc
      induction i using Nat.strongRecOn with
      | _ i ih =>
        by_cases hj : ∃ j, j < i ∧ p j = true
        · obtain ⟨j, h1, h2⟩ := hj; exact ih j h1 ⟨by omega, h2⟩
        · refine ⟨i, hi, fun j h1 => ?_⟩
          cases h2 : p j with
          | false => rfl
          | true => exact absurd ⟨j, h1, h2⟩ hj
    obtain ⟨m, ⟨h1, h2⟩, h3⟩ := this
    rw [if_pos (by simp only [List.any_eq_true, List.mem_range]; exact ⟨m, h1, h2⟩)]
    exact loop_iter S m (fun i hi => hstep i (by omega) (h3 i hi)) (hyes m h1 h2) hY
  · rw [if_neg (by simp only [List.any_eq_true, List.mem_range]; exact hc)]
    refine loop_iter S n (fun i hi => hstep i hi ?_) hend hr
    cases h2 : p i with
    | false => rfl
    | true => exact absurd ⟨i, hi, h2⟩ hc
end
@[simp] theorem cp1_int (k : IntKind) : AV.cp1 ∘ AV.int k = AV.int k := rfl
@[simp] theorem beqI (a b : Int) : (a == b) = decide (a = b) := by by_cases h : a = b <;> simp [h]
@[simp] theorem bneI (a b : Int) : (a != b) = !decide (a = b) := by by_cases h : a = b <;> simp [h]
@[simp] theorem beqS (a b : List UInt8) : (a == b) = decide (a = b) := by by_cases h : a = b <;> simp [h]
@[simp] theorem bneS (a b : List UInt8) : (a != b) = !decide (a = b) := by by_cases h : a = b <;> simp [h]
@[simp] theorem okSize_nil (n : Nat) : okSize n [] = true := rfl
@[simp] theorem okSize_cons (n : Nat) (x : AV) (r : List AV) : okSize n (x :: r) = (x.cells.length == n) := rfl
@[simp] theorem closedL_app (n : Nat) : ∀ a b : List AV, AV.closedL n (a ++ b) = (AV.closedL n a && AV.closedL n b)
  | [], b => by simp [AV.closedL]
  | v :: r, b => by simp [AV.closedL, closedL_app n r b, Bool.and_assoc]
@[simp] theorem keep1_list (xs : List AV) (o : Own) : AV.keep1 (.list xs o) = .list xs o := rfl
@[simp] theorem keep1_int (k : IntKind) (n : Int) : AV.keep1 (.int k n) = .int k n := rfl
@[simp] theorem keep1_bool (b : Bool) : AV.keep1 (.bool b) = .bool b := rfl
@[simp] theorem keep1_str (s : List UInt8) : AV.keep1 (.str s) = .str s := rfl
@[simp] theorem keep1_agg (cs : List AV) : AV.keep1 (.agg cs) = .agg (cs.map AV.cp1) := rfl
def ownB (o : Bool) : Own := if o then .nil else .no
@[simp] theorem ownB_cp (o : Bool) : (ownB o).cp = ownB o := by cases o <;> rfl
@[simp] theorem ownB_own (o : Bool) (n e : Nat) : (ownB o = .own n e) = False := by cases o <;> simp [ownB]
theorem wrap_small {n : Int} (h0 : 0 ≤ n) (h1 : n ≤ 9223372036854775807) : IntKind.wrap .i64 n = n := by
  simp [IntKind.wrap, IntKind.signed, IntKind.bits]; omega
theorem wrap_succ {i n : Nat} (h : i < n) (hn : n ≤ 9223372036854775807) : IntKind.wrap .i64 ((i : Int) + 1) = ((i + 1 : Nat) : Int) := by
  rw [wrap_small (by omega) (by omega)]; rfl
end Go.Proofs.YtkofimhnehkdoaaGreatDoor.Rf
end
section
set_option linter.unusedSimpArgs false
set_option linter.unusedVariables false
namespace Go.Proofs.YtkofimhnehkdoaaGreatDoor.Rf
def dig (n : Nat) : UInt8 := UInt8.ofNat (48 + n)
theorem dig_toNat {n : Nat} (h : n < 10) : (dig n).toNat = 48 + n := by
  unfold dig; rw [UInt8.toNat_ofNat']; omega
def dec (n : Nat) : List UInt8 := if n < 10 then [dig n] else dec (n / 10) ++ [dig (n % 10)]
termination_by n
decreasing_by omega
theorem dec_small {n : Nat} (h : n < 10) : dec n = [dig n] := by rw [dec, if_pos h]
theorem dec_big {n : Nat} (h : 10 ≤ n) : dec n = dec (n / 10) ++ [dig (n % 10)] := by rw [dec, if_neg (by omega)]
theorem dec_ne (n : Nat) : dec n ≠ [] := by
  by_cases h : n < 10
  · rw [dec_small h]; simp
  · rw [dec_big (by omega)]; simp
theorem dec_len (k : Nat) : ∀ n, n < 10 ^ (k + 1) → (dec n).length ≤ k + 1 := by
  induction k with
  | zero => intro n h; rw [dec_small (by omega)]; simp
  | succ k ih =>
    intro n h
    by_cases h1 : n < 10
    · rw [dec_small h1]; simp
    · rw [dec_big (by omega), List.length_append]
      have := ih (n / 10) (by rw [Nat.pow_succ] at h; omega)
      simp; omega
theorem dec_len20 {n : Nat} (h : n < 18446744073709551616) : (dec n).length ≤ 20 := dec_len 19 n (by omega)
def isDig (c : UInt8) : Bool := decide (48 ≤ c.toNat) && decide (c.toNat ≤ 57)
theorem isDig_dig {n : Nat} (h : n < 10) : isDig (dig n) = true := by simp [isDig, dig_toNat h]; omega
theorem dec_digs (n : Nat) : ∀ c, c ∈ dec n → isDig c = true := by
  induction n using Nat.strongRecOn with
  | _ n ih =>
    intro c hc
    by_cases h : n < 10
    · rw [dec_small h] at hc; simp at hc; subst hc; exact isDig_dig h
    · rw [dec_big (by omega), List.mem_append] at hc
      rcases hc with hc | hc
      · exact ih (n / 10) (by omega) c hc
      · simp at hc; subst hc; exact isDig_dig (by omega)
def digVal (s : List UInt8) : Nat := s.foldl (fun v c => 10 * v + (c.toNat - 48)) 0
theorem digVal_snoc (s : List UInt8) (c : UInt8) : digVal (s ++ [c]) = 10 * digVal s + (c.toNat - 48) := by simp [digVal, List.foldl_append]
theorem digVal_dec (n : Nat) : digVal (dec n) = n := by
  induction n using Nat.strongRecOn with
  | _ n ih =>
    by_cases h : n < 10
    · rw [dec_small h]; simp [digVal, dig_toNat h]
    · rw [dec_big (by omega), digVal_snoc, ih (n / 10) (by omega), dig_toNat (by omega)]; omega
def numOk (s : List UInt8) : Bool := !s.isEmpty && (!(decide (1 < s.length) && (s.head? == some 48)) && s.all isDig)
theorem dec_head {n : Nat} (h : 0 < n) : (dec n).head? ≠ some 48 := by
  induction n using Nat.strongRecOn with
  | _ n ih =>
    by_cases h1 : n < 10
    · rw [dec_small h1]; simp; intro e
      have := congrArg UInt8.toNat e
      rw [dig_toNat h1] at this; simp at this; omega
    · rw [dec_big (by omega)]
      have := ih (n / 10) (by omega) (by omega)
      cases hd : dec (n / 10) with
      | nil => exact absurd hd (dec_ne _)
      | cons a r => rw [hd] at this; simpa using this
theorem numOk_dec (n : Nat) : numOk (dec n) = true := by
  unfold numOk
  have h1 : (dec n).isEmpty = false := by
    cases h : dec n with
    | nil => exact absurd h (dec_ne n)
    | cons a r => rfl
  have h2 : (dec n).all isDig = true := List.all_eq_true.2 (dec_digs n)
  rw [h1, h2]
  by_cases h : 0 < n
  · have := dec_head h
    simp [this]
  · have : n = 0 := by omega
    subst this; rw [dec_small (by omega)]; simp
def numE (s : List UInt8) : Int × Int := if numOk s = false then (0, 6) else if 18446744073709551616 ≤ digVal s then (0, 2) else (digVal s, 0)
theorem numE_dec {n : Nat} (h : n < 18446744073709551616) : numE (dec n) = ((n : Int), 0) := by
  unfold numE; rw [if_neg (by rw [numOk_dec]; simp), digVal_dec, if_neg (by omega)]
end Go.Proofs.YtkofimhnehkdoaaGreatDoor.Rf
end
section
set_option linter.unusedSimpArgs false
set_option linter.unusedVariables false
namespace Go.Proofs.YtkofimhnehkdoaaGreatDoor.Rf
def digN : Nat → Nat → List UInt8
  | 0, _ => []
  | n + 1, u => digN n (u / 10) ++ [dig (u % 10)]
theorem digN_len : ∀ n u, (digN n u).length = n
  | 0, u => rfl
  | n + 1, u => by simp [digN, digN_len n]
theorem digN_dec : ∀ (n u : Nat), u < 10 ^ (n + 1) → (n = 0 ∨ 10 ^ n ≤ u) → digN (n + 1) u = dec u
  | 0, u, h, _ => by
    rw [dec_small (by omega)]; simp [digN]; congr 1; omega
  | n + 1, u, h, h2 => by
    have h3 : 10 ^ (n + 1) ≤ u := by omega
    have h10 : 10 ≤ u := by
      have : 10 ^ 1 ≤ 10 ^ (n + 1) := Nat.pow_le_pow_right (by omega) (by omega)
      omega
    have e : 10 ^ (n + 2) = 10 * 10 ^ (n + 1) := by rw [Nat.pow_succ]; omega
    have e1 : 10 ^ (n + 1) = 10 * 10 ^ n := by rw [Nat.pow_succ]; omega
    rw [dec_big h10, digN, digN_dec n (u / 10) (by rw [e] at h; omega) (by right; rw [e1] at h3; omega)]
theorem digN_app : ∀ (a b u : Nat), digN (a + b) u = digN a (u / 10 ^ b) ++ digN b u
  | a, 0, u => by simp [digN]
  | a, b + 1, u => by
    rw [← Nat.add_assoc, digN, digN_app a b (u / 10), digN, Nat.div_div_eq_div_mul, List.append_assoc, Nat.pow_succ, Nat.mul_comm 10]
theorem digN_mod : ∀ (b u : Nat), digN b (u % 10 ^ b) = digN b u
  | 0, u => rfl
  | b + 1, u => by
    have e : 10 ^ (b + 1) = 10 * 10 ^ b := by rw [Nat.pow_succ]; omega
    rw [digN, digN, e, Nat.mod_mul_right_div_self, digN_mod b (u / 10), Nat.mod_mul_right_mod]
section
variable {hp : List HObj} {lo : Nat} (q : Bool)
theorem smalls2_at (d : Nat) (h : d < 100) : smalls2[2 * d]? = some (dig (d / 10)) ∧ smalls2[2 * d + 1]? = some (dig (d % 10)) := by
  have : ∀ d : Fin 100, smalls2[2 * d.val]? = some (dig (d.val / 10)) ∧ smalls2[2 * d.val + 1]? = some (dig (d.val % 10)) := by decide +kernel
  exact this ⟨d, h⟩
theorem smalls2_len : smalls2.length = 200 := by decide +kernel
def d36 : List UInt8 := [48, 49, 50, 51, 52, 53, 54, 55, 56, 57, 97, 98, 99, 100, 101, 102, 103, 104, 105, 106, 107, 108, 109, 110, 111, 112, 113, 114, 115, 116, 117, 118, 119, 120, 121, 122]
theorem d36_at (d : Nat) (h : d < 10) : (d36.take (d + 1)).drop d = [dig d] := by
  have : ∀ d : Fin 10, (d36.take (d.val + 1)).drop d.val = [dig d.val] := by decide +kernel
  exact this ⟨d, h⟩
theorem smalls2_cut (d : Nat) (h : d < 100) : (smalls2.take (2 * d + 2)).drop (2 * d) = [dig (d / 10), dig (d % 10)] := by
  have : ∀ d : Fin 100, (smalls2.take (2 * d.val + 2)).drop (2 * d.val) = [dig (d.val / 10), dig (d.val % 10)] := by decide +kernel
  exact this ⟨d, h⟩
theorem small_D (n : Nat) (h : n < 100) : callD G0 IP n_internal_strconv_small [.int .i64 n] hp lo q = some (.ret (.str (dec n)) hp) := by
  rw [callD_eq]
  by_cases h1 : n < 10
  · have h1' : (n : Int) < 10 := by omega
    have hw : IntKind.wrap .i64 ((n : Int) + 1) = (n : Int) + 1 := wrap_small (by omega) (by omega)
    have e1 : (0 : Int) ≤ (n : Int) + 1 := by omega
    have e2 : n + 1 ≤ 36 := by omega
    have e3 := d36_at n h1
    simp only [d36] at e3
    rw [dec_small h1]
    simp at e3
    simp [IP_internal_strconv_small, i_internal_strconv_small, h1', hw, e1, e2, e3]
  · have h1' : ¬ (n : Int) < 10 := by omega
    have hw : IntKind.wrap .i64 ((n : Int) * 2) = (n : Int) * 2 := wrap_small (by omega) (by omega)
    have hw2 : IntKind.wrap .i64 ((n : Int) * 2 + 2) = (n : Int) * 2 + 2 := wrap_small (by omega) (by omega)
    have e1 : (0 : Int) ≤ (n : Int) * 2 := by omega
    have e2 : (0 : Int) ≤ (n : Int) * 2 + 2 := by omega
    have e3 : ((n : Int) * 2).toNat = 2 * n := by omega
    have e4 : ((n : Int) * 2 + 2).toNat = 2 * n + 2 := by omega
    have e5 : 2 * n + 2 ≤ 200 := by omega
    rw [dec_big (by omega), dec_small (by omega)]
    simp [IP_internal_strconv_small, i_internal_strconv_small, h1', hw, hw2, e1, e2, e3, e4, e5, smalls2_len, smalls2_cut n h]
theorem len8t_len : len8t.length = 256 := by decide +kernel
theorem len8t_at (x : Nat) (h : x < 256) (h0 : 0 < x) : ∃ t : UInt8, len8t[x]? = some t ∧ 1 ≤ t.toNat ∧ t.toNat ≤ 8 ∧ 2 ^ (t.toNat - 1) ≤ x ∧ x < 2 ^ t.toNat := by
  have : ∀ x : Fin 256, 0 < x.val → 1 ≤ (len8t.getD x.val 0).toNat ∧ (len8t.getD x.val 0).toNat ≤ 8 ∧ 2 ^ ((len8t.getD x.val 0).toNat - 1) ≤ x.val ∧ x.val < 2 ^ (len8t.getD x.val 0).toNat := by decide +kernel
  have := this ⟨x, h⟩ h0
  simp only at this
  have hl : x < len8t.length := by rw [len8t_len]; exact h
  refine ⟨len8t.getD x 0, ?_, this⟩
  simp [List.getD, hl]
def bitsOf (u L : Nat) : Prop := 1 ≤ L ∧ 2 ^ (L - 1) ≤ u ∧ u < 2 ^ L
theorem bitsOf_shift {u L k : Nat} (h : bitsOf (u / 2 ^ k) L) : bitsOf u (L + k) := by
  obtain ⟨h1, h2, h3⟩ := h
  have hp : 0 < 2 ^ k := Nat.two_pow_pos k
  refine ⟨by omega, ?_, ?_⟩
  · rw [show L + k - 1 = (L - 1) + k by omega, Nat.pow_add]
    exact (Nat.le_div_iff_mul_le hp).1 h2
  · rw [Nat.pow_add]
    exact (Nat.div_lt_iff_lt_mul hp).1 h3
theorem len8_D (x : Nat) (h : x < 256) (h0 : 0 < x) : ∃ L : Nat, L ≤ 8 ∧ bitsOf x L ∧ ∃ t : UInt8, len8t[x]? = some t ∧ t.toNat = L := by
  obtain ⟨t, t1, t2, t3, t4, t5⟩ := len8t_at x h h0
  exact ⟨t.toNat, t3, ⟨t2, t4, t5⟩, t, t1, rfl⟩
theorem len64_D (u : Nat) (h0 : 0 < u) (h : u < 18446744073709551616) : ∃ L : Nat, L ≤ 64 ∧ bitsOf u L ∧ ∀ (hp : List HObj) (lo : Nat) (q : Bool), callD G0 IP n_math_bits_Len64 [.int .u64 u] hp lo q = some (.ret (.int .i64 L) hp) := by
  have f1 : ∀ x : Int, x.fdiv (2 ^ min 32 IntKind.u64.bits) = x / 4294967296 := fun x => by rw [show (2 : Int) ^ min 32 IntKind.u64.bits = 4294967296 by decide, Int.fdiv_eq_ediv_of_nonneg _ (by decide)]
  have f2 : ∀ x : Int, x.fdiv (2 ^ min 16 IntKind.u64.bits) = x / 65536 := fun x => by rw [show (2 : Int) ^ min 16 IntKind.u64.bits = 65536 by decide, Int.fdiv_eq_ediv_of_nonneg _ (by decide)]
  have f3 : ∀ x : Int, x.fdiv (2 ^ min 8 IntKind.u64.bits) = x / 256 := fun x => by rw [show (2 : Int) ^ min 8 IntKind.u64.bits = 256 by decide, Int.fdiv_eq_ediv_of_nonneg _ (by decide)]
  by_cases a : 4294967296 ≤ u
  · have a' : (4294967296 : Int) ≤ (u : Int) := by omega
    by_cases b : 65536 ≤ u / 4294967296
    · have b' : (65536 : Int) ≤ (u : Int) / 4294967296 := by omega
      by_cases c : 256 ≤ u / 4294967296 / 65536
      · have c' : (256 : Int) ≤ (u : Int) / 4294967296 / 65536 := by omega
        obtain ⟨L, l1, l2, t, t1, t2⟩ := len8_D (u / 4294967296 / 65536 / 256) (by omega) (by omega)
        have hw1 : IntKind.wrap .u8 ((u : Int) / 4294967296 / 65536 / 256) = ((u : Int) / 4294967296 / 65536 / 256) := by simp [IntKind.wrap, IntKind.signed, IntKind.bits]; omega
        have hI : ((u : Int) / 4294967296 / 65536 / 256).toNat = u / 4294967296 / 65536 / 256 := by omega
        have hJ : 0 ≤ ((u : Int) / 4294967296 / 65536 / 256) := by omega
        have hw2 : IntKind.wrap .i64 (t.toNat : Int) = (t.toNat : Int) := wrap_small (by omega) (by omega)
        have hw3 : IntKind.wrap .i64 (56 + (t.toNat : Int)) = 56 + (t.toNat : Int) := wrap_small (by omega) (by omega)
        have hk : (u / 4294967296 / 65536 / 256) < 256 := by omega
        obtain ⟨hl1, hl2⟩ := List.getElem?_eq_some_iff.1 t1
        refine ⟨L + 8 + 16 + 32, by omega, bitsOf_shift (k := 32) (bitsOf_shift (k := 16) (bitsOf_shift (k := 8) (l2))), fun hp lo q => ?_⟩
        rw [callD_eq]
        simp [IP_math_bits_Len64, i_math_bits_Len64, f1, f2, f3, a', b', c', hw1, hw2, hw3, hI, hJ, hk, len8t_len, hl2, t1, hl1, hl2, show IntKind.wrap .i64 (32 + 16) = 48 from rfl, show IntKind.wrap .i64 48 = 48 from rfl, show IntKind.wrap .i64 16 = 16 from rfl, show IntKind.wrap .i64 8 = 8 from rfl, show IntKind.wrap .i64 24 = 24 from rfl, show IntKind.wrap .i64 40 = 40 from rfl, show IntKind.wrap .i64 56 = 56 from rfl]
        try omega
      · have c' : ¬ (256 : Int) ≤ (u : Int) / 4294967296 / 65536 := by omega
        obtain ⟨L, l1, l2, t, t1, t2⟩ := len8_D (u / 4294967296 / 65536) (by omega) (by omega)
        have hw1 : IntKind.wrap .u8 ((u : Int) / 4294967296 / 65536) = ((u : Int) / 4294967296 / 65536) := by simp [IntKind.wrap, IntKind.signed, IntKind.bits]; omega
        have hI : ((u : Int) / 4294967296 / 65536).toNat = u / 4294967296 / 65536 := by omega
        have hJ : 0 ≤ ((u : Int) / 4294967296 / 65536) := by omega
        have hw2 : IntKind.wrap .i64 (t.toNat : Int) = (t.toNat : Int) := wrap_small (by omega) (by omega)
        have hw3 : IntKind.wrap .i64 (48 + (t.toNat : Int)) = 48 + (t.toNat : Int) := wrap_small (by omega) (by omega)
        have hk : (u / 4294967296 / 65536) < 256 := by omega
        obtain ⟨hl1, hl2⟩ := List.getElem?_eq_some_iff.1 t1
        refine ⟨L + 16 + 32, by omega, bitsOf_shift (k := 32) (bitsOf_shift (k := 16) (l2)), fun hp lo q => ?_⟩
        rw [callD_eq]
        simp [IP_math_bits_Len64, i_math_bits_Len64, f1, f2, f3, a', b', c', hw1, hw2, hw3, hI, hJ, hk, len8t_len, hl2, t1, hl1, hl2, show IntKind.wrap .i64 (32 + 16) = 48 from rfl, show IntKind.wrap .i64 48 = 48 from rfl, show IntKind.wrap .i64 16 = 16 from rfl, show IntKind.wrap .i64 8 = 8 from rfl, show IntKind.wrap .i64 24 = 24 from rfl, show IntKind.wrap .i64 40 = 40 from rfl, show IntKind.wrap .i64 56 = 56 from rfl]
        try omega
    · have b' : ¬ (65536 : Int) ≤ (u : Int) / 4294967296 := by omega
      by_cases c : 256 ≤ u / 4294967296
      · have c' : (256 : Int) ≤ (u : Int) / 4294967296 := by omega
        obtain ⟨L, l1, l2, t, t1, t2⟩ := len8_D (u / 4294967296 / 256) (by omega) (by omega)
        have hw1 : IntKind.wrap .u8 ((u : Int) / 4294967296 / 256) = ((u : Int) / 4294967296 / 256) := by simp [IntKind.wrap, IntKind.signed, IntKind.bits]; omega
        have hI : ((u : Int) / 4294967296 / 256).toNat = u / 4294967296 / 256 := by omega
        have hJ : 0 ≤ ((u : Int) / 4294967296 / 256) := by omega
        have hw2 : IntKind.wrap .i64 (t.toNat : Int) = (t.toNat : Int) := wrap_small (by omega) (by omega)
        have hw3 : IntKind.wrap .i64 (40 + (t.toNat : Int)) = 40 + (t.toNat : Int) := wrap_small (by omega) (by omega)
        have hk : (u / 4294967296 / 256) < 256 := by omega
        obtain ⟨hl1, hl2⟩ := List.getElem?_eq_some_iff.1 t1
        refine ⟨L + 8 + 32, by omega, bitsOf_shift (k := 32) (bitsOf_shift (k := 8) (l2)), fun hp lo q => ?_⟩
        rw [callD_eq]
        simp [IP_math_bits_Len64, i_math_bits_Len64, f1, f2, f3, a', b', c', hw1, hw2, hw3, hI, hJ, hk, len8t_len, hl2, t1, hl1, hl2, show IntKind.wrap .i64 48 = 48 from rfl, show IntKind.wrap .i64 16 = 16 from rfl, show IntKind.wrap .i64 8 = 8 from rfl, show IntKind.wrap .i64 24 = 24 from rfl, show IntKind.wrap .i64 40 = 40 from rfl, show IntKind.wrap .i64 56 = 56 from rfl]
        try omega
      · have c' : ¬ (256 : Int) ≤ (u : Int) / 4294967296 := by omega
        obtain ⟨L, l1, l2, t, t1, t2⟩ := len8_D (u / 4294967296) (by omega) (by omega)
        have hw1 : IntKind.wrap .u8 ((u : Int) / 4294967296) = ((u : Int) / 4294967296) := by simp [IntKind.wrap, IntKind.signed, IntKind.bits]; omega
        have hI : ((u : Int) / 4294967296).toNat = u / 4294967296 := by omega
        have hJ : 0 ≤ ((u : Int) / 4294967296) := by omega
        have hw2 : IntKind.wrap .i64 (t.toNat : Int) = (t.toNat : Int) := wrap_small (by omega) (by omega)
        have hw3 : IntKind.wrap .i64 (32 + (t.toNat : Int)) = 32 + (t.toNat : Int) := wrap_small (by omega) (by omega)
        have hk : (u / 4294967296) < 256 := by omega
        obtain ⟨hl1, hl2⟩ := List.getElem?_eq_some_iff.1 t1
        refine ⟨L + 32, by omega, bitsOf_shift (k := 32) (l2), fun hp lo q => ?_⟩
        rw [callD_eq]
        simp [IP_math_bits_Len64, i_math_bits_Len64, f1, f2, f3, a', b', c', hw1, hw2, hw3, hI, hJ, hk, len8t_len, hl2, t1, hl1, hl2, show IntKind.wrap .i64 48 = 48 from rfl, show IntKind.wrap .i64 16 = 16 from rfl, show IntKind.wrap .i64 8 = 8 from rfl, show IntKind.wrap .i64 24 = 24 from rfl, show IntKind.wrap .i64 40 = 40 from rfl, show IntKind.wrap .i64 56 = 56 from rfl]
        try omega
  · have a' : ¬ (4294967296 : Int) ≤ (u : Int) := by omega
    by_cases b : 65536 ≤ u
    · have b' : (65536 : Int) ≤ (u : Int) := by omega
      by_cases c : 256 ≤ u / 65536
      · have c' : (256 : Int) ≤ (u : Int) / 65536 := by omega
        obtain ⟨L, l1, l2, t, t1, t2⟩ := len8_D (u / 65536 / 256) (by omega) (by omega)
        have hw1 : IntKind.wrap .u8 ((u : Int) / 65536 / 256) = ((u : Int) / 65536 / 256) := by simp [IntKind.wrap, IntKind.signed, IntKind.bits]; omega
        have hI : ((u : Int) / 65536 / 256).toNat = u / 65536 / 256 := by omega
        have hJ : 0 ≤ ((u : Int) / 65536 / 256) := by omega
        have hw2 : IntKind.wrap .i64 (t.toNat : Int) = (t.toNat : Int) := wrap_small (by omega) (by omega)
        have hw3 : IntKind.wrap .i64 (24 + (t.toNat : Int)) = 24 + (t.toNat : Int) := wrap_small (by omega) (by omega)
        have hk : (u / 65536 / 256) < 256 := by omega
        obtain ⟨hl1, hl2⟩ := List.getElem?_eq_some_iff.1 t1
        refine ⟨L + 8 + 16, by omega, bitsOf_shift (k := 16) (bitsOf_shift (k := 8) (l2)), fun hp lo q => ?_⟩
        rw [callD_eq]
        simp [IP_math_bits_Len64, i_math_bits_Len64, f1, f2, f3, a', b', c', hw1, hw2, hw3, hI, hJ, hk, len8t_len, hl2, t1, hl1, hl2, show IntKind.wrap .i64 (0 + 16) = 16 from rfl, show IntKind.wrap .i64 48 = 48 from rfl, show IntKind.wrap .i64 16 = 16 from rfl, show IntKind.wrap .i64 8 = 8 from rfl, show IntKind.wrap .i64 24 = 24 from rfl, show IntKind.wrap .i64 40 = 40 from rfl, show IntKind.wrap .i64 56 = 56 from rfl]
        try omega
      · have c' : ¬ (256 : Int) ≤ (u : Int) / 65536 := by omega
        obtain ⟨L, l1, l2, t, t1, t2⟩ := len8_D (u / 65536) (by omega) (by omega)
        have hw1 : IntKind.wrap .u8 ((u : Int) / 65536) = ((u : Int) / 65536) := by simp [IntKind.wrap, IntKind.signed, IntKind.bits]; omega
        have hI : ((u : Int) / 65536).toNat = u / 65536 := by omega
        have hJ : 0 ≤ ((u : Int) / 65536) := by omega
        have hw2 : IntKind.wrap .i64 (t.toNat : Int) = (t.toNat : Int) := wrap_small (by omega) (by omega)
        have hw3 : IntKind.wrap .i64 (16 + (t.toNat : Int)) = 16 + (t.toNat : Int) := wrap_small (by omega) (by omega)
        have hk : (u / 65536) < 256 := by omega
        obtain ⟨hl1, hl2⟩ := List.getElem?_eq_some_iff.1 t1
        refine ⟨L + 16, by omega, bitsOf_shift (k := 16) (l2), fun hp lo q => ?_⟩
        rw [callD_eq]
        simp [IP_math_bits_Len64, i_math_bits_Len64, f1, f2, f3, a', b', c', hw1, hw2, hw3, hI, hJ, hk, len8t_len, hl2, t1, hl1, hl2, show IntKind.wrap .i64 (0 + 16) = 16 from rfl, show IntKind.wrap .i64 48 = 48 from rfl, show IntKind.wrap .i64 16 = 16 from rfl, show IntKind.wrap .i64 8 = 8 from rfl, show IntKind.wrap .i64 24 = 24 from rfl, show IntKind.wrap .i64 40 = 40 from rfl, show IntKind.wrap .i64 56 = 56 from rfl]
        try omega
    · have b' : ¬ (65536 : Int) ≤ (u : Int) := by omega
      by_cases c : 256 ≤ u
      · have c' : (256 : Int) ≤ (u : Int) := by omega
        obtain ⟨L, l1, l2, t, t1, t2⟩ := len8_D (u / 256) (by omega) (by omega)
        have hw1 : IntKind.wrap .u8 ((u : Int) / 256) = ((u : Int) / 256) := by simp [IntKind.wrap, IntKind.signed, IntKind.bits]; omega
        have hI : ((u : Int) / 256).toNat = u / 256 := by omega
        have hJ : 0 ≤ ((u : Int) / 256) := by omega
        have hw2 : IntKind.wrap .i64 (t.toNat : Int) = (t.toNat : Int) := wrap_small (by omega) (by omega)
        have hw3 : IntKind.wrap .i64 (8 + (t.toNat : Int)) = 8 + (t.toNat : Int) := wrap_small (by omega) (by omega)
        have hk : (u / 256) < 256 := by omega
        obtain ⟨hl1, hl2⟩ := List.getElem?_eq_some_iff.1 t1
        refine ⟨L + 8, by omega, bitsOf_shift (k := 8) (l2), fun hp lo q => ?_⟩
        rw [callD_eq]
        simp [IP_math_bits_Len64, i_math_bits_Len64, f1, f2, f3, a', b', c', hw1, hw2, hw3, hI, hJ, hk, len8t_len, hl2, t1, hl1, hl2, show IntKind.wrap .i64 48 = 48 from rfl, show IntKind.wrap .i64 16 = 16 from rfl, show IntKind.wrap .i64 8 = 8 from rfl, show IntKind.wrap .i64 24 = 24 from rfl, show IntKind.wrap .i64 40 = 40 from rfl, show IntKind.wrap .i64 56 = 56 from rfl]
        try omega
      · have c' : ¬ (256 : Int) ≤ (u : Int) := by omega
        obtain ⟨L, l1, l2, t, t1, t2⟩ := len8_D (u) (by omega) (by omega)
        have hw1 : IntKind.wrap .u8 ((u : Int)) = ((u : Int)) := by simp [IntKind.wrap, IntKind.signed, IntKind.bits]; omega
        have hI : ((u : Int)).toNat = u := by omega
        have hJ : 0 ≤ ((u : Int)) := by omega
        have hw2 : IntKind.wrap .i64 (t.toNat : Int) = (t.toNat : Int) := wrap_small (by omega) (by omega)
        have hw3 : IntKind.wrap .i64 (0 + (t.toNat : Int)) = 0 + (t.toNat : Int) := wrap_small (by omega) (by omega)
        have hk : (u) < 256 := by omega
        obtain ⟨hl1, hl2⟩ := List.getElem?_eq_some_iff.1 t1
        refine ⟨L, by omega, l2, fun hp lo q => ?_⟩
        rw [callD_eq]
        simp [IP_math_bits_Len64, i_math_bits_Len64, f1, f2, f3, a', b', c', hw1, hw2, hw3, hI, hJ, hk, len8t_len, hl2, t1, hl1, hl2, show IntKind.wrap .i64 48 = 48 from rfl, show IntKind.wrap .i64 16 = 16 from rfl, show IntKind.wrap .i64 8 = 8 from rfl, show IntKind.wrap .i64 24 = 24 from rfl, show IntKind.wrap .i64 40 = 40 from rfl, show IntKind.wrap .i64 56 = 56 from rfl]
        try omega
end
end Go.Proofs.YtkofimhnehkdoaaGreatDoor.Rf
end
section
set_option linter.unusedSimpArgs false
set_option linter.unusedVariables false
namespace Go.Proofs.YtkofimhnehkdoaaGreatDoor.Rf
theorem g_2_eq : g_2 = (List.range 20).map fun k => AV.int .u64 ((10 ^ k : Nat) : Int) := by rfl
theorem g_2_len : g_2.length = 20 := rfl
theorem g_2_at {t : Nat} (h : t < 20) : (g_2.drop t).take 1 = [AV.int .u64 ((10 ^ t : Nat) : Int)] := by
  rw [g_2_eq, List.drop_eq_getElem_cons (by simpa using h)]
  simp
theorem logF (L : Nat) (h1 : 1 ≤ L) (h : L ≤ 64) : L * 78913 / 262144 ≤ 19 ∧ 2 ^ L ≤ 10 ^ (L * 78913 / 262144 + 1) ∧ (L * 78913 / 262144 = 0 ∨ 10 ^ (L * 78913 / 262144 - 1) ≤ 2 ^ (L - 1)) := by
  have : ∀ L : Fin 65, 1 ≤ L.val → L.val * 78913 / 262144 ≤ 19 ∧ 2 ^ L.val ≤ 10 ^ (L.val * 78913 / 262144 + 1) ∧ (L.val * 78913 / 262144 = 0 ∨ 10 ^ (L.val * 78913 / 262144 - 1) ≤ 2 ^ (L.val - 1)) := by decide +kernel
  exact this ⟨L, by omega⟩ h1
section
variable {hp : List HObj} {lo : Nat} (q : Bool)
theorem log10_D (L : Nat) (h : L ≤ 64) (hp : List HObj) (lo : Nat) (q : Bool) : callD G0 IP n_internal_strconv_log10Pow2 [.int .i64 L] hp lo q = some (.ret (.int .i64 ((L * 78913 / 262144 : Nat) : Int)) hp) := by
  rw [callD_eq]
  have hw : IntKind.wrap .i64 ((L : Int) * 78913) = (L : Int) * 78913 := wrap_small (by omega) (by omega)
  have f1 : ∀ x : Int, x.fdiv (2 ^ min 18 IntKind.i64.bits) = x / 262144 := fun x => by rw [show (2 : Int) ^ min 18 IntKind.i64.bits = 262144 by decide, Int.fdiv_eq_ediv_of_nonneg _ (by decide)]
  simp [IP_internal_strconv_log10Pow2, i_internal_strconv_log10Pow2, hw, f1]
theorem b2i_D (b : Bool) (hp : List HObj) (lo : Nat) (q : Bool) : callD G0 IP n_internal_strconv_bool2_int [.bool b] hp lo q = some (.ret (.int .i64 (if b then 1 else 0)) hp) := by
  rw [callD_eq]
  cases b <;> simp [IP_internal_strconv_bool2_int, i_internal_strconv_bool2_int]
theorem numDigits_D (u : Nat) (h0 : 0 < u) (h : u < 18446744073709551616) : ∃ n : Nat, n ≤ 19 ∧ 10 ^ n ≤ u ∧ u < 10 ^ (n + 1) ∧ ∀ (hp : List HObj) (lo : Nat) (q : Bool), callD G0 IP n_internal_strconv_numDigits [.int .u64 u] hp lo q = some (.ret (.int .i64 ((n : Int) + 1)) hp) := by
  obtain ⟨L, l1, ⟨l2, l3, l4⟩, l5⟩ := len64_D u h0 h
  obtain ⟨t1, t2, t3⟩ := logF L l2 l1
  have e1 := log10_D L l1
  generalize ht : L * 78913 / 262144 = t at *
  have hg := g_2_at (t := t) (by omega)
  have hlt : (t : Int) < 20 := by omega
  have hlt2 : t + 1 ≤ 20 := by omega
  by_cases hc : 10 ^ t ≤ u
  · refine ⟨t, t1, hc, by omega, fun hp lo q => ?_⟩
    rw [callD_eq]
    have hc' : ((10 ^ t : Nat) : Int) ≤ (u : Int) := by omega
    have hw : IntKind.wrap .i64 ((t : Int) + 1) = (t : Int) + 1 := wrap_small (by omega) (by omega)
    generalize ((10 ^ t : Nat) : Int) = p at *
    simp [IP_internal_strconv_numDigits, i_internal_strconv_numDigits, l5, e1, G0_2, hlt, hlt2, hg, g_2_len, hc', b2i_D, hw]
  · have htp : t ≠ 0 := fun e => by rw [e] at hc; simp at hc; omega
    obtain ⟨m, rfl⟩ : ∃ m, t = m + 1 := ⟨t - 1, by omega⟩
    have t4 : 10 ^ m ≤ 2 ^ (L - 1) := by
      rcases t3 with e | e
      · omega
      · simpa using e
    refine ⟨m, by omega, by omega, by omega, fun hp lo q => ?_⟩
    rw [callD_eq]
    have hc' : ¬ ((10 ^ (m + 1) : Nat) : Int) ≤ (u : Int) := by omega
    have hw : IntKind.wrap .i64 ((m : Int) + 1) = (m : Int) + 1 := wrap_small (by omega) (by omega)
    generalize ((10 ^ (m + 1) : Nat) : Int) = p at *
    have hlt3 : (m : Int) + 1 < 20 := by omega
    have hI : ((m : Int) + 1).toNat = m + 1 := by omega
    have hJ : (0 : Int) ≤ (m : Int) + 1 := by omega
    simp [IP_internal_strconv_numDigits, i_internal_strconv_numDigits, l5, e1, G0_2, hlt3, hlt2, hI, hJ, hg, g_2_len, hc', b2i_D, hw]
end
end Go.Proofs.YtkofimhnehkdoaaGreatDoor.Rf
end
section
set_option linter.unusedSimpArgs false
set_option linter.unusedVariables false
namespace Go.Proofs.YtkofimhnehkdoaaGreatDoor.Rf
theorem put_set {cs : List AV} {k : Nat} {v : AV} (h : k < cs.length) : put cs k [v] = cs.set k v := by
  unfold put
  rw [List.set_eq_take_append_cons_drop, if_pos h]; simp
theorem toNat_add (j m : Nat) : ((j : Int) + (m : Int)).toNat = j + m := by omega
def dg (n : Nat) : AV := .int .u8 ((dig n).toNat : Int)
def set8 (cs : List AV) (k : Nat) (b1 b0 a1 a0 : Nat) : List AV :=
  (((((((cs.set (k + 7) (dg (b0 % 10))).set (k + 6) (dg (b0 / 10))).set (k + 5) (dg (b1 % 10))).set (k + 4) (dg (b1 / 10))).set (k + 3) (dg (a0 % 10))).set (k + 2) (dg (a0 / 10))).set (k + 1) (dg (a1 % 10))).set k (dg (a1 / 10))
section
variable {hp : List HObj} {lo : Nat}
abbrev HB (hp : List HObj) (cs : List AV) : List HObj := hp ++ [.cells 0 cs]
abbrev frB (hp : List HObj) (off n : Nat) (u i : Int) : Fr := [(0, .sref hp.length off n 1), (1, .int .u64 u), (4, .int .i64 i)]
set_option maxHeartbeats 4000000 in
theorem fb_step (hlo : lo ≤ hp.length) (off n j u : Nat) (cs : List AV) (hn : off + n ≤ cs.length) (hj : j + 8 ≤ n) (hn2 : n ≤ 100) (hu : u < 18446744073709551616) :
    ∃ b1 b0 a1 a0 : Nat, b1 < 100 ∧ b0 < 100 ∧ a1 < 100 ∧ a0 < 100 ∧ u % 100000000 = ((a1 * 100 + a0) * 100 + b1) * 100 + b0 ∧
    evalC G0 (callD G0 IP) (loopD G0 IP lo) lo l_internal_strconv_formatBase10_0 ⟨frB hp off n u ((j : Int) + 8), HB hp cs⟩ =
      some (.normal, ⟨frB hp off n (u / 100000000 : Nat) j, HB hp (set8 cs (off + j) b1 b0 a1 a0)⟩) := by
  have q1 : (u : Int).tmod 100000000 = ((u % 100000000 : Nat) : Int) := rfl
  have q2 : (u : Int).tdiv 100000000 = ((u / 100000000 : Nat) : Int) := rfl
  have hr0 : u % 100000000 < 100000000 := Nat.mod_lt _ (by omega)
  have hw0 : u / 100000000 < 18446744073709551616 := by omega
  generalize u % 100000000 = r at *
  generalize u / 100000000 = w at *
  have q3 : (r : Int).tdiv 10000 = ((r / 10000 : Nat) : Int) := rfl
  have q4 : (r : Int).tmod 10000 = ((r % 10000 : Nat) : Int) := rfl
  have hd := Nat.div_add_mod r 10000
  have ha0 : r / 10000 < 10000 := by omega
  have hb0 : r % 10000 < 10000 := Nat.mod_lt _ (by omega)
  generalize r / 10000 = a at *
  generalize r % 10000 = b at *
  have q5 : (b : Int).tdiv 100 = ((b / 100 : Nat) : Int) := rfl
  have q6 : (b : Int).tmod 100 = ((b % 100 : Nat) : Int) := rfl
  have q7 : (a : Int).tdiv 100 = ((a / 100 : Nat) : Int) := rfl
  have q8 : (a : Int).tmod 100 = ((a % 100 : Nat) : Int) := rfl
  have hdb := Nat.div_add_mod b 100
  have hda := Nat.div_add_mod a 100
  have hb1 : b / 100 < 100 := by omega
  have hb2 : b % 100 < 100 := Nat.mod_lt _ (by omega)
  have ha1 : a / 100 < 100 := by omega
  have ha2 : a % 100 < 100 := Nat.mod_lt _ (by omega)
  refine ⟨b / 100, b % 100, a / 100, a % 100, hb1, hb2, ha1, ha2, by omega, ?_⟩
  generalize b / 100 = b1 at *
  generalize b % 100 = b0 at *
  generalize a / 100 = a1 at *
  generalize a % 100 = a0 at *
  have wr : IntKind.wrap .u32 (r : Int) = r := by simp [IntKind.wrap, IntKind.signed, IntKind.bits]; omega
  have ww : IntKind.wrap .u64 (w : Int) = w := by simp [IntKind.wrap, IntKind.signed, IntKind.bits]; omega
  have wa : IntKind.wrap .u32 (a : Int) = a := by simp [IntKind.wrap, IntKind.signed, IntKind.bits]; omega
  have w32 : ∀ x : Nat, x < 100 → IntKind.wrap .u32 (x : Int) = x := fun x h => by simp [IntKind.wrap, IntKind.signed, IntKind.bits]; omega
  have w32b : ∀ x : Nat, x < 100 → IntKind.wrap .u32 ((x : Int) * 2) = (x : Int) * 2 := fun x h => by simp [IntKind.wrap, IntKind.signed, IntKind.bits]; omega
  have w32c : ∀ x : Nat, x < 100 → IntKind.wrap .u32 ((x : Int) * 2 + 1) = (x : Int) * 2 + 1 := fun x h => by simp [IntKind.wrap, IntKind.signed, IntKind.bits]; omega
  have t1 : ∀ x : Nat, ((x : Int) * 2).toNat = 2 * x := fun x => by omega
  have t2 : ∀ x : Nat, ((x : Int) * 2 + 1).toNat = 2 * x + 1 := fun x => by omega
  have t3 : ∀ x : Nat, (0 : Int) ≤ (x : Int) * 2 := fun x => by omega
  have t4 : ∀ x : Nat, (0 : Int) ≤ (x : Int) * 2 + 1 := fun x => by omega
  have s1 : ∀ x : Nat, x < 100 → smalls2[2 * x]? = some (dig (x / 10)) := fun x h => (smalls2_at x h).1
  have s2 : ∀ x : Nat, x < 100 → smalls2[2 * x + 1]? = some (dig (x % 10)) := fun x h => (smalls2_at x h).2
  have i8 : (8 : Int) ≤ (j : Int) + 8 := by omega
  have k1 : ∀ m : Int, 1 ≤ m → m ≤ 8 → IntKind.wrap .i64 ((j : Int) + 8 - m) = (j : Int) + (8 - m) := fun m h1 h2 => by rw [wrap_small (by omega) (by omega)]; omega
  have d1 : IntKind.wrap .i64 ((j : Int) + 8 - 1) = (j : Int) + 7 := k1 1 (by omega) (by omega)
  have d2 : IntKind.wrap .i64 ((j : Int) + 8 - 2) = (j : Int) + 6 := k1 2 (by omega) (by omega)
  have d3 : IntKind.wrap .i64 ((j : Int) + 8 - 3) = (j : Int) + 5 := k1 3 (by omega) (by omega)
  have d4 : IntKind.wrap .i64 ((j : Int) + 8 - 4) = (j : Int) + 4 := k1 4 (by omega) (by omega)
  have d5 : IntKind.wrap .i64 ((j : Int) + 8 - 5) = (j : Int) + 3 := k1 5 (by omega) (by omega)
  have d6 : IntKind.wrap .i64 ((j : Int) + 8 - 6) = (j : Int) + 2 := k1 6 (by omega) (by omega)
  have d7 : IntKind.wrap .i64 ((j : Int) + 8 - 7) = (j : Int) + 1 := k1 7 (by omega) (by omega)
  have d8 : IntKind.wrap .i64 ((j : Int) + 8 - 8) = (j : Int) := by rw [k1 8 (by omega) (by omega)]; omega
  have p7a : (0 : Int) ≤ (j : Int) + 7 := by omega
  have p7b : (j : Int) + 7 < n := by omega
  have p7d : off + (j + 7) < cs.length := by omega
  have p6a : (0 : Int) ≤ (j : Int) + 6 := by omega
  have p6b : (j : Int) + 6 < n := by omega
  have p6d : off + (j + 6) < cs.length := by omega
  have p5a : (0 : Int) ≤ (j : Int) + 5 := by omega
  have p5b : (j : Int) + 5 < n := by omega
  have p5d : off + (j + 5) < cs.length := by omega
  have p4a : (0 : Int) ≤ (j : Int) + 4 := by omega
  have p4b : (j : Int) + 4 < n := by omega
  have p4d : off + (j + 4) < cs.length := by omega
  have p3a : (0 : Int) ≤ (j : Int) + 3 := by omega
  have p3b : (j : Int) + 3 < n := by omega
  have p3d : off + (j + 3) < cs.length := by omega
  have p2a : (0 : Int) ≤ (j : Int) + 2 := by omega
  have p2b : (j : Int) + 2 < n := by omega
  have p2d : off + (j + 2) < cs.length := by omega
  have p1a : (0 : Int) ≤ (j : Int) + 1 := by omega
  have p1b : (j : Int) + 1 < n := by omega
  have p1d : off + (j + 1) < cs.length := by omega
  have p7e : off + (j + 7) + 1 ≤ cs.length := by omega
  have p6e : off + (j + 6) + 1 ≤ cs.length := by omega
  have p5e : off + (j + 5) + 1 ≤ cs.length := by omega
  have p4e : off + (j + 4) + 1 ≤ cs.length := by omega
  have p3e : off + (j + 3) + 1 ≤ cs.length := by omega
  have p2e : off + (j + 2) + 1 ≤ cs.length := by omega
  have p1e : off + (j + 1) + 1 ≤ cs.length := by omega
  have p0e : off + j + 1 ≤ cs.length := by omega
  have p0b : (j : Int) < n := by omega
  have p0d : off + j < cs.length := by omega
  have hlo' : lo ≤ hp.length := hlo
  have d9 : IntKind.wrap .i64 (j : Int) = (j : Int) := wrap_small (by omega) (by omega)
  have p7c : ((j : Int) + 7).toNat = j + 7 := toNat_add j 7
  have p6c : ((j : Int) + 6).toNat = j + 6 := toNat_add j 6
  have p5c : ((j : Int) + 5).toNat = j + 5 := toNat_add j 5
  have p4c : ((j : Int) + 4).toNat = j + 4 := toNat_add j 4
  have p3c : ((j : Int) + 3).toNat = j + 3 := toNat_add j 3
  have p2c : ((j : Int) + 2).toNat = j + 2 := toNat_add j 2
  have p1c : ((j : Int) + 1).toNat = j + 1 := toNat_add j 1
  simp [-put, l_internal_strconv_formatBase10_0, i8, q1, q2, q3, q4, q5, q6, q7, q8, wr, ww, wa, w32, w32b, w32c, hb1, hb2, ha1, ha2, t1, t2, t3, t4, s1, s2, d1, d2, d3, d4, d5, d6, d7, d8, d9, p7a, p7b, p7c, p7d, p6a, p6b, p6c, p6d, p5a, p5b, p5c, p5d, p4a, p4b, p4c, p4d, p3a, p3b, p3c, p3d, p2a, p2b, p2c, p2d, p1a, p1b, p1c, p1d, p0b, p0d, hlo', put_set, p7e, p6e, p5e, p4e, p3e, p2e, p1e, p0e]
  simp only [set8, dg, Nat.add_assoc]
end
end Go.Proofs.YtkofimhnehkdoaaGreatDoor.Rf
end
section
set_option linter.unusedSimpArgs false
set_option linter.unusedVariables false
namespace Go.Proofs.YtkofimhnehkdoaaGreatDoor.Rf
def digA (l : List UInt8) : List AV := l.map fun c => AV.int .u8 (c.toNat : Int)
@[simp] theorem digA_len (l : List UInt8) : (digA l).length = l.length := by simp [digA]
theorem digA_app (a b : List UInt8) : digA (a ++ b) = digA a ++ digA b := by simp [digA]
theorem set8_eq (p r : List AV) (x0 x1 x2 x3 x4 x5 x6 x7 : AV) (b1 b0 a1 a0 : Nat) :
    set8 (p ++ x0 :: x1 :: x2 :: x3 :: x4 :: x5 :: x6 :: x7 :: r) p.length b1 b0 a1 a0 =
      p ++ dg (a1 / 10) :: dg (a1 % 10) :: dg (a0 / 10) :: dg (a0 % 10) :: dg (b1 / 10) :: dg (b1 % 10) :: dg (b0 / 10) :: dg (b0 % 10) :: r := by
  simp [set8, List.set_append_right]
theorem digN8 {u b1 b0 a1 a0 : Nat} (h : u % 100000000 = ((a1 * 100 + a0) * 100 + b1) * 100 + b0) (h1 : b1 < 100) (h2 : b0 < 100) (h3 : a1 < 100) (h4 : a0 < 100) :
    digA (digN 8 u) = [dg (a1 / 10), dg (a1 % 10), dg (a0 / 10), dg (a0 % 10), dg (b1 / 10), dg (b1 % 10), dg (b0 / 10), dg (b0 % 10)] := by
  rw [← digN_mod 8 u, show 10 ^ 8 = 100000000 from rfl, h]
  generalize hx : ((a1 * 100 + a0) * 100 + b1) * 100 + b0 = x
  have e0 : x % 10 = b0 % 10 := by omega
  have e1 : x / 10 % 10 = b0 / 10 := by omega
  have e2 : x / 10 / 10 % 10 = b1 % 10 := by omega
  have e3 : x / 10 / 10 / 10 % 10 = b1 / 10 := by omega
  have e4 : x / 10 / 10 / 10 / 10 % 10 = a0 % 10 := by omega
  have e5 : x / 10 / 10 / 10 / 10 / 10 % 10 = a0 / 10 := by omega
  have e6 : x / 10 / 10 / 10 / 10 / 10 / 10 % 10 = a1 % 10 := by omega
  have e7 : x / 10 / 10 / 10 / 10 / 10 / 10 / 10 % 10 = a1 / 10 := by omega
  simp only [digN, e0, e1, e2, e3, e4, e5, e6, e7]
  simp [digA, dg]
theorem list8 {α : Type} (f : List α) (j : Nat) (h : f.length = j + 8) : ∃ x0 x1 x2 x3 x4 x5 x6 x7, f = f.take j ++ [x0, x1, x2, x3, x4, x5, x6, x7] := by
  have hd : (f.drop j).length = 8 := by simp; omega
  match hq : f.drop j, hd with
  | [x0, x1, x2, x3, x4, x5, x6, x7], _ => exact ⟨x0, x1, x2, x3, x4, x5, x6, x7, by rw [← hq, List.take_append_drop]⟩
section
variable {hp : List HObj} {lo : Nat}
theorem fb_exit (off n : Nat) (u : Int) (i : Int) (cs : List AV) (h : ¬ 8 ≤ i) : loopD G0 IP lo l_internal_strconv_formatBase10_0 ⟨frB hp off n u i, HB hp cs⟩ = some (.exit 0, ⟨frB hp off n u i ++ [(20, .bool false)], HB hp cs⟩) := by
  rw [loopD_eq, loopBody]
  simp [l_internal_strconv_formatBase10_0, h]
theorem fb_loop (hlo : lo ≤ hp.length) (p r : List AV) (n : Nat) (hn2 : n ≤ 100) : ∀ (i : Nat) (f : List AV) (d : List UInt8) (u : Nat), f.length = i → i + d.length = n → u < 18446744073709551616 →
    loopD G0 IP lo l_internal_strconv_formatBase10_0 ⟨frB hp p.length n u i, HB hp (p ++ (f ++ (digA d ++ r)))⟩ =
      some (.exit 0, ⟨frB hp p.length n ((u / 10 ^ (8 * (i / 8)) : Nat) : Int) ((i % 8 : Nat) : Int) ++ [(20, .bool false)], HB hp (p ++ (f.take (i % 8) ++ (digA (digN (8 * (i / 8)) u ++ d) ++ r)))⟩) := by
  intro i
  induction i using Nat.strongRecOn with
  | _ i ih =>
    intro f d u hf hd hu
    by_cases h8 : i < 8
    · rw [fb_exit _ _ _ _ _ (by omega)]
      have e1 : i / 8 = 0 := by omega
      have e2 : i % 8 = i := by omega
      rw [e1, e2]
      simp [digN, ← hf]
    · obtain ⟨j, rfl⟩ : ∃ j, i = j + 8 := ⟨i - 8, by omega⟩
      obtain ⟨x0, x1, x2, x3, x4, x5, x6, x7, hx⟩ := list8 f j hf
      have hcs : p ++ (f ++ (digA d ++ r)) = (p ++ f.take j) ++ (x0 :: x1 :: x2 :: x3 :: x4 :: x5 :: x6 :: x7 :: (digA d ++ r)) := by
        conv => lhs; rw [hx]
        simp
      have hlen : (p ++ f.take j).length = p.length + j := by simp; omega
      obtain ⟨b1, b0, a1, a0, l1, l2, l3, l4, hm, hst⟩ := fb_step (hp := hp) hlo p.length n j u (p ++ (f ++ (digA d ++ r))) (by simp; omega) (by omega) hn2 hu
      rw [loopD_eq, loopBody, show (((j + 8 : Nat) : Int)) = (j : Int) + 8 from rfl, hst]
      simp only
      rw [hcs, ← hlen, set8_eq]
      have h3 := ih j (by omega) (f.take j) (digN 8 u ++ d) (u / 100000000) (by simp; omega) (by simp [digN_len]; omega) (by omega)
      have hc2 : (p ++ f.take j) ++ dg (a1 / 10) :: dg (a1 % 10) :: dg (a0 / 10) :: dg (a0 % 10) :: dg (b1 / 10) :: dg (b1 % 10) :: dg (b0 / 10) :: dg (b0 % 10) :: (digA d ++ r) = p ++ (f.take j ++ (digA (digN 8 u ++ d) ++ r)) := by
        rw [digA_app, digN8 hm l1 l2 l3 l4]; simp
      rw [hc2, h3]
      have e1 : (j + 8) / 8 = j / 8 + 1 := by omega
      have e2 : (j + 8) % 8 = j % 8 := by omega
      have e3 : u / 100000000 / 10 ^ (8 * (j / 8)) = u / 10 ^ (8 * (j / 8 + 1)) := by
        rw [Nat.div_div_eq_div_mul, show (100000000 : Nat) = 10 ^ 8 from rfl, ← Nat.pow_add]; congr 2; omega
      have e4 : digN (8 * (j / 8 + 1)) u = digN (8 * (j / 8)) (u / 100000000) ++ digN 8 u := by
        rw [show 8 * (j / 8 + 1) = 8 * (j / 8) + 8 by omega, digN_app]
      have e5 : (f.take j).take (j % 8) = f.take (j % 8) := by rw [List.take_take]; congr 1; omega
      rw [e1, e2, e3, e4, e5, List.append_assoc]
end
end Go.Proofs.YtkofimhnehkdoaaGreatDoor.Rf
end
section
set_option linter.unusedSimpArgs false
set_option linter.unusedVariables false
namespace Go.Proofs.YtkofimhnehkdoaaGreatDoor.Rf
theorem conv8 (w : Nat) (h : w < 10) : IntKind.wrap .u8 (48 + (w : Int)) = ((dig w).toNat : Int) := by
  rw [dig_toNat h]; simp [IntKind.wrap, IntKind.signed, IntKind.bits]; omega
theorem add48 (w : Nat) (h : w < 10) : IntKind.wrap .u32 (48 + (w : Int)) = 48 + (w : Int) := by
  simp [IntKind.wrap, IntKind.signed, IntKind.bits]; omega
def fbTail : ICode := match i_internal_strconv_formatBase10.body with
  | .seq _ (.seq _ c) => c
  | c => c
section
variable {hp : List HObj} {lo : Nat}
set_option maxHeartbeats 4000000 in
theorem fb_tail0 (hlo : lo ≤ hp.length) (p r : List AV) (n u : Nat) (hn : 0 ≤ n) (hu : u < 1) (f : List AV) (hf : f.length = 0) :
    ∃ fr, evalC G0 (callD G0 IP) (loopD G0 IP lo) lo fbTail ⟨frB hp p.length n u 0 ++ [(20, .bool false)], HB hp (p ++ (f ++ r))⟩ = some (.normal, ⟨fr, HB hp (p ++ (digA (digN 0 u) ++ r))⟩) := by
  have w0 : IntKind.wrap .u32 (u : Int) = u := by simp [IntKind.wrap, IntKind.signed, IntKind.bits]; omega
  have w32 : ∀ x : Nat, x < 100 → IntKind.wrap .u32 (x : Int) = x := fun x h => by simp [IntKind.wrap, IntKind.signed, IntKind.bits]; omega
  have w32b : ∀ x : Nat, x < 100 → IntKind.wrap .u32 ((x : Int) * 2) = (x : Int) * 2 := fun x h => by simp [IntKind.wrap, IntKind.signed, IntKind.bits]; omega
  have w32c : ∀ x : Nat, x < 100 → IntKind.wrap .u32 ((x : Int) * 2 + 1) = (x : Int) * 2 + 1 := fun x h => by simp [IntKind.wrap, IntKind.signed, IntKind.bits]; omega
  have t1 : ∀ x : Nat, ((x : Int) * 2).toNat = 2 * x := fun x => by omega
  have t2 : ∀ x : Nat, ((x : Int) * 2 + 1).toNat = 2 * x + 1 := fun x => by omega
  have t3 : ∀ x : Nat, (0 : Int) ≤ (x : Int) * 2 := fun x => by omega
  have t4 : ∀ x : Nat, (0 : Int) ≤ (x : Int) * 2 + 1 := fun x => by omega
  have s1 : ∀ x : Nat, x < 100 → smalls2[2 * x]? = some (dig (x / 10)) := fun x h => (smalls2_at x h).1
  have s2 : ∀ x : Nat, x < 100 → smalls2[2 * x + 1]? = some (dig (x % 10)) := fun x h => (smalls2_at x h).2
  match f, hf with
  | [], _ =>
  generalize hcs : p ++ ([] ++ r) = cs
  have hcl : p.length + 0 ≤ cs.length := by rw [← hcs]; simp
  have hdig : digN 0 u = [] := by
    simp [digN]
  rw [hdig]
  simp [-put, fbTail, i_internal_strconv_formatBase10, w0, w32, w32b, w32c, t1, t2, t3, t4, s1, s2, hlo, put_set, show IntKind.wrap .i64 0 = 0 from rfl, show IntKind.wrap .i64 1 = 1 from rfl, show IntKind.wrap .i64 2 = 2 from rfl, show IntKind.wrap .i64 3 = 3 from rfl, show IntKind.wrap .i64 4 = 4 from rfl, show IntKind.wrap .i64 5 = 5 from rfl, show IntKind.wrap .i64 6 = 6 from rfl, show IntKind.wrap .i64 7 = 7 from rfl]
  rw [← hcs]
  simp [List.set_append_right, digA]
set_option maxHeartbeats 4000000 in
theorem fb_tail1 (hlo : lo ≤ hp.length) (p r : List AV) (n u : Nat) (hn : 1 ≤ n) (hu : u < 10) (f : List AV) (hf : f.length = 1) :
    ∃ fr, evalC G0 (callD G0 IP) (loopD G0 IP lo) lo fbTail ⟨frB hp p.length n u 1 ++ [(20, .bool false)], HB hp (p ++ (f ++ r))⟩ = some (.normal, ⟨fr, HB hp (p ++ (digA (digN 1 u) ++ r))⟩) := by
  have w0 : IntKind.wrap .u32 (u : Int) = u := by simp [IntKind.wrap, IntKind.signed, IntKind.bits]; omega
  have l1 := conv8 u (by omega)
  have l2 := add48 u (by omega)
  have w32 : ∀ x : Nat, x < 100 → IntKind.wrap .u32 (x : Int) = x := fun x h => by simp [IntKind.wrap, IntKind.signed, IntKind.bits]; omega
  have w32b : ∀ x : Nat, x < 100 → IntKind.wrap .u32 ((x : Int) * 2) = (x : Int) * 2 := fun x h => by simp [IntKind.wrap, IntKind.signed, IntKind.bits]; omega
  have w32c : ∀ x : Nat, x < 100 → IntKind.wrap .u32 ((x : Int) * 2 + 1) = (x : Int) * 2 + 1 := fun x h => by simp [IntKind.wrap, IntKind.signed, IntKind.bits]; omega
  have t1 : ∀ x : Nat, ((x : Int) * 2).toNat = 2 * x := fun x => by omega
  have t2 : ∀ x : Nat, ((x : Int) * 2 + 1).toNat = 2 * x + 1 := fun x => by omega
  have t3 : ∀ x : Nat, (0 : Int) ≤ (x : Int) * 2 := fun x => by omega
  have t4 : ∀ x : Nat, (0 : Int) ≤ (x : Int) * 2 + 1 := fun x => by omega
  have s1 : ∀ x : Nat, x < 100 → smalls2[2 * x]? = some (dig (x / 10)) := fun x h => (smalls2_at x h).1
  have s2 : ∀ x : Nat, x < 100 → smalls2[2 * x + 1]? = some (dig (x % 10)) := fun x h => (smalls2_at x h).2
  have p0 : (0 : Int) < n := by omega
  have pn0 : 0 < n := by omega
  match f, hf with
  | [x0], _ =>
  generalize hcs : p ++ ([x0] ++ r) = cs
  have hcl : p.length + 1 ≤ cs.length := by rw [← hcs]; simp
  have b0 : p.length < cs.length := by omega
  have e0 : p.length + 1 ≤ cs.length := by omega
  have hdig : digN 1 u = [dig u] := by
    have z0 : u % 10 = u := by omega
    simp [digN, z0]
  rw [hdig]
  simp [-put, fbTail, i_internal_strconv_formatBase10, l1, l2, w0, w32, w32b, w32c, t1, t2, t3, t4, s1, s2, hlo, put_set, p0, pn0, b0, e0, show IntKind.wrap .i64 0 = 0 from rfl, show IntKind.wrap .i64 1 = 1 from rfl, show IntKind.wrap .i64 2 = 2 from rfl, show IntKind.wrap .i64 3 = 3 from rfl, show IntKind.wrap .i64 4 = 4 from rfl, show IntKind.wrap .i64 5 = 5 from rfl, show IntKind.wrap .i64 6 = 6 from rfl, show IntKind.wrap .i64 7 = 7 from rfl]
  rw [← hcs]
  simp [List.set_append_right, digA]
set_option maxHeartbeats 4000000 in
theorem fb_tail2 (hlo : lo ≤ hp.length) (p r : List AV) (n u : Nat) (hn : 2 ≤ n) (hu : u < 100) (f : List AV) (hf : f.length = 2) :
    ∃ fr, evalC G0 (callD G0 IP) (loopD G0 IP lo) lo fbTail ⟨frB hp p.length n u 2 ++ [(20, .bool false)], HB hp (p ++ (f ++ r))⟩ = some (.normal, ⟨fr, HB hp (p ++ (digA (digN 2 u) ++ r))⟩) := by
  have w0 : IntKind.wrap .u32 (u : Int) = u := by simp [IntKind.wrap, IntKind.signed, IntKind.bits]; omega
  have q5 : (u : Int).tmod 100 = ((u % 100 : Nat) : Int) := rfl
  have q6 : (u : Int).tdiv 100 = ((u / 100 : Nat) : Int) := rfl
  have hd3 := Nat.div_add_mod u 100
  have hb5 : u % 100 < 100 := Nat.mod_lt _ (by omega)
  have hb6 : u / 100 < 1 := by omega
  generalize hz : u % 100 = c0 at *
  generalize ht : u / 100 = c1 at *
  have wc : IntKind.wrap .u32 (c1 : Int) = c1 := by simp [IntKind.wrap, IntKind.signed, IntKind.bits]; omega
  have w32 : ∀ x : Nat, x < 100 → IntKind.wrap .u32 (x : Int) = x := fun x h => by simp [IntKind.wrap, IntKind.signed, IntKind.bits]; omega
  have w32b : ∀ x : Nat, x < 100 → IntKind.wrap .u32 ((x : Int) * 2) = (x : Int) * 2 := fun x h => by simp [IntKind.wrap, IntKind.signed, IntKind.bits]; omega
  have w32c : ∀ x : Nat, x < 100 → IntKind.wrap .u32 ((x : Int) * 2 + 1) = (x : Int) * 2 + 1 := fun x h => by simp [IntKind.wrap, IntKind.signed, IntKind.bits]; omega
  have t1 : ∀ x : Nat, ((x : Int) * 2).toNat = 2 * x := fun x => by omega
  have t2 : ∀ x : Nat, ((x : Int) * 2 + 1).toNat = 2 * x + 1 := fun x => by omega
  have t3 : ∀ x : Nat, (0 : Int) ≤ (x : Int) * 2 := fun x => by omega
  have t4 : ∀ x : Nat, (0 : Int) ≤ (x : Int) * 2 + 1 := fun x => by omega
  have s1 : ∀ x : Nat, x < 100 → smalls2[2 * x]? = some (dig (x / 10)) := fun x h => (smalls2_at x h).1
  have s2 : ∀ x : Nat, x < 100 → smalls2[2 * x + 1]? = some (dig (x % 10)) := fun x h => (smalls2_at x h).2
  have p0 : (0 : Int) < n := by omega
  have pn0 : 0 < n := by omega
  have p1 : (1 : Int) < n := by omega
  have pn1 : 1 < n := by omega
  match f, hf with
  | [x0, x1], _ =>
  generalize hcs : p ++ ([x0, x1] ++ r) = cs
  have hcl : p.length + 2 ≤ cs.length := by rw [← hcs]; simp
  have b0 : p.length < cs.length := by omega
  have e0 : p.length + 1 ≤ cs.length := by omega
  have b1 : p.length + 1 < cs.length := by omega
  have e1 : p.length + 1 + 1 ≤ cs.length := by omega
  have hdig : digN 2 u = [dig (c0 / 10), dig (c0 % 10)] := by
    have z0 : u % 10 = c0 % 10 := by omega
    have z1 : u / 10 % 10 = c0 / 10 := by omega
    simp [digN, z0, z1]
  rw [hdig]
  simp [-put, fbTail, i_internal_strconv_formatBase10, q5, q6, hb5, wc, w0, w32, w32b, w32c, t1, t2, t3, t4, s1, s2, hlo, put_set, p0, pn0, p1, pn1, b0, e0, b1, e1, show IntKind.wrap .i64 0 = 0 from rfl, show IntKind.wrap .i64 1 = 1 from rfl, show IntKind.wrap .i64 2 = 2 from rfl, show IntKind.wrap .i64 3 = 3 from rfl, show IntKind.wrap .i64 4 = 4 from rfl, show IntKind.wrap .i64 5 = 5 from rfl, show IntKind.wrap .i64 6 = 6 from rfl, show IntKind.wrap .i64 7 = 7 from rfl]
  rw [← hcs]
  simp [List.set_append_right, digA]
set_option maxHeartbeats 4000000 in
theorem fb_tail3 (hlo : lo ≤ hp.length) (p r : List AV) (n u : Nat) (hn : 3 ≤ n) (hu : u < 1000) (f : List AV) (hf : f.length = 3) :
    ∃ fr, evalC G0 (callD G0 IP) (loopD G0 IP lo) lo fbTail ⟨frB hp p.length n u 3 ++ [(20, .bool false)], HB hp (p ++ (f ++ r))⟩ = some (.normal, ⟨fr, HB hp (p ++ (digA (digN 3 u) ++ r))⟩) := by
  have w0 : IntKind.wrap .u32 (u : Int) = u := by simp [IntKind.wrap, IntKind.signed, IntKind.bits]; omega
  have q5 : (u : Int).tmod 100 = ((u % 100 : Nat) : Int) := rfl
  have q6 : (u : Int).tdiv 100 = ((u / 100 : Nat) : Int) := rfl
  have hd3 := Nat.div_add_mod u 100
  have hb5 : u % 100 < 100 := Nat.mod_lt _ (by omega)
  have hb6 : u / 100 < 10 := by omega
  generalize hz : u % 100 = c0 at *
  generalize ht : u / 100 = c1 at *
  have wc : IntKind.wrap .u32 (c1 : Int) = c1 := by simp [IntKind.wrap, IntKind.signed, IntKind.bits]; omega
  have l1 := conv8 c1 (by omega)
  have l2 := add48 c1 (by omega)
  have w32 : ∀ x : Nat, x < 100 → IntKind.wrap .u32 (x : Int) = x := fun x h => by simp [IntKind.wrap, IntKind.signed, IntKind.bits]; omega
  have w32b : ∀ x : Nat, x < 100 → IntKind.wrap .u32 ((x : Int) * 2) = (x : Int) * 2 := fun x h => by simp [IntKind.wrap, IntKind.signed, IntKind.bits]; omega
  have w32c : ∀ x : Nat, x < 100 → IntKind.wrap .u32 ((x : Int) * 2 + 1) = (x : Int) * 2 + 1 := fun x h => by simp [IntKind.wrap, IntKind.signed, IntKind.bits]; omega
  have t1 : ∀ x : Nat, ((x : Int) * 2).toNat = 2 * x := fun x => by omega
  have t2 : ∀ x : Nat, ((x : Int) * 2 + 1).toNat = 2 * x + 1 := fun x => by omega
  have t3 : ∀ x : Nat, (0 : Int) ≤ (x : Int) * 2 := fun x => by omega
  have t4 : ∀ x : Nat, (0 : Int) ≤ (x : Int) * 2 + 1 := fun x => by omega
  have s1 : ∀ x : Nat, x < 100 → smalls2[2 * x]? = some (dig (x / 10)) := fun x h => (smalls2_at x h).1
  have s2 : ∀ x : Nat, x < 100 → smalls2[2 * x + 1]? = some (dig (x % 10)) := fun x h => (smalls2_at x h).2
  have p0 : (0 : Int) < n := by omega
  have pn0 : 0 < n := by omega
  have p1 : (1 : Int) < n := by omega
  have pn1 : 1 < n := by omega
  have p2 : (2 : Int) < n := by omega
  have pn2 : 2 < n := by omega
  match f, hf with
  | [x0, x1, x2], _ =>
  generalize hcs : p ++ ([x0, x1, x2] ++ r) = cs
  have hcl : p.length + 3 ≤ cs.length := by rw [← hcs]; simp
  have b0 : p.length < cs.length := by omega
  have e0 : p.length + 1 ≤ cs.length := by omega
  have b1 : p.length + 1 < cs.length := by omega
  have e1 : p.length + 1 + 1 ≤ cs.length := by omega
  have b2 : p.length + 2 < cs.length := by omega
  have e2 : p.length + 2 + 1 ≤ cs.length := by omega
  have hdig : digN 3 u = [dig c1, dig (c0 / 10), dig (c0 % 10)] := by
    have z0 : u % 10 = c0 % 10 := by omega
    have z1 : u / 10 % 10 = c0 / 10 := by omega
    have z2 : u / 10 / 10 % 10 = c1 := by omega
    simp [digN, z0, z1, z2]
  rw [hdig]
  simp [-put, fbTail, i_internal_strconv_formatBase10, q5, q6, hb5, wc, l1, l2, w0, w32, w32b, w32c, t1, t2, t3, t4, s1, s2, hlo, put_set, p0, pn0, p1, pn1, p2, pn2, b0, e0, b1, e1, b2, e2, show IntKind.wrap .i64 0 = 0 from rfl, show IntKind.wrap .i64 1 = 1 from rfl, show IntKind.wrap .i64 2 = 2 from rfl, show IntKind.wrap .i64 3 = 3 from rfl, show IntKind.wrap .i64 4 = 4 from rfl, show IntKind.wrap .i64 5 = 5 from rfl, show IntKind.wrap .i64 6 = 6 from rfl, show IntKind.wrap .i64 7 = 7 from rfl]
  rw [← hcs]
  simp [List.set_append_right, digA]
set_option maxHeartbeats 4000000 in
theorem fb_tail4 (hlo : lo ≤ hp.length) (p r : List AV) (n u : Nat) (hn : 4 ≤ n) (hu : u < 10000) (f : List AV) (hf : f.length = 4) :
    ∃ fr, evalC G0 (callD G0 IP) (loopD G0 IP lo) lo fbTail ⟨frB hp p.length n u 4 ++ [(20, .bool false)], HB hp (p ++ (f ++ r))⟩ = some (.normal, ⟨fr, HB hp (p ++ (digA (digN 4 u) ++ r))⟩) := by
  have w0 : IntKind.wrap .u32 (u : Int) = u := by simp [IntKind.wrap, IntKind.signed, IntKind.bits]; omega
  have q1 : (u : Int).tmod 10000 = ((u % 10000 : Nat) : Int) := rfl
  have q2 : (u : Int).tdiv 10000 = ((u / 10000 : Nat) : Int) := rfl
  have hd1 := Nat.div_add_mod u 10000
  have hb1 : u % 10000 < 10000 := Nat.mod_lt _ (by omega)
  have hb2 : u / 10000 < 1 := by omega
  generalize hv : u % 10000 = v at *
  generalize hw : u / 10000 = w at *
  have q3 : (v : Int).tdiv 100 = ((v / 100 : Nat) : Int) := rfl
  have q4 : (v : Int).tmod 100 = ((v % 100 : Nat) : Int) := rfl
  have hd2 := Nat.div_add_mod v 100
  have hb3 : v % 100 < 100 := Nat.mod_lt _ (by omega)
  have hb4 : v / 100 < 100 := by omega
  generalize hx : v / 100 = a1 at *
  generalize hy : v % 100 = a0 at *
  have ww : IntKind.wrap .u32 (w : Int) = w := by simp [IntKind.wrap, IntKind.signed, IntKind.bits]; omega
  have w32 : ∀ x : Nat, x < 100 → IntKind.wrap .u32 (x : Int) = x := fun x h => by simp [IntKind.wrap, IntKind.signed, IntKind.bits]; omega
  have w32b : ∀ x : Nat, x < 100 → IntKind.wrap .u32 ((x : Int) * 2) = (x : Int) * 2 := fun x h => by simp [IntKind.wrap, IntKind.signed, IntKind.bits]; omega
  have w32c : ∀ x : Nat, x < 100 → IntKind.wrap .u32 ((x : Int) * 2 + 1) = (x : Int) * 2 + 1 := fun x h => by simp [IntKind.wrap, IntKind.signed, IntKind.bits]; omega
  have t1 : ∀ x : Nat, ((x : Int) * 2).toNat = 2 * x := fun x => by omega
  have t2 : ∀ x : Nat, ((x : Int) * 2 + 1).toNat = 2 * x + 1 := fun x => by omega
  have t3 : ∀ x : Nat, (0 : Int) ≤ (x : Int) * 2 := fun x => by omega
  have t4 : ∀ x : Nat, (0 : Int) ≤ (x : Int) * 2 + 1 := fun x => by omega
  have s1 : ∀ x : Nat, x < 100 → smalls2[2 * x]? = some (dig (x / 10)) := fun x h => (smalls2_at x h).1
  have s2 : ∀ x : Nat, x < 100 → smalls2[2 * x + 1]? = some (dig (x % 10)) := fun x h => (smalls2_at x h).2
  have p0 : (0 : Int) < n := by omega
  have pn0 : 0 < n := by omega
  have p1 : (1 : Int) < n := by omega
  have pn1 : 1 < n := by omega
  have p2 : (2 : Int) < n := by omega
  have pn2 : 2 < n := by omega
  have p3 : (3 : Int) < n := by omega
  have pn3 : 3 < n := by omega
  match f, hf with
  | [x0, x1, x2, x3], _ =>
  generalize hcs : p ++ ([x0, x1, x2, x3] ++ r) = cs
  have hcl : p.length + 4 ≤ cs.length := by rw [← hcs]; simp
  have b0 : p.length < cs.length := by omega
  have e0 : p.length + 1 ≤ cs.length := by omega
  have b1 : p.length + 1 < cs.length := by omega
  have e1 : p.length + 1 + 1 ≤ cs.length := by omega
  have b2 : p.length + 2 < cs.length := by omega
  have e2 : p.length + 2 + 1 ≤ cs.length := by omega
  have b3 : p.length + 3 < cs.length := by omega
  have e3 : p.length + 3 + 1 ≤ cs.length := by omega
  have hdig : digN 4 u = [dig (a1 / 10), dig (a1 % 10), dig (a0 / 10), dig (a0 % 10)] := by
    have z0 : u % 10 = a0 % 10 := by omega
    have z1 : u / 10 % 10 = a0 / 10 := by omega
    have z2 : u / 10 / 10 % 10 = a1 % 10 := by omega
    have z3 : u / 10 / 10 / 10 % 10 = a1 / 10 := by omega
    simp [digN, z0, z1, z2, z3]
  rw [hdig]
  simp [-put, fbTail, i_internal_strconv_formatBase10, q1, q2, q3, q4, hb3, hb4, ww, w0, w32, w32b, w32c, t1, t2, t3, t4, s1, s2, hlo, put_set, p0, pn0, p1, pn1, p2, pn2, p3, pn3, b0, e0, b1, e1, b2, e2, b3, e3, show IntKind.wrap .i64 0 = 0 from rfl, show IntKind.wrap .i64 1 = 1 from rfl, show IntKind.wrap .i64 2 = 2 from rfl, show IntKind.wrap .i64 3 = 3 from rfl, show IntKind.wrap .i64 4 = 4 from rfl, show IntKind.wrap .i64 5 = 5 from rfl, show IntKind.wrap .i64 6 = 6 from rfl, show IntKind.wrap .i64 7 = 7 from rfl]
  rw [← hcs]
  simp [List.set_append_right, digA]
set_option maxHeartbeats 4000000 in
theorem fb_tail5 (hlo : lo ≤ hp.length) (p r : List AV) (n u : Nat) (hn : 5 ≤ n) (hu : u < 100000) (f : List AV) (hf : f.length = 5) :
    ∃ fr, evalC G0 (callD G0 IP) (loopD G0 IP lo) lo fbTail ⟨frB hp p.length n u 5 ++ [(20, .bool false)], HB hp (p ++ (f ++ r))⟩ = some (.normal, ⟨fr, HB hp (p ++ (digA (digN 5 u) ++ r))⟩) := by
  have w0 : IntKind.wrap .u32 (u : Int) = u := by simp [IntKind.wrap, IntKind.signed, IntKind.bits]; omega
  have q1 : (u : Int).tmod 10000 = ((u % 10000 : Nat) : Int) := rfl
  have q2 : (u : Int).tdiv 10000 = ((u / 10000 : Nat) : Int) := rfl
  have hd1 := Nat.div_add_mod u 10000
  have hb1 : u % 10000 < 10000 := Nat.mod_lt _ (by omega)
  have hb2 : u / 10000 < 10 := by omega
  generalize hv : u % 10000 = v at *
  generalize hw : u / 10000 = w at *
  have q3 : (v : Int).tdiv 100 = ((v / 100 : Nat) : Int) := rfl
  have q4 : (v : Int).tmod 100 = ((v % 100 : Nat) : Int) := rfl
  have hd2 := Nat.div_add_mod v 100
  have hb3 : v % 100 < 100 := Nat.mod_lt _ (by omega)
  have hb4 : v / 100 < 100 := by omega
  generalize hx : v / 100 = a1 at *
  generalize hy : v % 100 = a0 at *
  have ww : IntKind.wrap .u32 (w : Int) = w := by simp [IntKind.wrap, IntKind.signed, IntKind.bits]; omega
  have l1 := conv8 w (by omega)
  have l2 := add48 w (by omega)
  have w32 : ∀ x : Nat, x < 100 → IntKind.wrap .u32 (x : Int) = x := fun x h => by simp [IntKind.wrap, IntKind.signed, IntKind.bits]; omega
  have w32b : ∀ x : Nat, x < 100 → IntKind.wrap .u32 ((x : Int) * 2) = (x : Int) * 2 := fun x h => by simp [IntKind.wrap, IntKind.signed, IntKind.bits]; omega
  have w32c : ∀ x : Nat, x < 100 → IntKind.wrap .u32 ((x : Int) * 2 + 1) = (x : Int) * 2 + 1 := fun x h => by simp [IntKind.wrap, IntKind.signed, IntKind.bits]; omega
  have t1 : ∀ x : Nat, ((x : Int) * 2).toNat = 2 * x := fun x => by omega
  have t2 : ∀ x : Nat, ((x : Int) * 2 + 1).toNat = 2 * x + 1 := fun x => by omega
  have t3 : ∀ x : Nat, (0 : Int) ≤ (x : Int) * 2 := fun x => by omega
  have t4 : ∀ x : Nat, (0 : Int) ≤ (x : Int) * 2 + 1 := fun x => by omega
  have s1 : ∀ x : Nat, x < 100 → smalls2[2 * x]? = some (dig (x / 10)) := fun x h => (smalls2_at x h).1
  have s2 : ∀ x : Nat, x < 100 → smalls2[2 * x + 1]? = some (dig (x % 10)) := fun x h => (smalls2_at x h).2
  have p0 : (0 : Int) < n := by omega
  have pn0 : 0 < n := by omega
  have p1 : (1 : Int) < n := by omega
  have pn1 : 1 < n := by omega
  have p2 : (2 : Int) < n := by omega
  have pn2 : 2 < n := by omega
  have p3 : (3 : Int) < n := by omega
  have pn3 : 3 < n := by omega
  have p4 : (4 : Int) < n := by omega
  have pn4 : 4 < n := by omega
  match f, hf with
  | [x0, x1, x2, x3, x4], _ =>
  generalize hcs : p ++ ([x0, x1, x2, x3, x4] ++ r) = cs
  have hcl : p.length + 5 ≤ cs.length := by rw [← hcs]; simp
  have b0 : p.length < cs.length := by omega
  have e0 : p.length + 1 ≤ cs.length := by omega
  have b1 : p.length + 1 < cs.length := by omega
  have e1 : p.length + 1 + 1 ≤ cs.length := by omega
  have b2 : p.length + 2 < cs.length := by omega
  have e2 : p.length + 2 + 1 ≤ cs.length := by omega
  have b3 : p.length + 3 < cs.length := by omega
  have e3 : p.length + 3 + 1 ≤ cs.length := by omega
  have b4 : p.length + 4 < cs.length := by omega
  have e4 : p.length + 4 + 1 ≤ cs.length := by omega
  have hdig : digN 5 u = [dig w, dig (a1 / 10), dig (a1 % 10), dig (a0 / 10), dig (a0 % 10)] := by
    have z0 : u % 10 = a0 % 10 := by omega
    have z1 : u / 10 % 10 = a0 / 10 := by omega
    have z2 : u / 10 / 10 % 10 = a1 % 10 := by omega
    have z3 : u / 10 / 10 / 10 % 10 = a1 / 10 := by omega
    have z4 : u / 10 / 10 / 10 / 10 % 10 = w := by omega
    simp [digN, z0, z1, z2, z3, z4]
  rw [hdig]
  simp [-put, fbTail, i_internal_strconv_formatBase10, q1, q2, q3, q4, hb3, hb4, ww, l1, l2, w0, w32, w32b, w32c, t1, t2, t3, t4, s1, s2, hlo, put_set, p0, pn0, p1, pn1, p2, pn2, p3, pn3, p4, pn4, b0, e0, b1, e1, b2, e2, b3, e3, b4, e4, show IntKind.wrap .i64 0 = 0 from rfl, show IntKind.wrap .i64 1 = 1 from rfl, show IntKind.wrap .i64 2 = 2 from rfl, show IntKind.wrap .i64 3 = 3 from rfl, show IntKind.wrap .i64 4 = 4 from rfl, show IntKind.wrap .i64 5 = 5 from rfl, show IntKind.wrap .i64 6 = 6 from rfl, show IntKind.wrap .i64 7 = 7 from rfl]
  rw [← hcs]
  simp [List.set_append_right, digA]
set_option maxHeartbeats 4000000 in
theorem fb_tail6 (hlo : lo ≤ hp.length) (p r : List AV) (n u : Nat) (hn : 6 ≤ n) (hu : u < 1000000) (f : List AV) (hf : f.length = 6) :
    ∃ fr, evalC G0 (callD G0 IP) (loopD G0 IP lo) lo fbTail ⟨frB hp p.length n u 6 ++ [(20, .bool false)], HB hp (p ++ (f ++ r))⟩ = some (.normal, ⟨fr, HB hp (p ++ (digA (digN 6 u) ++ r))⟩) := by
  have w0 : IntKind.wrap .u32 (u : Int) = u := by simp [IntKind.wrap, IntKind.signed, IntKind.bits]; omega
  have q1 : (u : Int).tmod 10000 = ((u % 10000 : Nat) : Int) := rfl
  have q2 : (u : Int).tdiv 10000 = ((u / 10000 : Nat) : Int) := rfl
  have hd1 := Nat.div_add_mod u 10000
  have hb1 : u % 10000 < 10000 := Nat.mod_lt _ (by omega)
  have hb2 : u / 10000 < 100 := by omega
  generalize hv : u % 10000 = v at *
  generalize hw : u / 10000 = w at *
  have q3 : (v : Int).tdiv 100 = ((v / 100 : Nat) : Int) := rfl
  have q4 : (v : Int).tmod 100 = ((v % 100 : Nat) : Int) := rfl
  have hd2 := Nat.div_add_mod v 100
  have hb3 : v % 100 < 100 := Nat.mod_lt _ (by omega)
  have hb4 : v / 100 < 100 := by omega
  generalize hx : v / 100 = a1 at *
  generalize hy : v % 100 = a0 at *
  have ww : IntKind.wrap .u32 (w : Int) = w := by simp [IntKind.wrap, IntKind.signed, IntKind.bits]; omega
  have q5 : (w : Int).tmod 100 = ((w % 100 : Nat) : Int) := rfl
  have q6 : (w : Int).tdiv 100 = ((w / 100 : Nat) : Int) := rfl
  have hd3 := Nat.div_add_mod w 100
  have hb5 : w % 100 < 100 := Nat.mod_lt _ (by omega)
  have hb6 : w / 100 < 1 := by omega
  generalize hz : w % 100 = c0 at *
  generalize ht : w / 100 = c1 at *
  have wc : IntKind.wrap .u32 (c1 : Int) = c1 := by simp [IntKind.wrap, IntKind.signed, IntKind.bits]; omega
  have w32 : ∀ x : Nat, x < 100 → IntKind.wrap .u32 (x : Int) = x := fun x h => by simp [IntKind.wrap, IntKind.signed, IntKind.bits]; omega
  have w32b : ∀ x : Nat, x < 100 → IntKind.wrap .u32 ((x : Int) * 2) = (x : Int) * 2 := fun x h => by simp [IntKind.wrap, IntKind.signed, IntKind.bits]; omega
  have w32c : ∀ x : Nat, x < 100 → IntKind.wrap .u32 ((x : Int) * 2 + 1) = (x : Int) * 2 + 1 := fun x h => by simp [IntKind.wrap, IntKind.signed, IntKind.bits]; omega
  have t1 : ∀ x : Nat, ((x : Int) * 2).toNat = 2 * x := fun x => by omega
  have t2 : ∀ x : Nat, ((x : Int) * 2 + 1).toNat = 2 * x + 1 := fun x => by omega
  have t3 : ∀ x : Nat, (0 : Int) ≤ (x : Int) * 2 := fun x => by omega
  have t4 : ∀ x : Nat, (0 : Int) ≤ (x : Int) * 2 + 1 := fun x => by omega
  have s1 : ∀ x : Nat, x < 100 → smalls2[2 * x]? = some (dig (x / 10)) := fun x h => (smalls2_at x h).1
  have s2 : ∀ x : Nat, x < 100 → smalls2[2 * x + 1]? = some (dig (x % 10)) := fun x h => (smalls2_at x h).2
  have p0 : (0 : Int) < n := by omega
  have pn0 : 0 < n := by omega
  have p1 : (1 : Int) < n := by omega
  have pn1 : 1 < n := by omega
  have p2 : (2 : Int) < n := by omega
  have pn2 : 2 < n := by omega
  have p3 : (3 : Int) < n := by omega
  have pn3 : 3 < n := by omega
  have p4 : (4 : Int) < n := by omega
  have pn4 : 4 < n := by omega
  have p5 : (5 : Int) < n := by omega
  have pn5 : 5 < n := by omega
  match f, hf with
  | [x0, x1, x2, x3, x4, x5], _ =>
  generalize hcs : p ++ ([x0, x1, x2, x3, x4, x5] ++ r) = cs
  have hcl : p.length + 6 ≤ cs.length := by rw [← hcs]; simp
  have b0 : p.length < cs.length := by omega
  have e0 : p.length + 1 ≤ cs.length := by omega
  have b1 : p.length + 1 < cs.length := by omega
  have e1 : p.length + 1 + 1 ≤ cs.length := by omega
  have b2 : p.length + 2 < cs.length := by omega
  have e2 : p.length + 2 + 1 ≤ cs.length := by omega
  have b3 : p.length + 3 < cs.length := by omega
  have e3 : p.length + 3 + 1 ≤ cs.length := by omega
  have b4 : p.length + 4 < cs.length := by omega
  have e4 : p.length + 4 + 1 ≤ cs.length := by omega
  have b5 : p.length + 5 < cs.length := by omega
  have e5 : p.length + 5 + 1 ≤ cs.length := by omega
  have hdig : digN 6 u = [dig (c0 / 10), dig (c0 % 10), dig (a1 / 10), dig (a1 % 10), dig (a0 / 10), dig (a0 % 10)] := by
    have z0 : u % 10 = a0 % 10 := by omega
    have z1 : u / 10 % 10 = a0 / 10 := by omega
    have z2 : u / 10 / 10 % 10 = a1 % 10 := by omega
    have z3 : u / 10 / 10 / 10 % 10 = a1 / 10 := by omega
    have z4 : u / 10 / 10 / 10 / 10 % 10 = c0 % 10 := by omega
    have z5 : u / 10 / 10 / 10 / 10 / 10 % 10 = c0 / 10 := by omega
    simp [digN, z0, z1, z2, z3, z4, z5]
  rw [hdig]
  simp [-put, fbTail, i_internal_strconv_formatBase10, q1, q2, q3, q4, hb3, hb4, ww, q5, q6, hb5, wc, w0, w32, w32b, w32c, t1, t2, t3, t4, s1, s2, hlo, put_set, p0, pn0, p1, pn1, p2, pn2, p3, pn3, p4, pn4, p5, pn5, b0, e0, b1, e1, b2, e2, b3, e3, b4, e4, b5, e5, show IntKind.wrap .i64 0 = 0 from rfl, show IntKind.wrap .i64 1 = 1 from rfl, show IntKind.wrap .i64 2 = 2 from rfl, show IntKind.wrap .i64 3 = 3 from rfl, show IntKind.wrap .i64 4 = 4 from rfl, show IntKind.wrap .i64 5 = 5 from rfl, show IntKind.wrap .i64 6 = 6 from rfl, show IntKind.wrap .i64 7 = 7 from rfl]
  rw [← hcs]
  simp [List.set_append_right, digA]
set_option maxHeartbeats 4000000 in
theorem fb_tail7 (hlo : lo ≤ hp.length) (p r : List AV) (n u : Nat) (hn : 7 ≤ n) (hu : u < 10000000) (f : List AV) (hf : f.length = 7) :
    ∃ fr, evalC G0 (callD G0 IP) (loopD G0 IP lo) lo fbTail ⟨frB hp p.length n u 7 ++ [(20, .bool false)], HB hp (p ++ (f ++ r))⟩ = some (.normal, ⟨fr, HB hp (p ++ (digA (digN 7 u) ++ r))⟩) := by
  have w0 : IntKind.wrap .u32 (u : Int) = u := by simp [IntKind.wrap, IntKind.signed, IntKind.bits]; omega
  have q1 : (u : Int).tmod 10000 = ((u % 10000 : Nat) : Int) := rfl
  have q2 : (u : Int).tdiv 10000 = ((u / 10000 : Nat) : Int) := rfl
  have hd1 := Nat.div_add_mod u 10000
  have hb1 : u % 10000 < 10000 := Nat.mod_lt _ (by omega)
  have hb2 : u / 10000 < 1000 := by omega
  generalize hv : u % 10000 = v at *
  generalize hw : u / 10000 = w at *
  have q3 : (v : Int).tdiv 100 = ((v / 100 : Nat) : Int) := rfl
  have q4 : (v : Int).tmod 100 = ((v % 100 : Nat) : Int) := rfl
  have hd2 := Nat.div_add_mod v 100
  have hb3 : v % 100 < 100 := Nat.mod_lt _ (by omega)
  have hb4 : v / 100 < 100 := by omega
  generalize hx : v / 100 = a1 at *
  generalize hy : v % 100 = a0 at *
  have ww : IntKind.wrap .u32 (w : Int) = w := by simp [IntKind.wrap, IntKind.signed, IntKind.bits]; omega
  have q5 : (w : Int).tmod 100 = ((w % 100 : Nat) : Int) := rfl
  have q6 : (w : Int).tdiv 100 = ((w / 100 : Nat) : Int) := rfl
  have hd3 := Nat.div_add_mod w 100
  have hb5 : w % 100 < 100 := Nat.mod_lt _ (by omega)
  have hb6 : w / 100 < 10 := by omega
  generalize hz : w % 100 = c0 at *
  generalize ht : w / 100 = c1 at *
  have wc : IntKind.wrap .u32 (c1 : Int) = c1 := by simp [IntKind.wrap, IntKind.signed, IntKind.bits]; omega
  have l1 := conv8 c1 (by omega)
  have l2 := add48 c1 (by omega)
  have w32 : ∀ x : Nat, x < 100 → IntKind.wrap .u32 (x : Int) = x := fun x h => by simp [IntKind.wrap, IntKind.signed, IntKind.bits]; omega
  have w32b : ∀ x : Nat, x < 100 → IntKind.wrap .u32 ((x : Int) * 2) = (x : Int) * 2 := fun x h => by simp [IntKind.wrap, IntKind.signed, IntKind.bits]; omega
  have w32c : ∀ x : Nat, x < 100 → IntKind.wrap .u32 ((x : Int) * 2 + 1) = (x : Int) * 2 + 1 := fun x h => by simp [IntKind.wrap, IntKind.signed, IntKind.bits]; omega
  have t1 : ∀ x : Nat, ((x : Int) * 2).toNat = 2 * x := fun x => by omega
  have t2 : ∀ x : Nat, ((x : Int) * 2 + 1).toNat = 2 * x + 1 := fun x => by omega
  have t3 : ∀ x : Nat, (0 : Int) ≤ (x : Int) * 2 := fun x => by omega
  have t4 : ∀ x : Nat, (0 : Int) ≤ (x : Int) * 2 + 1 := fun x => by omega
  have s1 : ∀ x : Nat, x < 100 → smalls2[2 * x]? = some (dig (x / 10)) := fun x h => (smalls2_at x h).1
  have s2 : ∀ x : Nat, x < 100 → smalls2[2 * x + 1]? = some (dig (x % 10)) := fun x h => (smalls2_at x h).2
  have p0 : (0 : Int) < n := by omega
  have pn0 : 0 < n := by omega
  have p1 : (1 : Int) < n := by omega
  have pn1 : 1 < n := by omega
  have p2 : (2 : Int) < n := by omega
  have pn2 : 2 < n := by omega
  have p3 : (3 : Int) < n := by omega
  have pn3 : 3 < n := by omega
  have p4 : (4 : Int) < n := by omega
  have pn4 : 4 < n := by omega
  have p5 : (5 : Int) < n := by omega
  have pn5 : 5 < n := by omega
  have p6 : (6 : Int) < n := by omega
  have pn6 : 6 < n := by omega
  match f, hf with
  | [x0, x1, x2, x3, x4, x5, x6], _ =>
  generalize hcs : p ++ ([x0, x1, x2, x3, x4, x5, x6] ++ r) = cs
  have hcl : p.length + 7 ≤ cs.length := by rw [← hcs]; simp
  have b0 : p.length < cs.length := by omega
  have e0 : p.length + 1 ≤ cs.length := by omega
  have b1 : p.length + 1 < cs.length := by omega
  have e1 : p.length + 1 + 1 ≤ cs.length := by omega
  have b2 : p.length + 2 < cs.length := by omega
  have e2 : p.length + 2 + 1 ≤ cs.length := by omega
  have b3 : p.length + 3 < cs.length := by omega
  have e3 : p.length + 3 + 1 ≤ cs.length := by omega
  have b4 : p.length + 4 < cs.length := by omega
  have e4 : p.length + 4 + 1 ≤ cs.length := by omega
  have b5 : p.length + 5 < cs.length := by omega
  have e5 : p.length + 5 + 1 ≤ cs.length := by omega
  have b6 : p.length + 6 < cs.length := by omega
  have e6 : p.length + 6 + 1 ≤ cs.length := by omega
  have hdig : digN 7 u = [dig c1, dig (c0 / 10), dig (c0 % 10), dig (a1 / 10), dig (a1 % 10), dig (a0 / 10), dig (a0 % 10)] := by
    have z0 : u % 10 = a0 % 10 := by omega
    have z1 : u / 10 % 10 = a0 / 10 := by omega
    have z2 : u / 10 / 10 % 10 = a1 % 10 := by omega
    have z3 : u / 10 / 10 / 10 % 10 = a1 / 10 := by omega
    have z4 : u / 10 / 10 / 10 / 10 % 10 = c0 % 10 := by omega
    have z5 : u / 10 / 10 / 10 / 10 / 10 % 10 = c0 / 10 := by omega
    have z6 : u / 10 / 10 / 10 / 10 / 10 / 10 % 10 = c1 := by omega
    simp [digN, z0, z1, z2, z3, z4, z5, z6]
  rw [hdig]
  simp [-put, fbTail, i_internal_strconv_formatBase10, q1, q2, q3, q4, hb3, hb4, ww, q5, q6, hb5, wc, l1, l2, w0, w32, w32b, w32c, t1, t2, t3, t4, s1, s2, hlo, put_set, p0, pn0, p1, pn1, p2, pn2, p3, pn3, p4, pn4, p5, pn5, p6, pn6, b0, e0, b1, e1, b2, e2, b3, e3, b4, e4, b5, e5, b6, e6, show IntKind.wrap .i64 0 = 0 from rfl, show IntKind.wrap .i64 1 = 1 from rfl, show IntKind.wrap .i64 2 = 2 from rfl, show IntKind.wrap .i64 3 = 3 from rfl, show IntKind.wrap .i64 4 = 4 from rfl, show IntKind.wrap .i64 5 = 5 from rfl, show IntKind.wrap .i64 6 = 6 from rfl, show IntKind.wrap .i64 7 = 7 from rfl]
  rw [← hcs]
  simp [List.set_append_right, digA]
end
end Go.Proofs.YtkofimhnehkdoaaGreatDoor.Rf
end
section
set_option linter.unusedSimpArgs false
set_option linter.unusedVariables false
namespace Go.Proofs.YtkofimhnehkdoaaGreatDoor.Rf
def plainC (n : Int) : Bool := decide (n ≥ 33) && (decide (n ≤ 126) && (!decide (n = 40) && (!decide (n = 41) && !decide (n = 59))))
def blankC (n : Int) : Bool := decide (n = 32) || (decide (n = 9) || (decide (n = 10) || decide (n = 13)))
theorem plain2_D (n : Int) (hp : List HObj) (lo : Nat) (q : Bool) : callD G0 IP n_sexpr_plain [.int .u8 n] hp lo q = some (.ret (.bool (plainC n)) hp) := by
  rw [callD_eq]
  by_cases h1 : n ≥ 33
  · by_cases h2 : n ≤ 126
    · by_cases h3 : n = 40
      · subst h3; simp [IP_sexpr_plain, i_sexpr_plain, plainC]
      · by_cases h4 : n = 41
        · subst h4; simp [IP_sexpr_plain, i_sexpr_plain, plainC]
        · by_cases h5 : n = 59
          · subst h5; simp [IP_sexpr_plain, i_sexpr_plain, plainC]
          · simp [IP_sexpr_plain, i_sexpr_plain, plainC, h1, h2, h3, h4, h5]
    · simp [IP_sexpr_plain, i_sexpr_plain, plainC, h1, h2]
  · simp [IP_sexpr_plain, i_sexpr_plain, plainC, h1]
def byt (s : List UInt8) (i : Nat) : Int := ((s.getD i 0).toNat : Int)
theorem byt_some {s : List UInt8} {i : Nat} (h : i < s.length) : ∃ c : UInt8, s[i]? = some c ∧ byt s i = (c.toNat : Int) := ⟨s[i], by simp [h], by simp [byt, h]⟩
def comK (s : List UInt8) : Nat → Nat → Nat
  | 0, i => i
  | k + 1, i => if byt s i = 10 then i else comK s k (i + 1)
theorem comK_le (s : List UInt8) : ∀ k i, i ≤ comK s k i ∧ comK s k i ≤ i + k
  | 0, i => by simp [comK]
  | k + 1, i => by
    simp only [comK]
    split
    · omega
    · have := comK_le s k (i + 1); omega
def skipK (s : List UInt8) : Nat → Nat → Nat
  | 0, i => i
  | n + 1, i => if i < s.length then (if blankC (byt s i) then skipK s n (i + 1) else if byt s i = 59 then skipK s n (comK s (s.length - i) i) else i) else i
theorem skipK_le (s : List UInt8) : ∀ n i, i ≤ s.length → i ≤ skipK s n i ∧ skipK s n i ≤ s.length
  | 0, i, h => by simp [skipK]; exact h
  | n + 1, i, h => by
    simp only [skipK]
    split
    · split
      · have := skipK_le s n (i + 1) (by omega); omega
      · split
        · have h1 := comK_le s (s.length - i) i
          have := skipK_le s n (comK s (s.length - i) i) (by omega); omega
        · omega
    · omega
def skipN (s : List UInt8) (i : Nat) : Nat := skipK s s.length i
def atomK (s : List UInt8) : Nat → Nat → Nat
  | 0, i => i
  | k + 1, i => if plainC (byt s i) then atomK s k (i + 1) else i
def atomN (s : List UInt8) (i : Nat) : Nat := atomK s (s.length - i) i
theorem atomK_le (s : List UInt8) : ∀ k i, i ≤ atomK s k i ∧ atomK s k i ≤ i + k
  | 0, i => by simp [atomK]
  | k + 1, i => by
    simp only [atomK]
    split
    · have := atomK_le s k (i + 1); omega
    · omega
section
variable {s : List UInt8} {hp : List HObj} {lo : Nat}
end
end Go.Proofs.YtkofimhnehkdoaaGreatDoor.Rf
end
section
set_option linter.unusedSimpArgs false
set_option linter.unusedVariables false
namespace Go.Proofs.YtkofimhnehkdoaaGreatDoor.Rf
def PH (hp : List HObj) (s : List UInt8) (v : Int) : List HObj := hp ++ [.cells 0 [.str s, .int .i64 v, .list [] .nil]]
section
variable {hp : List HObj} {s : List UInt8} {lo : Nat}
@[simp] theorem PH_get (v : Int) : (PH hp s v)[hp.length]? = some (.cells 0 [.str s, .int .i64 v, .list [] .nil]) := by simp [PH]
@[simp] theorem PH_set (v u : Int) : (PH hp s v).set hp.length (.cells 0 [.str s, .int .i64 u, .list [] .nil]) = PH hp s u := by simp [PH]
theorem PH_len (v : Int) : (PH hp s v).length = hp.length + 1 := by simp [PH]
theorem com2_L (hs : s.length ≤ 9223372036854775807) (hlo : lo ≤ hp.length) : ∀ (k i : Nat) (ex : Fr), ex = [] ∨ ex = [(33, .bool true)] → i + k = s.length →
    loopD G0 IP lo l_sexpr_parser_skip_1 ⟨(0, .ptr hp.length 0) :: ex, PH hp s i⟩ = some (.exit 3, ⟨[(0, .ptr hp.length 0), (56, .bool false)], PH hp s (comK s k i)⟩)
  | 0, i, ex, hex, h => by
    rw [loopD_eq, loopBody]
    have : ¬ (i : Int) < (s.length : Int) := by omega
    rcases hex with rfl | rfl <;> simp [l_sexpr_parser_skip_1, this, comK]
  | k + 1, i, ex, hex, h => by
    rw [loopD_eq, loopBody]
    have h1 : (i : Int) < (s.length : Int) := by omega
    obtain ⟨c, h2, hb⟩ := byt_some (s := s) (i := i) (by omega)
    have h3 := wrap_succ (i := i) (n := s.length) (by omega) hs
    have ih := com2_L hs hlo k (i + 1) [] (.inl rfl) (by omega)
    simp only [comK, hb]
    by_cases hc : (c.toNat : Int) = 10
    · rcases hex with rfl | rfl <;> simp [l_sexpr_parser_skip_1, h1, h2, hc]
    · rcases hex with rfl | rfl <;> simp [l_sexpr_parser_skip_1, h1, h2, hc, h3, hlo] <;> exact ih
theorem skip2_L (hs : s.length ≤ 9223372036854775807) (hlo : lo ≤ hp.length) : ∀ (n i : Nat) (ex : Fr), ex = [] ∨ ex = [(56, .bool false)] → i ≤ s.length → s.length - i ≤ n →
    ∃ e st, loopD G0 IP lo l_sexpr_parser_skip_0 ⟨(0, .ptr hp.length 0) :: ex, PH hp s i⟩ = some (e, st) ∧ st.hp = PH hp s (skipK s n i) ∧ (e = .exit 0 ∨ e = .ret)
  | n, i, ex, hex, hi, hn => by
    by_cases h0 : i < s.length
    · match n, hn with
      | 0, hn => exact absurd hn (by omega)
      | n + 1, hn =>
        rw [loopD_eq, loopBody]
        have h1 : (i : Int) < (s.length : Int) := by omega
        obtain ⟨c, h2, hb⟩ := byt_some (s := s) (i := i) h0
        have h3 := wrap_succ (i := i) (n := s.length) h0 hs
        simp only [skipK, if_pos h0, hb]
        have ih0 := skip2_L hs hlo n (i + 1) [] (.inl rfl) (by omega) (by omega)
        by_cases b1 : (c.toNat : Int) = 32
        · rcases hex with rfl | rfl <;> simp [l_sexpr_parser_skip_0, h1, h2, b1, h3, hlo, show blankC 32 = true from rfl] <;> exact ih0
        · by_cases b2 : (c.toNat : Int) = 9
          · rcases hex with rfl | rfl <;> simp [l_sexpr_parser_skip_0, h1, h2, b2, h3, hlo, show blankC 9 = true from rfl] <;> exact ih0
          · by_cases b3 : (c.toNat : Int) = 10
            · rcases hex with rfl | rfl <;> simp [l_sexpr_parser_skip_0, h1, h2, b3, h3, hlo, show blankC 10 = true from rfl] <;> exact ih0
            · by_cases b4 : (c.toNat : Int) = 13
              · rcases hex with rfl | rfl <;> simp [l_sexpr_parser_skip_0, h1, h2, b4, h3, hlo, show blankC 13 = true from rfl] <;> exact ih0
              · have hc : blankC (c.toNat : Int) = false := by simp [blankC, b1, b2, b3, b4]
                by_cases h4 : (c.toNat : Int) = 59
                · have hcm := com2_L (hp := hp) (lo := lo) hs hlo (s.length - i) i [(33, .bool true)] (.inr rfl) (by omega)
                  have hle := comK_le s (s.length - i) i
                  have hgt : i < comK s (s.length - i) i := by
                    obtain ⟨k, hk⟩ : ∃ k, s.length - i = k + 1 := ⟨s.length - i - 1, by omega⟩
                    rw [hk]; simp only [comK, hb, h4]
                    have := comK_le s k (i + 1)
                    simp; omega
                  have ih := skip2_L hs hlo n (comK s (s.length - i) i) [(56, .bool false)] (.inr rfl) (by omega) (by omega)
                  rcases hex with rfl | rfl <;> simp [l_sexpr_parser_skip_0, h1, h2, h4, hcm, show blankC 59 = false from rfl] <;> exact ih
                · rcases hex with rfl | rfl <;> simp [l_sexpr_parser_skip_0, h1, h2, hc, h4, b1, b2, b3, b4] <;> exact ⟨_, _, ⟨rfl, rfl⟩, rfl, .inr rfl⟩
    · rw [loopD_eq, loopBody]
      have h1 : ¬ (i : Int) < (s.length : Int) := by omega
      have e : skipK s n i = i := by cases n <;> simp [skipK, h0]
      rw [e]
      rcases hex with rfl | rfl <;> simp [l_sexpr_parser_skip_0, h1] <;> exact ⟨_, _, ⟨rfl, rfl⟩, rfl, .inl rfl⟩
theorem skip2_D (hs : s.length ≤ 9223372036854775807) (hlo : lo ≤ hp.length) (i : Nat) (hi : i ≤ s.length) : callD G0 IP n_sexpr_parser_skip [.ptr hp.length 0] (PH hp s i) lo false = some (.ret (.tup []) (PH hp s (skipN s i))) := by
  rw [callD_eq]
  obtain ⟨e, st, h, h2, h3⟩ := skip2_L (hp := hp) (lo := lo) hs hlo s.length i [] (.inl rfl) hi (by omega)
  rcases h3 with rfl | rfl <;> simp [IP_sexpr_parser_skip, i_sexpr_parser_skip, h, h2, skipN]
end
end Go.Proofs.YtkofimhnehkdoaaGreatDoor.Rf
end
section
set_option linter.unusedSimpArgs false
set_option linter.unusedVariables false
namespace Go.Proofs.YtkofimhnehkdoaaGreatDoor.Rf
inductive T where
  | mk (op width val : Int) (name : List UInt8) (o : Bool) (args : List T)
namespace T
def op : T → Int | .mk a _ _ _ _ _ => a
def width : T → Int | .mk _ a _ _ _ _ => a
def val : T → Int | .mk _ _ a _ _ _ => a
def name : T → List UInt8 | .mk _ _ _ a _ _ => a
def o : T → Bool | .mk _ _ _ _ a _ => a
def args : T → List T | .mk _ _ _ _ _ a => a
end T
mutual
def T.av : T → AV
  | .mk op w v n o as => .agg [.int .i64 op, .int .i64 w, .int .u64 v, .str n, .list (T.avs as) (ownB o)]
def T.avs : List T → List AV
  | [] => []
  | t :: r => t.av :: T.avs r
end
theorem T.av_eq (t : T) : t.av = .agg [.int .i64 t.op, .int .i64 t.width, .int .u64 t.val, .str t.name, .list (T.avs t.args) (ownB t.o)] := by cases t; rfl
abbrev T.cells (t : T) : List AV := [.int .i64 t.op, .int .i64 t.width, .int .u64 t.val, .str t.name, .list (T.avs t.args) (ownB t.o)]
theorem T.avs_eq : ∀ as : List T, T.avs as = as.map T.av
  | [] => rfl
  | t :: r => by simp [T.avs, T.avs_eq r]
@[simp] theorem T.avs_len (as : List T) : (T.avs as).length = as.length := by simp [T.avs_eq]
@[simp] theorem T.avs_getElem {as : List T} {i : Nat} (h : i < (T.avs as).length) : (T.avs as)[i] = (as[i]'(by simpa using h)).av := by simp [T.avs_eq]
mutual
def T.wf : T → Prop
  | .mk op w v n o as => (Lit.int .i64 op).wf = true ∧ (Lit.int .i64 w).wf = true ∧ (Lit.int .u64 v).wf = true ∧ n.length ≤ 9223372036854775807 ∧ as.length ≤ 9223372036854775807 ∧ (o = true → as = []) ∧ T.wfs as
def T.wfs : List T → Prop
  | [] => True
  | t :: r => t.wf ∧ T.wfs r
end
theorem T.wfs_iff : ∀ as : List T, T.wfs as ↔ ∀ t, t ∈ as → t.wf
  | [] => by simp [T.wfs]
  | t :: r => by simp [T.wfs, T.wfs_iff r]
theorem T.wf_eq (t : T) : t.wf ↔ (Lit.int .i64 t.op).wf = true ∧ (Lit.int .i64 t.width).wf = true ∧ (Lit.int .u64 t.val).wf = true ∧ t.name.length ≤ 9223372036854775807 ∧ t.args.length ≤ 9223372036854775807 ∧ (t.o = true → t.args = []) ∧ ∀ u, u ∈ t.args → u.wf := by
  cases t; simp only [T.wf, T.op, T.width, T.val, T.name, T.args, T.o, T.wfs_iff]
mutual
def T.same : T → T → Bool
  | .mk a b c d _ as, .mk a' b' c' d' _ as' => a == a' && (b == b' && (c == c' && (d == d' && T.sames as as')))
def T.sames : List T → List T → Bool
  | [], [] => true
  | t :: r, u :: s => t.same u && T.sames r s
  | [], _ :: _ => false
  | _ :: _, [] => false
end
theorem T.same_eq (t u : T) : t.same u = (t.op == u.op && (t.width == u.width && (t.val == u.val && (t.name == u.name && T.sames t.args u.args)))) := by cases t; cases u; rfl
theorem T.sames_eq : ∀ (as bs : List T) (h : as.length = bs.length), T.sames as bs = !(List.range as.length).any fun i => !(as.getD i (.mk 0 0 0 [] true [])).same (bs.getD i (.mk 0 0 0 [] true []))
  | [], [], _ => rfl
  | t :: r, u :: s, h => by
    rw [T.sames, T.sames_eq r s (by simpa using h), List.length_cons, List.range_succ_eq_map]
    simp [List.any_map, Function.comp_def]
  | [], _ :: _, h => by simp at h
  | _ :: _, [], h => by simp at h
theorem T.sames_len : ∀ (as bs : List T), as.length ≠ bs.length → T.sames as bs = false
  | [], [], h => by simp at h
  | t :: r, u :: s, h => by rw [T.sames, T.sames_len r s (by simpa using h), Bool.and_false]
  | [], _ :: _, h => rfl
  | _ :: _, [], h => rfl
mutual
def T.size : T → Nat
  | .mk _ _ _ _ _ as => 1 + T.sizes as
def T.sizes : List T → Nat
  | [] => 0
  | t :: r => t.size + T.sizes r
end
theorem T.size_eq (t : T) : t.size = 1 + T.sizes t.args := by cases t; rfl
theorem T.ind {p : T → Prop} (h : ∀ t : T, (∀ u, u ∈ t.args → p u) → p t) (t : T) : p t :=
  T.rec (motive_1 := p) (motive_2 := fun as => ∀ u, u ∈ as → p u) (fun a b c d e as ih => h _ ih) (fun u hu => by simp at hu)
    (fun t r h1 h2 u hu => by
      rcases List.mem_cons.1 hu with e | hu
      · rw [e]; exact h1
      · exact h2 u hu) t
end Go.Proofs.YtkofimhnehkdoaaGreatDoor.Rf
end
section
set_option linter.unusedSimpArgs false
set_option linter.unusedVariables false
namespace Go.Proofs.YtkofimhnehkdoaaGreatDoor.Rf
section
variable {H : Type} {P : Program}
theorem HasTy.str {n : Nat} {t : TypeId} {cs : List AV} {d : DataW H} (hu : P.underlying t = some .string) (h : HasTy P n t cs d) : ∃ s, cs = [.str s] ∧ s.length ≤ 9223372036854775807 := by
  cases n with
  | zero => exact h.elim
  | succ n => simp only [HasTy, hu] at h; obtain ⟨m, h1, h2, _⟩ := h; exact ⟨m, h1, h2⟩
theorem HasTy.bool {n : Nat} {t : TypeId} {cs : List AV} {d : DataW H} (hu : P.underlying t = some .bool) (h : HasTy P n t cs d) : ∃ s, cs = [.bool s] := by
  cases n with
  | zero => exact h.elim
  | succ n => simp only [HasTy, hu] at h; obtain ⟨m, h1, h2⟩ := h; exact ⟨m, h1⟩
theorem HasTy.slice {α : Type} {n : Nat} {t e : TypeId} {cs : List AV} {d : DataW H} (f : α → AV) (w : α → Prop) (hu : P.underlying t = some (.slice e)) (h : HasTy P n t cs d)
    (he : ∀ m, m < n → ∀ ds (d' : DataW H), HasTy P m e ds d' → ∃ x, elemAV P e ds = f x ∧ w x) :
    ∃ (o : Bool) (l : List α), cs = [.list (l.map f) (ownB o)] ∧ (o = true → l = []) ∧ l.length ≤ 9223372036854775807 ∧ ∀ x, x ∈ l → w x := by
  cases n with
  | zero => exact h.elim
  | succ n =>
    simp only [HasTy, hu] at h
    rcases h with ⟨rfl, _⟩ | ⟨xs, els, rest, rfl, _, h1, h2, h3⟩
    · exact ⟨true, [], rfl, fun _ => rfl, by simp, by simp⟩
    · have : ∀ (xs : List AV) (els : List (DataW H)), xs.length = els.length → (∀ (i : Nat) x d', xs[i]? = some x → els[i]? = some d' → ∃ ds, x = elemAV P e ds ∧ HasTy P n e ds d') → ∃ l : List α, xs = l.map f ∧ ∀ x, x ∈ l → w x := by
        intro xs
        induction xs with
        | nil => intro els _ _; exact ⟨[], rfl, by simp⟩
        | cons x xs ih =>
          intro els hl hh
          cases els with
          | nil => simp at hl
          | cons y els =>
            obtain ⟨ds, e1, e2⟩ := hh 0 x y rfl rfl
            obtain ⟨a, f1, f2⟩ := he n (by omega) ds y e2
            obtain ⟨l, l1, l2⟩ := ih els (by simpa using hl) fun i x d' a b => hh (i + 1) x d' (by simpa using a) (by simpa using b)
            exact ⟨a :: l, by simp [e1, f1, l1], fun z hz => by
              rcases List.mem_cons.1 hz with e | hz
              · rw [e]; exact f2
              · exact l2 z hz⟩
      obtain ⟨l, l1, l2⟩ := this xs els h1 h3
      subst l1
      have hm : maxLen = 9223372036854775807 := rfl
      rw [hm] at h2
      exact ⟨false, l, rfl, by simp, by simpa using h2, l2⟩
theorem HasTy.fields {n : Nat} {t : TypeId} {fs : Array Field} {cs : List AV} {d : DataW H} (hu : P.underlying t = some (.struct fs)) (h : HasTy P n t cs d) :
    ∃ parts : List (List AV), cs = parts.flatten ∧ parts.length = fs.size ∧ ∀ (i : Nat) f ds, fs[i]? = some f → parts[i]? = some ds → ∃ m, ∃ d' : DataW H, m < n ∧ HasTy P m f.type ds d' := by
  cases n with
  | zero => exact h.elim
  | succ n =>
    simp only [HasTy, hu] at h
    obtain ⟨parts, els, rfl, _, h1, h2, h3⟩ := h
    refine ⟨parts, rfl, h1, fun i f ds a b => ?_⟩
    have : i < els.length := by rw [h2, ← h1]; exact (List.getElem?_eq_some_iff.1 b).1
    exact ⟨n, els[i], by omega, h3 i f ds _ a b (List.getElem?_eq_getElem this)⟩
theorem HasTy.term {tt ts a b c e : TypeId} {fs : Array Field} (hu : P.underlying tt = some (.struct fs)) (hf : fs.toList.map Field.type = [a, b, c, e, ts])
    (ha : P.underlying a = some (.int .i64)) (hb : P.underlying b = some (.int .i64)) (hc : P.underlying c = some (.int .u64)) (he : P.underlying e = some .string) (hs : P.underlying ts = some (.slice tt)) :
    ∀ n cs (d : DataW H), HasTy P n tt cs d → ∃ t : T, cs = t.cells ∧ t.wf := by
  intro n
  induction n using Nat.strongRecOn with
  | _ n ih =>
    intro cs d h
    obtain ⟨parts, rfl, hl, hp⟩ := h.fields hu
    have hsz : fs.size = 5 := by have := congrArg List.length hf; simpa using this
    rw [hsz] at hl
    match parts, hl with
    | [p0, p1, p2, p3, p4], _ =>
      have g : ∀ (i : Nat) ds x, [p0, p1, p2, p3, p4][i]? = some ds → [a, b, c, e, ts][i]? = some x → ∃ m, ∃ d' : DataW H, m < n ∧ HasTy P m x ds d' := by
        intro i ds x h1 h2
        rw [← hf] at h2
        simp only [List.getElem?_map, Array.getElem?_toList, Option.map_eq_some_iff] at h2
        obtain ⟨f, f1, f2⟩ := h2
        obtain ⟨m, d', m1, m2⟩ := hp i f ds f1 h1
        exact ⟨m, d', m1, f2 ▸ m2⟩
      obtain ⟨m0, d0, _, q0⟩ := g 0 _ _ rfl rfl
      obtain ⟨m1, d1, _, q1⟩ := g 1 _ _ rfl rfl
      obtain ⟨m2, d2, _, q2⟩ := g 2 _ _ rfl rfl
      obtain ⟨m3, d3, _, q3⟩ := g 3 _ _ rfl rfl
      obtain ⟨m4, d4, k4, q4⟩ := g 4 _ _ rfl rfl
      obtain ⟨x0, rfl, w0⟩ := q0.int ha
      obtain ⟨x1, rfl, w1⟩ := q1.int hb
      obtain ⟨x2, rfl, w2⟩ := q2.int hc
      obtain ⟨x3, rfl, w3⟩ := q3.str he
      obtain ⟨o, l, rfl, o1, l1, l2⟩ := q4.slice T.av T.wf hs fun m hm ds d' h => by
        obtain ⟨x, x1, x2⟩ := ih m (by omega) ds d' h
        exact ⟨x, by unfold elemAV aggTy; rw [hu, x1, T.av_eq]; rfl, x2⟩
      refine ⟨.mk x0 x1 x2 x3 o l, ?_, ?_⟩
      · simp [T.cells, T.op, T.width, T.val, T.name, T.o, T.args, T.avs_eq]
      · rw [T.wf_eq]; exact ⟨w0, w1, w2, w3, l1, o1, l2⟩
theorem ArgTy.term {tt ts a b c e : TypeId} {fs : Array Field} {v : AV} {d : DataW H} (hu : P.underlying tt = some (.struct fs)) (hf : fs.toList.map Field.type = [a, b, c, e, ts])
    (ha : P.underlying a = some (.int .i64)) (hb : P.underlying b = some (.int .i64)) (hc : P.underlying c = some (.int .u64)) (he : P.underlying e = some .string) (hs : P.underlying ts = some (.slice tt))
    (h : ArgTy P tt v d) : ∃ t : T, v = t.av ∧ t.wf := by
  obtain ⟨n, cs, rfl, h⟩ := h
  obtain ⟨x, x1, x2⟩ := HasTy.term hu hf ha hb hc he hs n cs d h
  exact ⟨x, by unfold elemAV aggTy; rw [hu, x1, T.av_eq]; rfl, x2⟩
theorem ArgTy.array {α : Type} {t e : TypeId} {m : Nat} {v : AV} {d : DataW H} (f : α → List AV) (w : α → Prop) (hu : P.underlying t = some (.array m e)) (h : ArgTy P t v d)
    (he : ∀ n ds (d' : DataW H), HasTy P n e ds d' → ∃ x, ds = f x ∧ w x) : ∃ l : List α, l.length = m ∧ v = .agg (l.map f).flatten ∧ ∀ x, x ∈ l → w x := by
  obtain ⟨n, cs, rfl, h⟩ := h
  cases n with
  | zero => exact h.elim
  | succ n =>
    simp only [HasTy, hu] at h
    obtain ⟨parts, els, rfl, _, h1, h2, h3⟩ := h
    have : ∀ (xs : List (List AV)) (els : List (DataW H)), xs.length = els.length → (∀ (i : Nat) x d', xs[i]? = some x → els[i]? = some d' → HasTy P n e x d') → ∃ l : List α, xs = l.map f ∧ ∀ x, x ∈ l → w x := by
      intro xs
      induction xs with
      | nil => intro els _ _; exact ⟨[], rfl, by simp⟩
      | cons x xs ih =>
        intro els hl hh
        cases els with
        | nil => simp at hl
        | cons y els =>
          obtain ⟨a, f1, f2⟩ := he n x y (hh 0 x y rfl rfl)
          obtain ⟨l, l1, l2⟩ := ih els (by simpa using hl) fun i x d' a b => hh (i + 1) x d' (by simpa using a) (by simpa using b)
          exact ⟨a :: l, by simp [f1, l1], fun z hz => by
            rcases List.mem_cons.1 hz with e | hz
            · rw [e]; exact f2
            · exact l2 z hz⟩
    obtain ⟨l, l1, l2⟩ := this parts els (by omega) h3
    subst l1
    refine ⟨l, by simpa using h1, ?_, l2⟩
    unfold elemAV aggTy; rw [hu]; rfl
end
end Go.Proofs.YtkofimhnehkdoaaGreatDoor.Rf
end
section
set_option linter.unusedSimpArgs false
set_option linter.unusedVariables false
namespace Go.Proofs.YtkofimhnehkdoaaGreatDoor.Rf
inductive S where
  | mk (atom : List UInt8) (o : Bool) (list : List S)
namespace S
def atom : S → List UInt8 | .mk a _ _ => a
def o : S → Bool | .mk _ a _ => a
def list : S → List S | .mk _ _ a => a
end S
mutual
def S.av : S → AV
  | .mk a o l => .agg [.str a, .list (S.avs l) (ownB o)]
def S.avs : List S → List AV
  | [] => []
  | t :: r => t.av :: S.avs r
end
theorem S.av_eq (t : S) : t.av = .agg [.str t.atom, .list (S.avs t.list) (ownB t.o)] := by cases t; rfl
theorem S.avs_eq : ∀ l : List S, S.avs l = l.map S.av
  | [] => rfl
  | t :: r => by simp [S.avs, S.avs_eq r]
@[simp] theorem S.avs_len (l : List S) : (S.avs l).length = l.length := by simp [S.avs_eq]
@[simp] theorem S.avs_nil : S.avs [] = [] := rfl
@[simp] theorem S.avs_getElem {l : List S} {i : Nat} (h : i < (S.avs l).length) : (S.avs l)[i] = (l[i]'(by simpa using h)).av := by simp [S.avs_eq]
theorem S.avs_app (a b : List S) : S.avs (a ++ b) = S.avs a ++ S.avs b := by simp [S.avs_eq]
mutual
def S.wf : S → Prop
  | .mk a o l => a.length ≤ 9223372036854775807 ∧ l.length ≤ 9223372036854775807 ∧ (o = true → l = []) ∧ S.wfs l
def S.wfs : List S → Prop
  | [] => True
  | t :: r => t.wf ∧ S.wfs r
end
theorem S.wfs_iff : ∀ l : List S, S.wfs l ↔ ∀ t, t ∈ l → t.wf
  | [] => by simp [S.wfs]
  | t :: r => by simp [S.wfs, S.wfs_iff r]
theorem S.wf_eq (t : S) : t.wf ↔ t.atom.length ≤ 9223372036854775807 ∧ t.list.length ≤ 9223372036854775807 ∧ (t.o = true → t.list = []) ∧ ∀ u, u ∈ t.list → u.wf := by
  cases t; simp only [S.wf, S.atom, S.list, S.o, S.wfs_iff]
mutual
def S.same : S → S → Bool
  | .mk a _ l, .mk a' _ l' => a == a' && S.sames l l'
def S.sames : List S → List S → Bool
  | [], [] => true
  | t :: r, u :: s => t.same u && S.sames r s
  | [], _ :: _ => false
  | _ :: _, [] => false
end
theorem S.same_eq (t u : S) : t.same u = (t.atom == u.atom && S.sames t.list u.list) := by cases t; cases u; rfl
theorem S.sames_eq : ∀ (as bs : List S) (h : as.length = bs.length), S.sames as bs = !(List.range as.length).any fun i => !(as.getD i (.mk [] true [])).same (bs.getD i (.mk [] true []))
  | [], [], _ => rfl
  | t :: r, u :: s, h => by
    rw [S.sames, S.sames_eq r s (by simpa using h), List.length_cons, List.range_succ_eq_map]
    simp [List.any_map, Function.comp_def]
  | [], _ :: _, h => by simp at h
  | _ :: _, [], h => by simp at h
theorem S.sames_len : ∀ (as bs : List S), as.length ≠ bs.length → S.sames as bs = false
  | [], [], h => by simp at h
  | t :: r, u :: s, h => by rw [S.sames, S.sames_len r s (by simpa using h), Bool.and_false]
  | [], _ :: _, h => rfl
  | _ :: _, [], h => rfl
theorem S.ind {p : S → Prop} (h : ∀ t : S, (∀ u, u ∈ t.list → p u) → p t) (t : S) : p t :=
  S.rec (motive_1 := p) (motive_2 := fun l => ∀ u, u ∈ l → p u) (fun a b c ih => h _ ih) (fun u hu => by simp at hu)
    (fun t r h1 h2 u hu => by
      rcases List.mem_cons.1 hu with e | hu
      · rw [e]; exact h1
      · exact h2 u hu) t
theorem S.same_refl (t : S) : t.same t = true := by
  induction t using S.ind with | h t ih =>
  have : ∀ l : List S, (∀ u, u ∈ l → u.same u = true) → S.sames l l = true := by
    intro l
    induction l with
    | nil => intro _; rfl
    | cons x r ihl => intro h; simp only [S.sames, h x (by simp), Bool.true_and]; exact ihl fun u hu => h u (by simp [hu])
  rw [S.same_eq, this t.list ih]; simp
theorem S.sames_refl (l : List S) : S.sames l l = true := by
  induction l with
  | nil => rfl
  | cons x r ih => simp only [S.sames, S.same_refl x, ih, Bool.true_and]
section
variable {H : Type} {P : Program}
theorem ArgTy.str {t : TypeId} {v : AV} {d : DataW H} (hu : P.underlying t = some .string) (h : ArgTy P t v d) : ∃ s, v = .str s ∧ s.length ≤ 9223372036854775807 := by
  obtain ⟨n, cs, rfl, h⟩ := h
  obtain ⟨m, rfl, hm⟩ := h.str hu
  exact ⟨m, by unfold elemAV aggTy; rw [hu]; rfl, hm⟩
end
end Go.Proofs.YtkofimhnehkdoaaGreatDoor.Rf
end
