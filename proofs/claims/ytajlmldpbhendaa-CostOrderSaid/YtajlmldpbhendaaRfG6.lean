/- More rounds tell the same. -/
import Derived.Test.YtajlmldpbhendaaRfG1
import Derived.Test.YtajlmldpbhendaaRfG4
import Derived.Test.YtajlmldpbhendaaRfG5
section
set_option linter.unusedSimpArgs false
set_option linter.unusedVariables false
namespace Go.Proofs.Ytajlmldpbhendaa.Rf

def CallLe (c d : CallF) : Prop := ∀ f vs hp lo q r, c f vs hp lo q = some r → d f vs hp lo q = some r
def LoopLe (c d : LoopF) : Prop := ∀ b st r, c b st = some r → d b st = some r
section
variable {G : Nat → Option (List AV)} {c d : CallF} {lo : Nat}
theorem evalOp_mono (h : CallLe c d) {o : IOp} {st : St} {r : OpR} (e : evalOp G c lo o st = some r) : evalOp G d lo o st = some r := by
  cases o
  case call f xs q =>
    simp only [evalOp] at e ⊢
    split at e
    · cases e
    · rename_i hp
      rw [if_neg hp]
      split at e
      · split at e
        · cases e
        · rename_i hpc
          rw [if_neg hpc]
          split at e
          · rename_i hc; rw [h _ _ _ _ _ _ hc]; exact e
          · rename_i hc; rw [h _ _ _ _ _ _ hc]; exact e
          · cases e
      · cases e
  all_goals exact e
theorem evalOps_mono (h : CallLe c d) : ∀ {os : List IOper} {st : St} {r : Ex × St}, evalOps G c lo os st = some r → evalOps G d lo os st = some r
  | [], st, r, e => e
  | o :: os, st, r, e => by
    simp only [evalOps] at e ⊢
    split at e
    · split at e
      · rename_i ho; rw [evalOp_mono h ho]
        split at e
        · rename_i hp; simp only [hp]; exact evalOps_mono h e
        · cases e
      · rename_i ho; rw [evalOp_mono h ho]; exact e
      · cases e
    · split at e
      · rename_i hp; exact evalOps_mono h e
      · cases e
    · cases e
theorem evalDraw_mono (h : CallLe c d) {ops : List IOper} {pans : List Nat} : ∀ {ord : List Nat} {st : St} {r : Ex × St}, evalDraw G c lo ops pans ord st = some r → evalDraw G d lo ops pans ord st = some r
  | [], st, r, e => e
  | i :: ord, st, r, e => by
    simp only [evalDraw] at e ⊢
    split at e
    · cases e
    · split at e
      · rename_i ho; rw [evalOps_mono h ho]; exact evalDraw_mono h e
      · rename_i ho; rw [evalOps_mono h ho]; exact e
      · cases e
theorem evalC_mono (h : CallLe c d) {l m : LoopF} (hl : LoopLe l m) : ∀ {x : ICode} {st : St} {r : Ex × St}, evalC G c l lo x st = some r → evalC G d m lo x st = some r := by
  intro x
  induction x with
  | skip => intro st r e; exact e
  | region ops live =>
    intro st r e
    simp only [evalC] at e ⊢
    split at e
    · rename_i ho; rw [evalOps_mono h ho]; exact e
    · rename_i hne
      rw [evalOps_mono h e]
      split
      · rename_i s1 hh; cases hh; exact absurd e (by simpa using hne s1)
      · rfl
  | draw ops ord pans live =>
    intro st r e
    simp only [evalC] at e ⊢
    split at e
    · rename_i ho; rw [evalDraw_mono h ho]; exact e
    · rename_i hne
      rw [evalDraw_mono h e]
      split
      · rename_i s1 hh; cases hh; exact absurd e (by simpa using hne s1)
      · rfl
  | seq a b iha ihb =>
    intro st r e
    simp only [evalC] at e ⊢
    split at e
    · rename_i ho; rw [iha ho]; exact ihb e
    · rename_i hne
      rw [iha e]
      split
      · rename_i s1 hh; cases hh; exact absurd e (by simpa using hne s1)
      · rfl
  | cond c a b iha ihb =>
    intro st r e
    simp only [evalC] at e ⊢
    split at e
    · split at e
      · rename_i h1; rw [if_pos h1]; exact iha e
      · rename_i h1; rw [if_neg h1]; exact ihb e
    · cases e
  | block id b ih =>
    intro st r e
    simp only [evalC] at e ⊢
    split at e
    · rename_i ho; rw [ih ho]; exact e
    · rename_i hne
      rw [ih e]
      split
      · rename_i i s1 hh; cases hh; exact absurd e (by simpa using hne i s1)
      · rfl
  | loop b ih => intro st r e; exact hl _ _ _ e
  | exit id => intro st r e; exact e
  | ret => intro st r e; exact e
theorem run_succ (IP : IProg) : ∀ k, CallLe (run G IP k).1 (run G IP (k + 1)).1 ∧ ∀ lo, LoopLe ((run G IP k).2 lo) ((run G IP (k + 1)).2 lo)
  | 0 => ⟨fun f vs hp lo q r e => by simp [run] at e, fun lo b st r e => by simp [run] at e⟩
  | k + 1 => by
    obtain ⟨h1, h2⟩ := run_succ IP k
    refine ⟨fun f vs hp lo q r e => ?_, fun lo b st r e => ?_⟩
    · rw [show (run G IP (k + 1)).1 = callBody G IP (run G IP k).1 (run G IP k).2 from rfl] at e
      rw [show (run G IP (k + 1 + 1)).1 = callBody G IP (run G IP (k + 1)).1 (run G IP (k + 1)).2 from rfl]
      simp only [callBody] at e ⊢
      split at e
      · cases e
      · rename_i fn hfn
        split at e
        · cases e
        · rename_i hc
          rw [if_neg hc]
          split at e
          · rename_i ho; rw [evalC_mono h1 (h2 _) ho]; exact e
          · rename_i ho; rw [evalC_mono h1 (h2 _) ho]; exact e
          · rename_i ho; rw [evalC_mono h1 (h2 _) ho]; exact e
          · cases e
    · rw [show (run G IP (k + 1)).2 lo = loopBody G (run G IP k).1 (run G IP k).2 lo from rfl] at e
      rw [show (run G IP (k + 1 + 1)).2 lo = loopBody G (run G IP (k + 1)).1 (run G IP (k + 1)).2 lo from rfl]
      simp only [loopBody] at e ⊢
      split at e
      · rename_i ho; rw [evalC_mono h1 (h2 _) ho]; exact h2 _ _ _ _ e
      · rename_i hne
        rw [evalC_mono h1 (h2 _) e]
        split
        · rename_i s1 hh; cases hh; exact absurd e (by simpa using hne s1)
        · rfl
theorem run_mono {IP : IProg} {k k' : Nat} (h : k ≤ k') : CallLe (run G IP k).1 (run G IP k').1 ∧ ∀ lo, LoopLe ((run G IP k).2 lo) ((run G IP k').2 lo) := by
  induction h with
  | refl => exact ⟨fun _ _ _ _ _ _ e => e, fun _ _ _ _ e => e⟩
  | step h ih =>
    obtain ⟨a, b⟩ := run_succ (G := G) IP _
    exact ⟨fun f vs hp lo q r e => a _ _ _ _ _ _ (ih.1 _ _ _ _ _ _ e), fun lo x st r e => b lo _ _ _ (ih.2 lo _ _ _ e)⟩
end
end Go.Proofs.Ytajlmldpbhendaa.Rf
end
section
/- The machine without a count of rounds: what the calls answer in the end. -/
set_option linter.unusedSimpArgs false
set_option linter.unusedVariables false
namespace Go.Proofs.Ytajlmldpbhendaa.Rf
section
variable (G : Nat → Option (List AV)) (IP : IProg)
open Classical in
/-- The answer of a call, if some number of rounds gives one. -/
noncomputable def callD : CallF := fun f vs hp lo q => if h : ∃ k r, (run G IP k).1 f vs hp lo q = some r then some h.choose_spec.choose else none
open Classical in
noncomputable def loopD (lo : Nat) : LoopF := fun b st => if h : ∃ k r, (run G IP k).2 lo b st = some r then some h.choose_spec.choose else none
variable {G IP}
theorem callD_iff {f : Nat} {vs : List AV} {hp : List HObj} {lo : Nat} {q : Bool} {r : COut} : callD G IP f vs hp lo q = some r ↔ ∃ k, (run G IP k).1 f vs hp lo q = some r := by
  unfold callD
  constructor
  · intro h
    split at h
    · rename_i hh; cases h; exact ⟨_, hh.choose_spec.choose_spec⟩
    · cases h
  · rintro ⟨k, hk⟩
    have hh : ∃ k r, (run G IP k).1 f vs hp lo q = some r := ⟨k, r, hk⟩
    rw [dif_pos hh]
    have e1 := (run_mono (G := G) (IP := IP) (Nat.le_max_left k hh.choose)).1 _ _ _ _ _ _ hk
    have e2 := (run_mono (G := G) (IP := IP) (Nat.le_max_right k hh.choose)).1 _ _ _ _ _ _ hh.choose_spec.choose_spec
    rw [e1] at e2; exact e2.symm
theorem loopD_iff {lo : Nat} {b : ICode} {st : St} {r : Ex × St} : loopD G IP lo b st = some r ↔ ∃ k, (run G IP k).2 lo b st = some r := by
  unfold loopD
  constructor
  · intro h
    split at h
    · rename_i hh; cases h; exact ⟨_, hh.choose_spec.choose_spec⟩
    · cases h
  · rintro ⟨k, hk⟩
    have hh : ∃ k r, (run G IP k).2 lo b st = some r := ⟨k, r, hk⟩
    rw [dif_pos hh]
    have e1 := (run_mono (G := G) (IP := IP) (Nat.le_max_left k hh.choose)).2 lo _ _ _ hk
    have e2 := (run_mono (G := G) (IP := IP) (Nat.le_max_right k hh.choose)).2 lo _ _ _ hh.choose_spec.choose_spec
    rw [e1] at e2; exact e2.symm
theorem run_callD (k : Nat) : CallLe (run G IP k).1 (callD G IP) := fun _ _ _ _ _ _ h => callD_iff.2 ⟨k, h⟩
theorem run_loopD (k lo : Nat) : LoopLe ((run G IP k).2 lo) (loopD G IP lo) := fun _ _ _ h => loopD_iff.2 ⟨k, h⟩

theorem evalOp_cont {lo : Nat} {o : IOp} {st : St} {r : OpR} (e : evalOp G (callD G IP) lo o st = some r) : ∃ k, evalOp G (run G IP k).1 lo o st = some r := by
  cases o
  case call f xs q =>
    simp only [evalOp] at e ⊢
    split at e
    · cases e
    · rename_i hp
      simp only [if_neg hp]
      split at e
      · split at e
        · cases e
        · rename_i hpc
          simp only [if_neg hpc]
          split at e
          · rename_i hc; obtain ⟨k, hk⟩ := callD_iff.1 hc; exact ⟨k, by rw [hk]; exact e⟩
          · rename_i hc; obtain ⟨k, hk⟩ := callD_iff.1 hc; exact ⟨k, by rw [hk]; exact e⟩
          · cases e
      · cases e
  all_goals exact ⟨0, e⟩
theorem evalOps_cont {lo : Nat} : ∀ {os : List IOper} {st : St} {r : Ex × St}, evalOps G (callD G IP) lo os st = some r → ∃ k, evalOps G (run G IP k).1 lo os st = some r
  | [], st, r, e => ⟨0, e⟩
  | o :: os, st, r, e => by
    simp only [evalOps] at e ⊢
    split at e
    · split at e
      · rename_i ho
        obtain ⟨k1, h1⟩ := evalOp_cont ho
        split at e
        · rename_i hp
          obtain ⟨k2, h2⟩ := evalOps_cont e
          refine ⟨max k1 k2, ?_⟩
          rw [evalOp_mono (run_mono (Nat.le_max_left k1 k2)).1 h1]
          simp only [hp]
          exact evalOps_mono (run_mono (Nat.le_max_right k1 k2)).1 h2
        · cases e
      · rename_i ho
        obtain ⟨k1, h1⟩ := evalOp_cont ho
        exact ⟨k1, by rw [h1]; exact e⟩
      · cases e
    · split at e
      · rename_i hp
        exact evalOps_cont e
      · cases e
    · cases e
theorem evalDraw_cont {lo : Nat} {ops : List IOper} {pans : List Nat} : ∀ {ord : List Nat} {st : St} {r : Ex × St}, evalDraw G (callD G IP) lo ops pans ord st = some r → ∃ k, evalDraw G (run G IP k).1 lo ops pans ord st = some r
  | [], st, r, e => ⟨0, e⟩
  | i :: ord, st, r, e => by
    simp only [evalDraw] at e ⊢
    split at e
    · cases e
    · split at e
      · rename_i ho
        obtain ⟨k1, h1⟩ := evalOps_cont ho
        obtain ⟨k2, h2⟩ := evalDraw_cont e
        refine ⟨max k1 k2, ?_⟩
        rw [evalOps_mono (run_mono (Nat.le_max_left k1 k2)).1 h1]
        exact evalDraw_mono (run_mono (Nat.le_max_right k1 k2)).1 h2
      · rename_i ho
        obtain ⟨k1, h1⟩ := evalOps_cont ho
        exact ⟨k1, by rw [h1]; exact e⟩
      · cases e
theorem evalC_cont {lo : Nat} : ∀ {x : ICode} {st : St} {r : Ex × St}, evalC G (callD G IP) (loopD G IP lo) lo x st = some r → ∃ k, evalC G (run G IP k).1 ((run G IP k).2 lo) lo x st = some r := by
  intro x
  induction x with
  | skip => intro st r e; exact ⟨0, e⟩
  | region ops live =>
    intro st r e
    simp only [evalC] at e ⊢
    split at e
    · rename_i ho; obtain ⟨k, hk⟩ := evalOps_cont ho; exact ⟨k, by rw [hk]; exact e⟩
    · rename_i hne
      obtain ⟨k, hk⟩ := evalOps_cont e
      refine ⟨k, ?_⟩
      rw [hk]
      split
      · rename_i s1 hh; cases hh; exact absurd e (by simpa using hne s1)
      · rfl
  | draw ops ord pans live =>
    intro st r e
    simp only [evalC] at e ⊢
    split at e
    · rename_i ho; obtain ⟨k, hk⟩ := evalDraw_cont ho; exact ⟨k, by rw [hk]; exact e⟩
    · rename_i hne
      obtain ⟨k, hk⟩ := evalDraw_cont e
      refine ⟨k, ?_⟩
      rw [hk]
      split
      · rename_i s1 hh; cases hh; exact absurd e (by simpa using hne s1)
      · rfl
  | seq a b iha ihb =>
    intro st r e
    simp only [evalC] at e ⊢
    split at e
    · rename_i ho
      obtain ⟨k1, h1⟩ := iha ho
      obtain ⟨k2, h2⟩ := ihb e
      refine ⟨max k1 k2, ?_⟩
      have m1 := run_mono (G := G) (IP := IP) (Nat.le_max_left k1 k2)
      have m2 := run_mono (G := G) (IP := IP) (Nat.le_max_right k1 k2)
      rw [evalC_mono m1.1 (m1.2 lo) h1]
      exact evalC_mono m2.1 (m2.2 lo) h2
    · rename_i hne
      obtain ⟨k, hk⟩ := iha e
      refine ⟨k, ?_⟩
      rw [hk]
      split
      · rename_i s1 hh; cases hh; exact absurd e (by simpa using hne s1)
      · rfl
  | cond c a b iha ihb =>
    intro st r e
    simp only [evalC] at e ⊢
    split at e
    · split at e
      · rename_i h1; simp only [if_pos h1]; exact iha e
      · rename_i h1; simp only [if_neg h1]; exact ihb e
    · cases e
  | block id b ih =>
    intro st r e
    simp only [evalC] at e ⊢
    split at e
    · rename_i ho; obtain ⟨k, hk⟩ := ih ho; exact ⟨k, by rw [hk]; exact e⟩
    · rename_i hne
      obtain ⟨k, hk⟩ := ih e
      refine ⟨k, ?_⟩
      rw [hk]
      split
      · rename_i i s1 hh; cases hh; exact absurd e (by simpa using hne i s1)
      · rfl
  | loop b ih => intro st r e; obtain ⟨k, hk⟩ := loopD_iff.1 e; exact ⟨k, hk⟩
  | exit id => intro st r e; exact ⟨0, e⟩
  | ret => intro st r e; exact ⟨0, e⟩

theorem callBody_mono {c d : CallF} {l m : Nat → LoopF} (h : CallLe c d) (hl : ∀ lo, LoopLe (l lo) (m lo)) : CallLe (callBody G IP c l) (callBody G IP d m) := by
  intro f vs hp lo q r e
  simp only [callBody] at e ⊢
  split at e
  · cases e
  · rename_i fn hfn
    split at e
    · cases e
    · rename_i hc
      rw [if_neg hc]
      split at e
      · rename_i ho; rw [evalC_mono h (hl _) ho]; exact e
      · rename_i ho; rw [evalC_mono h (hl _) ho]; exact e
      · rename_i ho; rw [evalC_mono h (hl _) ho]; exact e
      · cases e
theorem loopBody_mono {c d : CallF} {l m : Nat → LoopF} (h : CallLe c d) (hl : ∀ lo, LoopLe (l lo) (m lo)) (lo : Nat) : LoopLe (loopBody G c l lo) (loopBody G d m lo) := by
  intro b st r e
  simp only [loopBody] at e ⊢
  split at e
  · rename_i ho; rw [evalC_mono h (hl _) ho]; exact hl _ _ _ _ e
  · rename_i hne
    rw [evalC_mono h (hl _) e]
    split
    · rename_i s1 hh; cases hh; exact absurd e (by simpa using hne s1)
    · rfl
theorem opt_ext {α : Type} {a b : Option α} (h1 : ∀ r, a = some r → b = some r) (h2 : ∀ r, b = some r → a = some r) : a = b := by
  cases a with
  | none => cases b with
    | none => rfl
    | some r => exact h2 r rfl
  | some r => exact (h1 r rfl).symm
/-- A call is its body's round, its callees and loops by their answers in the end. -/
theorem callD_eq (f : Nat) (vs : List AV) (hp : List HObj) (lo : Nat) (q : Bool) : callD G IP f vs hp lo q = callBody G IP (callD G IP) (loopD G IP) f vs hp lo q := by
  apply opt_ext
  · intro r h
    obtain ⟨k, hk⟩ := callD_iff.1 h
    cases k with
    | zero => simp [run] at hk
    | succ k => exact callBody_mono (run_callD k) (run_loopD k) _ _ _ _ _ _ hk
  · intro r e
    suffices ∃ k, callBody G IP (run G IP k).1 (run G IP k).2 f vs hp lo q = some r by
      obtain ⟨k, hk⟩ := this; exact callD_iff.2 ⟨k + 1, hk⟩
    simp only [callBody] at e ⊢
    split at e
    · cases e
    · rename_i fn hfn
      split at e
      · cases e
      · rename_i hc
        simp only [if_neg hc]
        split at e
        · rename_i ho; obtain ⟨k, hk⟩ := evalC_cont ho; exact ⟨k, by rw [hk]; exact e⟩
        · rename_i ho; obtain ⟨k, hk⟩ := evalC_cont ho; exact ⟨k, by rw [hk]; exact e⟩
        · rename_i ho; obtain ⟨k, hk⟩ := evalC_cont ho; exact ⟨k, by rw [hk]; exact e⟩
        · cases e
theorem loopD_eq (lo : Nat) (b : ICode) (st : St) : loopD G IP lo b st = loopBody G (callD G IP) (loopD G IP) lo b st := by
  apply opt_ext
  · intro r h
    obtain ⟨k, hk⟩ := loopD_iff.1 h
    cases k with
    | zero => simp [run] at hk
    | succ k => exact loopBody_mono (run_callD k) (run_loopD k) _ _ _ _ hk
  · intro r e
    suffices ∃ k, loopBody G (run G IP k).1 (run G IP k).2 lo b st = some r by
      obtain ⟨k, hk⟩ := this; exact loopD_iff.2 ⟨k + 1, hk⟩
    simp only [loopBody] at e ⊢
    split at e
    · rename_i ho
      obtain ⟨k1, h1⟩ := evalC_cont ho
      obtain ⟨k2, h2⟩ := loopD_iff.1 e
      refine ⟨max k1 k2, ?_⟩
      have m1 := run_mono (G := G) (IP := IP) (Nat.le_max_left k1 k2)
      have m2 := run_mono (G := G) (IP := IP) (Nat.le_max_right k1 k2)
      rw [evalC_mono m1.1 (m1.2 lo) h1]
      exact m2.2 lo _ _ _ h2
    · rename_i hne
      obtain ⟨k, hk⟩ := evalC_cont e
      refine ⟨k, ?_⟩
      rw [hk]
      split
      · rename_i s1 hh; cases hh; exact absurd e (by simpa using hne s1)
      · rfl
end
end Go.Proofs.Ytajlmldpbhendaa.Rf
end
section
/- From an answer in the end to a law's statement. -/
set_option linter.unusedSimpArgs false
set_option linter.unusedVariables false
namespace Go.Proofs.Ytajlmldpbhendaa.Rf
section
variable {H : Type} {enc : TypeId × Value → H} {P : Program} {W : World} {base : Nat}
theorem law_endD (hm : P.follows .mixedOrders = true) {IP : IProg} (hIP : ∀ f fn, IP f = some fn → chkFun P f fn = true) (hlaid : laidOutB P = true) {S : List TypeId} (hS : covS P S = true) {f : FuncId} {fn : Func}
    (hp : fn.params.toList.all (fun t => S.contains t && P.readableRec t && Nat.blt t P.types.size) = true) {s : ChangeSpec} (hvars : s.vars = []) {tb : TypeId} (hres : fn.resultTypes = #[tb]) (hb : P.underlying tb = some .bool)
    (hspec : ∀ ds : List (DataW H), ds.length = fn.params.size → s.fn H (ds ++ []) = ⟨[.lit (.bool true)], ds, []⟩) {args : Array Value} {ds gs : List (DataW H)} {before : List MemPlace}
    (hval : ∀ (j : Nat) t v, fn.params[j]? = some t → args[j]? = some v → Value.okWide P W .any base t v) (hW : DataW.Whole enc P fn.params.toList s.vars false W args.toList ds gs before)
    (hrun : ∀ avs, ArgsTy P fn.params.toList avs ds → ∃ q hp, callD noG IP f avs [] 0 q = some (.ret (.bool true) hp)) :
    Calls P f args W fun e W' => ∃ v, e = .returned v ∧ s.post enc P fn false true false false W args v W' :=
  law_end hm hIP hlaid hS hp hvars hres hb hspec hval hW fun avs ha => by
    obtain ⟨q, hp, h⟩ := hrun avs ha
    obtain ⟨k, hk⟩ := callD_iff.1 h
    exact ⟨k, q, hp, hk⟩
end
end Go.Proofs.Ytajlmldpbhendaa.Rf
end
section
/- The walk: how the plain machine is stepped by simp; loops by their states. -/
set_option linter.unusedSimpArgs false
set_option linter.unusedVariables false
namespace Go.Proofs.Ytajlmldpbhendaa.Rf

attribute [simp] callBody evalC evalDraw evalOps evalOp opd opds wanted St.put ret1 Fr.get Fr.set Fr.keep Fr.keepOk AV.loose evalRess evalRes1 AV.plain plains tupOf AV.closed AV.closedL enter memOk behind behindPut cut put ofCells binAV intBin strBin shiftBin eqAV unAV bound AV.spread AV.cells buildCells fillElems keyEq

def Own.cp : Own → Own | .nil => .nil | _ => .no
@[simp] theorem Own.cp_nil : Own.cp .nil = .nil := rfl
@[simp] theorem Own.cp_no : Own.cp .no = .no := rfl
@[simp] theorem Own.cp_own (n : Nat) : Own.cp (.own n) = .no := rfl
@[simp] theorem Own.cp_cp (o : Own) : o.cp.cp = o.cp := by cases o <;> rfl
section
variable (k : IntKind) (n : Int) (b : Bool) (s : List UInt8) (xs cs : List AV) (o : Own) (i j : Nat) (v : AV)
@[simp] theorem cp1_none : AV.cp1 .none = .none := rfl
@[simp] theorem cp1_bool : AV.cp1 (.bool b) = .bool b := rfl
@[simp] theorem cp1_int' : AV.cp1 (.int k n) = .int k n := rfl
@[simp] theorem cp1_str : AV.cp1 (.str s) = .str s := rfl
@[simp] theorem cp1_agg : AV.cp1 (.agg cs) = .agg cs := rfl
@[simp] theorem cp1_list : AV.cp1 (.list xs o) = .list xs o.cp := by cases o <;> rfl
@[simp] theorem cp1_ptr : AV.cp1 (.ptr i j) = .ptr i j := rfl
@[simp] theorem cp1_nilp : AV.cp1 .nilp = .nilp := rfl
@[simp] theorem cp1_lref : AV.cp1 (.lref i j) = .lref i j := rfl
@[simp] theorem cp1_box : AV.cp1 (.box cs) = .box cs := rfl
@[simp] theorem cp1_eref : AV.cp1 (.eref v i) = .eref v i := rfl
@[simp] theorem cp1_lastr : AV.cp1 (.lastr i) = .lastr i := rfl
@[simp] theorem cp1_map : AV.cp1 (.map i) = .map i := rfl
@[simp] theorem cp1_nilm : AV.cp1 .nilm = .nilm := rfl
@[simp] theorem cp1_func : AV.cp1 (.func i cs) = .func i cs := rfl
@[simp] theorem cp1_nilf : AV.cp1 .nilf = .nilf := rfl
@[simp] theorem cp1_iface : AV.cp1 (.iface i v) = .iface i v := rfl
@[simp] theorem cp1_nili : AV.cp1 .nili = .nili := rfl
@[simp] theorem cp1_glob : AV.cp1 (.glob i j) = .glob i j := rfl
@[simp] theorem cp1_tup : AV.cp1 (.tup cs) = .tup cs := rfl
@[simp] theorem cpA_none : AV.cpA .none = .none := rfl
@[simp] theorem cpA_bool : AV.cpA (.bool b) = .bool b := rfl
@[simp] theorem cpA_int' : AV.cpA (.int k n) = .int k n := rfl
@[simp] theorem cpA_str : AV.cpA (.str s) = .str s := rfl
@[simp] theorem cpA_agg : AV.cpA (.agg cs) = .agg (cs.map AV.cp1) := rfl
@[simp] theorem cpA_list : AV.cpA (.list xs o) = .list xs o.cp := by cases o <;> rfl
@[simp] theorem cpA_ptr : AV.cpA (.ptr i j) = .ptr i j := rfl
@[simp] theorem cpA_nilp : AV.cpA .nilp = .nilp := rfl
@[simp] theorem cpA_map : AV.cpA (.map i) = .map i := rfl
@[simp] theorem cpA_nilm : AV.cpA .nilm = .nilm := rfl
@[simp] theorem cpA_func : AV.cpA (.func i cs) = .func i cs := rfl
@[simp] theorem cpA_nilf : AV.cpA .nilf = .nilf := rfl
@[simp] theorem cpA_iface : AV.cpA (.iface i v) = .iface i v := rfl
@[simp] theorem cpA_nili : AV.cpA .nili = .nili := rfl
@[simp] theorem cpA_glob : AV.cpA (.glob i j) = .glob i j := rfl
@[simp] theorem cp_none : AV.cp .none = .none := rfl
@[simp] theorem cp_bool : AV.cp (.bool b) = .bool b := rfl
@[simp] theorem cp_int' : AV.cp (.int k n) = .int k n := rfl
@[simp] theorem cp_str : AV.cp (.str s) = .str s := rfl
@[simp] theorem cp_agg : AV.cp (.agg cs) = .agg (cs.map AV.cp1) := rfl
@[simp] theorem cp_list : AV.cp (.list xs o) = .list xs o.cp := by cases o <;> rfl
@[simp] theorem cp_ptr : AV.cp (.ptr i j) = .ptr i j := rfl
@[simp] theorem cp_nilp : AV.cp .nilp = .nilp := rfl
@[simp] theorem cp_lref : AV.cp (.lref i j) = .lref i j := rfl
@[simp] theorem cp_box : AV.cp (.box cs) = .box cs := rfl
@[simp] theorem cp_eref : AV.cp (.eref v i) = .eref v i := rfl
@[simp] theorem cp_lastr : AV.cp (.lastr i) = .lastr i := rfl
@[simp] theorem cp_map : AV.cp (.map i) = .map i := rfl
@[simp] theorem cp_nilm : AV.cp .nilm = .nilm := rfl
@[simp] theorem cp_func : AV.cp (.func i cs) = .func i cs := rfl
@[simp] theorem cp_nilf : AV.cp .nilf = .nilf := rfl
@[simp] theorem cp_iface : AV.cp (.iface i v) = .iface i v := rfl
@[simp] theorem cp_nili : AV.cp .nili = .nili := rfl
@[simp] theorem cp_glob : AV.cp (.glob i j) = .glob i j := rfl
@[simp] theorem cp_tup : AV.cp (.tup cs) = .tup (cs.map AV.cpA) := rfl
end
section
variable {G : Nat → Option (List AV)} {IP : IProg}
/-- A loop by the states at its rounds' heads. -/
theorem loop_iter {lo : Nat} {b : ICode} (S : Nat → St) (n : Nat) {r : Ex × St} (hstep : ∀ i, i < n → evalC G (callD G IP) (loopD G IP lo) lo b (S i) = some (.normal, S (i + 1)))
    (hend : evalC G (callD G IP) (loopD G IP lo) lo b (S n) = some r) (hr : ∀ s, r ≠ (.normal, s)) : loopD G IP lo b (S 0) = some r := by
  have h : ∀ k, k ≤ n → loopD G IP lo b (S (n - k)) = some r := by
    intro k
    induction k with
    | zero =>
      intro _
      rw [loopD_eq, loopBody, Nat.sub_zero, hend]
      split
      · rename_i s hh; cases hh; exact absurd rfl (hr s)
      · rfl
    | succ k ih =>
      intro hk
      have h1 := hstep (n - (k + 1)) (by omega)
      rw [show n - (k + 1) + 1 = n - k by omega] at h1
      rw [loopD_eq, loopBody, h1]
      exact ih (by omega)
  have := h n (Nat.le_refl n)
  rwa [Nat.sub_self] at this
/-- A loop that is left at some index of a kind, or at its end. -/
theorem loop_some {lo : Nat} {b : ICode} (S : Nat → St) (n : Nat) (p : Nat → Bool) (Y : Nat → Ex × St) (r : Ex × St)
    (hstep : ∀ i, i < n → p i = false → evalC G (callD G IP) (loopD G IP lo) lo b (S i) = some (.normal, S (i + 1)))
    (hyes : ∀ i, i < n → p i = true → evalC G (callD G IP) (loopD G IP lo) lo b (S i) = some (Y i)) (hY : ∀ i s, Y i ≠ (.normal, s))
    (hend : evalC G (callD G IP) (loopD G IP lo) lo b (S n) = some r) (hr : ∀ s, r ≠ (.normal, s)) :
    (∃ m, m < n ∧ p m = true ∧ (∀ j, j < m → p j = false) ∧ loopD G IP lo b (S 0) = some (Y m)) ∨ ((∀ i, i < n → p i = false) ∧ loopD G IP lo b (S 0) = some r) := by
  by_cases hc : ∃ i, i < n ∧ p i = true
  · have : ∃ m, (m < n ∧ p m = true) ∧ ∀ j, j < m → p j = false := by
      obtain ⟨i, hi⟩ := hc
      induction i using Nat.strongRecOn with
      | _ i ih =>
        by_cases hj : ∃ j, j < i ∧ p j = true
        · obtain ⟨j, h1, h2⟩ := hj; exact ih j h1 ⟨by omega, h2⟩
        · refine ⟨i, hi, fun j h1 => ?_⟩
          cases h2 : p j with
          | false => rfl
          | true => exact absurd ⟨j, h1, h2⟩ hj
    obtain ⟨m, ⟨h1, h2⟩, h3⟩ := this
    exact .inl ⟨m, h1, h2, h3, loop_iter S m (fun i hi => hstep i (by omega) (h3 i hi)) (hyes m h1 h2) (hY m)⟩
  · have h0 : ∀ i, i < n → p i = false := fun i hi => by
      cases h2 : p i with
      | false => rfl
      | true => exact absurd ⟨i, hi, h2⟩ hc
    exact .inr ⟨h0, loop_iter S n (fun i hi => hstep i hi (h0 i hi)) hend hr⟩
/-- A loop that is left at the first index of a kind. -/
theorem loop_find {lo : Nat} {b : ICode} (S : Nat → St) (n : Nat) (p : Nat → Bool) (Y r : Ex × St)
    (hstep : ∀ i, i < n → p i = false → evalC G (callD G IP) (loopD G IP lo) lo b (S i) = some (.normal, S (i + 1)))
    (hyes : ∀ i, i < n → p i = true → evalC G (callD G IP) (loopD G IP lo) lo b (S i) = some Y) (hY : ∀ s, Y ≠ (.normal, s))
    (hend : evalC G (callD G IP) (loopD G IP lo) lo b (S n) = some r) (hr : ∀ s, r ≠ (.normal, s)) : loopD G IP lo b (S 0) = some (if (List.range n).any p then Y else r) := by
  by_cases hc : ∃ i, i < n ∧ p i = true
  · have : ∃ m, (m < n ∧ p m = true) ∧ ∀ j, j < m → p j = false := by
      obtain ⟨i, hi⟩ := hc
      induction i using Nat.strongRecOn with
      | _ i ih =>
        by_cases hj : ∃ j, j < i ∧ p j = true
        · obtain ⟨j, h1, h2⟩ := hj; exact ih j h1 ⟨by omega, h2⟩
        · refine ⟨i, hi, fun j h1 => ?_⟩
          cases h2 : p j with
          | false => rfl
          | true => exact absurd ⟨j, h1, h2⟩ hj
    obtain ⟨m, ⟨h1, h2⟩, h3⟩ := this
    rw [if_pos (by simp only [List.any_eq_true, List.mem_range]; exact ⟨m, h1, h2⟩)]
    exact loop_iter S m (fun i hi => hstep i (by omega) (h3 i hi)) (hyes m h1 h2) hY
  · rw [if_neg (by simp only [List.any_eq_true, List.mem_range]; exact hc)]
    refine loop_iter S n (fun i hi => hstep i hi ?_) hend hr
    cases h2 : p i with
    | false => rfl
    | true => exact absurd ⟨i, hi, h2⟩ hc
end

@[simp] theorem cp1_int (k : IntKind) : AV.cp1 ∘ AV.int k = AV.int k := rfl
@[simp] theorem beqI (a b : Int) : (a == b) = decide (a = b) := by by_cases h : a = b <;> simp [h]
@[simp] theorem bneI (a b : Int) : (a != b) = !decide (a = b) := by by_cases h : a = b <;> simp [h]
@[simp] theorem beqS (a b : List UInt8) : (a == b) = decide (a = b) := by by_cases h : a = b <;> simp [h]
@[simp] theorem bneS (a b : List UInt8) : (a != b) = !decide (a = b) := by by_cases h : a = b <;> simp [h]
@[simp] theorem okSize_nil (n : Nat) : okSize n [] = true := rfl
@[simp] theorem okSize_cons (n : Nat) (x : AV) (r : List AV) : okSize n (x :: r) = (x.cells.length == n) := rfl
@[simp] theorem closedL_app (n : Nat) : ∀ a b : List AV, AV.closedL n (a ++ b) = (AV.closedL n a && AV.closedL n b)
  | [], b => by simp [AV.closedL]
  | v :: r, b => by simp [AV.closedL, closedL_app n r b, Bool.and_assoc]
@[simp] theorem keep1_list (xs : List AV) (o : Own) : AV.keep1 (.list xs o) = .list xs o := rfl
@[simp] theorem keep1_int (k : IntKind) (n : Int) : AV.keep1 (.int k n) = .int k n := rfl
@[simp] theorem keep1_bool (b : Bool) : AV.keep1 (.bool b) = .bool b := rfl
@[simp] theorem keep1_str (s : List UInt8) : AV.keep1 (.str s) = .str s := rfl
@[simp] theorem keep1_agg (cs : List AV) : AV.keep1 (.agg cs) = .agg (cs.map AV.cp1) := rfl
def ownB (o : Bool) : Own := if o then .nil else .no
@[simp] theorem ownB_cp (o : Bool) : (ownB o).cp = ownB o := by cases o <;> rfl
@[simp] theorem ownB_own (o : Bool) (n : Nat) : (ownB o = .own n) = False := by cases o <;> simp [ownB]
theorem wrap_small {n : Int} (h0 : 0 ≤ n) (h1 : n ≤ 9223372036854775807) : IntKind.wrap .i64 n = n := by
  simp [IntKind.wrap, IntKind.signed, IntKind.bits]; omega
theorem wrap_succ {i n : Nat} (h : i < n) (hn : n ≤ 9223372036854775807) : IntKind.wrap .i64 ((i : Int) + 1) = ((i + 1 : Nat) : Int) := by
  rw [wrap_small (by omega) (by omega)]; rfl
theorem foldl_take_succ {α β : Type} (f : β → α → β) (s : β) (l : List α) (i : Nat) (h : i < l.length) : (l.take (i + 1)).foldl f s = f ((l.take i).foldl f s) l[i] := by
  rw [List.take_succ_eq_append_getElem h, List.foldl_append]; rfl
theorem cell_one {l : List Int} {k : IntKind} {n : Nat} (h : n < l.length) : ((l.map (AV.int k)).drop n).take 1 = [AV.int k (l.getD n 0)] := by
  rw [List.drop_eq_getElem_cons (by simpa using h)]
  simp [h]
end Go.Proofs.Ytajlmldpbhendaa.Rf
end
section
/- Terms. -/
set_option linter.unusedSimpArgs false
set_option linter.unusedVariables false
namespace Go.Proofs.Ytajlmldpbhendaa.Rf

inductive T where
  | mk (op width val : Int) (name : List UInt8) (o : Bool) (args : List T)
namespace T
def op : T → Int | .mk a _ _ _ _ _ => a
def width : T → Int | .mk _ a _ _ _ _ => a
def val : T → Int | .mk _ _ a _ _ _ => a
def name : T → List UInt8 | .mk _ _ _ a _ _ => a
def o : T → Bool | .mk _ _ _ _ a _ => a
def args : T → List T | .mk _ _ _ _ _ a => a
end T
mutual
def T.av : T → AV
  | .mk op w v n o as => .agg [.int .i64 op, .int .i64 w, .int .u64 v, .str n, .list (T.avs as) (ownB o)]
def T.avs : List T → List AV
  | [] => []
  | t :: r => t.av :: T.avs r
end
theorem T.av_eq (t : T) : t.av = .agg [.int .i64 t.op, .int .i64 t.width, .int .u64 t.val, .str t.name, .list (T.avs t.args) (ownB t.o)] := by cases t; rfl
abbrev T.cells (t : T) : List AV := [.int .i64 t.op, .int .i64 t.width, .int .u64 t.val, .str t.name, .list (T.avs t.args) (ownB t.o)]
theorem T.avs_eq : ∀ as : List T, T.avs as = as.map T.av
  | [] => rfl
  | t :: r => by simp [T.avs, T.avs_eq r]
@[simp] theorem T.avs_len (as : List T) : (T.avs as).length = as.length := by simp [T.avs_eq]
@[simp] theorem T.avs_getElem {as : List T} {i : Nat} (h : i < (T.avs as).length) : (T.avs as)[i] = (as[i]'(by simpa using h)).av := by simp [T.avs_eq]
theorem T.avs_get {as : List T} {i : Nat} (h : i < as.length) : (T.avs as)[i]? = some as[i].av := by simp [T.avs_eq, h]
mutual
def T.wf : T → Prop
  | .mk op w v n o as => (Lit.int .i64 op).wf = true ∧ (Lit.int .i64 w).wf = true ∧ (Lit.int .u64 v).wf = true ∧ n.length ≤ 9223372036854775807 ∧ as.length ≤ 9223372036854775807 ∧ (o = true → as = []) ∧ T.wfs as
def T.wfs : List T → Prop
  | [] => True
  | t :: r => t.wf ∧ T.wfs r
end
theorem T.wfs_iff : ∀ as : List T, T.wfs as ↔ ∀ t, t ∈ as → t.wf
  | [] => by simp [T.wfs]
  | t :: r => by simp [T.wfs, T.wfs_iff r]
theorem T.wf_eq (t : T) : t.wf ↔ (Lit.int .i64 t.op).wf = true ∧ (Lit.int .i64 t.width).wf = true ∧ (Lit.int .u64 t.val).wf = true ∧ t.name.length ≤ 9223372036854775807 ∧ t.args.length ≤ 9223372036854775807 ∧ (t.o = true → t.args = []) ∧ ∀ u, u ∈ t.args → u.wf := by
  cases t; simp only [T.wf, T.op, T.width, T.val, T.name, T.args, T.o, T.wfs_iff]
mutual
def T.same : T → T → Bool
  | .mk a b c d _ as, .mk a' b' c' d' _ as' => a == a' && (b == b' && (c == c' && (d == d' && T.sames as as')))
def T.sames : List T → List T → Bool
  | [], [] => true
  | t :: r, u :: s => t.same u && T.sames r s
  | [], _ :: _ => false
  | _ :: _, [] => false
end
theorem T.same_eq (t u : T) : t.same u = (t.op == u.op && (t.width == u.width && (t.val == u.val && (t.name == u.name && T.sames t.args u.args)))) := by cases t; cases u; rfl
theorem T.sames_eq : ∀ (as bs : List T) (h : as.length = bs.length), T.sames as bs = !(List.range as.length).any fun i => !(as.getD i (.mk 0 0 0 [] true [])).same (bs.getD i (.mk 0 0 0 [] true []))
  | [], [], _ => rfl
  | t :: r, u :: s, h => by
    rw [T.sames, T.sames_eq r s (by simpa using h), List.length_cons, List.range_succ_eq_map]
    simp [List.any_map, Function.comp_def]
  | [], _ :: _, h => by simp at h
  | _ :: _, [], h => by simp at h
theorem T.sames_len : ∀ (as bs : List T), as.length ≠ bs.length → T.sames as bs = false
  | [], [], h => by simp at h
  | t :: r, u :: s, h => by rw [T.sames, T.sames_len r s (by simpa using h), Bool.and_false]
  | [], _ :: _, h => rfl
  | _ :: _, [], h => rfl
mutual
def T.size : T → Nat
  | .mk _ _ _ _ _ as => 1 + T.sizes as
def T.sizes : List T → Nat
  | [] => 0
  | t :: r => t.size + T.sizes r
end
theorem T.size_eq (t : T) : t.size = 1 + T.sizes t.args := by cases t; rfl
theorem T.sizes_app : ∀ a b : List T, T.sizes (a ++ b) = T.sizes a + T.sizes b
  | [], b => by simp [T.sizes]
  | t :: r, b => by simp [T.sizes, T.sizes_app r b]; omega
theorem T.sizes_take {as : List T} {i : Nat} (h : i < as.length) : T.sizes (as.take (i + 1)) = T.sizes (as.take i) + as[i].size := by
  rw [List.take_succ_eq_append_getElem h, T.sizes_app]; simp [T.sizes]
theorem T.sizes_take_le (as : List T) (i : Nat) : T.sizes (as.take i) ≤ T.sizes as := by
  have := T.sizes_app (as.take i) (as.drop i); rw [List.take_append_drop] at this; omega
theorem T.ind {p : T → Prop} (h : ∀ t : T, (∀ u, u ∈ t.args → p u) → p t) (t : T) : p t :=
  T.rec (motive_1 := p) (motive_2 := fun as => ∀ u, u ∈ as → p u) (fun a b c d e as ih => h _ ih) (fun u hu => by simp at hu)
    (fun t r h1 h2 u hu => by
      rcases List.mem_cons.1 hu with e | hu
      · rw [e]; exact h1
      · exact h2 u hu) t
end Go.Proofs.Ytajlmldpbhendaa.Rf
end
section
/- Costs of trees: the walks. -/
set_option linter.unusedSimpArgs false
set_option linter.unusedVariables false
namespace Go.Proofs.Ytajlmldpbhendaa.Rf

def clampI (n : Int) : Int := (fun m => if (4611686018427387904 : Int) < m then 4611686018427387904 else m) (if (0 : Int) > n then 0 else n)
theorem clamp_D (n : Int) (hp : List HObj) (lo : Nat) (q : Bool) : callD G0 IP n_cost_clamp [.int .i64 n] hp lo q = some (.ret (.int .i64 (clampI n)) hp) := by
  rw [callD_eq]
  simp [IP_cost_clamp, i_cost_clamp, clampI]
def addI (a b : Int) : Int := if clampI a > IntKind.wrap .i64 (4611686018427387904 - clampI b) then 4611686018427387904 else IntKind.wrap .i64 (clampI a + clampI b)
theorem add_D (a b : Int) (hp : List HObj) (lo : Nat) (q : Bool) : callD G0 IP n_cost_Add [.int .i64 a, .int .i64 b] hp lo q = some (.ret (.int .i64 (addI a b)) hp) := by
  rw [callD_eq]
  by_cases hc : clampI a > IntKind.wrap .i64 (4611686018427387904 - clampI b) <;> simp [IP_cost_Add, i_cost_Add, clamp_D, addI, hc] <;> simp at hc <;> simp [hc]
theorem add2_D (a b : Int) (hp : List HObj) (lo : Nat) (q : Bool) : callD G0 IP n_saturateref10_Add [.int .i64 a, .int .i64 b] hp lo q = some (.ret (.int .i64 (addI a b)) hp) := by
  rw [callD_eq]
  have ea : (if (4611686018427387904 : Int) < (if (0 : Int) > a then 0 else a) then 4611686018427387904 else (if (0 : Int) > a then 0 else a)) = clampI a := rfl
  have eb : (if (4611686018427387904 : Int) < (if (0 : Int) > b then 0 else b) then 4611686018427387904 else (if (0 : Int) > b then 0 else b)) = clampI b := rfl
  simp only [gt_iff_lt] at ea eb
  by_cases hc : clampI a > IntKind.wrap .i64 (4611686018427387904 - clampI b) <;> simp [IP_saturateref10_Add, i_saturateref10_Add, ea, eb, addI, hc] <;> simp at hc <;> simp [hc]
def nodeI (l : List Int) (op : Int) : Int := if op < 1 ∨ op > 26 then 1 else (fun m => if (1048576 : Int) < m then 1048576 else m) (if (1 : Int) > l.getD op.toNat 0 then 1 else l.getD op.toNat 0)
abbrev costs (l : List Int) : AV := .agg (l.map (AV.int .i64))
theorem cp1_ints (l : List Int) : (l.map (AV.int .i64)).map AV.cp1 = l.map (AV.int .i64) := by
  rw [List.map_map]; rfl
theorem node_D (l : List Int) (hl : l.length = 32) (op : Int) (hp : List HObj) (lo : Nat) (q : Bool) : callD G0 IP n_cost_Node [costs l, .int .i64 op] hp lo q = some (.ret (.int .i64 (nodeI l op)) hp) := by
  rw [callD_eq]
  by_cases h1 : op < 1
  · simp [IP_cost_Node, i_cost_Node, costs, cp1_ints, nodeI, h1]
  · by_cases h2 : op > 26
    · have h2' : (26 : Int) < op := h2
      simp [IP_cost_Node, i_cost_Node, costs, cp1_ints, nodeI, h1, h2']
    · have h2' : ¬ (26 : Int) < op := h2
      have h3 : 0 ≤ op := by omega
      have h4 : op < 32 := by omega
      have h5 : op.toNat + 1 ≤ l.length := by omega
      have h7 := cell_one (l := l) (k := .i64) (n := op.toNat) (by omega)
      simp [IP_cost_Node, i_cost_Node, costs, nodeI, h1, h2', h3, h4, h5, h7]
theorem node2_D (l : List Int) (hl : l.length = 32) (op : Int) (hp : List HObj) (lo : Nat) (q : Bool) : callD G0 IP n_saturateref10_Node [costs l, .int .i64 op] hp lo q = some (.ret (.int .i64 (nodeI l op)) hp) := by
  rw [callD_eq]
  by_cases h1 : op < 1
  · simp [IP_saturateref10_Node, i_saturateref10_Node, costs, cp1_ints, nodeI, h1]
  · by_cases h2 : op > 26
    · have h2' : (26 : Int) < op := h2
      simp [IP_saturateref10_Node, i_saturateref10_Node, costs, cp1_ints, nodeI, h1, h2']
    · have h2' : ¬ (26 : Int) < op := h2
      have h3 : 0 ≤ op := by omega
      have h4 : op < 32 := by omega
      have h5 : op.toNat + 1 ≤ l.length := by omega
      have h7 := cell_one (l := l) (k := .i64) (n := op.toNat) (by omega)
      simp [IP_saturateref10_Node, i_saturateref10_Node, costs, nodeI, h1, h2', h3, h4, h5, h7]

mutual
def treeI (l : List Int) : T → Int
  | .mk op _ _ _ _ as => treesI l (nodeI l op) as
def treesI (l : List Int) : Int → List T → Int
  | s, [] => s
  | s, t :: r => treesI l (addI s (treeI l t)) r
end
theorem treesI_eq (l : List Int) : ∀ (as : List T) (s : Int), treesI l s as = as.foldl (fun s u => addI s (treeI l u)) s
  | [], s => rfl
  | t :: r, s => by simp only [treesI, List.foldl]; exact treesI_eq l r _
theorem treeI_eq (l : List Int) (t : T) : treeI l t = t.args.foldl (fun s u => addI s (treeI l u)) (nodeI l t.op) := by
  cases t; simp only [treeI, treesI_eq, T.args, T.op]
theorem take32 (l : List Int) (hl : l.length = 32) : List.take 32 (l.map (AV.int .i64)) = l.map (AV.int .i64) := List.take_of_length_le (by simp [hl])
theorem tree_D (l : List Int) (hl : l.length = 32) (t : T) : t.wf → ∀ hp lo q, callD G0 IP n_cost_Tree [costs l, t.av] hp lo q = some (.ret (.int .i64 (treeI l t)) hp) := by
  induction t using T.ind with | h t ih =>
  intro hw hp lo q
  rw [T.wf_eq] at hw
  obtain ⟨_, _, _, _, hlen, _, hws⟩ := hw
  have e9 := take32 l hl
  have hloop := loop_iter (G := G0) (IP := IP) (lo := hp.length) (b := l_cost_Tree_0)
    (fun i => ⟨[(2, .box (l.map (AV.int .i64))), (5, .int .i64 ((t.args.take i).foldl (fun s u => addI s (treeI l u)) (nodeI l t.op))), (13, .list (T.avs t.args) (ownB t.o)), (14, .int .i64 t.args.length), (15, .int .i64 i)], hp⟩)
    t.args.length (r := (.exit 0, ⟨[(2, .box (l.map (AV.int .i64))), (5, .int .i64 (treeI l t)), (13, .list (T.avs t.args) (ownB t.o)), (14, .int .i64 t.args.length), (15, .int .i64 t.args.length), (16, .bool false)], hp⟩)) (fun i hi => by
      have e1 := ih t.args[i] (List.getElem_mem hi) (hws _ (List.getElem_mem hi))
      rw [T.av_eq] at e1
      rw [foldl_take_succ _ _ _ _ hi, ← wrap_succ hi hlen]
      simp [l_cost_Tree_0, hi, hl, e9, T.av_eq t.args[i], e1, add_D]) (by
      rw [treeI_eq l t]; simp [l_cost_Tree_0]) (by simp)
  simp at hloop
  rw [callD_eq, T.av_eq]
  simp [IP_cost_Tree, i_cost_Tree, hl, e9, hloop, node_D]
theorem tree2_D (l : List Int) (hl : l.length = 32) (t : T) : t.wf → ∀ hp lo q, callD G0 IP n_saturateref10_Tree [costs l, t.av] hp lo q = some (.ret (.int .i64 (treeI l t)) hp) := by
  induction t using T.ind with | h t ih =>
  intro hw hp lo q
  rw [T.wf_eq] at hw
  obtain ⟨_, _, _, _, hlen, _, hws⟩ := hw
  have e9 := take32 l hl
  have hloop := loop_iter (G := G0) (IP := IP) (lo := hp.length) (b := l_saturateref10_Tree_0)
    (fun i => ⟨[(2, .box (l.map (AV.int .i64))), (3, .box [.int .i64 t.op, .int .i64 t.width, .int .u64 t.val, .str t.name, .list (T.avs t.args) (ownB t.o)]), (5, .int .i64 ((t.args.take i).foldl (fun s u => addI s (treeI l u)) (nodeI l t.op))), (13, .int .i64 t.args.length), (14, .int .i64 i)], hp⟩)
    t.args.length (r := (.exit 0, ⟨[(2, .box (l.map (AV.int .i64))), (3, .box [.int .i64 t.op, .int .i64 t.width, .int .u64 t.val, .str t.name, .list (T.avs t.args) (ownB t.o)]), (5, .int .i64 (treeI l t)), (13, .int .i64 t.args.length), (14, .int .i64 t.args.length), (15, .bool false)], hp⟩)) (fun i hi => by
      have e1 := ih t.args[i] (List.getElem_mem hi) (hws _ (List.getElem_mem hi))
      rw [T.av_eq] at e1
      rw [foldl_take_succ _ _ _ _ hi, ← wrap_succ hi hlen]
      simp [l_saturateref10_Tree_0, hi, hl, e9, T.av_eq t.args[i], e1, add2_D]) (by
      rw [treeI_eq l t]; simp [l_saturateref10_Tree_0]) (by simp)
  simp at hloop
  rw [callD_eq, T.av_eq]
  simp [IP_saturateref10_Tree, i_saturateref10_Tree, hl, e9, hloop, node2_D]
end Go.Proofs.Ytajlmldpbhendaa.Rf
end
section
/- Small terms, counts, sizes, comparison: the walks. -/
set_option linter.unusedSimpArgs false
set_option linter.unusedVariables false
namespace Go.Proofs.Ytajlmldpbhendaa.Rf

theorem T.wf_args {t : T} (h : t.wf) : t.args.length ≤ 9223372036854775807 ∧ ∀ u, u ∈ t.args → u.wf := by
  rw [T.wf_eq] at h; exact ⟨h.2.2.2.2.1, h.2.2.2.2.2.2⟩

def leftS (n : Nat) (m : Int) : Int := if (n : Int) ≤ m then m - n else -1
theorem left_D (t : T) : t.wf → ∀ (m : Int), 0 ≤ m → m ≤ 9223372036854775807 → ∀ hp lo q, callD G0 IP n_saturateref10_left [t.av, .int .i64 m] hp lo q = some (.ret (.int .i64 (leftS t.size m)) hp) := by
  induction t using T.ind with | h t ih =>
  intro hw m hm0 hm1 hp lo q
  obtain ⟨hlen, hws⟩ := T.wf_args hw
  have hloop := loop_find (G := G0) (IP := IP) (lo := hp.length) (b := l_saturateref10_left_0)
    (fun i => ⟨[(1, .int .i64 (leftS (1 + T.sizes (t.args.take i)) m)), (2, .box t.cells), (10, .int .i64 t.args.length), (11, .int .i64 i)], hp⟩)
    t.args.length (fun i => decide (leftS (1 + T.sizes (t.args.take i)) m < 0)) (.ret, ⟨[(4, .int .i64 (-1))], hp⟩)
    (.exit 0, ⟨[(1, .int .i64 (leftS t.size m)), (2, .box t.cells), (10, .int .i64 t.args.length), (11, .int .i64 t.args.length), (12, .bool false)], hp⟩) (fun i hi hp => by
      simp only [decide_eq_false_iff_not] at hp
      have e0 : 0 ≤ leftS (1 + T.sizes (t.args.take i)) m ∧ leftS (1 + T.sizes (t.args.take i)) m ≤ 9223372036854775807 := by
        unfold leftS at hp ⊢; split at hp <;> omega
      have e1 := ih t.args[i] (List.getElem_mem hi) (hws _ (List.getElem_mem hi)) _ e0.1 e0.2
      have e2 : leftS t.args[i].size (leftS (1 + T.sizes (t.args.take i)) m) = leftS (1 + T.sizes (t.args.take (i + 1))) m := by
        rw [T.sizes_take hi]; unfold leftS at hp ⊢; split at hp <;> (try split) <;> (try split) <;> omega
      rw [T.av_eq, e2] at e1
      rw [← wrap_succ hi hlen]
      simp [l_saturateref10_left_0, hi, hp, T.av_eq t.args[i], e1]) (fun i hi hp => by
      simp only [decide_eq_true_eq] at hp
      simp [l_saturateref10_left_0, hi, hp]) (by simp) (by
      rw [List.take_length, ← T.size_eq]; simp [l_saturateref10_left_0]) (by simp)
  have e3 : leftS 1 m = IntKind.wrap .i64 (m - 1) := by
    unfold leftS; simp [IntKind.wrap, IntKind.signed, IntKind.bits]; omega
  simp [T.sizes, e3] at hloop
  rw [callD_eq, T.av_eq]
  simp [IP_saturateref10_left, i_saturateref10_left, hloop]
  by_cases hc : ∃ x, x < t.args.length ∧ leftS (1 + T.sizes (List.take x t.args)) m < 0
  · rw [if_pos hc]
    obtain ⟨x, h1, h2⟩ := hc
    have h3 := T.sizes_take_le t.args x
    have h4 : leftS t.size m = -1 := by
      rw [T.size_eq]; unfold leftS at h2 ⊢; split at h2 <;> split <;> omega
    simp [h4]
  · rw [if_neg hc]
    simp
theorem small_D (t : T) (hw : t.wf) (m : Int) (hm0 : 0 ≤ m) (hm1 : m ≤ 9223372036854775807) (hp : List HObj) (lo : Nat) (q : Bool) : callD G0 IP n_saturateref10_Small [t.av, .int .i64 m] hp lo q = some (.ret (.bool (decide ((t.size : Int) ≤ m))) hp) := by
  have e1 := left_D t hw m hm0 hm1
  rw [callD_eq]
  rw [T.av_eq] at e1 ⊢
  have e2 : decide (0 ≤ leftS t.size m) = decide ((t.size : Int) ≤ m) := by
    unfold leftS; split <;> simp_all <;> omega
  simp [IP_saturateref10_Small, i_saturateref10_Small, e1, e2]

theorem size_le_of_mem {as : List T} {i : Nat} (h : i < as.length) : T.sizes (as.take i) + as[i].size ≤ T.sizes as := by
  rw [← T.sizes_take h]; exact T.sizes_take_le _ _
theorem count_D (t : T) : t.wf → t.size ≤ 9223372036854775807 → ∀ hp lo q, callD G0 IP n_saturateref10_Count [t.av] hp lo q = some (.ret (.int .i64 t.size) hp) := by
  induction t using T.ind with | h t ih =>
  intro hw hs hp lo q
  obtain ⟨hlen, hws⟩ := T.wf_args hw
  rw [T.size_eq] at hs
  have hloop := loop_iter (G := G0) (IP := IP) (lo := hp.length) (b := l_saturateref10_Count_0)
    (fun i => ⟨[(1, .box t.cells), (3, .int .i64 ((1 + T.sizes (t.args.take i) : Nat) : Int)), (7, .int .i64 t.args.length), (8, .int .i64 i)], hp⟩)
    t.args.length (r := (.exit 0, ⟨[(1, .box t.cells), (3, .int .i64 (t.size : Nat)), (7, .int .i64 t.args.length), (8, .int .i64 t.args.length), (9, .bool false)], hp⟩)) (fun i hi => by
      have e0 := size_le_of_mem hi
      have e1 := ih t.args[i] (List.getElem_mem hi) (hws _ (List.getElem_mem hi)) (by omega)
      have e2 : IntKind.wrap .i64 (((1 + T.sizes (t.args.take i) : Nat) : Int) + (t.args[i].size : Int)) = ((1 + T.sizes (t.args.take (i + 1)) : Nat) : Int) := by
        rw [T.sizes_take hi, wrap_small (by omega) (by omega)]; omega
      rw [T.av_eq] at e1
      rw [← wrap_succ hi hlen, ← e2]
      simp [l_saturateref10_Count_0, hi, T.av_eq t.args[i], e1]) (by
      rw [List.take_length, ← T.size_eq]; simp [l_saturateref10_Count_0]) (by simp)
  simp [T.sizes] at hloop
  rw [callD_eq, T.av_eq]
  simp [IP_saturateref10_Count, i_saturateref10_Count, hloop]
theorem size_D (t : T) : t.wf → t.size ≤ 9223372036854775807 → ∀ hp lo q, callD G0 IP n_term_Size [t.av] hp lo q = some (.ret (.int .i64 t.size) hp) := by
  induction t using T.ind with | h t ih =>
  intro hw hs hp lo q
  obtain ⟨hlen, hws⟩ := T.wf_args hw
  rw [T.size_eq] at hs
  have hloop := loop_iter (G := G0) (IP := IP) (lo := hp.length) (b := l_term_Size_0)
    (fun i => ⟨[(3, .int .i64 ((1 + T.sizes (t.args.take i) : Nat) : Int)), (7, .list (T.avs t.args) (ownB t.o)), (8, .int .i64 t.args.length), (9, .int .i64 i)], hp⟩)
    t.args.length (r := (.exit 0, ⟨[(3, .int .i64 (t.size : Nat)), (7, .list (T.avs t.args) (ownB t.o)), (8, .int .i64 t.args.length), (9, .int .i64 t.args.length), (10, .bool false)], hp⟩)) (fun i hi => by
      have e0 := size_le_of_mem hi
      have e1 := ih t.args[i] (List.getElem_mem hi) (hws _ (List.getElem_mem hi)) (by omega)
      have e2 : IntKind.wrap .i64 (((1 + T.sizes (t.args.take i) : Nat) : Int) + (t.args[i].size : Int)) = ((1 + T.sizes (t.args.take (i + 1)) : Nat) : Int) := by
        rw [T.sizes_take hi, wrap_small (by omega) (by omega)]; omega
      rw [T.av_eq] at e1
      rw [← wrap_succ hi hlen, ← e2]
      simp [l_term_Size_0, hi, T.av_eq t.args[i], e1]) (by
      rw [List.take_length, ← T.size_eq]; simp [l_term_Size_0]) (by simp)
  simp [T.sizes] at hloop
  rw [callD_eq, T.av_eq]
  simp [IP_term_Size, i_term_Size, hloop]
end Go.Proofs.Ytajlmldpbhendaa.Rf
end
section
/- Comparison of terms: the walks. -/
set_option linter.unusedSimpArgs false
set_option linter.unusedVariables false
namespace Go.Proofs.Ytajlmldpbhendaa.Rf

abbrev T.nil : T := .mk 0 0 0 [] true []
theorem getD_lt {as : List T} {i : Nat} (h : i < as.length) : as.getD i T.nil = as[i] := by simp [h]
theorem refSame_D (t : T) : t.wf → ∀ u : T, u.wf → ∀ hp lo q, callD G0 IP n_saturateref10_Same [t.av, u.av] hp lo q = some (.ret (.bool (t.same u)) hp) := by
  induction t using T.ind with | h t ih =>
  intro hw u hu hp lo q
  obtain ⟨hlen, hws⟩ := T.wf_args hw
  obtain ⟨hlen2, hws2⟩ := T.wf_args hu
  rw [callD_eq, T.av_eq, T.av_eq, T.same_eq]
  by_cases c1 : t.op = u.op
  rotate_left
  · simp [IP_saturateref10_Same, i_saturateref10_Same, c1]
  by_cases c2 : t.width = u.width
  rotate_left
  · simp [IP_saturateref10_Same, i_saturateref10_Same, c1, c2]
  by_cases c3 : t.val = u.val
  rotate_left
  · simp [IP_saturateref10_Same, i_saturateref10_Same, c1, c2, c3]
  by_cases c4 : t.name = u.name
  rotate_left
  · simp [IP_saturateref10_Same, i_saturateref10_Same, c1, c2, c3, c4]
  by_cases c5 : t.args.length = u.args.length
  rotate_left
  · have c6 : ¬ (t.args.length : Int) = (u.args.length : Int) := by omega
    simp [IP_saturateref10_Same, i_saturateref10_Same, c1, c2, c3, c4, c6, T.sames_len _ _ c5]
  have hloop := loop_find (G := G0) (IP := IP) (lo := hp.length) (b := l_saturateref10_Same_0)
    (fun i => ⟨[(2, .box t.cells), (3, .box u.cells), (43, .int .i64 t.args.length), (44, .int .i64 i)], hp⟩)
    t.args.length (fun i => !(t.args.getD i T.nil).same (u.args.getD i T.nil)) (.ret, ⟨[(4, .bool false)], hp⟩)
    (.exit 0, ⟨[(2, .box t.cells), (3, .box u.cells), (43, .int .i64 t.args.length), (44, .int .i64 t.args.length), (45, .bool false)], hp⟩) (fun i hi hp => by
      have hi2 : i < u.args.length := by omega
      rw [getD_lt hi, getD_lt hi2] at hp
      have e1 := ih t.args[i] (List.getElem_mem hi) (hws _ (List.getElem_mem hi)) u.args[i] (hws2 _ (List.getElem_mem hi2))
      rw [T.av_eq, T.av_eq] at e1
      simp at hp
      rw [← wrap_succ hi hlen]
      simp [l_saturateref10_Same_0, hi, hi2, T.av_eq t.args[i], T.av_eq u.args[i], e1, hp]) (fun i hi hp => by
      have hi2 : i < u.args.length := by omega
      rw [getD_lt hi, getD_lt hi2] at hp
      have e1 := ih t.args[i] (List.getElem_mem hi) (hws _ (List.getElem_mem hi)) u.args[i] (hws2 _ (List.getElem_mem hi2))
      rw [T.av_eq, T.av_eq] at e1
      simp at hp
      simp [l_saturateref10_Same_0, hi, hi2, T.av_eq t.args[i], T.av_eq u.args[i], e1, hp]) (by simp) (by
      simp [l_saturateref10_Same_0]) (by simp)
  rw [T.sames_eq _ _ c5]
  simp only [T.cells, c1, c2, c3, c4, c5] at hloop ⊢
  generalize hb : ((List.range u.args.length).any fun i => !(t.args.getD i T.nil).same (u.args.getD i T.nil)) = b at hloop ⊢
  cases b <;> simp [c5] at hloop <;> simp [IP_saturateref10_Same, i_saturateref10_Same, c5, hloop]
theorem equalFunc_D (as : List T) (o o' : Own) (hlen : as.length ≤ 9223372036854775807) (hws : ∀ t, t ∈ as → t.wf) (bs : List T) (hws2 : ∀ t, t ∈ bs → t.wf)
    (ih : ∀ t, t ∈ as → ∀ u : T, u.wf → ∀ hp lo q, callD G0 IP n_term_Same [t.av, u.av] hp lo q = some (.ret (.bool (t.same u)) hp)) (hp : List HObj) (lo : Nat) (q : Bool) :
    callD G0 IP n_slices_EqualFunc_Term_Term_Term_Term [.list (T.avs as) o, .list (T.avs bs) o', .func n_term_Same []] hp lo q = some (.ret (.bool (T.sames as bs)) hp) := by
  rw [callD_eq]
  by_cases c5 : as.length = bs.length
  rotate_left
  · have c6 : ¬ (as.length : Int) = (bs.length : Int) := by omega
    simp [IP_slices_EqualFunc_Term_Term_Term_Term, i_slices_EqualFunc_Term_Term_Term_Term, c6, T.sames_len _ _ c5]
  have hloop := loop_find (G := G0) (IP := IP) (lo := hp.length) (b := l_slices_EqualFunc_Term_Term_Term_Term_0)
    (fun i => ⟨[(1, .list (T.avs bs) o'), (2, .func n_term_Same []), (15, .list (T.avs as) o), (16, .int .i64 as.length), (17, .int .i64 i)], hp⟩)
    as.length (fun i => !(as.getD i T.nil).same (bs.getD i T.nil)) (.ret, ⟨[(6, .bool false)], hp⟩)
    (.exit 0, ⟨[(1, .list (T.avs bs) o'), (2, .func n_term_Same []), (15, .list (T.avs as) o), (16, .int .i64 as.length), (17, .int .i64 as.length), (18, .bool false)], hp⟩) (fun i hi hp => by
      have hi2 : i < bs.length := by omega
      rw [getD_lt hi, getD_lt hi2] at hp
      have e1 := ih as[i] (List.getElem_mem hi) bs[i] (hws2 _ (List.getElem_mem hi2))
      rw [T.av_eq, T.av_eq] at e1
      simp at hp
      rw [← wrap_succ hi hlen]
      simp [l_slices_EqualFunc_Term_Term_Term_Term_0, hi, hi2, T.av_eq as[i], T.av_eq bs[i], e1, hp]) (fun i hi hp => by
      have hi2 : i < bs.length := by omega
      rw [getD_lt hi, getD_lt hi2] at hp
      have e1 := ih as[i] (List.getElem_mem hi) bs[i] (hws2 _ (List.getElem_mem hi2))
      rw [T.av_eq, T.av_eq] at e1
      simp at hp
      simp [l_slices_EqualFunc_Term_Term_Term_Term_0, hi, hi2, T.av_eq as[i], T.av_eq bs[i], e1, hp]) (by simp) (by
      simp [l_slices_EqualFunc_Term_Term_Term_Term_0]) (by simp)
  rw [T.sames_eq _ _ c5]
  simp only [c5] at hloop ⊢
  generalize hb : ((List.range bs.length).any fun i => !(as.getD i T.nil).same (bs.getD i T.nil)) = b at hloop ⊢
  cases b <;> simp [c5] at hloop <;> simp [IP_slices_EqualFunc_Term_Term_Term_Term, i_slices_EqualFunc_Term_Term_Term_Term, c5, hloop]
theorem same_D (t : T) : t.wf → ∀ u : T, u.wf → ∀ hp lo q, callD G0 IP n_term_Same [t.av, u.av] hp lo q = some (.ret (.bool (t.same u)) hp) := by
  induction t using T.ind with | h t ih =>
  intro hw u hu hp lo q
  obtain ⟨hlen, hws⟩ := T.wf_args hw
  obtain ⟨hlen2, hws2⟩ := T.wf_args hu
  have e1 := equalFunc_D t.args (ownB t.o) (ownB u.o) hlen hws u.args hws2 fun t ht => ih t ht (hws t ht)
  rw [callD_eq, T.av_eq, T.av_eq, T.same_eq]
  by_cases c1 : t.op = u.op
  rotate_left
  · simp [IP_term_Same, i_term_Same, c1]
  by_cases c2 : t.width = u.width
  rotate_left
  · simp [IP_term_Same, i_term_Same, c1, c2]
  by_cases c3 : t.val = u.val
  rotate_left
  · simp [IP_term_Same, i_term_Same, c1, c2, c3]
  by_cases c4 : t.name = u.name
  rotate_left
  · simp [IP_term_Same, i_term_Same, c1, c2, c3, c4]
  simp [IP_term_Same, i_term_Same, c1, c2, c3, c4, e1]
end Go.Proofs.Ytajlmldpbhendaa.Rf
end
section
/- The reference's list of subterms and its sum: the walks. -/
set_option linter.unusedSimpArgs false
set_option linter.unusedVariables false
namespace Go.Proofs.Ytajlmldpbhendaa.Rf

mutual
theorem T.closed_av (n : Nat) : ∀ t : T, AV.closed n t.av = true
  | .mk _ _ _ _ o as => by simp [T.av, AV.closed, AV.closedL, T.closed_avs n as]
theorem T.closed_avs (n : Nat) : ∀ as : List T, AV.closedL n (T.avs as) = true
  | [] => rfl
  | t :: r => by simp [T.avs, AV.closedL, T.closed_av n t, T.closed_avs n r]
end
attribute [simp] T.closed_avs
theorem T.avs_app (a b : List T) : T.avs (a ++ b) = T.avs a ++ T.avs b := by simp [T.avs_eq]
@[simp] theorem okSize_avs (as : List T) : okSize 5 (T.avs as) = true := by
  cases as with
  | nil => rfl
  | cons t r => rw [T.avs, T.av_eq]; rfl

def addT (s : List T × Own) (t : T) : List T × Own := if s.1.any (fun u => u.same t) then s else (s.1 ++ [t], .own 5)
mutual
def T.sub : T → List T × Own → List T × Own
  | .mk a b c d e as, s => addT (T.subs as s) (.mk a b c d e as)
def T.subs : List T → List T × Own → List T × Own
  | [], s => s
  | t :: r, s => T.subs r (t.sub s)
end
theorem T.subs_eq : ∀ (as : List T) (s : List T × Own), T.subs as s = as.foldl (fun s u => u.sub s) s
  | [], s => rfl
  | t :: r, s => by simp only [T.subs, List.foldl]; exact T.subs_eq r _
theorem T.sub_eq (t : T) (s : List T × Own) : t.sub s = addT (t.args.foldl (fun s u => u.sub s) s) t := by
  cases t; simp only [T.sub, T.subs_eq, T.args]
theorem addT_len (s : List T × Own) (t : T) : (addT s t).1.length ≤ s.1.length + 1 := by
  unfold addT; split <;> simp
theorem addT_wf {s : List T × Own} {t : T} (h : ∀ u, u ∈ s.1 → u.wf) (ht : t.wf) : ∀ u, u ∈ (addT s t).1 → u.wf := by
  unfold addT; split
  · exact h
  · intro u hu
    rcases List.mem_append.1 hu with hu | hu
    · exact h u hu
    · rw [List.mem_singleton.1 hu]; exact ht
theorem T.sub_len (t : T) : ∀ s, (t.sub s).1.length ≤ s.1.length + t.size := by
  induction t using T.ind with | h t ih =>
  intro s
  have h : ∀ (as : List T), (∀ u, u ∈ as → u ∈ t.args) → ∀ s : List T × Own, (as.foldl (fun s u => u.sub s) s).1.length ≤ s.1.length + T.sizes as := by
    intro as
    induction as with
    | nil => intro _ s; simp [T.sizes]
    | cons u r ihr =>
      intro hm s
      have h1 := ih u (hm u (by simp)) s
      have h2 := ihr (fun x hx => hm x (by simp [hx])) (u.sub s)
      simp only [List.foldl, T.sizes]; omega
  rw [T.sub_eq, T.size_eq]
  have h1 := addT_len (t.args.foldl (fun s u => u.sub s) s) t
  have h2 := h t.args (fun _ h => h) s
  omega
theorem T.subs_len : ∀ (as : List T) (s : List T × Own), (as.foldl (fun s u => u.sub s) s).1.length ≤ s.1.length + T.sizes as
  | [], s => by simp [T.sizes]
  | t :: r, s => by
    have h1 := T.sub_len t s
    have h2 := T.subs_len r (t.sub s)
    simp only [List.foldl, T.sizes]; omega
theorem T.sub_wf (t : T) : t.wf → ∀ s : List T × Own, (∀ u, u ∈ s.1 → u.wf) → ∀ u, u ∈ (t.sub s).1 → u.wf := by
  induction t using T.ind with | h t ih =>
  intro hw s hs
  have h : ∀ (as : List T), (∀ u, u ∈ as → u ∈ t.args) → ∀ s : List T × Own, (∀ u, u ∈ s.1 → u.wf) → ∀ u, u ∈ (as.foldl (fun s u => u.sub s) s).1 → u.wf := by
    intro as
    induction as with
    | nil => intro _ s hs; exact hs
    | cons u r ihr =>
      intro hm s hs
      have h1 := ih u (hm u (by simp)) ((T.wf_args hw).2 u (hm u (by simp))) s hs
      exact ihr (fun x hx => hm x (by simp [hx])) (u.sub s) h1
  rw [T.sub_eq]
  exact addT_wf (h t.args (fun _ h => h) s hs) hw
theorem T.subs_wf : ∀ (as : List T) (s : List T × Own), (∀ u, u ∈ as → u.wf) → (∀ u, u ∈ s.1 → u.wf) → ∀ u, u ∈ (as.foldl (fun s u => u.sub s) s).1 → u.wf
  | [], s, _, hs => hs
  | t :: r, s, h, hs => T.subs_wf r (t.sub s) (fun u hu => h u (by simp [hu])) (T.sub_wf t (h t (by simp)) s hs)

theorem any_getD (l : List T) (p : T → Bool) : (List.range l.length).any (fun i => p (l.getD i T.nil)) = l.any p := by
  induction l with
  | nil => rfl
  | cons t r ih => rw [List.length_cons, List.range_succ_eq_map]; simp [List.any_map, Function.comp_def, ← ih]
theorem subterms_D (t : T) : t.wf → ∀ s : List T × Own, (∀ u, u ∈ s.1 → u.wf) → s.1.length + t.size ≤ 1000000 → ∀ hp lo q,
    callD G0 IP n_saturateref10_Subterms [.list (T.avs s.1) s.2, t.av] hp lo q = some (.ret (.list (T.avs (t.sub s).1) (t.sub s).2) hp) := by
  induction t using T.ind with | h t ih =>
  intro hw s hs hb hp lo q
  obtain ⟨hlen, hws⟩ := T.wf_args hw
  rw [T.size_eq] at hb
  have hloop := loop_iter (G := G0) (IP := IP) (lo := hp.length) (b := l_saturateref10_Subterms_0)
    (fun i => ⟨[(0, .list (T.avs ((t.args.take i).foldl (fun s u => u.sub s) s).1) ((t.args.take i).foldl (fun s u => u.sub s) s).2), (3, .box t.cells), (10, .int .i64 t.args.length), (11, .int .i64 i)], hp⟩)
    t.args.length (r := (.exit 0, ⟨[(0, .list (T.avs (t.args.foldl (fun s u => u.sub s) s).1) (t.args.foldl (fun s u => u.sub s) s).2), (3, .box t.cells), (10, .int .i64 t.args.length), (11, .int .i64 t.args.length), (12, .bool false)], hp⟩)) (fun i hi => by
      have e0 := size_le_of_mem hi
      have e3 := T.subs_len (t.args.take i) s
      have e1 := ih t.args[i] (List.getElem_mem hi) (hws _ (List.getElem_mem hi)) ((t.args.take i).foldl (fun s u => u.sub s) s) (T.subs_wf _ s (fun u hu => hws u (List.mem_of_mem_take hu)) hs) (by omega)
      rw [T.av_eq] at e1
      rw [foldl_take_succ _ _ _ _ hi, ← wrap_succ hi hlen]
      generalize ((t.args.take i).foldl (fun s u => u.sub s) s) = s' at e1 ⊢
      simp [l_saturateref10_Subterms_0, hi, T.av_eq t.args[i], e1]) (by
      rw [List.take_length]; simp [l_saturateref10_Subterms_0]) (by simp)
  have e3 := T.subs_len t.args s
  have e4 := T.subs_wf t.args s hws hs
  rw [T.sub_eq]
  rw [callD_eq, T.av_eq]
  generalize (t.args.foldl (fun s u => u.sub s) s) = s' at hloop e3 e4 ⊢
  have hloop2 := loop_find (G := G0) (IP := IP) (lo := hp.length) (b := l_saturateref10_Subterms_1)
    (fun i => ⟨[(0, .list (T.avs s'.1) s'.2), (3, .box t.cells), (23, .int .i64 s'.1.length), (24, .int .i64 i)], hp⟩)
    s'.1.length (fun i => (s'.1.getD i T.nil).same t) (.ret, ⟨[(4, .list (T.avs s'.1) s'.2)], hp⟩)
    (.exit 2, ⟨[(0, .list (T.avs s'.1) s'.2), (3, .box t.cells), (23, .int .i64 s'.1.length), (24, .int .i64 s'.1.length), (25, .bool false)], hp⟩) (fun i hi hp => by
      rw [getD_lt hi] at hp
      have e1 := refSame_D s'.1[i] (e4 _ (List.getElem_mem hi)) t hw
      rw [T.av_eq, T.av_eq] at e1
      rw [← wrap_succ hi (by omega)]
      simp [l_saturateref10_Subterms_1, hi, T.av_eq s'.1[i], e1, hp]) (fun i hi hp => by
      rw [getD_lt hi] at hp
      have e1 := refSame_D s'.1[i] (e4 _ (List.getElem_mem hi)) t hw
      rw [T.av_eq, T.av_eq] at e1
      simp [l_saturateref10_Subterms_1, hi, T.av_eq s'.1[i], e1, hp]) (by simp) (by
      simp [l_saturateref10_Subterms_1]) (by simp)
  rw [any_getD s'.1 (fun u => u.same t)] at hloop2
  simp at hloop
  unfold addT
  cases hc : s'.1.any (fun u => u.same t) with
  | true =>
    simp [hc] at hloop2
    simp [IP_saturateref10_Subterms, i_saturateref10_Subterms, hloop, hloop2, hc]
  | false =>
    simp [hc] at hloop2
    have b1 : (s'.1.length : Nat) * 64 ≤ 140737488355328 := by omega
    have b2 : (s'.1.length + 1 : Nat) * 64 ≤ 140737488355328 := by omega
    have b3 : s'.1.length ≤ 9223372036854775807 := by omega
    have b4 : s'.1.length + 1 ≤ 9223372036854775807 := by omega
    simp [IP_saturateref10_Subterms, i_saturateref10_Subterms, hloop, hloop2, hc, b1, b2, b3, b4, T.avs_app, T.avs, T.av_eq t]
end Go.Proofs.Ytajlmldpbhendaa.Rf
end
section
/- Sums over different subterms: the walks. -/
set_option linter.unusedSimpArgs false
set_option linter.unusedVariables false
namespace Go.Proofs.Ytajlmldpbhendaa.Rf

def sumI (l : List Int) (us : List T) : Int := us.foldl (fun n u => addI n (nodeI l u.op)) 0
def allS (ts : List T) : List T × Own := ts.foldl (fun s u => u.sub s) ([], .nil)
theorem refDag_D (l : List Int) (hl : l.length = 32) (ts : List T) (hws : ∀ t, t ∈ ts → t.wf) (o : Own) (hlen : ts.length ≤ 9223372036854775807) (hb : T.sizes ts ≤ 1000000) (hp : List HObj) (lo : Nat) (q : Bool) :
    callD G0 IP n_saturateref10_Dag [costs l, .list (T.avs ts) o] hp lo q = some (.ret (.int .i64 (sumI l (allS ts).1)) hp) := by
  have e9 := take32 l hl
  have hloop := loop_iter (G := G0) (IP := IP) (lo := hp.length) (b := l_saturateref10_Dag_0)
    (fun i => ⟨[(1, .list (T.avs ts) o), (2, .box (l.map (AV.int .i64))), (5, .list (T.avs (allS (ts.take i)).1) (allS (ts.take i)).2), (10, .int .i64 ts.length), (11, .int .i64 i)], hp⟩)
    ts.length (r := (.exit 0, ⟨[(1, .list (T.avs ts) o), (2, .box (l.map (AV.int .i64))), (5, .list (T.avs (allS ts).1) (allS ts).2), (10, .int .i64 ts.length), (11, .int .i64 ts.length), (12, .bool false)], hp⟩)) (fun i hi => by
      have e0 := size_le_of_mem hi
      have e3 := T.subs_len (ts.take i) ([], .nil)
      have e1 := subterms_D ts[i] (hws _ (List.getElem_mem hi)) (allS (ts.take i)) (T.subs_wf _ ([], .nil) (fun u hu => hws u (List.mem_of_mem_take hu)) (by simp)) (by unfold allS; simp at e3; omega)
      rw [T.av_eq] at e1
      have e4 : allS (ts.take (i + 1)) = ts[i].sub (allS (ts.take i)) := by unfold allS; rw [foldl_take_succ _ _ _ _ hi]
      rw [e4, ← wrap_succ hi hlen]
      generalize allS (ts.take i) = s' at e1 ⊢
      simp [l_saturateref10_Dag_0, hi, T.av_eq ts[i], e1]) (by
      rw [List.take_length]; simp [l_saturateref10_Dag_0]) (by simp)
  have e3 := T.subs_len ts ([], .nil)
  have e4 := T.subs_wf ts ([], .nil) hws (by simp)
  have e5 : (allS []).1 = [] ∧ (allS []).2 = .nil := ⟨rfl, rfl⟩
  simp [e5, T.avs] at hloop
  rw [callD_eq]
  change (allS ts).1.length ≤ _ at e3
  change ∀ u, u ∈ (allS ts).1 → _ at e4
  generalize allS ts = s' at hloop e3 e4 ⊢
  simp at e3
  have hloop2 := loop_iter (G := G0) (IP := IP) (lo := hp.length) (b := l_saturateref10_Dag_1)
    (fun i => ⟨[(2, .box (l.map (AV.int .i64))), (5, .list (T.avs s'.1) s'.2), (7, .int .i64 (sumI l (s'.1.take i))), (22, .int .i64 s'.1.length), (23, .int .i64 i)], hp⟩)
    s'.1.length (r := (.exit 2, ⟨[(2, .box (l.map (AV.int .i64))), (5, .list (T.avs s'.1) s'.2), (7, .int .i64 (sumI l s'.1)), (22, .int .i64 s'.1.length), (23, .int .i64 s'.1.length), (24, .bool false)], hp⟩)) (fun i hi => by
      have e6 : sumI l (s'.1.take (i + 1)) = addI (sumI l (s'.1.take i)) (nodeI l s'.1[i].op) := by unfold sumI; rw [foldl_take_succ _ _ _ _ hi]
      rw [e6, ← wrap_succ hi (by omega)]
      simp [l_saturateref10_Dag_1, hi, hl, e9, T.av_eq s'.1[i], node2_D, add2_D]) (by
      rw [List.take_length]; simp [l_saturateref10_Dag_1]) (by simp)
  have e7 : sumI l [] = 0 := rfl
  simp [e7] at hloop2
  simp [IP_saturateref10_Dag, i_saturateref10_Dag, hloop, hloop2]

abbrev BK := List (Nat × List T)
def bav (B : BK) : List (AV × AV) := B.map fun e => (.int .i64 e.1, .list (T.avs e.2) (.own 5))
def bget (k : Nat) (B : BK) : List T := match B.find? (fun e => e.1 == k) with | some e => e.2 | none => []
def badd (k : Nat) (t : T) : BK → BK
  | [] => [(k, [t])]
  | e :: r => if e.1 = k then (k, e.2 ++ [t]) :: r else e :: badd k t r
def ball (B : BK) : List T := B.flatMap (·.2)
theorem bsplit (k : Nat) : ∀ B : BK, (∃ B1 us B2, B = B1 ++ (k, us) :: B2 ∧ (∀ e, e ∈ B1 → e.1 ≠ k) ∧ bget k B = us ∧ ∀ t, badd k t B = B1 ++ (k, us ++ [t]) :: B2) ∨ ((∀ e, e ∈ B → e.1 ≠ k) ∧ bget k B = [] ∧ ∀ t, badd k t B = B ++ [(k, [t])])
  | [] => .inr ⟨by simp, rfl, fun t => rfl⟩
  | e :: r => by
    by_cases h : e.1 = k
    · left
      refine ⟨[], e.2, r, ?_, by simp, ?_, fun t => ?_⟩
      · rw [← h]; rfl
      · simp [bget, h]
      · simp [badd, h]
    · rcases bsplit k r with ⟨B1, us, B2, e1, e2, e3, e4⟩ | ⟨e2, e3, e4⟩
      · left
        refine ⟨e :: B1, us, B2, by simp [e1], fun x hx => ?_, ?_, fun t => ?_⟩
        · rcases List.mem_cons.1 hx with rfl | hx
          · exact h
          · exact e2 x hx
        · unfold bget at e3 ⊢; rw [List.find?_cons_of_neg (by simpa using h)]; exact e3
        · simp [badd, h, e4 t]
      · right
        refine ⟨fun x hx => ?_, ?_, fun t => ?_⟩
        · rcases List.mem_cons.1 hx with rfl | hx
          · exact h
          · exact e2 x hx
        · unfold bget at e3 ⊢; rw [List.find?_cons_of_neg (by simpa using h)]; exact e3
        · simp [badd, h, e4 t]
theorem find_hit (k : Nat) (v : AV) (es2 : List (AV × AV)) : ∀ (B : BK) (n : Nat), (∀ e, e ∈ B → e.1 ≠ k) → findKey .int (.int .i64 (k : Int)) (bav B ++ (.int .i64 (k : Int), v) :: es2) n = some (some (n + B.length, v))
  | [], n, _ => by simp [bav, findKey]
  | e :: r, n, h => by
    have h1 : ¬ (k : Int) = (e.1 : Int) := fun hh => h e (by simp) (by omega)
    have h2 := find_hit k v es2 r (n + 1) fun x hx => h x (by simp [hx])
    simp only [bav, List.map_cons, List.cons_append, findKey] at h2 ⊢
    simp [h1, h2]; omega
theorem find_miss (k : Nat) : ∀ (B : BK) (n : Nat), (∀ e, e ∈ B → e.1 ≠ k) → findKey .int (.int .i64 (k : Int)) (bav B) n = some none
  | [], n, _ => by simp [bav, findKey]
  | e :: r, n, h => by
    have h1 : ¬ (k : Int) = (e.1 : Int) := fun hh => h e (by simp) (by omega)
    have h2 := find_miss k r (n + 1) fun x hx => h x (by simp [hx])
    simp only [bav, List.map_cons, findKey] at h2 ⊢
    simp [h1, h2]
@[simp] theorem bav_len (B : BK) : (bav B).length = B.length := by simp [bav]
theorem bav_app (A B : BK) : bav (A ++ B) = bav A ++ bav B := by simp [bav]
theorem bav_cons (e : Nat × List T) (B : BK) : bav (e :: B) = (.int .i64 e.1, .list (T.avs e.2) (.own 5)) :: bav B := rfl

mutual
def visitS (l : List Int) : T → BK × Int → BK × Int
  | .mk a b c d e as, s => if (bget (T.size (.mk a b c d e as)) s.1).any (fun u => (T.mk a b c d e as).same u) then s else visitsS l as (badd (T.size (.mk a b c d e as)) (.mk a b c d e as) s.1, addI s.2 (nodeI l a))
def visitsS (l : List Int) : List T → BK × Int → BK × Int
  | [], s => s
  | t :: r, s => visitsS l r (visitS l t s)
end
theorem visitsS_eq (l : List Int) : ∀ (as : List T) (s : BK × Int), visitsS l as s = as.foldl (fun s u => visitS l u s) s
  | [], s => rfl
  | t :: r, s => by simp only [visitsS, List.foldl]; exact visitsS_eq l r _
theorem visitS_eq (l : List Int) (t : T) (s : BK × Int) : visitS l t s = if (bget t.size s.1).any (fun u => t.same u) then s else t.args.foldl (fun s u => visitS l u s) (badd t.size t s.1, addI s.2 (nodeI l t.op)) := by
  cases t; simp only [visitS, visitsS_eq, T.args, T.op]
theorem ball_badd (k : Nat) (t : T) (B : BK) : (ball (badd k t B)).length = (ball B).length + 1 ∧ (∀ u, u ∈ ball (badd k t B) ↔ u ∈ ball B ∨ u = t) := by
  rcases bsplit k B with ⟨B1, us, B2, e1, e2, e3, e4⟩ | ⟨e2, e3, e4⟩
  · rw [e4, e1]; unfold ball
    refine ⟨by simp; omega, fun u => ?_⟩
    simp only [List.flatMap_append, List.flatMap_cons, List.mem_append, List.mem_singleton]
    grind
  · rw [e4]; unfold ball
    exact ⟨by simp, fun u => by simp⟩
theorem bget_sub (k : Nat) (B : BK) : (∀ u, u ∈ bget k B → u ∈ ball B) ∧ (bget k B).length ≤ (ball B).length := by
  rcases bsplit k B with ⟨B1, us, B2, e1, e2, e3, e4⟩ | ⟨e2, e3, e4⟩
  · rw [e3, e1]; unfold ball
    exact ⟨fun u hu => by simp [hu], by simp; omega⟩
  · rw [e3]; simp
theorem foldl_inv {α β : Type} (P : β → Prop) (f : β → α → β) : ∀ (as : List α) (s : β), P s → (∀ a, a ∈ as → ∀ s, P s → P (f s a)) → P (as.foldl f s)
  | [], s, h, _ => h
  | a :: r, s, h, hf => foldl_inv P f r (f s a) (hf a (by simp) s h) fun b hb => hf b (by simp [hb])
theorem visit_wf (l : List Int) (t : T) : t.wf → ∀ s : BK × Int, (∀ u, u ∈ ball s.1 → u.wf) → ∀ u, u ∈ ball (visitS l t s).1 → u.wf := by
  induction t using T.ind with | h t ih =>
  intro hw s hs
  rw [visitS_eq]
  split
  · exact hs
  · refine foldl_inv (fun s : BK × Int => ∀ u, u ∈ ball s.1 → u.wf) _ t.args _ ?_ fun a ha s hs => ih a ha ((T.wf_args hw).2 a ha) s hs
    intro u hu
    rcases ((ball_badd _ _ _).2 u).1 hu with h | h
    · exact hs u h
    · rw [h]; exact hw
theorem visits_wf (l : List Int) (as : List T) (s : BK × Int) (hw : ∀ t, t ∈ as → t.wf) (hs : ∀ u, u ∈ ball s.1 → u.wf) : ∀ u, u ∈ ball (as.foldl (fun s u => visitS l u s) s).1 → u.wf :=
  foldl_inv (fun s : BK × Int => ∀ u, u ∈ ball s.1 → u.wf) _ as s hs fun a ha s hs => visit_wf l a (hw a ha) s hs
theorem visit_len (l : List Int) (t : T) : ∀ s : BK × Int, (ball (visitS l t s).1).length ≤ (ball s.1).length + t.size := by
  induction t using T.ind with | h t ih =>
  intro s
  have h : ∀ (as : List T), (∀ u, u ∈ as → u ∈ t.args) → ∀ s : BK × Int, (ball (as.foldl (fun s u => visitS l u s) s).1).length ≤ (ball s.1).length + T.sizes as := by
    intro as
    induction as with
    | nil => intro _ s; simp [T.sizes]
    | cons u r ihr =>
      intro hm s
      have h1 := ih u (hm u (by simp)) s
      have h2 := ihr (fun x hx => hm x (by simp [hx])) (visitS l u s)
      simp only [List.foldl, T.sizes]; omega
  rw [visitS_eq]
  split
  · omega
  · have h2 := h t.args (fun _ h => h) (badd t.size t s.1, addI s.2 (nodeI l t.op))
    have h3 := (ball_badd t.size t s.1).1
    have h4 := T.size_eq t
    simp only at h2
    omega
theorem visits_len (l : List Int) : ∀ (as : List T) (s : BK × Int), (ball (as.foldl (fun s u => visitS l u s) s).1).length ≤ (ball s.1).length + T.sizes as
  | [], s => by simp [T.sizes]
  | t :: r, s => by
    have h1 := visit_len l t s
    have h2 := visits_len l r (visitS l t s)
    simp only [List.foldl, T.sizes]; omega
end Go.Proofs.Ytajlmldpbhendaa.Rf
end
section
/- cost.Dag: the walk. -/
set_option linter.unusedSimpArgs false
set_option linter.unusedVariables false
namespace Go.Proofs.Ytajlmldpbhendaa.Rf

def hv (hp : List HObj) (l : List Int) (es : List (AV × AV)) (n : Int) : List HObj := hp ++ [.map es, .cells (l.map (AV.int .i64) ++ [.map hp.length, .int .i64 n])]
section
variable (hp : List HObj) (l : List Int) (es es' : List (AV × AV)) (n n' : Int)
@[simp] theorem hv_get0 : (hv hp l es n)[hp.length]? = some (.map es) := by simp [hv]
@[simp] theorem hv_get1 : (hv hp l es n)[hp.length + 1]? = some (.cells (l.map (AV.int .i64) ++ [.map hp.length, .int .i64 n])) := by simp [hv, List.getElem?_append_right]
@[simp] theorem hv_set0 : (hv hp l es n).set hp.length (.map es') = hv hp l es' n := by simp [hv, List.set_append]
@[simp] theorem hv_set1 : (hv hp l es n).set (hp.length + 1) (.cells (l.map (AV.int .i64) ++ [.map hp.length, .int .i64 n'])) = hv hp l es n' := by simp [hv, List.set_append]
end
theorem any_imp {us : List T} {t : T} : (∀ i, i < us.length → t.same (us.getD i T.nil) = false) → us.any (fun u => t.same u) = false := by
  intro h
  rw [← any_getD us (fun u => t.same u)]
  simpa using h
theorem any_imp' {us : List T} {t : T} {m : Nat} (hm : m < us.length) (h : t.same (us.getD m T.nil) = true) : us.any (fun u => t.same u) = true := by
  rw [getD_lt hm] at h
  simp only [List.any_eq_true]; exact ⟨_, List.getElem_mem hm, h⟩
set_option maxRecDepth 4000
theorem visit_D (l : List Int) (hl : l.length = 32) (hp : List HObj) (t : T) : t.wf → ∀ s : BK × Int, (∀ u, u ∈ ball s.1 → u.wf) → (ball s.1).length + t.size ≤ 1000000 →
    callD G0 IP n_cost_shared_visit [.ptr (hp.length + 1) 0, t.av] (hv hp l (bav s.1) s.2) hp.length false = some (.ret (.tup []) (hv hp l (bav (visitS l t s).1) (visitS l t s).2)) := by
  induction t using T.ind with | h t ih =>
  intro hw s hs hb
  obtain ⟨B, n⟩ := s
  obtain ⟨hlen, hws⟩ := T.wf_args hw
  simp only at hs hb ⊢
  have ub := bget_sub t.size B
  have uw : ∀ u, u ∈ bget t.size B → u.wf := fun u hu => hs u (ub.1 u hu)
  have e1 := size_D t hw (by omega)
  -- the look into the bucket
  have hloop : ∀ (o : Own) (us : List T), us.length ≤ 1000000 → (∀ u, u ∈ us → u.wf) → _ := fun o us hus husw => loop_some (G := G0) (IP := IP) (lo := hp.length) (b := l_cost_shared_visit_0)
    (fun i => ⟨[(0, .ptr (hp.length + 1) 0), (3, .box t.cells), (4, .int .i64 t.size), (16, .list (T.avs us) o), (17, .int .i64 us.length), (18, .int .i64 i)], hv hp l (bav B) n⟩)
    us.length (fun i => t.same (us.getD i T.nil))
    (fun i => (.ret, ⟨[(0, .ptr (hp.length + 1) 0), (3, .box t.cells), (4, .int .i64 t.size), (16, .list (T.avs us) o), (17, .int .i64 us.length), (18, .int .i64 i), (24, .bool true)], hv hp l (bav B) n⟩))
    (.exit 0, ⟨[(0, .ptr (hp.length + 1) 0), (3, .box t.cells), (4, .int .i64 t.size), (16, .list (T.avs us) o), (17, .int .i64 us.length), (18, .int .i64 us.length), (19, .bool false)], hv hp l (bav B) n⟩) (fun i hi hp => by
      rw [getD_lt hi] at hp
      have e1 := same_D t hw us[i] (husw _ (List.getElem_mem hi))
      rw [T.av_eq, T.av_eq] at e1
      rw [← wrap_succ hi (by omega)]
      simp [l_cost_shared_visit_0, hi, T.av_eq us[i], e1, hp]) (fun i hi hp => by
      rw [getD_lt hi] at hp
      have e1 := same_D t hw us[i] (husw _ (List.getElem_mem hi))
      rw [T.av_eq, T.av_eq] at e1
      simp [l_cost_shared_visit_0, hi, T.av_eq us[i], e1, hp]) (by simp) (by
      simp [l_cost_shared_visit_0]) (by simp)
  -- the operands
  have hloop2 : ∀ s : BK × Int, (∀ u, u ∈ ball s.1 → u.wf) → (ball s.1).length + T.sizes t.args ≤ 1000000 → _ := fun s hs hb => loop_iter (G := G0) (IP := IP) (lo := hp.length) (b := l_cost_shared_visit_1)
    (fun i => ⟨[(0, .ptr (hp.length + 1) 0), (56, .list (T.avs t.args) (ownB t.o)), (57, .int .i64 t.args.length), (58, .int .i64 i)], hv hp l (bav ((t.args.take i).foldl (fun s u => visitS l u s) s).1) ((t.args.take i).foldl (fun s u => visitS l u s) s).2⟩)
    t.args.length (r := (.exit 2, ⟨[(0, .ptr (hp.length + 1) 0), (56, .list (T.avs t.args) (ownB t.o)), (57, .int .i64 t.args.length), (58, .int .i64 t.args.length), (59, .bool false)], hv hp l (bav (t.args.foldl (fun s u => visitS l u s) s).1) (t.args.foldl (fun s u => visitS l u s) s).2⟩)) (fun i hi => by
      have e0 := size_le_of_mem hi
      have e3 := visits_len l (t.args.take i) s
      have e4 := visits_wf l (t.args.take i) s (fun u hu => hws u (List.mem_of_mem_take hu)) hs
      have e1 := ih t.args[i] (List.getElem_mem hi) (hws _ (List.getElem_mem hi)) ((t.args.take i).foldl (fun s u => visitS l u s) s) e4 (by omega)
      rw [T.av_eq] at e1
      rw [foldl_take_succ _ _ _ _ hi, ← wrap_succ hi hlen]
      generalize ((t.args.take i).foldl (fun s u => visitS l u s) s) = s' at e1 ⊢
      simp [l_cost_shared_visit_1, hi, T.av_eq t.args[i], e1]) (by
      rw [List.take_length]; simp [l_cost_shared_visit_1]) (by simp)
  rw [T.av_eq] at e1
  have hz := T.size_eq t
  have d33 : ∀ a b : AV, List.drop 33 (List.map (AV.int .i64) l ++ [a, b]) = [b] := fun a b => by rw [List.drop_append]; simp [hl]
  have d34 : ∀ a b : AV, List.drop 34 (List.map (AV.int .i64) l ++ [a, b]) = [] := fun a b => by rw [List.drop_append]; simp [hl]
  have t33 : ∀ a b : AV, List.take 33 (List.map (AV.int .i64) l ++ [a, b]) = List.map (AV.int .i64) l ++ [a] := fun a b => by rw [List.take_append, List.take_of_length_le (by simp [hl])]; simp [hl]
  have e9 := take32 l hl
  rw [callD_eq, T.av_eq, visitS_eq]
  simp only
  rcases bsplit t.size B with ⟨B1, us, B2, b1, b2, b3, b4⟩ | ⟨b2, b3, b4⟩
  · rw [b3] at ub uw ⊢
    have hl1 := hloop .no us (by omega) uw
    have hf := fun v : AV => find_hit t.size v (bav B2) B1 0 b2
    have hs1 : ∀ v x : AV × AV, (bav B1 ++ v :: bav B2).set B1.length x = bav B1 ++ x :: bav B2 := fun v x => by
      rw [List.set_append_right _ _ (by simp)]; simp
    have hs2 : ∀ v : AV × AV, (bav B1 ++ v :: bav B2)[B1.length]? = some v := fun v => by
      rw [List.getElem?_append_right (by simp)]; simp
    have hl2 := hloop2 (badd t.size t B, addI n (nodeI l t.op)) (fun u hu => by
      rcases ((ball_badd _ _ _).2 u).1 hu with h | h
      · exact hs u h
      · rw [h]; exact hw) (by have := (ball_badd t.size t B).1; simp only; omega)
    rcases hl1 with ⟨m, h1, h2, _, hl1⟩ | ⟨h2, hl1⟩
    · rw [if_pos (any_imp' h1 h2)]
      rw [b1, bav_app, bav_cons] at hl1 ⊢
      simp at hl1
      simp [IP_cost_shared_visit, i_cost_shared_visit, hl, e1, hf, hl1]

    · rw [any_imp h2, if_neg (by simp)]
      rw [b4] at hl2 ⊢
      generalize hr : List.foldl (fun s u => visitS l u s) (B1 ++ (t.size, us ++ [t]) :: B2, addI n (nodeI l t.op)) t.args = r at hl2 ⊢
      simp [bav_app, bav_cons, T.avs_app, T.avs, T.av_eq t, hr] at hl2
      rw [b1, bav_app, bav_cons] at hl1 ⊢
      simp at hl1
      have b5 : (us.length + 1) * 64 ≤ 140737488355328 := by omega
      have b6 : us.length + 1 ≤ 9223372036854775807 := by omega
      simp [IP_cost_shared_visit, i_cost_shared_visit, hl, e1, hf, hl1, hs1, hs2, b5, b6, hl2, node_D, add_D, e9, d33, d34, t33, T.avs_app, T.avs, T.av_eq t]

  · rw [b3]
    have hl1 := hloop .nil [] (by simp) (by simp)
    have hl2 := hloop2 (badd t.size t B, addI n (nodeI l t.op)) (fun u hu => by
      rcases ((ball_badd _ _ _).2 u).1 hu with h | h
      · exact hs u h
      · rw [h]; exact hw) (by have := (ball_badd t.size t B).1; simp only; omega)
    rcases hl1 with ⟨m, h1, _⟩ | ⟨_, hl1⟩
    · simp at h1
    simp [T.avs] at hl1 hl2
    have hf := find_miss t.size B 0 b2
    rw [b4] at hl2 ⊢
    simp only [if_neg (show ¬ ([] : List T).any (fun u => t.same u) = true by simp)]
    generalize hr : List.foldl (fun s u => visitS l u s) (B ++ [(t.size, [t])], addI n (nodeI l t.op)) t.args = r at hl2 ⊢
    simp [bav_app, bav_cons, show bav [] = [] from rfl, T.avs, T.av_eq t, hr] at hl2
    simp [IP_cost_shared_visit, i_cost_shared_visit, hl, e1, hf, hl1, hl2, node_D, add_D, e9, T.avs, d33, d34, t33, T.av_eq t]
end Go.Proofs.Ytajlmldpbhendaa.Rf
end
section
/- cost.Dag, the example. -/
set_option linter.unusedSimpArgs false
set_option linter.unusedVariables false
namespace Go.Proofs.Ytajlmldpbhendaa.Rf

def dagI (l : List Int) (ts : List T) : Int := (ts.foldl (fun s u => visitS l u s) ([], 0)).2
set_option maxRecDepth 4000
theorem dag_D (l : List Int) (hl : l.length = 32) (ts : List T) (hws : ∀ t, t ∈ ts → t.wf) (o : Own) (hlen : ts.length ≤ 9223372036854775807) (hb : T.sizes ts ≤ 1000000) (hp : List HObj) (lo : Nat) (q : Bool) :
    callD G0 IP n_cost_Dag [costs l, .list (T.avs ts) o] hp lo q = some (.ret (.int .i64 (dagI l ts)) hp) := by
  have e9 := take32 l hl
  have d33 : ∀ a b : AV, List.drop 33 (List.map (AV.int .i64) l ++ [a, b]) = [b] := fun a b => by rw [List.drop_append]; simp [hl]
  have hloop := loop_iter (G := G0) (IP := IP) (lo := hp.length) (b := l_cost_Dag_0)
    (fun i => ⟨[(5, .ptr (hp.length + 1) 0), (12, .list (T.avs ts) o), (13, .int .i64 ts.length), (14, .int .i64 i)], hv hp l (bav ((ts.take i).foldl (fun s u => visitS l u s) ([], 0)).1) ((ts.take i).foldl (fun s u => visitS l u s) ([], 0)).2⟩)
    ts.length (r := (.exit 0, ⟨[(5, .ptr (hp.length + 1) 0), (12, .list (T.avs ts) o), (13, .int .i64 ts.length), (14, .int .i64 ts.length), (15, .bool false)], hv hp l (bav (ts.foldl (fun s u => visitS l u s) ([], 0)).1) (ts.foldl (fun s u => visitS l u s) ([], 0)).2⟩)) (fun i hi => by
      have e0 := size_le_of_mem hi
      have e3 := visits_len l (ts.take i) ([], 0)
      have e4 := visits_wf l (ts.take i) ([], 0) (fun u hu => hws u (List.mem_of_mem_take hu)) (by simp [ball])
      have e1 := visit_D l hl hp ts[i] (hws _ (List.getElem_mem hi)) ((ts.take i).foldl (fun s u => visitS l u s) ([], 0)) e4 (by simp [ball] at e3 ⊢; omega)
      rw [T.av_eq] at e1
      rw [foldl_take_succ _ _ _ _ hi, ← wrap_succ hi hlen]
      generalize ((ts.take i).foldl (fun s u => visitS l u s) ([], 0)) = s' at e1 ⊢
      simp [l_cost_Dag_0, hi, T.av_eq ts[i], e1]) (by
      rw [List.take_length]; simp [l_cost_Dag_0]) (by simp)
  unfold dagI
  generalize (ts.foldl (fun s u => visitS l u s) ([], 0)) = s' at hloop ⊢
  simp [show bav [] = [] from rfl] at hloop
  have h0 : hp ++ [.map [], .cells (l.map (AV.int .i64) ++ [.map hp.length, .int .i64 0])] = hv hp l [] 0 := rfl
  rw [callD_eq]
  simp [IP_cost_Dag, i_cost_Dag, hl, e9, h0, hloop, d33]
end Go.Proofs.Ytajlmldpbhendaa.Rf
namespace Go.Proofs.Ytajlmldpbhendaa.Rf
def ones : List Int := List.replicate 32 1
theorem uniform_D (hp : List HObj) (lo : Nat) (q : Bool) : callD G0 IP n_cost_Uniform [] hp lo q = some (.ret (costs ones) hp) := by
  cases q
  · exact callD_iff.2 ⟨100, by kernel_rfl⟩
  · exact callD_iff.2 ⟨100, by kernel_rfl⟩
def exX : T := .mk 10 8 0 [] false [.mk 1 8 0 [120] true [], .mk 1 8 0 [121] true []]
def exT : T := .mk 8 8 0 [] false [exX, exX]
theorem exT_wf : exT.wf := by simp [exT, exX, T.wf, T.wfs, Lit.wf]; decide
theorem lives_D (hp : List HObj) (lo : Nat) (q : Bool) : callD G0 IP n_saturatelaw10_lives [] hp lo q = some (.ret (.bool true) hp) := by
  have e1 := tree_D ones rfl exT exT_wf
  have e2 := dag_D ones rfl [exT] (by simp [exT_wf]) (.own 5) (by decide) (by decide)
  have e3 : treeI ones exT = 7 := by decide +kernel
  have e4 : dagI ones [exT] = 4 := by decide +kernel
  rw [e3] at e1
  rw [e4] at e2
  have e5 := uniform_D
  simp only [costs] at e1 e2 e5
  generalize List.map (AV.int .i64) ones = on at e1 e2 e5
  simp [exT, exX, T.av, T.avs, ownB] at e1 e2
  rw [callD_eq]
  simp [IP_saturatelaw10_lives, i_saturatelaw10_lives, e1, e2, e5]
end Go.Proofs.Ytajlmldpbhendaa.Rf
end
section
/- Plain laws of costs. -/
set_option linter.unusedSimpArgs false
set_option linter.unusedVariables false
namespace Go.Proofs.Ytajlmldpbhendaa.Rf

mutual
def T.er : T → T
  | .mk a b c d _ as => .mk a b c d false (T.ers as)
def T.ers : List T → List T
  | [] => []
  | t :: r => t.er :: T.ers r
end
theorem T.ers_eq : ∀ as : List T, T.ers as = as.map T.er
  | [] => rfl
  | t :: r => by simp [T.ers, T.ers_eq r]
theorem T.er_eq (t : T) : t.er = .mk t.op t.width t.val t.name false (t.args.map T.er) := by cases t; simp only [T.er, T.ers_eq, T.op, T.width, T.val, T.name, T.args]
@[simp] theorem T.er_op (t : T) : t.er.op = t.op := by cases t; rfl
@[simp] theorem T.er_args (t : T) : t.er.args = t.args.map T.er := by cases t; simp only [T.er, T.ers_eq, T.args]
theorem T.same_iff (t : T) : ∀ u : T, t.same u = true ↔ t.er = u.er := by
  induction t using T.ind with | h t ih =>
  intro u
  have h : ∀ (as bs : List T), (∀ x, x ∈ as → ∀ y : T, x.same y = true ↔ x.er = y.er) → (T.sames as bs = true ↔ as.map T.er = bs.map T.er) := by
    intro as
    induction as with
    | nil => intro bs _; cases bs <;> simp [T.sames]
    | cons x r ihr =>
      intro bs hx
      cases bs with
      | nil => simp [T.sames]
      | cons y s =>
        have h1 := hx x (by simp) y
        have h2 := ihr s fun z hz => hx z (by simp [hz])
        simp only [T.sames, Bool.and_eq_true, List.map_cons, List.cons.injEq, h1, h2]
  rw [T.same_eq, T.er_eq, T.er_eq]
  simp only [Bool.and_eq_true, beq_iff_eq, T.mk.injEq, true_and, h t.args u.args ih]
theorem T.er_size (t : T) : t.er.size = t.size := by
  induction t using T.ind with | h t ih =>
  rw [T.size_eq, T.size_eq t, T.er_args]
  have h : ∀ (as : List T), (∀ x, x ∈ as → x.er.size = x.size) → T.sizes (as.map T.er) = T.sizes as := by
    intro as
    induction as with
    | nil => intro _; rfl
    | cons x r ihr => intro hx; simp only [List.map_cons, T.sizes, hx x (by simp), ihr fun z hz => hx z (by simp [hz])]
  rw [h t.args ih]

/- all subterms, erased -/
mutual
def T.occ : T → List T
  | .mk a b c d e as => T.er (.mk a b c d e as) :: T.occs as
def T.occs : List T → List T
  | [] => []
  | t :: r => t.occ ++ T.occs r
end
theorem T.occs_eq : ∀ as : List T, T.occs as = as.flatMap T.occ
  | [] => rfl
  | t :: r => by simp [T.occs, T.occs_eq r]
theorem T.occ_eq (t : T) : t.occ = t.er :: t.args.flatMap T.occ := by cases t; simp only [T.occ, T.occs_eq, T.args]
theorem T.occ_len (t : T) : t.occ.length = t.size := by
  induction t using T.ind with | h t ih =>
  rw [T.occ_eq, T.size_eq]
  have h : ∀ (as : List T), (∀ x, x ∈ as → x.occ.length = x.size) → (as.flatMap T.occ).length = T.sizes as := by
    intro as
    induction as with
    | nil => intro _; rfl
    | cons x r ihr => intro hx; simp only [List.flatMap_cons, List.length_append, T.sizes, hx x (by simp), ihr fun z hz => hx z (by simp [hz])]
  rw [List.length_cons, h t.args ih]; omega
theorem T.sizes_mem {as : List T} {u : T} (h : u ∈ as) : u.size ≤ T.sizes as := by
  induction as with
  | nil => simp at h
  | cons x r ih =>
    simp only [T.sizes]
    rcases List.mem_cons.1 h with rfl | h
    · omega
    · have := ih h; omega
theorem T.occ_size (t : T) : ∀ e, e ∈ t.occ → e.size ≤ t.size ∧ (e.size = t.size → e = t.er) := by
  induction t using T.ind with | h t ih =>
  intro e he
  rw [T.occ_eq] at he
  rcases List.mem_cons.1 he with rfl | he
  · exact ⟨by rw [T.er_size]; exact Nat.le_refl _, fun _ => rfl⟩
  · obtain ⟨u, hu, he⟩ := List.mem_flatMap.1 he
    have h1 := (ih u hu e he).1
    have h2 := T.sizes_mem hu
    have h3 := T.size_eq t
    exact ⟨by omega, fun h => by omega⟩
theorem T.occ_self (t : T) : t.er ∈ t.occ := by rw [T.occ_eq]; simp
theorem T.occ_trans (t : T) : ∀ u : T, u.er ∈ t.occ → ∀ e, e ∈ u.occ → e ∈ t.occ := by
  induction t using T.ind with | h t ih =>
  intro u hu e he
  have hoe : ∀ (a b : T), a.er = b.er → a.occ = b.occ := by
    intro a
    induction a using T.ind with | h a iha =>
    intro b hab
    rw [T.occ_eq, T.occ_eq, hab]
    have h2 : a.args.map T.er = b.args.map T.er := by rw [← T.er_args, ← T.er_args, hab]
    have : ∀ (as bs : List T), (∀ x, x ∈ as → ∀ y : T, x.er = y.er → x.occ = y.occ) → as.map T.er = bs.map T.er → as.flatMap T.occ = bs.flatMap T.occ := by
      intro as
      induction as with
      | nil => intro bs _ h; cases bs with
        | nil => rfl
        | cons y s => simp at h
      | cons x r ihr =>
        intro bs hx h
        cases bs with
        | nil => simp at h
        | cons y s =>
          simp only [List.map_cons, List.cons.injEq] at h
          simp only [List.flatMap_cons, hx x (by simp) y h.1, ihr s (fun z hz => hx z (by simp [hz])) h.2]
    rw [this a.args b.args iha h2]
  rw [T.occ_eq] at hu
  rcases List.mem_cons.1 hu with hu | hu
  · rw [← hoe u t hu]; exact he
  · obtain ⟨v, hv, hu⟩ := List.mem_flatMap.1 hu
    rw [T.occ_eq]
    exact List.mem_cons_of_mem _ (List.mem_flatMap.2 ⟨v, hv, ih v hv u hu e he⟩)

/-- nodup lists inside others -/
theorem perm_rest {α : Type} : ∀ (A B : List α), A.Nodup → (∀ a, a ∈ A → a ∈ B) → ∃ R, B.Perm (A ++ R)
  | [], B, _, _ => ⟨B, List.Perm.refl _⟩
  | a :: A, B, hn, hs => by
    obtain ⟨B1, B2, e⟩ := List.append_of_mem (hs a (by simp))
    have hn' := List.nodup_cons.1 hn
    obtain ⟨R, hR⟩ := perm_rest A (B1 ++ B2) hn'.2 fun x hx => by
      have := hs x (by simp [hx])
      rw [e] at this
      rcases List.mem_append.1 this with h | h
      · simp [h]
      · rcases List.mem_cons.1 h with h | h
        · exact absurd (h ▸ hx) hn'.1
        · simp [h]
    refine ⟨R, ?_⟩
    rw [e]
    exact List.perm_middle.trans (hR.cons a)

section
variable (l : List Int)
def kN (t : T) : Nat := (nodeI l t.op).toNat
theorem node_rng (op : Int) : 1 ≤ nodeI l op ∧ nodeI l op ≤ 1048576 := by
  unfold nodeI
  split
  · exact ⟨by omega, by omega⟩
  · simp only; split <;> split <;> omega
theorem kN_eq (t : T) : nodeI l t.op = (kN l t : Int) ∧ 1 ≤ kN l t ∧ kN l t ≤ 1048576 := by
  have := node_rng l t.op; unfold kN; omega
def W (es : List T) : Nat := (es.map (kN l)).sum
theorem W_app (a b : List T) : W l (a ++ b) = W l a + W l b := by simp [W]
theorem W_cons (t : T) (b : List T) : W l (t :: b) = kN l t + W l b := by simp [W]
theorem W_perm {a b : List T} (h : a.Perm b) : W l a = W l b := (h.map _).sum_nat
theorem W_le (es : List T) : es.length ≤ W l es ∧ W l es ≤ es.length * 1048576 := by
  induction es with
  | nil => simp [W]
  | cons t r ih => rw [W_cons, List.length_cons]; have := kN_eq l t; omega
theorem W_er (es : List T) : W l (es.map T.er) = W l es := by
  induction es with
  | nil => rfl
  | cons t r ih => rw [List.map_cons, W_cons, W_cons, ih]; simp [kN]
theorem addI_nat (a b : Nat) (h : a + b ≤ 4611686018427387904) : addI a b = ((a + b : Nat) : Int) := by
  have h1 : clampI (a : Int) = a := by unfold clampI; simp; omega
  have h2 : clampI (b : Int) = b := by unfold clampI; simp; omega
  have h3 : IntKind.wrap .i64 (4611686018427387904 - (b : Int)) = 4611686018427387904 - (b : Int) := wrap_small (by omega) (by omega)
  have h4 : IntKind.wrap .i64 ((a : Int) + (b : Int)) = (a : Int) + (b : Int) := wrap_small (by omega) (by omega)
  unfold addI
  rw [h1, h2, h3, h4, if_neg (by omega)]; omega
theorem tree_W (t : T) : t.size ≤ 1000000 → treeI l t = (W l t.occ : Int) := by
  induction t using T.ind with | h t ih =>
  intro hs
  have hz := T.size_eq t
  have h : ∀ (as : List T), (∀ x, x ∈ as → x ∈ t.args) → ∀ n : Nat, n + T.sizes as * 1048576 ≤ 4611686018427387904 → as.foldl (fun s u => addI s (treeI l u)) (n : Int) = ((n + W l (as.flatMap T.occ) : Nat) : Int) := by
    intro as
    induction as with
    | nil => intro _ n _; simp [W]
    | cons x r ihr =>
      intro hx n hn
      simp only [T.sizes] at hn
      have h2 := T.sizes_mem (hx x (by simp))
      have h3 := (W_le l x.occ).2
      rw [T.occ_len] at h3
      rw [List.foldl_cons, ih x (hx x (by simp)) (by omega), addI_nat _ _ (by omega), ihr (fun z hz => hx z (by simp [hz])) _ (by omega), List.flatMap_cons, W_app]
      omega
  have hk := kN_eq l t
  rw [treeI_eq, hk.1, h t.args (fun _ h => h) (kN l t) (by omega), T.occ_eq, W_cons]
  simp [kN]
theorem sumI_W (us : List T) (h : us.length ≤ 1000000) : sumI l us = (W l us : Int) := by
  have : ∀ (us : List T) (n : Nat), n + us.length * 1048576 ≤ 4611686018427387904 → us.foldl (fun n u => addI n (nodeI l u.op)) (n : Int) = ((n + W l us : Nat) : Int) := by
    intro us
    induction us with
    | nil => intro n _; simp [W]
    | cons x r ih =>
      intro n hn
      have hk := kN_eq l x
      simp only [List.length_cons] at hn
      rw [List.foldl_cons, hk.1, addI_nat _ _ (by omega), ih _ (by omega), W_cons]; omega
  have h2 := this us 0 (by omega)
  simpa [sumI] using h2
end
end Go.Proofs.Ytajlmldpbhendaa.Rf
end
section
/- Plain laws of sums over different subterms. -/
set_option linter.unusedSimpArgs false
set_option linter.unusedVariables false
namespace Go.Proofs.Ytajlmldpbhendaa.Rf
abbrev E (us : List T) : List T := us.map T.er
theorem mem_E {us : List T} {u : T} (h : u ∈ us) : u.er ∈ E us := List.mem_map.2 ⟨u, h, rfl⟩
theorem any_same (us : List T) (t : T) : us.any (fun u => u.same t) = true ↔ t.er ∈ E us := by
  simp only [List.any_eq_true, List.mem_map]
  constructor
  · rintro ⟨u, h1, h2⟩; exact ⟨u, h1, (T.same_iff u t).1 h2⟩
  · rintro ⟨u, h1, h2⟩; exact ⟨u, h1, (T.same_iff u t).2 h2⟩
theorem any_same' (us : List T) (t : T) : us.any (fun u => t.same u) = true ↔ t.er ∈ E us := by
  simp only [List.any_eq_true, List.mem_map]
  constructor
  · rintro ⟨u, h1, h2⟩; exact ⟨u, h1, ((T.same_iff t u).1 h2).symm⟩
  · rintro ⟨u, h1, h2⟩; exact ⟨u, h1, (T.same_iff t u).2 h2.symm⟩
theorem nodup_snoc {α : Type} {a : List α} {x : α} (h : a.Nodup) (hx : x ∉ a) : (a ++ [x]).Nodup := by
  rw [List.nodup_append]
  refine ⟨h, by simp, fun y hy z hz => ?_⟩
  rw [List.mem_singleton.1 hz]
  intro e; exact hx (e ▸ hy)
theorem addT_spec (s : List T × Own) (t : T) (h : (E s.1).Nodup) : (E (addT s t).1).Nodup ∧ ∀ e, e ∈ E (addT s t).1 ↔ e ∈ E s.1 ∨ e = t.er := by
  unfold addT
  by_cases hc : s.1.any (fun u => u.same t) = true
  · rw [if_pos hc]
    refine ⟨h, fun e => ⟨.inl, ?_⟩⟩
    rintro (h1 | h1)
    · exact h1
    · rw [h1]; exact (any_same _ _).1 hc
  · rw [if_neg hc]
    have hc' : t.er ∉ E s.1 := fun hh => hc ((any_same _ _).2 hh)
    refine ⟨?_, fun e => by simp⟩
    show (List.map T.er (s.1 ++ [t])).Nodup
    rw [List.map_append]
    exact nodup_snoc h hc'
theorem sub_spec (t : T) : ∀ s : List T × Own, (E s.1).Nodup → (E (t.sub s).1).Nodup ∧ ∀ e, e ∈ E (t.sub s).1 ↔ e ∈ E s.1 ∨ e ∈ t.occ := by
  induction t using T.ind with | h t ih =>
  intro s hs
  have h : ∀ (as : List T), (∀ x, x ∈ as → x ∈ t.args) → ∀ s : List T × Own, (E s.1).Nodup → (E (as.foldl (fun s u => u.sub s) s).1).Nodup ∧ ∀ e, e ∈ E (as.foldl (fun s u => u.sub s) s).1 ↔ e ∈ E s.1 ∨ e ∈ as.flatMap T.occ := by
    intro as
    induction as with
    | nil => intro _ s hs; exact ⟨hs, fun e => by simp⟩
    | cons x r ihr =>
      intro hx s hs
      have h1 := ih x (hx x (by simp)) s hs
      have h2 := ihr (fun z hz => hx z (by simp [hz])) (x.sub s) h1.1
      refine ⟨h2.1, fun e => ?_⟩
      rw [List.foldl_cons, h2.2 e, h1.2 e, List.flatMap_cons, List.mem_append, or_assoc]
  have h1 := h t.args (fun _ h => h) s hs
  have h2 := addT_spec _ t h1.1
  rw [T.sub_eq]
  refine ⟨h2.1, fun e => ?_⟩
  rw [h2.2 e, h1.2 e, T.occ_eq, List.mem_cons]
  grind
theorem allS_spec (ts : List T) : (E (allS ts).1).Nodup ∧ ∀ e, e ∈ E (allS ts).1 ↔ e ∈ ts.flatMap T.occ := by
  have h : ∀ (as : List T) (s : List T × Own), (E s.1).Nodup → (E (as.foldl (fun s u => u.sub s) s).1).Nodup ∧ ∀ e, e ∈ E (as.foldl (fun s u => u.sub s) s).1 ↔ e ∈ E s.1 ∨ e ∈ as.flatMap T.occ := by
    intro as
    induction as with
    | nil => intro s hs; exact ⟨hs, fun e => by simp⟩
    | cons x r ihr =>
      intro s hs
      have h1 := sub_spec x s hs
      have h2 := ihr (x.sub s) h1.1
      refine ⟨h2.1, fun e => ?_⟩
      rw [List.foldl_cons, h2.2 e, h1.2 e, List.flatMap_cons, List.mem_append, or_assoc]
  have := h ts ([], .nil) (by simp)
  exact ⟨this.1, fun e => by have := this.2 e; simpa [allS] using this⟩

/-- buckets hold what has their size -/
def BI (B : BK) : Prop := ∀ k u, u ∈ bget k B ↔ u ∈ ball B ∧ u.size = k
theorem bget_badd (k k' : Nat) (t : T) : ∀ B : BK, bget k (badd k' t B) = if k = k' then bget k B ++ [t] else bget k B
  | [] => by
    unfold bget badd
    by_cases h : k = k'
    · simp [h]
    · rw [if_neg h]; have : ¬ k' = k := fun e => h e.symm
      simp [this]
  | e :: r => by
    have ih := bget_badd k k' t r
    by_cases h1 : e.1 = k'
    · by_cases h2 : k = k'
      · simp [bget, badd, h1, h2]
      · have : ¬ k' = k := fun e => h2 e.symm
        simp [bget, badd, h1, h2, this]
    · by_cases h3 : e.1 = k
      · have : ¬ k = k' := fun e => h1 (h3.trans e)
        simp [bget, badd, h1, h3, this]
      · have e1 : ∀ R : BK, bget k (e :: R) = bget k R := fun R => by unfold bget; rw [List.find?_cons_of_neg (by simpa using h3)]
        rw [badd, if_neg h1, e1, e1, ih]
theorem BI.badd {B : BK} (h : BI B) (t : T) : BI (badd t.size t B) := by
  intro k u
  rw [bget_badd, (ball_badd _ _ _).2 u]
  by_cases hk : k = t.size
  · rw [if_pos hk, List.mem_append, h k u, List.mem_singleton]
    constructor
    · rintro (⟨h1, h2⟩ | h1)
      · exact ⟨.inl h1, h2⟩
      · exact ⟨.inr h1, by rw [h1, hk]⟩
    · rintro ⟨h1 | h1, h2⟩
      · exact .inl ⟨h1, h2⟩
      · exact .inr h1
  · rw [if_neg hk, h k u]
    constructor
    · rintro ⟨h1, h2⟩; exact ⟨.inl h1, h2⟩
    · rintro ⟨h1 | h1, h2⟩
      · exact ⟨h1, h2⟩
      · exact absurd (by rw [← h2, h1]) hk
theorem W_badd (l : List Int) (k : Nat) (t : T) (B : BK) : W l (ball (badd k t B)) = W l (ball B) + kN l t := by
  rcases bsplit k B with ⟨B1, us, B2, e1, e2, e3, e4⟩ | ⟨e2, e3, e4⟩
  · rw [e4, e1]; unfold ball; simp only [List.flatMap_append, List.flatMap_cons, W_app, W_cons, W]; simp; omega
  · rw [e4]; unfold ball; simp [W_app, W_cons, W]
theorem nodup_perm_snoc (k : Nat) (t : T) (B : BK) : (ball (badd k t B)).Perm (ball B ++ [t]) := by
  rcases bsplit k B with ⟨B1, us, B2, e1, e2, e3, e4⟩ | ⟨e2, e3, e4⟩
  · rw [e4, e1]; unfold ball
    simp only [List.flatMap_append, List.flatMap_cons, List.append_assoc]
    refine List.Perm.append_left _ (List.Perm.append_left _ ?_)
    exact List.perm_append_comm
  · rw [e4]; unfold ball; simp
/-- what the visits keep -/
structure VI (l : List Int) (N : Nat) (s : BK × Int) : Prop where
  bi : BI s.1
  nd : (E (ball s.1)).Nodup
  cl : ∀ u, u ∈ ball s.1 → u.size ≤ N → ∀ e, e ∈ u.occ → e ∈ E (ball s.1)
  sum : s.2 = (W l (ball s.1) : Int)
theorem occ_er (a : T) : ∀ b : T, a.er = b.er → a.occ = b.occ := by
  induction a using T.ind with | h a iha =>
  intro b hab
  rw [T.occ_eq, T.occ_eq, hab]
  have h2 : a.args.map T.er = b.args.map T.er := by rw [← T.er_args, ← T.er_args, hab]
  have : ∀ (as bs : List T), (∀ x, x ∈ as → ∀ y : T, x.er = y.er → x.occ = y.occ) → as.map T.er = bs.map T.er → as.flatMap T.occ = bs.flatMap T.occ := by
    intro as
    induction as with
    | nil => intro bs _ h; cases bs with
      | nil => rfl
      | cons y s => simp at h
    | cons x r ihr =>
      intro bs hx h
      cases bs with
      | nil => simp at h
      | cons y s =>
        simp only [List.map_cons, List.cons.injEq] at h
        simp only [List.flatMap_cons, hx x (by simp) y h.1, ihr s (fun z hz => hx z (by simp [hz])) h.2]
  rw [this a.args b.args iha h2]
theorem visit_spec (l : List Int) (t : T) : ∀ (N : Nat) (s : BK × Int), t.size ≤ N → VI l N s → (ball s.1).length + t.size ≤ 1000000 →
    VI l N (visitS l t s) ∧ ∀ e, e ∈ E (ball (visitS l t s).1) ↔ e ∈ E (ball s.1) ∨ e ∈ t.occ := by
  induction t using T.ind with | h t ih =>
  intro N s hN hv hb
  have hz := T.size_eq t
  have h : ∀ (as : List T), (∀ x, x ∈ as → x ∈ t.args) → ∀ s : BK × Int, VI l (t.size - 1) s → (ball s.1).length + T.sizes as ≤ 1000000 →
      VI l (t.size - 1) (as.foldl (fun s u => visitS l u s) s) ∧ ∀ e, e ∈ E (ball (as.foldl (fun s u => visitS l u s) s).1) ↔ e ∈ E (ball s.1) ∨ e ∈ as.flatMap T.occ := by
    intro as
    induction as with
    | nil => intro _ s hs _; exact ⟨hs, fun e => by simp⟩
    | cons x r ihr =>
      intro hx s hs hb
      simp only [T.sizes] at hb
      have h0 := T.sizes_mem (hx x (by simp))
      have h1 := ih x (hx x (by simp)) (t.size - 1) s (by omega) hs (by omega)
      have h3 := visit_len l x s
      have h2 := ihr (fun z hz => hx z (by simp [hz])) (visitS l x s) h1.1 (by omega)
      refine ⟨h2.1, fun e => ?_⟩
      rw [List.foldl_cons, h2.2 e, h1.2 e, List.flatMap_cons, List.mem_append, or_assoc]
  rw [visitS_eq]
  by_cases hc : (bget t.size s.1).any (fun u => t.same u) = true
  · rw [if_pos hc]
    refine ⟨hv, fun e => ⟨.inl, ?_⟩⟩
    rintro (h1 | h1)
    · exact h1
    · obtain ⟨u, hu, he⟩ := List.mem_map.1 ((any_same' _ _).1 hc)
      have h2 := (hv.bi _ _).1 hu
      exact hv.cl u h2.1 (by omega) e (by rw [occ_er u t he]; exact h1)
  · rw [if_neg hc]
    have hne : t.er ∉ E (ball s.1) := by
      intro hm
      obtain ⟨u, hu, he⟩ := List.mem_map.1 hm
      refine hc ((any_same' _ _).2 (List.mem_map.2 ⟨u, (hv.bi _ _).2 ⟨hu, ?_⟩, he⟩))
      rw [← T.er_size u, he, T.er_size]
    have hp := nodup_perm_snoc t.size t s.1
    have hpE : (E (ball (badd t.size t s.1))).Perm (E (ball s.1) ++ [t.er]) := by
      have := hp.map T.er; rwa [List.map_append] at this
    have hk := kN_eq l t
    have hW := W_le l (ball s.1)
    have h1 : VI l (t.size - 1) (badd t.size t s.1, addI s.2 (nodeI l t.op)) := by
      refine ⟨hv.bi.badd t, hpE.nodup_iff.2 (nodup_snoc hv.nd hne), fun u hu hs e he => ?_, ?_⟩
      · rcases ((ball_badd _ _ _).2 u).1 hu with h1 | h1
        · have := hv.cl u h1 (by omega) e he
          exact hpE.mem_iff.2 (by simp [this])
        · rw [h1] at hs; omega
      · show addI s.2 (nodeI l t.op) = _
        rw [hv.sum, hk.1, addI_nat _ _ (by omega), W_badd]
    have h2 := (ball_badd t.size t s.1).1
    have h3 := h t.args (fun _ h => h) _ h1 (by simp only; omega)
    have h4 : ∀ e, e ∈ E (ball (t.args.foldl (fun s u => visitS l u s) (badd t.size t s.1, addI s.2 (nodeI l t.op))).1) ↔ e ∈ E (ball s.1) ∨ e ∈ t.occ := by
      intro e
      rw [h3.2 e, hpE.mem_iff, T.occ_eq, List.mem_append, List.mem_singleton, List.mem_cons, or_assoc]
    refine ⟨⟨h3.1.bi, h3.1.nd, fun u hu hs e he => ?_, h3.1.sum⟩, h4⟩
    rcases (h4 u.er).1 (mem_E hu) with h5 | h5
    · obtain ⟨v, hv1, hv2⟩ := List.mem_map.1 h5
      have h6 : v.size ≤ N := by rw [← T.er_size v, hv2, T.er_size]; exact hs
      exact (h4 e).2 (.inl (hv.cl v hv1 h6 e (by rw [occ_er v u hv2]; exact he)))
    · exact (h4 e).2 (.inr (T.occ_trans t u h5 e he))
theorem visits_spec (l : List Int) (N : Nat) : ∀ (as : List T) (s : BK × Int), (∀ x, x ∈ as → x.size ≤ N) → VI l N s → (ball s.1).length + T.sizes as ≤ 1000000 →
    VI l N (as.foldl (fun s u => visitS l u s) s) ∧ ∀ e, e ∈ E (ball (as.foldl (fun s u => visitS l u s) s).1) ↔ e ∈ E (ball s.1) ∨ e ∈ as.flatMap T.occ
  | [], s, _, hs, _ => ⟨hs, fun e => by simp⟩
  | x :: r, s, hx, hs, hb => by
    simp only [T.sizes] at hb
    have h1 := visit_spec l x N s (hx x (by simp)) hs (by omega)
    have h3 := visit_len l x s
    have h2 := visits_spec l N r (visitS l x s) (fun z hz => hx z (by simp [hz])) h1.1 (by omega)
    refine ⟨h2.1, fun e => ?_⟩
    rw [List.foldl_cons, h2.2 e, h1.2 e, List.flatMap_cons, List.mem_append, or_assoc]
/-- the different subterms -/
theorem dag_W (l : List Int) (ts : List T) (hb : T.sizes ts ≤ 1000000) : ∃ D : List T, D.Nodup ∧ (∀ e, e ∈ D ↔ e ∈ ts.flatMap T.occ) ∧ dagI l ts = (W l D : Int) := by
  have h := visits_spec l 1000000 ts ([], 0) (fun x hx => by have := T.sizes_mem hx; omega) ⟨fun k u => by simp [bget, ball], by simp [ball], by simp [ball], by simp [ball, W]⟩ (by simp [ball]; omega)
  exact ⟨_, h.1.nd, fun e => by have := h.2 e; simpa [ball] using this, by rw [W_er]; exact h.1.sum⟩
theorem W_sub (l : List Int) {A B : List T} (h : A.Nodup) (hs : ∀ a, a ∈ A → a ∈ B) : ∃ R, W l B = W l A + W l R ∧ B.length = A.length + R.length := by
  obtain ⟨R, hR⟩ := perm_rest A B h hs
  exact ⟨R, by rw [W_perm l hR, W_app], by rw [hR.length_eq, List.length_append]⟩
theorem W_same (l : List Int) {A B : List T} (ha : A.Nodup) (hb : B.Nodup) (hs : ∀ e, e ∈ A ↔ e ∈ B) : W l A = W l B := by
  obtain ⟨R, h1, _⟩ := W_sub l ha fun a h => (hs a).1 h
  obtain ⟨S, h2, _⟩ := W_sub l hb fun a h => (hs a).2 h
  omega
theorem dag_refDag (l : List Int) (ts : List T) (hb : T.sizes ts ≤ 1000000) : dagI l ts = sumI l (allS ts).1 := by
  obtain ⟨D, h1, h2, h3⟩ := dag_W l ts hb
  obtain ⟨h4, h5⟩ := allS_spec ts
  have h6 := T.subs_len ts ([], .nil)
  rw [h3, sumI_W l _ (by unfold allS; simp at h6; omega), ← W_er l (allS ts).1, W_same l h1 h4 fun e => by rw [h2, h5]]
theorem dag_set (l : List Int) (ts us : List T) (hb : T.sizes ts ≤ 1000000) (hb2 : T.sizes us ≤ 1000000) (h : ∀ t, t ∈ ts ↔ t ∈ us) : dagI l ts = dagI l us := by
  obtain ⟨D, h1, h2, h3⟩ := dag_W l ts hb
  obtain ⟨D', k1, k2, k3⟩ := dag_W l us hb2
  rw [h3, k3, W_same l h1 k1 fun e => by rw [h2, k2]; simp only [List.mem_flatMap, h]]
theorem dag_mono (l : List Int) (ts us : List T) (hb : T.sizes ts ≤ 1000000) (hb2 : T.sizes us ≤ 1000000) (h : ∀ t, t ∈ ts → t ∈ us) : dagI l ts ≤ dagI l us := by
  obtain ⟨D, h1, h2, h3⟩ := dag_W l ts hb
  obtain ⟨D', k1, k2, k3⟩ := dag_W l us hb2
  obtain ⟨R, r1, _⟩ := W_sub l h1 (B := D') fun e he => by
    rw [k2]; rw [h2] at he
    obtain ⟨t, ht, he⟩ := List.mem_flatMap.1 he
    exact List.mem_flatMap.2 ⟨t, h t ht, he⟩
  rw [h3, k3]; omega
theorem dag_add (l : List Int) (t u : T) (hb : t.size + u.size ≤ 1000000) : dagI l [t, u] ≤ addI (dagI l [t]) (dagI l [u]) := by
  obtain ⟨D, h1, h2, h3⟩ := dag_W l [t, u] (by simp only [T.sizes]; omega)
  obtain ⟨A, a1, a2, a3⟩ := dag_W l [t] (by simp only [T.sizes]; omega)
  obtain ⟨B, b1, b2, b3⟩ := dag_W l [u] (by simp only [T.sizes]; omega)
  obtain ⟨R, r1, _⟩ := W_sub l h1 (B := A ++ B) fun e he => by
    rw [h2] at he; rw [List.mem_append, a2, b2]
    simpa using he
  obtain ⟨P, p1, p2⟩ := W_sub l a1 (B := t.occ) fun e he => by rw [a2] at he; simpa using he
  obtain ⟨Q, q1, q2⟩ := W_sub l b1 (B := u.occ) fun e he => by rw [b2] at he; simpa using he
  have w1 := (W_le l A).2
  have w2 := (W_le l B).2
  rw [T.occ_len] at p2 q2
  rw [W_app] at r1
  rw [h3, a3, b3, addI_nat _ _ (by omega)]; omega
/-- one term: its different subterms among all -/
theorem dag_tree (l : List Int) (t : T) (hb : t.size ≤ 1000000) : 1 ≤ dagI l [t] ∧ dagI l [t] ≤ treeI l t ∧ (dagI l [t] = treeI l t ↔ (t.sub ([], .nil)).1.length = t.size) := by
  obtain ⟨D, h1, h2, h3⟩ := dag_W l [t] (by simp only [T.sizes]; omega)
  simp only [List.flatMap_cons, List.flatMap_nil, List.append_nil] at h2
  obtain ⟨R, r1, r2⟩ := W_sub l h1 (B := t.occ) fun e he => (h2 e).1 he
  have k := sub_spec t ([], .nil) (by simp)
  obtain ⟨S, s1, s2⟩ := W_sub l h1 (B := E (t.sub ([], .nil)).1) fun e he => by rw [k.2]; exact .inr ((h2 e).1 he)
  obtain ⟨S', s1', s2'⟩ := W_sub l k.1 (B := D) fun e he => by
    rw [k.2] at he; rw [h2]; simpa using he
  have w := W_le l R
  have w1 := W_le l D
  have w0 : 1 ≤ D.length := List.length_pos_of_mem ((h2 _).2 t.occ_self)
  rw [tree_W l t hb, h3]
  rw [T.occ_len] at r2
  simp only [List.length_map] at s2 s2'
  refine ⟨by omega, by omega, ?_⟩
  constructor
  · intro h; have : W l R = 0 := by omega
    omega
  · intro h; have : R.length = 0 := by omega
    omega
theorem dag_grows (l : List Int) (t u : T) (hu : u ∈ t.args) (hb : t.size ≤ 1000000) : dagI l [u] < dagI l [t] ∧ treeI l u < treeI l t := by
  have hz := T.size_eq t
  have hm := T.sizes_mem hu
  obtain ⟨D, h1, h2, h3⟩ := dag_W l [t] (by simp only [T.sizes]; omega)
  obtain ⟨A, a1, a2, a3⟩ := dag_W l [u] (by simp only [T.sizes]; omega)
  simp only [List.flatMap_cons, List.flatMap_nil, List.append_nil] at h2 a2
  have hn : t.er ∉ A := by
    intro h; have := ((T.occ_size u) _ ((a2 _).1 h)).1; rw [T.er_size] at this; omega
  obtain ⟨R, r1, _⟩ := W_sub l (List.nodup_cons.2 ⟨hn, a1⟩) (B := D) fun e he => by
    rw [h2, T.occ_eq]
    rcases List.mem_cons.1 he with he | he
    · rw [he]; simp
    · exact List.mem_cons_of_mem _ (List.mem_flatMap.2 ⟨u, hu, (a2 e).1 he⟩)
  have hk := kN_eq l t.er
  rw [W_cons] at r1
  have o1 : ∃ n : Nat, W l t.occ = kN l t.er + W l u.occ + n := by
    obtain ⟨B1, B2, e⟩ := List.append_of_mem hu
    rw [T.occ_eq, W_cons, e]
    simp only [List.flatMap_append, List.flatMap_cons, W_app]
    exact ⟨W l (B1.flatMap T.occ) + W l (B2.flatMap T.occ), by omega⟩
  obtain ⟨n, o1⟩ := o1
  rw [h3, a3, tree_W l t hb, tree_W l u (by omega)]
  omega
end Go.Proofs.Ytajlmldpbhendaa.Rf
end
section
/- The laws of costs on plain values. -/
set_option linter.unusedSimpArgs false
set_option linter.unusedVariables false
namespace Go.Proofs.Ytajlmldpbhendaa.Rf
set_option maxRecDepth 8000
theorem costNodes_D (l : List Int) (hl : l.length = 32) (op a b : Int) (q : Bool) : callD G0 IP n_saturatelaw10_CostNodes [costs l, .int .i64 op, .agg [.int .i64 a, .int .i64 b]] [] 0 q = some (.ret (.bool true) []) := by
  have e9 := take32 l hl
  have e5 := uniform_D
  have e6 := node_D ones rfl op
  have e8 : nodeI ones op = 1 := by
    unfold nodeI
    split
    · rfl
    · rename_i h
      have h1 : op.toNat < 32 := by omega
      have h2 : ∀ n, n < 32 → ones.getD n 0 = 1 := by decide
      rw [h2 _ h1]; rfl
  rw [e8] at e6
  simp only [costs] at e5 e6
  generalize List.map (AV.int .i64) ones = on at e5 e6
  rw [callD_eq]
  simp [IP_saturatelaw10_CostNodes, i_saturatelaw10_CostNodes, hl, e9, node_D, node2_D, add_D, add2_D, lives_D, e5, e6]
theorem costTrees_D (l : List Int) (hl : l.length = 32) (t : T) (hw : t.wf) (q : Bool) : callD G0 IP n_saturatelaw10_CostTrees [costs l, t.av] [] 0 q = some (.ret (.bool true) []) := by
  have e9 := take32 l hl
  have e1 := small_D t hw 60 (by omega) (by omega)
  have e2 := tree_D l hl t hw
  have e3 := tree2_D l hl t hw
  rw [T.av_eq] at e1 e2 e3
  rw [callD_eq, T.av_eq]
  by_cases hc : (t.size : Int) ≤ 60
  · simp [IP_saturatelaw10_CostTrees, i_saturatelaw10_CostTrees, hl, e9, e1, e2, e3, lives_D, hc]
  · simp [IP_saturatelaw10_CostTrees, i_saturatelaw10_CostTrees, hl, e9, e1, e2, e3, lives_D, hc]
theorem costDags_D (l : List Int) (hl : l.length = 32) (t u v : T) (hw : t.wf) (hu : u.wf) (hv : v.wf) (q : Bool) : callD G0 IP n_saturatelaw10_CostDags [costs l, .agg (t.cells ++ u.cells ++ v.cells)] [] 0 q = some (.ret (.bool true) []) := by
  have e9 := take32 l hl
  have e1 := small_D t hw 40 (by omega) (by omega)
  have e2 := small_D u hu 40 (by omega) (by omega)
  have e3 := small_D v hv 40 (by omega) (by omega)
  rw [T.av_eq] at e1 e2 e3
  rw [callD_eq]
  by_cases h1 : (t.size : Int) ≤ 40
  rotate_left
  · simp [IP_saturatelaw10_CostDags, i_saturatelaw10_CostDags, hl, e9, e1, e2, e3, lives_D, h1]
  by_cases h2 : (u.size : Int) ≤ 40
  rotate_left
  · simp [IP_saturatelaw10_CostDags, i_saturatelaw10_CostDags, hl, e9, e1, e2, e3, lives_D, h1, h2]
  by_cases h3 : (v.size : Int) ≤ 40
  rotate_left
  · simp [IP_saturatelaw10_CostDags, i_saturatelaw10_CostDags, hl, e9, e1, e2, e3, lives_D, h1, h2, h3]
  have d0 := dag_D l hl [] (by simp) .nil (by simp) (by simp [T.sizes])
  have d1 := dag_D l hl [t] (by simp [hw]) (.own 5) (by simp) (by simp [T.sizes]; omega)
  have d2 := dag_D l hl [t, u, v] (by simp [hw, hu, hv]) (.own 5) (by simp) (by simp [T.sizes]; omega)
  have r1 := refDag_D l hl [t] (by simp [hw]) (.own 5) (by simp) (by simp [T.sizes]; omega)
  have r2 := refDag_D l hl [t, u, v] (by simp [hw, hu, hv]) (.own 5) (by simp) (by simp [T.sizes]; omega)
  rw [← dag_refDag l _ (by simp [T.sizes]; omega)] at r1 r2
  have z0 : dagI l [] = 0 := rfl
  simp only [T.avs, T.av_eq] at d0 d1 d2 r1 r2
  simp [IP_saturatelaw10_CostDags, i_saturatelaw10_CostDags, hl, e9, e1, e2, e3, lives_D, h1, h2, h3, d0, d1, d2, r1, r2, z0]
theorem costShared_D (l : List Int) (hl : l.length = 32) (t : T) (hw : t.wf) (q : Bool) : callD G0 IP n_saturatelaw10_CostShared [costs l, t.av] [] 0 q = some (.ret (.bool true) []) := by
  have e9 := take32 l hl
  have e1 := small_D t hw 60 (by omega) (by omega)
  have e2 := tree_D l hl t hw
  rw [T.av_eq] at e1 e2
  rw [callD_eq, T.av_eq]
  by_cases hc : (t.size : Int) ≤ 60
  rotate_left
  · simp [IP_saturatelaw10_CostShared, i_saturatelaw10_CostShared, hl, e9, e1, e2, lives_D, hc]
  have d1 := dag_D l hl [t] (by simp [hw]) (.own 5) (by simp) (by simp [T.sizes]; omega)
  have s1 := subterms_D t hw ([], .nil) (by simp) (by simp; omega)
  have c1 := count_D t hw (by omega)
  obtain ⟨p1, p2, p3⟩ := dag_tree l t (by omega)
  have p4 : decide (dagI l [t] = treeI l t) = decide (((t.sub ([], .nil)).1.length : Int) = (t.size : Int)) := by rw [decide_eq_decide, p3]; omega
  simp only [T.avs, T.av_eq] at d1 s1 c1
  generalize hs : t.sub ([], .nil) = s at s1 p4
  simp [IP_saturatelaw10_CostShared, i_saturatelaw10_CostShared, hl, e9, e1, e2, lives_D, hc, d1, s1, c1, p1, p2, p4]
theorem costOrder_D (l : List Int) (hl : l.length = 32) (t u : T) (hw : t.wf) (hu : u.wf) (q : Bool) : callD G0 IP n_saturatelaw10_CostOrder [costs l, t.av, u.av] [] 0 q = some (.ret (.bool true) []) := by
  have e9 := take32 l hl
  have e1 := small_D t hw 40 (by omega) (by omega)
  have e2 := small_D u hu 40 (by omega) (by omega)
  rw [T.av_eq] at e1 e2
  rw [callD_eq, T.av_eq, T.av_eq]
  by_cases h1 : (t.size : Int) ≤ 40
  rotate_left
  · simp [IP_saturatelaw10_CostOrder, i_saturatelaw10_CostOrder, hl, e9, e1, e2, lives_D, h1]
  by_cases h2 : (u.size : Int) ≤ 40
  rotate_left
  · simp [IP_saturatelaw10_CostOrder, i_saturatelaw10_CostOrder, hl, e9, e1, e2, lives_D, h1, h2]
  have d1 := dag_D l hl [t] (by simp [hw]) (.own 5) (by simp) (by simp [T.sizes]; omega)
  have d2 := dag_D l hl [u] (by simp [hu]) (.own 5) (by simp) (by simp [T.sizes]; omega)
  have d3 := dag_D l hl [t, u] (by simp [hw, hu]) (.own 5) (by simp) (by simp [T.sizes]; omega)
  have d4 := dag_D l hl [u, t] (by simp [hw, hu]) (.own 5) (by simp) (by simp [T.sizes]; omega)
  have d5 := dag_D l hl [t, u, t] (by simp [hw, hu]) (.own 5) (by simp) (by simp [T.sizes]; omega)
  have p1 := dag_set l [u, t] [t, u] (by simp [T.sizes]; omega) (by simp [T.sizes]; omega) (by simp; grind)
  have p2 := dag_set l [t, u, t] [t, u] (by simp [T.sizes]; omega) (by simp [T.sizes]; omega) (by simp; grind)
  have p3 := dag_mono l [t] [t, u] (by simp [T.sizes]; omega) (by simp [T.sizes]; omega) (by simp)
  have p4 := dag_add l t u (by omega)
  rw [p1] at d4
  rw [p2] at d5
  simp only [T.avs, T.av_eq] at d1 d2 d3 d4 d5
  simp [IP_saturatelaw10_CostOrder, i_saturatelaw10_CostOrder, hl, e9, e1, e2, lives_D, h1, h2, d1, d2, d3, d4, d5, p3, p4, add_D]
theorem costGrows_D (l : List Int) (hl : l.length = 32) (t : T) (hw : t.wf) (q : Bool) : callD G0 IP n_saturatelaw10_CostGrows [costs l, t.av] [] 0 q = some (.ret (.bool true) []) := by
  have e9 := take32 l hl
  have e1 := small_D t hw 60 (by omega) (by omega)
  have e2 := tree_D l hl t hw
  rw [T.av_eq] at e1 e2
  rw [callD_eq, T.av_eq]
  obtain ⟨hlen, hws⟩ := T.wf_args hw
  by_cases hc : (t.size : Int) ≤ 60
  rotate_left
  · simp [IP_saturatelaw10_CostGrows, i_saturatelaw10_CostGrows, hl, e9, e1, e2, lives_D, hc]
  have d1 := dag_D l hl [t] (by simp [hw]) (.own 5) (by simp) (by simp [T.sizes]; omega)
  simp only [T.avs, T.av_eq] at d1
  have hloop := loop_iter (G := G0) (IP := IP) (lo := 0) (b := l_saturatelaw10_CostGrows_0)
    (fun i => ⟨[(2, .box (l.map (AV.int .i64))), (3, .box t.cells), (5, .int .i64 ((t.args.take i).foldl (fun s u => addI s (treeI l u)) (nodeI l t.op))), (18, .int .i64 t.args.length), (19, .int .i64 i)], []⟩)
    t.args.length (r := (.exit 0, ⟨[(2, .box (l.map (AV.int .i64))), (3, .box t.cells), (5, .int .i64 (treeI l t)), (18, .int .i64 t.args.length), (19, .int .i64 t.args.length), (20, .bool false)], []⟩)) (fun i hi => by
      have hsz := size_le_of_mem hi
      have hsz2 := T.size_eq t
      have e3 := tree_D l hl t.args[i] (hws _ (List.getElem_mem hi))
      have d2 := dag_D l hl [t.args[i]] (by simpa using hws _ (List.getElem_mem hi)) (.own 5) (by simp) (by simp [T.sizes]; omega)
      simp only [T.avs, T.av_eq] at e3 d2
      obtain ⟨g1, g2⟩ := dag_grows l t t.args[i] (List.getElem_mem hi) (by omega)
      have g1' := Int.not_le.2 g1
      have g2' := Int.not_le.2 g2
      rw [foldl_take_succ _ _ _ _ hi, ← wrap_succ hi hlen]
      simp [l_saturatelaw10_CostGrows_0, hi, hl, e9, T.av_eq t.args[i], e2, e3, d1, d2, add_D, g1', g2']) (by
      rw [List.take_length, ← treeI_eq]; simp [l_saturatelaw10_CostGrows_0]) (by simp)
  simp at hloop
  simp [IP_saturatelaw10_CostGrows, i_saturatelaw10_CostGrows, hl, e9, e1, e2, lives_D, hc, hloop, node_D]
end Go.Proofs.Ytajlmldpbhendaa.Rf
end
section
/- Arguments that are terms. -/
set_option linter.unusedSimpArgs false
set_option linter.unusedVariables false
namespace Go.Proofs.Ytajlmldpbhendaa.Rf
section
variable {H : Type} {P : Program}
theorem HasTy.str {n : Nat} {t : TypeId} {cs : List AV} {d : DataW H} (hu : P.underlying t = some .string) (h : HasTy P n t cs d) : ∃ s, cs = [.str s] ∧ s.length ≤ 9223372036854775807 := by
  cases n with
  | zero => exact h.elim
  | succ n => simp only [HasTy, hu] at h; obtain ⟨m, h1, h2, _⟩ := h; exact ⟨m, h1, h2⟩
theorem HasTy.bool {n : Nat} {t : TypeId} {cs : List AV} {d : DataW H} (hu : P.underlying t = some .bool) (h : HasTy P n t cs d) : ∃ s, cs = [.bool s] := by
  cases n with
  | zero => exact h.elim
  | succ n => simp only [HasTy, hu] at h; obtain ⟨m, h1, h2⟩ := h; exact ⟨m, h1⟩
/-- a slice whose elements are all of a kind -/
theorem HasTy.slice {α : Type} {n : Nat} {t e : TypeId} {cs : List AV} {d : DataW H} (f : α → AV) (w : α → Prop) (hu : P.underlying t = some (.slice e)) (h : HasTy P n t cs d)
    (he : ∀ m, m < n → ∀ ds (d' : DataW H), HasTy P m e ds d' → ∃ x, elemAV P e ds = f x ∧ w x) :
    ∃ (o : Bool) (l : List α), cs = [.list (l.map f) (ownB o)] ∧ (o = true → l = []) ∧ l.length ≤ 9223372036854775807 ∧ ∀ x, x ∈ l → w x := by
  cases n with
  | zero => exact h.elim
  | succ n =>
    simp only [HasTy, hu] at h
    rcases h with ⟨rfl, _⟩ | ⟨xs, els, rest, rfl, _, h1, h2, h3⟩
    · exact ⟨true, [], rfl, fun _ => rfl, by simp, by simp⟩
    · have : ∀ (xs : List AV) (els : List (DataW H)), xs.length = els.length → (∀ (i : Nat) x d', xs[i]? = some x → els[i]? = some d' → ∃ ds, x = elemAV P e ds ∧ HasTy P n e ds d') → ∃ l : List α, xs = l.map f ∧ ∀ x, x ∈ l → w x := by
        intro xs
        induction xs with
        | nil => intro els _ _; exact ⟨[], rfl, by simp⟩
        | cons x xs ih =>
          intro els hl hh
          cases els with
          | nil => simp at hl
          | cons y els =>
            obtain ⟨ds, e1, e2⟩ := hh 0 x y rfl rfl
            obtain ⟨a, f1, f2⟩ := he n (by omega) ds y e2
            obtain ⟨l, l1, l2⟩ := ih els (by simpa using hl) fun i x d' a b => hh (i + 1) x d' (by simpa using a) (by simpa using b)
            exact ⟨a :: l, by simp [e1, f1, l1], fun z hz => by
              rcases List.mem_cons.1 hz with e | hz
              · rw [e]; exact f2
              · exact l2 z hz⟩
      obtain ⟨l, l1, l2⟩ := this xs els h1 h3
      subst l1
      have hm : maxLen = 9223372036854775807 := rfl
      rw [hm] at h2
      exact ⟨false, l, rfl, by simp, by simpa using h2, l2⟩
/-- a struct's fields -/
theorem HasTy.fields {n : Nat} {t : TypeId} {fs : Array Field} {cs : List AV} {d : DataW H} (hu : P.underlying t = some (.struct fs)) (h : HasTy P n t cs d) :
    ∃ parts : List (List AV), cs = parts.flatten ∧ parts.length = fs.size ∧ ∀ (i : Nat) f ds, fs[i]? = some f → parts[i]? = some ds → ∃ m, ∃ d' : DataW H, m < n ∧ HasTy P m f.type ds d' := by
  cases n with
  | zero => exact h.elim
  | succ n =>
    simp only [HasTy, hu] at h
    obtain ⟨parts, els, rfl, _, h1, h2, h3⟩ := h
    refine ⟨parts, rfl, h1, fun i f ds a b => ?_⟩
    have : i < els.length := by rw [h2, ← h1]; exact (List.getElem?_eq_some_iff.1 b).1
    exact ⟨n, els[i], by omega, h3 i f ds _ a b (List.getElem?_eq_getElem this)⟩
theorem HasTy.term {tt ts a b c e : TypeId} {fs : Array Field} (hu : P.underlying tt = some (.struct fs)) (hf : fs.toList.map Field.type = [a, b, c, e, ts])
    (ha : P.underlying a = some (.int .i64)) (hb : P.underlying b = some (.int .i64)) (hc : P.underlying c = some (.int .u64)) (he : P.underlying e = some .string) (hs : P.underlying ts = some (.slice tt)) :
    ∀ n cs (d : DataW H), HasTy P n tt cs d → ∃ t : T, cs = t.cells ∧ t.wf := by
  intro n
  induction n using Nat.strongRecOn with
  | _ n ih =>
    intro cs d h
    obtain ⟨parts, rfl, hl, hp⟩ := h.fields hu
    have hsz : fs.size = 5 := by have := congrArg List.length hf; simpa using this
    rw [hsz] at hl
    match parts, hl with
    | [p0, p1, p2, p3, p4], _ =>
      have g : ∀ (i : Nat) ds x, [p0, p1, p2, p3, p4][i]? = some ds → [a, b, c, e, ts][i]? = some x → ∃ m, ∃ d' : DataW H, m < n ∧ HasTy P m x ds d' := by
        intro i ds x h1 h2
        rw [← hf] at h2
        simp only [List.getElem?_map, Array.getElem?_toList, Option.map_eq_some_iff] at h2
        obtain ⟨f, f1, f2⟩ := h2
        obtain ⟨m, d', m1, m2⟩ := hp i f ds f1 h1
        exact ⟨m, d', m1, f2 ▸ m2⟩
      obtain ⟨m0, d0, _, q0⟩ := g 0 _ _ rfl rfl
      obtain ⟨m1, d1, _, q1⟩ := g 1 _ _ rfl rfl
      obtain ⟨m2, d2, _, q2⟩ := g 2 _ _ rfl rfl
      obtain ⟨m3, d3, _, q3⟩ := g 3 _ _ rfl rfl
      obtain ⟨m4, d4, k4, q4⟩ := g 4 _ _ rfl rfl
      obtain ⟨x0, rfl, w0⟩ := q0.int ha
      obtain ⟨x1, rfl, w1⟩ := q1.int hb
      obtain ⟨x2, rfl, w2⟩ := q2.int hc
      obtain ⟨x3, rfl, w3⟩ := q3.str he
      obtain ⟨o, l, rfl, o1, l1, l2⟩ := q4.slice T.av T.wf hs fun m hm ds d' h => by
        obtain ⟨x, x1, x2⟩ := ih m (by omega) ds d' h
        exact ⟨x, by unfold elemAV aggTy; rw [hu, x1, T.av_eq]; rfl, x2⟩
      refine ⟨.mk x0 x1 x2 x3 o l, ?_, ?_⟩
      · simp [T.cells, T.op, T.width, T.val, T.name, T.o, T.args, T.avs_eq]
      · rw [T.wf_eq]; exact ⟨w0, w1, w2, w3, l1, o1, l2⟩
theorem ArgTy.term {tt ts a b c e : TypeId} {fs : Array Field} {v : AV} {d : DataW H} (hu : P.underlying tt = some (.struct fs)) (hf : fs.toList.map Field.type = [a, b, c, e, ts])
    (ha : P.underlying a = some (.int .i64)) (hb : P.underlying b = some (.int .i64)) (hc : P.underlying c = some (.int .u64)) (he : P.underlying e = some .string) (hs : P.underlying ts = some (.slice tt))
    (h : ArgTy P tt v d) : ∃ t : T, v = t.av ∧ t.wf := by
  obtain ⟨n, cs, rfl, h⟩ := h
  obtain ⟨x, x1, x2⟩ := HasTy.term hu hf ha hb hc he hs n cs d h
  exact ⟨x, by unfold elemAV aggTy; rw [hu, x1, T.av_eq]; rfl, x2⟩
/-- an array -/
theorem ArgTy.array {α : Type} {t e : TypeId} {m : Nat} {v : AV} {d : DataW H} (f : α → List AV) (w : α → Prop) (hu : P.underlying t = some (.array m e)) (h : ArgTy P t v d)
    (he : ∀ n ds (d' : DataW H), HasTy P n e ds d' → ∃ x, ds = f x ∧ w x) : ∃ l : List α, l.length = m ∧ v = .agg (l.map f).flatten ∧ ∀ x, x ∈ l → w x := by
  obtain ⟨n, cs, rfl, h⟩ := h
  cases n with
  | zero => exact h.elim
  | succ n =>
    simp only [HasTy, hu] at h
    obtain ⟨parts, els, rfl, _, h1, h2, h3⟩ := h
    have : ∀ (xs : List (List AV)) (els : List (DataW H)), xs.length = els.length → (∀ (i : Nat) x d', xs[i]? = some x → els[i]? = some d' → HasTy P n e x d') → ∃ l : List α, xs = l.map f ∧ ∀ x, x ∈ l → w x := by
      intro xs
      induction xs with
      | nil => intro els _ _; exact ⟨[], rfl, by simp⟩
      | cons x xs ih =>
        intro els hl hh
        cases els with
        | nil => simp at hl
        | cons y els =>
          obtain ⟨a, f1, f2⟩ := he n x y (hh 0 x y rfl rfl)
          obtain ⟨l, l1, l2⟩ := ih els (by simpa using hl) fun i x d' a b => hh (i + 1) x d' (by simpa using a) (by simpa using b)
          exact ⟨a :: l, by simp [f1, l1], fun z hz => by
            rcases List.mem_cons.1 hz with e | hz
            · rw [e]; exact f2
            · exact l2 z hz⟩
    obtain ⟨l, l1, l2⟩ := this parts els (by omega) h3
    subst l1
    refine ⟨l, by simpa using h1, ?_, l2⟩
    unfold elemAV aggTy; rw [hu]; rfl
end
end Go.Proofs.Ytajlmldpbhendaa.Rf
end
