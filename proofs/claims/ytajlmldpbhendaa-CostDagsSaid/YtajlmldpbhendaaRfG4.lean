/- The like, for the operations on memory. -/
import Derived.Test.YtajlmldpbhendaaRfG3
import Derived.ChangeArms
import Derived.OpenShut
import Derived.Below
import Derived.ProofKit
import Derived.ChangeOld
import Derived.SizedLaws
import Derived.Carry
import Derived.ChangeShapes
import Derived.ShutString
import Derived.WalkKit
import Derived.Test.YtajlmldpbhendaaRfG1
import Derived.KernelRfl
section
set_option linter.unusedSimpArgs false
set_option linter.unusedVariables false
namespace Go.Proofs.Ytajlmldpbhendaa.Rf

section
variable {G : Nat → Option (List AV)} {call : CallF} {lo : Nat} {st st' : St} {F : Foot}

theorem Like.hpset {F : Foot} {fr1 fr1' : Fr} {hp1 hp1' : List HObj} (h : Moved F.wr st.fr fr1 st'.fr fr1') (hw : F.hw ≠ .no) (e : st'.hp = st.hp → hp1' = hp1) (k : HpKeep F.hw st.hp hp1) : Like F st ⟨fr1, hp1⟩ st' ⟨fr1', hp1'⟩ :=
  ⟨h, fun e => absurd e hw, e, k⟩

theorem like_op_load {x : Opd} {m : Mem} {n : Nat} {agg tk : Bool} (hf : foot (.load x m n agg tk) = some F) (hc : ClearF F st st') {r : OpR} (h : evalOp G call lo (.load x m n agg tk) st = some r) :
    ∃ s1', evalOp G call lo (.load x m n agg tk) st' = some (r.as s1') ∧ Like F st r.stt st' s1' := by
  obtain ⟨hc1, hc2, hc3⟩ := hc
  cases m with
  | last r0 => simp [foot] at hf
  | loc r0 =>
    simp only [foot, Option.some.injEq] at hf; subst hf
    have h1 := (opd_on (x := x) hc1.left).1
    have h2 : st'.fr.get r0 = st.fr.get r0 := hc1 r0 (by simp)
    simp only [evalOp, h1] at h ⊢
    split at h
    · cases h
    · rename_i hmm
      rw [if_neg hmm]
      cases hp : (opd st.fr x).1 <;> rw [hp] at h hmm <;> simp only [memOk, behind] at h hmm <;> try (simp at hmm; done)
      rename_i s off
      have hs : s = r0 := by simpa using hmm
      subst hs
      simp only [behind, h2, behindPut] at h ⊢
      split at h
      · rename_i cs off' hb
        split at h
        · rename_i l hl
          cases tk with
          | true =>
            simp only [if_true] at h ⊢
            split at h
            · rename_i hn; cases ret1_some h
              refine ⟨_, by rw [if_pos hn]; rfl, ?_⟩
              exact Like.take (Moved.set _ _) rfl
            · cases h
          | false =>
            simp only [Bool.false_eq_true, if_false] at h ⊢
            cases ret1_some h
            exact ⟨st', rfl, Like.same rfl rfl⟩
        · cases h
      · cases h
  | elem =>
    simp only [foot, Option.some.injEq] at hf; subst hf
    have h1 := (opd_on (x := x) hc1).1
    simp only [evalOp, h1] at h ⊢
    split at h
    · cases h
    · rename_i hmm
      rw [if_neg hmm]
      cases hp : (opd st.fr x).1 <;> rw [hp] at h hmm <;> simp only [memOk, behind] at h hmm <;> try (simp at hmm; done)
      rename_i s off
      simp only [behind, behindPut] at h ⊢
      split at h
      · rename_i l hl
        cases tk with
        | true =>
          simp only [if_true] at h ⊢
          split at h <;> cases h
        | false =>
          simp only [Bool.false_eq_true, if_false] at h ⊢
          cases ret1_some h
          exact ⟨st', rfl, Like.same rfl rfl⟩
      · cases h
  | heap =>
    simp only [foot, Option.some.injEq] at hf; subst hf
    have h1 := (opd_on (x := x) hc1).1
    simp only [evalOp, h1] at h ⊢
    split at h
    · cases h
    · rename_i hmm
      rw [if_neg hmm]
      cases hp : (opd st.fr x).1 <;> rw [hp] at h hmm <;> simp only [memOk, behind] at h hmm <;> try (simp at hmm; done)
      case ptr id off =>
        cases ho : st.hp[id]? with
        | none => simp [ho] at h
        | some ob =>
          cases ob with
          | map es => simp [ho] at h
          | cells ds =>
            have ho' := cells_at hc2 (.inl rfl) ho
            simp only [behind, behindPut, ho, ho'] at h ⊢
            split at h
            · rename_i l hl
              cases tk with
              | true =>
                have hh := hc3 (by simp)
                simp only [if_true] at h ⊢
                split at h
                · rename_i hn
                  split at h
                  · rename_i s1 hs1
                    split at hs1
                    · rename_i hlo; cases hs1; cases ret1_some h
                      refine ⟨{ st' with hp := st.hp.set id (.cells (put ds off (l.map AV.cp1))) }, by rw [if_pos hn, if_pos hlo, hh]; rfl, ?_⟩
                      exact Like.hpset (Moved.refl _ _) (by simp) (fun _ => rfl) (keep_set_cells ho)
                    · cases hs1
                  · cases h
                · cases h
              | false =>
                simp only [Bool.false_eq_true, if_false] at h ⊢
                cases ret1_some h
                exact ⟨st', rfl, Like.same rfl (by simp)⟩
            · cases h
      case glob b off =>
        simp only [behind, behindPut] at h ⊢
        cases hG : G b with
        | none => simp [hG] at h
        | some cs =>
          simp only [hG, Option.map_some] at h ⊢
          split at h
          · rename_i l hl
            cases tk with
            | true =>
              simp only [if_true] at h ⊢
              split at h <;> cases h
            | false =>
              simp only [Bool.false_eq_true, if_false] at h ⊢
              cases ret1_some h
              exact ⟨st', rfl, Like.same rfl (by simp)⟩
          · cases h

theorem like_op_store {x v : Opd} {m : Mem} {n : Nat} (hf : foot (.store x m v n) = some F) (hc : ClearF F st st') {r : OpR} (h : evalOp G call lo (.store x m v n) st = some r) :
    ∃ s1', evalOp G call lo (.store x m v n) st' = some (r.as s1') ∧ Like F st r.stt st' s1' := by
  obtain ⟨hc1, hc2, hc3⟩ := hc
  cases m with
  | last r0 => simp [foot] at hf
  | elem => simp [foot] at hf
  | loc r0 =>
    simp only [foot, Option.some.injEq] at hf; subst hf
    obtain ⟨h1, h2⟩ := opd_on (x := v) hc1.left
    have h3 := (opd_on (x := x) (hc1.right.left.moved h2)).1
    have h4 : (opd st'.fr v).2.get r0 = (opd st.fr v).2.get r0 := (hc1.right.right.moved h2) r0 (by simp)
    simp only [evalOp, h1, h3] at h ⊢
    split at h
    · cases h
    · rename_i hmm
      rw [if_neg hmm]
      simp only [not_or, Bool.not_eq_false] at hmm
      cases hp : (opd (opd st.fr v).2 x).1 <;> rw [hp] at h hmm <;> simp only [memOk, behind] at h hmm <;> try (simp at hmm; done)
      rename_i s off
      have hs : s = r0 := by simpa using hmm.2
      subst hs
      simp only [behind, h4, behindPut] at h ⊢
      split at h
      · rename_i cs off' hb
        split at h
        · rename_i hl; cases ret1_some h
          refine ⟨_, by rw [if_pos hl]; rfl, ?_⟩
          exact Like.take (F := ⟨_, opdW v ++ [s], _, _⟩) (h2.trans (Moved.set _ _)) rfl
        · cases h
      · cases h
  | heap =>
    simp only [foot, Option.some.injEq] at hf; subst hf
    obtain ⟨h1, h2⟩ := opd_on (x := v) hc1.left
    have h3 := (opd_on (x := x) (hc1.right.moved h2)).1
    have hh := hc3 (by simp)
    simp only [evalOp, h1, h3] at h ⊢
    split at h
    · cases h
    · rename_i hmm
      rw [if_neg hmm]
      simp only [not_or, Bool.not_eq_false] at hmm
      cases hp : (opd (opd st.fr v).2 x).1 <;> rw [hp] at h hmm <;> simp only [memOk, behind] at h hmm <;> try (simp at hmm; done)
      case ptr id off =>
        cases ho : st.hp[id]? with
        | none => simp [ho] at h
        | some ob =>
          cases ob with
          | map es => simp [ho] at h
          | cells ds =>
            simp only [behind, behindPut, hh, ho] at h ⊢
            split at h
            · rename_i hl
              split at h
              · rename_i s1 hs1
                split at hs1
                · rename_i hlo; cases hs1; cases ret1_some h
                  refine ⟨{ fr := (opd st'.fr v).2, hp := st.hp.set id (.cells (put ds off (opd st.fr v).1.spread)) }, by rw [if_pos hl, if_pos hlo]; rfl, ?_⟩
                  exact Like.hpset h2 (by simp) (fun _ => rfl) (keep_set_cells ho)
                · cases hs1
              · cases h
            · cases h
      case glob b off =>
        simp only [behind, behindPut] at h
        repeat' split at h
        all_goals first | (cases h; done) | (rename_i h9; cases h9; done)

theorem like_op_maps {i : IOp} (hf : foot i = some F) (hc : ClearF F st st') {r : OpR} (h : evalOp G call lo i st = some r)
    (hi : match i with | .lookup .. | .mapset .. | .len _ .map => True | _ => False) :
    ∃ s1', evalOp G call lo i st' = some (r.as s1') ∧ Like F st r.stt st' s1' := by
  obtain ⟨hc1, hc2, hc3⟩ := hc
  cases i <;> try exact hi.elim
  case len x kd =>
    cases kd <;> try exact hi.elim
    simp only [foot, Option.some.injEq] at hf; subst hf
    have h1 := (opd_on (x := x) hc1).1
    simp only [evalOp, h1] at h ⊢
    split at h
    · contradiction
    · contradiction
    · cases ret1_some h; exact ⟨st', rfl, Like.same rfl rfl⟩
    · rename_i id _ hv
      cases ho : st.hp[id]? with
      | none => simp [ho] at h
      | some ob =>
        cases ob with
        | cells es => simp [ho] at h
        | map es =>
          have ho' := maps_at hc2 (.inl rfl) ho
          simp only [ho, ho'] at h ⊢
          cases ret1_some h; exact ⟨st', rfl, Like.same rfl rfl⟩
    · cases h
  case lookup kd m k z ok tk =>
    simp only [foot, Option.some.injEq] at hf; subst hf
    have h1 := (opd_on (x := m) hc1.left).1
    have h2 := (opd_on (x := k) hc1.right).1
    simp only [evalOp, h1, h2] at h ⊢
    split at h
    · rename_i id hv
      cases ho : st.hp[id]? with
      | none => simp [ho] at h
      | some ob =>
        cases ob with
        | cells es => simp [ho] at h
        | map es =>
          have ho' := maps_at hc2 (.inl rfl) ho
          simp only [ho, ho'] at h ⊢
          split at h
          · cases h
          · rename_i hp
            rw [if_neg hp]
            split at h
            · rename_i j v hfk
              cases tk with
              | true =>
                have hh := hc3 (by simp)
                simp only [if_true] at h ⊢
                split at h
                · rename_i hlv; cases ret1_some h
                  refine ⟨{ st' with hp := st.hp.set id (.map (es.set j ((es.getD j default).1, v.cp))) }, by rw [if_pos hlv, hh]; rfl, ?_⟩
                  exact Like.hpset (Moved.refl _ _) (by simp) (fun _ => rfl) (keep_set_map ho)
                · cases h
              | false =>
                simp only [Bool.false_eq_true, if_false] at h ⊢
                cases ret1_some h
                exact ⟨st', rfl, Like.same rfl (by simp)⟩
            · cases ret1_some h
              refine ⟨st', rfl, ?_⟩
              exact ⟨Moved.refl _ _, fun _ => rfl, fun e => e, by cases tk <;> simp [HpKeep, OpR.stt, HpOn]⟩
            · cases h
    · rename_i hv
      split at h
      · cases h
      · rename_i hp
        rw [if_neg hp]
        simp only [findKey] at h ⊢
        cases ret1_some h
        refine ⟨st', rfl, ?_⟩
        exact ⟨Moved.refl _ _, fun _ => rfl, fun e => e, by cases tk <;> simp [HpKeep, OpR.stt, HpOn]⟩
    · cases h
  case mapset kd m k v z =>
    simp only [foot, Option.some.injEq] at hf; subst hf
    obtain ⟨h1, h2⟩ := opd_on (x := v) hc1.left
    have h3 := (opd_on (x := m) (hc1.right.left.moved h2)).1
    have h4 := (opd_on (x := k) (hc1.right.right.moved h2)).1
    have hh := hc3 (by simp)
    simp only [evalOp, h1, h3, h4, hh] at h ⊢
    split at h
    · cases h
    · rename_i hp
      rw [if_neg hp]
      split at h
      · rename_i id hv
        cases ho : st.hp[id]? with
        | none => simp [ho] at h
        | some ob =>
          cases ob with
          | cells es => simp [ho] at h
          | map es =>
            simp only [ho] at h ⊢
            split at h
            · rename_i hlo
              rw [if_pos hlo]
              split at h
              · cases ret1_some h
                exact ⟨{ fr := (opd st'.fr v).2, hp := _ }, rfl, Like.hpset h2 (by simp) (fun _ => rfl) (keep_set_map ho)⟩
              · cases ret1_some h
                exact ⟨{ fr := (opd st'.fr v).2, hp := _ }, rfl, Like.hpset h2 (by simp) (fun _ => rfl) (keep_set_map ho)⟩
              · cases h
            · cases h
      · cases h

theorem like_op_all {i : IOp} (hq : CallQ call) (hf : foot i = some F) (hc : ClearF F st st') {r : OpR} (h : evalOp G call lo i st = some r)
    (hi : match i with | .alloc true _ | .box true _ | .mkmap | .call .. => True | _ => False) :
    ∃ s1', evalOp G call lo i st' = some (r.as s1') ∧ Like F st r.stt st' s1' := by
  obtain ⟨hc1, hc2, hc3⟩ := hc
  cases i <;> try exact hi.elim
  case mkmap =>
    simp only [foot, Option.some.injEq] at hf; subst hf
    simp only [HpOn] at hc2
    simp only [evalOp, hc2] at h ⊢
    cases ret1_some h
    exact ⟨{ st' with hp := _ }, rfl, Like.hpset (Moved.refl _ _) (by simp) (fun _ => rfl) trivial⟩
  case alloc heap cs =>
    cases heap
    · exact hi.elim
    · simp only [foot, if_true, Option.some.injEq] at hf; subst hf
      simp only [HpOn] at hc2
      simp only [evalOp, if_true, hc2] at h ⊢
      cases ret1_some h
      exact ⟨{ st' with hp := _ }, rfl, Like.hpset (Moved.refl _ _) (by simp) (fun _ => rfl) trivial⟩
  case box heap x =>
    cases heap
    · exact hi.elim
    · simp only [foot, if_true, Option.some.injEq] at hf; subst hf
      simp only [HpOn] at hc2
      obtain ⟨h1, h2⟩ := opd_on (x := x) hc1
      simp only [evalOp, if_true, hc2, h1] at h ⊢
      split at h
      · cases h
      · rename_i hp
        cases ret1_some h
        exact ⟨{ fr := (opd st'.fr x).2, hp := _ }, by rw [if_neg hp]; rfl, Like.hpset h2 (by simp) (fun _ => rfl) trivial⟩
  case call f xs q =>
    simp only [foot, Option.some.injEq] at hf; subst hf
    simp only [HpOn] at hc2
    obtain ⟨h1, h2⟩ := opds_on (xs := xs) hc1.left
    have h3 := (opd_on (x := f) (hc1.right.moved h2)).1
    simp only [evalOp, hc2, h1, h3] at h ⊢
    split at h
    · cases h
    · rename_i hp
      rw [if_neg hp]
      split at h
      · rename_i fid caps hv
        split at h
        · cases h
        · rename_i hpc
          rw [if_neg hpc]
          have fin : ∀ (hp1 : List HObj), (q = true → hp1 = st.hp) → Like ⟨opdsR xs ++ opdR f, opdsW xs, .all, if q then .no else .all⟩ st ⟨(opds st.fr xs).2, hp1⟩ st' ⟨(opds st'.fr xs).2, hp1⟩ := fun hp1 e => by
            cases q with
            | true => 
              have := e rfl; subst this
              exact ⟨h2, fun _ => hc2.symm, fun _ => rfl, rfl⟩
            | false => exact ⟨h2, (fun e => by simp at e), fun _ => rfl, trivial⟩
          split at h
          · rename_i v hp1 hcall; cases ret1_some h
            exact ⟨⟨(opds st'.fr xs).2, hp1⟩, rfl, fin hp1 fun e => by subst e; exact hq _ _ _ _ _ hcall⟩
          · rename_i v hp1 hcall; cases h
            exact ⟨⟨(opds st'.fr xs).2, hp1⟩, rfl, fin hp1 fun e => by subst e; exact hq _ _ _ _ _ hcall⟩
          · cases h
      · cases h

theorem like_op {i : IOp} (hq : CallQ call) (hf : foot i = some F) (hc : ClearF F st st') {r : OpR} (h : evalOp G call lo i st = some r) :
    ∃ s1', evalOp G call lo i st' = some (r.as s1') ∧ Like F st r.stt st' s1' := by
  cases i
  case load => exact like_op_load hf hc h
  case store => exact like_op_store hf hc h
  case iaddrL => exact like_op_iaddrL hf hc.1 h
  case lookup => exact like_op_maps hf hc h trivial
  case mapset => exact like_op_maps hf hc h trivial
  case mkmap => exact like_op_all hq hf hc h trivial
  case call => exact like_op_all hq hf hc h trivial
  case panic => simp [foot] at hf
  case alloc heap cs => cases heap <;> first | exact like_op_all hq hf hc h trivial | exact like_op_take hf hc.1 h trivial
  case box heap x => cases heap <;> first | exact like_op_all hq hf hc h trivial | exact like_op_take hf hc.1 h trivial
  case len x kd => cases kd <;> first | exact like_op_maps hf hc h trivial | exact like_op_pure hf hc.1 h trivial
  all_goals first
    | exact like_op_pure hf hc.1 h trivial
    | exact like_op_take hf hc.1 h trivial
end
end Go.Proofs.Ytajlmldpbhendaa.Rf
end
section
/- Steps that may change places. -/
set_option linter.unusedSimpArgs false
set_option linter.unusedVariables false
namespace Go.Proofs.Ytajlmldpbhendaa.Rf

def slotL : Option Nat → List Nat
  | some s => [s]
  | none => []
def footO (o : IOper) : Option Foot := (foot o.op).map fun F => ⟨slotL (o.guard.map (·.1)) ++ (F.rd ++ slotL o.dst), F.wr ++ slotL o.dst, F.hr, F.hw⟩
/-- the same to every look -/
def Eqv (st st' : St) : Prop := (∀ s, st'.fr.get s = st.fr.get s) ∧ st'.hp = st.hp
theorem Eqv.refl (st : St) : Eqv st st := ⟨fun _ => rfl, rfl⟩
theorem Eqv.trans {a b c : St} (h : Eqv a b) (k : Eqv b c) : Eqv a c := ⟨fun s => (k.1 s).trans (h.1 s), k.2.trans h.2⟩

section
variable {G : Nat → Option (List AV)} {call : CallF} {lo : Nat} {st st' : St} {F : Foot}

theorem noLast_iff {fr : Fr} {s : Nat} : fr.noLast s = true ↔ ∀ t u, fr.get t = .lastr u → u ≠ s := by
  refine ⟨fun h t u => Fr.noLast_get h, fun h => ?_⟩
  simp only [Fr.noLast, List.all_eq_true]
  intro e _
  cases hv : fr.get e.1 <;> simp only []
  rename_i u
  simpa using h _ _ hv
/-- from like states like steps: what is not tame is so too -/
theorem wild_op {i : IOp} (hf : foot i = none) (he : Eqv st st') {r : OpR} (h : evalOp G call lo i st = some r) : ∃ s1', evalOp G call lo i st' = some (r.as s1') ∧ Eqv r.stt s1' := by
  obtain ⟨e1, e2⟩ := he
  have ro : ∀ x, (opd st'.fr x).1 = (opd st.fr x).1 := fun x => (opd_on (x := x) fun s _ => e1 s).1
  cases i
  case panic x =>
    simp only [evalOp, ro] at h ⊢
    split at h
    · cases h; exact ⟨st', rfl, e1, e2⟩
    · cases h
  case load x m n agg tk =>
    cases m <;> simp only [foot] at hf <;> try (cases hf; done)
    rename_i r0
    simp only [evalOp, ro] at h ⊢
    split at h
    · cases h
    · rename_i hmm
      cases hp : (opd st.fr x).1 <;> rw [hp] at h hmm <;> simp only [memOk, behind] at h hmm <;> first | (simp at hmm; done) | (simp at h; done)
  case store x m v n =>
    have tk : ∀ s, (opd st'.fr v).2.get s = (opd st.fr v).2.get s := fun s => by
      have := (opd_on (x := v) (fr := st.fr) (fr' := st'.fr) fun s _ => e1 s).2
      by_cases hs : s ∈ opdW v
      · exact this.new s hs
      · rw [this.old' s hs, this.old s hs]; exact e1 s
    have ro2 : ∀ x, (opd (opd st'.fr v).2 x).1 = (opd (opd st.fr v).2 x).1 := fun x => (opd_on (x := x) fun s _ => tk s).1
    cases m with
    | loc r0 => simp [foot] at hf
    | heap => simp [foot] at hf
    | elem =>
      simp only [evalOp, ro, ro2] at h ⊢
      split at h
      · cases h
      · rename_i hmm
        simp only [not_or, Bool.not_eq_false] at hmm
        cases hp : (opd (opd st.fr v).2 x).1 <;> rw [hp] at h hmm <;> simp only [memOk, behind, behindPut] at h hmm <;> first | (simp at hmm; done) | (split at h <;> cases h; done)
    | last r0 =>
      simp only [evalOp, ro, ro2] at h ⊢
      split at h
      · cases h
      · rename_i hmm
        rw [if_neg hmm]
        simp only [not_or, Bool.not_eq_false] at hmm
        cases hp : (opd (opd st.fr v).2 x).1 <;> rw [hp] at h hmm <;> simp only [memOk] at h hmm <;> try (simp at hmm; done)
        rename_i s
        dsimp only
        simp only [tk]
        cases x <;> try (simp at h; done)
        rename_i p tk2
        cases hs : (opd st.fr v).2.get s <;> rw [hs] at h <;> try (simp at h; done)
        rename_i xs sz
        dsimp only at h ⊢
        split at h
        · rename_i hh; cases ret1_some h
          have hno : ((opd st'.fr v).2.set p .none).noLast s = true := by
            rw [noLast_iff]; intro t u ht
            rw [Fr.get_set, tk] at ht
            exact noLast_iff.1 hh.2.2.2 t u (by rw [Fr.get_set]; exact ht)
          refine ⟨{ st' with fr := ((opd st'.fr v).2.set p .none).set s (.list (xs ++ [(opd st.fr v).1.cp]) (.own sz)) }, by rw [if_pos ⟨hh.1, hh.2.1, hh.2.2.1, hno⟩]; rfl, fun t => ?_, e2⟩
          simp only [OpR.stt]
          rw [Fr.get_set, Fr.get_set, Fr.get_set, Fr.get_set, tk]
        · cases h
  all_goals first
    | (simp [foot] at hf; done)
    | (rename_i b _; cases b <;> simp [foot] at hf; done)
    | (rename_i b; cases b <;> simp [foot] at hf; done)
theorem like_eqv {s1 s1' : St} (he : Eqv st st') (h : Like F st s1 st' s1') : Eqv s1 s1' :=
  ⟨fun s => by
    by_cases hs : s ∈ F.wr
    · exact h.fr.new s hs
    · rw [h.fr.old' s hs, h.fr.old s hs]; exact he.1 s, h.hp' he.2⟩
theorem Eqv.clear (he : Eqv st st') : ClearF F st st' := ⟨fun s _ => he.1 s, by rw [he.2]; exact HpOn.rfl', fun _ => he.2⟩
theorem eqv_op (hq : CallQ call) {i : IOp} (he : Eqv st st') {r : OpR} (h : evalOp G call lo i st = some r) : ∃ s1', evalOp G call lo i st' = some (r.as s1') ∧ Eqv r.stt s1' := by
  cases hf : foot i with
  | none => exact wild_op hf he h
  | some F =>
    obtain ⟨s1', h1, h2⟩ := like_op hq hf he.clear h
    exact ⟨s1', h1, like_eqv he h2⟩

theorem wanted_on {fr fr' : Fr} {g : Option (Nat × Bool)} (h : FrOn (slotL (g.map (·.1))) fr fr') : wanted fr' g = wanted fr g := by
  cases g with
  | none => rfl
  | some x => obtain ⟨s, b⟩ := x; simp only [wanted]; rw [h s (by simp [slotL])]
theorem put_on {s s' s1 : St} {d : Option Nat} {v : AV} (h : FrOn (slotL d) s.fr s'.fr) (hp : s.put d v = some s1) : ∃ s1', s'.put d v = some s1' ∧ Moved (slotL d) s.fr s1.fr s'.fr s1'.fr ∧ s1.hp = s.hp ∧ s1'.hp = s'.hp := by
  cases d with
  | none => simp [St.put] at hp; subst hp; exact ⟨s', rfl, Moved.refl _ _, rfl, rfl⟩
  | some d =>
    simp only [St.put] at hp ⊢
    rw [h d (by simp [slotL])]
    split at hp
    · rename_i hl; cases hp
      exact ⟨{ s' with fr := s'.fr.set d v }, by rw [if_pos hl], Moved.set d v, rfl, rfl⟩
    · cases hp
theorem HpKeep.of {k : HpK} {a b c : List HObj} (h : HpKeep k a b) (e : c = b) : HpKeep k a c := by rw [e]; exact h
theorem opdW_R {x : Opd} {s : Nat} (h : s ∈ opdW x) : s ∈ opdR x := by
  cases x with
  | t s' tk => cases tk <;> simp [opdW, opdR] at h ⊢; exact h
  | c v => simp [opdW] at h
  | g v => simp [opdW] at h
  | f v => simp [opdW] at h
theorem opdsW_R : ∀ {xs : List Opd} {s : Nat}, s ∈ opdsW xs → s ∈ opdsR xs
  | [], s, h => by simp [opdsW] at h
  | x :: xs, s, h => by
    simp only [opdsW, opdsR, List.mem_append] at h ⊢
    rcases h with h | h
    · exact .inl (opdW_R h)
    · exact .inr (opdsW_R h)
theorem foot_wr_rd {i : IOp} {F : Foot} (h : foot i = some F) (s : Nat) (hs : s ∈ F.wr) : s ∈ F.rd := by
  cases i
  case load x m n agg tk =>
    cases m <;> simp only [foot] at h <;> cases h
    · cases tk <;> simp at hs ⊢; exact .inr hs
    · simp at hs
    · simp at hs
  case store x m v n =>
    cases m <;> simp only [foot] at h <;> cases h
    · simp only [List.mem_append] at hs ⊢
      rcases hs with hs | hs
      · exact .inl (opdW_R hs)
      · exact .inr (.inr hs)
    · simp only [List.mem_append]; exact .inl (opdW_R hs)
  case alloc heap cs => cases heap <;> simp only [foot] at h <;> cases h <;> simp at hs
  case box heap x => cases heap <;> simp only [foot] at h <;> cases h <;> exact opdW_R hs
  case len x kd => cases kd <;> simp only [foot] at h <;> cases h <;> simp at hs
  case panic => simp [foot] at h
  all_goals
    simp only [foot, Option.some.injEq] at h; subst h
    first
      | (simp at hs; done)
      | exact opdW_R hs
      | exact opdsW_R hs
      | exact List.mem_append_left _ (opdW_R hs)
      | exact List.mem_append_left _ (opdsW_R hs)
/-- one step, the like where what it reads is the like -/
theorem like_step (hq : CallQ call) {o : IOper} (hf : footO o = some F) (hc : ClearF F st st') {ex : Ex} {s1 : St} (h : evalOps G call lo [o] st = some (ex, s1)) :
    ∃ s1', evalOps G call lo [o] st' = some (ex, s1') ∧ (ex = .normal → Like F st s1 st' s1') ∧ (st'.hp = st.hp → s1'.hp = s1.hp) := by
  unfold footO at hf
  cases hf0 : foot o.op with
  | none => simp [hf0] at hf
  | some F0 =>
    simp [hf0] at hf; subst hf
    obtain ⟨c1, c2, c3⟩ := hc
    simp only at c1 c2 c3
    have c0 : ClearF F0 st st' := ⟨c1.right.left, c2, c3⟩
    have cd : FrOn (slotL o.dst) st.fr st'.fr := c1.right.right
    simp only [evalOps] at h ⊢
    rw [wanted_on c1.left]
    split at h
    · rename_i hw
      try simp only [hw]
      split at h
      · rename_i v s2 he
        obtain ⟨s2', h2, l2⟩ := like_op hq hf0 c0 he
        simp only [OpR.as] at h2
        simp only [OpR.stt] at l2
        rw [h2]
        simp only []
        split at h
        · rename_i s3 hp
          simp at h; obtain ⟨rfl, rfl⟩ := h
          have cd2 : FrOn (slotL o.dst) s2.fr s2'.fr := cd.moved l2.fr
          obtain ⟨s3', p1, p2, p3, p4⟩ := put_on cd2 hp
          rw [p1]
          refine ⟨s3', rfl, fun _ => ⟨l2.fr.trans p2, fun e => by rw [p4]; exact l2.hp e, fun e => by rw [p4, p3]; exact l2.hp' e, l2.keep.of p3⟩, fun e => by rw [p4, p3]; exact l2.hp' e⟩
        · cases h
      · rename_i v s2 he
        obtain ⟨s2', h2, l2⟩ := like_op hq hf0 c0 he
        simp only [OpR.as] at h2
        simp only [OpR.stt] at l2
        rw [h2]
        simp at h; obtain ⟨rfl, rfl⟩ := h
        exact ⟨s2', rfl, (fun e => by cases e), l2.hp'⟩
      · cases h
    · rename_i hw
      try simp only [hw]
      split at h
      · rename_i s3 hp
        simp at h; obtain ⟨rfl, rfl⟩ := h
        obtain ⟨s3', p1, p2, p3, p4⟩ := put_on cd hp
        rw [p1]
        refine ⟨s3', rfl, fun _ => ⟨?_, fun _ => p4, fun e => by rw [p4, p3]; exact e, ?_⟩, fun e => by rw [p4, p3]; exact e⟩
        · exact ⟨fun s hs => by
            by_cases hd : s ∈ slotL o.dst
            · exact p2.new s hd
            · have h1 : s ∈ F0.wr := by simpa [hd] using hs
              rw [p2.old' s hd, p2.old s hd]
              exact c1.right.left s (foot_wr_rd hf0 s h1), fun s hs => by simp at hs; exact p2.old' s hs.2, fun s hs => by simp at hs; exact p2.old s hs.2⟩
        · rw [p3]; cases F0.hw <;> simp [HpKeep, HpOn]
      · cases h
    · cases h
end
end Go.Proofs.Ytajlmldpbhendaa.Rf
end
section
/- Any order comes to the same. -/
set_option linter.unusedSimpArgs false
set_option linter.unusedVariables false
namespace Go.Proofs.Ytajlmldpbhendaa.Rf

def hpInd (a b : Foot) : Bool :=
  match a.hw with
  | .no => true
  | .cells => decide (b.hw = .no) && (match b.hr with | .no => true | .maps => true | _ => false)
  | .maps => decide (b.hw = .no) && (match b.hr with | .no => true | .cells => true | _ => false)
  | .all => decide (b.hw = .no) && (match b.hr with | .no => true | _ => false)
def disj : List Nat → List Nat → Bool
  | [], _ => true
  | x :: r, l => !l.contains x && disj r l
theorem disj_spec : ∀ {a b : List Nat}, disj a b = true → ∀ s, s ∈ a → s ∉ b
  | [], _, _, s, h => by simp at h
  | x :: r, l, h, s, hs => by
    simp only [disj, Bool.and_eq_true] at h
    rcases List.mem_cons.1 hs with rfl | hs
    · simpa using h.1
    · exact disj_spec h.2 s hs
def indep (a b : Foot) : Bool := disj a.wr b.rd && (disj a.wr b.wr && (disj b.wr a.rd && (hpInd a b && hpInd b a)))
def indO (x y : IOper) : Bool :=
  match footO x, footO y with
  | some a, some b => indep a b
  | _, _ => false

section
variable {G : Nat → Option (List AV)} {call : CallF} {lo : Nat} {st st' : St} {F : Foot}

theorem ClearF.refl (F : Foot) (st : St) : ClearF F st st := ⟨fun _ _ => rfl, HpOn.rfl', fun _ => rfl⟩
theorem like_step_self (hq : CallQ call) {o : IOper} (hf : footO o = some F) {s1 : St} (h : evalOps G call lo [o] st = some (.normal, s1)) : Like F st s1 st s1 := by
  obtain ⟨s1', h1, h2, _⟩ := like_step hq hf (ClearF.refl F st) h
  rw [h] at h1; simp at h1; subst h1
  exact h2 rfl
theorem hpOn_symm {k : HpK} {a b : List HObj} (h : HpOn k a b) : HpOn k b a := by
  cases k <;> simp only [HpOn] at h ⊢
  · exact fun i c => (h i c).symm
  · exact fun i c => (h i c).symm
  · exact h.symm
/-- b reads the same before and behind a -/
theorem hpInd_on {a b : Foot} (h : hpInd a b = true) {hp hp1 : List HObj} (k : HpKeep a.hw hp hp1) : HpOn b.hr hp1 hp ∧ (b.hw ≠ .no → hp = hp1) := by
  unfold hpInd at h
  split at h
  · rename_i e; rw [e] at k; simp only [HpKeep] at k; subst k; exact ⟨HpOn.rfl', fun _ => rfl⟩
  · rename_i e; rw [e] at k; simp only [HpKeep] at k
    simp only [Bool.and_eq_true, decide_eq_true_eq] at h
    refine ⟨?_, fun hn => absurd h.1 hn⟩
    cases hb : b.hr <;> rw [hb] at h <;> first | trivial | exact hpOn_symm k | (simp at h; done)
  · rename_i e; rw [e] at k; simp only [HpKeep] at k
    simp only [Bool.and_eq_true, decide_eq_true_eq] at h
    refine ⟨?_, fun hn => absurd h.1 hn⟩
    cases hb : b.hr <;> rw [hb] at h <;> first | trivial | exact hpOn_symm k | (simp at h; done)
  · simp only [Bool.and_eq_true, decide_eq_true_eq] at h
    refine ⟨?_, fun hn => absurd h.1 hn⟩
    cases hb : b.hr <;> rw [hb] at h <;> first | trivial | (simp at h; done)
theorem hpInd_no {a b : Foot} (h : hpInd a b = true) (hn : a.hw ≠ .no) : b.hw = .no := by
  unfold hpInd at h
  split at h
  · rename_i e; exact absurd e hn
  all_goals (simp only [Bool.and_eq_true, decide_eq_true_eq] at h; exact h.1)
/-- Two steps change places. -/
theorem swap (hq : CallQ call) {x y : IOper} (hi : indO x y = true) {s1 s2 : St} {ex : Ex} (h1 : evalOps G call lo [x] st = some (.normal, s1)) (h2 : evalOps G call lo [y] s1 = some (ex, s2)) :
    ∃ s1', evalOps G call lo [y] st = some (ex, s1') ∧ (ex = .normal → ∃ s2', evalOps G call lo [x] s1' = some (.normal, s2') ∧ Eqv s2 s2') ∧ (ex ≠ .normal → (∀ a, footO x = some a → a.hw = .no) → s1'.hp = s2.hp) := by
  unfold indO at hi
  cases hx : footO x with
  | none => simp [hx] at hi
  | some a =>
    cases hy : footO y with
    | none => simp [hx, hy] at hi
    | some b =>
      simp only [hx, hy, indep, Bool.and_eq_true] at hi
      obtain ⟨i1, i2, i3, i4, i5⟩ := hi
      have la := like_step_self hq hx h1
      obtain ⟨o1, o2⟩ := hpInd_on i4 la.keep
      have cb : ClearF b s1 st := ⟨fun s hs => (la.fr.old s (fun h => disj_spec i1 s h hs)).symm, o1, o2⟩
      obtain ⟨s1', e1, l1, l1'⟩ := like_step hq hy cb h2
      refine ⟨s1', e1, fun en => ?_, fun _ hno => l1' (by have := hno a rfl; exact (la.hp this).symm)⟩
      subst en
      have lb := l1 rfl
      have lbs := like_step_self hq hy e1
      obtain ⟨o3, o4⟩ := hpInd_on i5 lbs.keep
      have ca : ClearF a st s1' := ⟨fun s hs => lbs.fr.old s (fun h => disj_spec i3 s h hs), hpOn_symm o3, fun hn => (o4 hn).symm⟩
      obtain ⟨s2', e2, l2, l2'⟩ := like_step hq hx ca h1
      have l2 := l2 rfl
      refine ⟨s2', e2, fun s => ?_, ?_⟩
      · by_cases ha : s ∈ a.wr
        · rw [l2.fr.new s ha, lb.fr.old s (disj_spec i2 s ha)]
        · rw [l2.fr.old' s ha]
          by_cases hb : s ∈ b.wr
          · exact lb.fr.new s hb
          · rw [lb.fr.old' s hb, lb.fr.old s hb, la.fr.old s ha]
      · by_cases hn : a.hw = .no
        · rw [l2.hp hn]
          exact lb.hp' (la.hp hn).symm
        · have hb := hpInd_no i4 hn
          rw [l2' (lb.hp hb)]
          exact (like_step_self hq hy h2).hp hb |>.symm

theorem eqv_step (hq : CallQ call) {o : IOper} (he : Eqv st st') {ex : Ex} {s1 : St} (h : evalOps G call lo [o] st = some (ex, s1)) : ∃ s1', evalOps G call lo [o] st' = some (ex, s1') ∧ Eqv s1 s1' := by
  have hw : wanted st'.fr o.guard = wanted st.fr o.guard := wanted_on fun s _ => he.1 s
  have hput : ∀ {s s' s3 : St} {v : AV}, Eqv s s' → s.put o.dst v = some s3 → ∃ s3', s'.put o.dst v = some s3' ∧ Eqv s3 s3' := fun {s s' s3 v} e hp => by
    obtain ⟨s3', p1, p2, p3, p4⟩ := put_on (fun t _ => e.1 t) hp
    refine ⟨s3', p1, fun t => ?_, by rw [p4, p3]; exact e.2⟩
    by_cases ht : t ∈ slotL o.dst
    · exact p2.new t ht
    · rw [p2.old' t ht, p2.old t ht]; exact e.1 t
  simp only [evalOps, hw] at h ⊢
  split at h
  · split at h
    · rename_i v s2 ho
      obtain ⟨s2', h2, l2⟩ := eqv_op hq he ho
      simp only [OpR.as] at h2
      simp only [OpR.stt] at l2
      rw [h2]
      split at h
      · rename_i s3 hp
        simp at h; obtain ⟨rfl, rfl⟩ := h
        obtain ⟨s3', p1, p2⟩ := hput l2 hp
        exact ⟨s3', by simp [p1], p2⟩
      · cases h
    · rename_i v s2 ho
      obtain ⟨s2', h2, l2⟩ := eqv_op hq he ho
      simp only [OpR.as] at h2
      simp only [OpR.stt] at l2
      rw [h2]
      simp at h; obtain ⟨rfl, rfl⟩ := h
      exact ⟨s2', rfl, l2⟩
    · cases h
  · split at h
    · rename_i s3 hp
      simp at h; obtain ⟨rfl, rfl⟩ := h
      obtain ⟨s3', p1, p2⟩ := hput he hp
      exact ⟨s3', by simp [p1], p2⟩
    · cases h
  · cases h
variable {ops : List IOper} {pans : List Nat}
theorem evalDraw_cons {i : Nat} {r : List Nat} {ex : Ex} {s : St} (h : evalDraw G call lo ops pans (i :: r) st = some (ex, s)) :
    ∃ o, ops[i]? = some o ∧ ((∃ s1, evalOps G call lo [o] st = some (.normal, s1) ∧ evalDraw G call lo ops pans r s1 = some (ex, s)) ∨
      (∃ v s1, evalOps G call lo [o] st = some (.pan v, s1) ∧ i ∈ pans ∧ ex = .pan v ∧ s = ⟨[], s1.hp⟩)) := by
  simp only [evalDraw] at h
  split at h
  · cases h
  · rename_i o ho
    refine ⟨o, ho, ?_⟩
    split at h
    · rename_i s1 he; exact .inl ⟨s1, he, h⟩
    · rename_i v s1 he
      split at h
      · rename_i hp; simp at h; obtain ⟨rfl, rfl⟩ := h; exact .inr ⟨v, s1, he, by simpa using hp, rfl, rfl⟩
      · cases h
    · cases h
theorem evalDraw_normal {i : Nat} {r : List Nat} {o : IOper} (ho : ops[i]? = some o) {s1 : St} (h : evalOps G call lo [o] st = some (.normal, s1)) : evalDraw G call lo ops pans (i :: r) st = evalDraw G call lo ops pans r s1 := by
  simp only [evalDraw, ho, h]
theorem evalDraw_pan {i : Nat} {r : List Nat} {o : IOper} (ho : ops[i]? = some o) {s1 : St} {v : AV} (h : evalOps G call lo [o] st = some (.pan v, s1)) (hp : i ∈ pans) : evalDraw G call lo ops pans (i :: r) st = some (.pan v, ⟨[], s1.hp⟩) := by
  have : pans.contains i = true := by simpa using hp
  simp only [evalDraw, ho, h, this, if_true]
theorem eqv_draw (hq : CallQ call) : ∀ {r : List Nat} {st st' : St} {ex : Ex} {s : St}, Eqv st st' → evalDraw G call lo ops pans r st = some (ex, s) → ∃ s', evalDraw G call lo ops pans r st' = some (ex, s') ∧ Eqv s s'
  | [], st, st', ex, s, he, h => by simp [evalDraw] at h; obtain ⟨rfl, rfl⟩ := h; exact ⟨st', rfl, he⟩
  | i :: r, st, st', ex, s, he, h => by
    obtain ⟨o, ho, h⟩ := evalDraw_cons h
    rcases h with ⟨s1, h1, h2⟩ | ⟨v, s1, h1, hp, rfl, rfl⟩
    · obtain ⟨s1', e1, e2⟩ := eqv_step hq he h1
      obtain ⟨s', f1, f2⟩ := eqv_draw hq e2 h2
      exact ⟨s', by rw [evalDraw_normal ho e1]; exact f1, f2⟩
    · obtain ⟨s1', e1, e2⟩ := eqv_step hq he h1
      exact ⟨⟨[], s1'.hp⟩, evalDraw_pan ho e1 hp, fun _ => rfl, e2.2⟩
/-- One of them goes first. -/
theorem front (hq : CallQ call) {i : Nat} {r : List Nat} : ∀ {as : List Nat} {st : St} {ex : Ex} {s : St}, (∀ x, x ∈ as → x ∉ pans ∧ ∀ ox oi, ops[x]? = some ox → ops[i]? = some oi → indO ox oi = true ∧ (i ∈ pans → ∀ a, footO ox = some a → a.hw = .no)) →
    evalDraw G call lo ops pans (as ++ i :: r) st = some (ex, s) → ∃ s', evalDraw G call lo ops pans (i :: (as ++ r)) st = some (ex, s') ∧ Eqv s s'
  | [], st, ex, s, _, h => ⟨s, h, Eqv.refl s⟩
  | x :: as, st, ex, s, hall, h => by
    obtain ⟨ox, hox, h⟩ := evalDraw_cons h
    obtain ⟨hxp, hx⟩ := hall x (by simp)
    rcases h with ⟨s1, h1, h2⟩ | ⟨v, s1, h1, hp, _, _⟩
    · obtain ⟨s', f1, f2⟩ := front hq (fun y hy => hall y (by simp [hy])) h2
      obtain ⟨oi, hoi, f1⟩ := evalDraw_cons f1
      obtain ⟨hind, hno⟩ := hx ox oi hox hoi
      rcases f1 with ⟨s2, g1, g2⟩ | ⟨v, s2, g1, hp, rfl, rfl⟩
      · obtain ⟨s1', e1, e2, _⟩ := swap hq hind h1 g1
        obtain ⟨s2', e3, e4⟩ := e2 rfl
        obtain ⟨s'', k1, k2⟩ := eqv_draw hq e4 g2
        refine ⟨s'', ?_, f2.trans k2⟩
        rw [evalDraw_normal hoi e1, List.cons_append, evalDraw_normal hox e3]; exact k1
      · obtain ⟨s1', e1, _, e3⟩ := swap hq hind h1 g1
        have := e3 (by simp) (hno hp)
        refine ⟨⟨[], s1'.hp⟩, evalDraw_pan hoi e1 hp, f2.trans ⟨fun _ => rfl, this⟩⟩
    · exact absurd hp hxp
end
end Go.Proofs.Ytajlmldpbhendaa.Rf
end
section
/- Drawn regions. -/
set_option linter.unusedSimpArgs false
set_option linter.unusedVariables false
namespace Go.Proofs.Ytajlmldpbhendaa.Rf

/-! what must come before what -/
def maskOf (ms : List Nat) (o : Oper) : Nat := o.after.toList.foldl (fun s e => if Region.binds .any e then s ||| (2 ^ e.on ||| ms.getD e.on 0) else s) 0
def mkMasks : List Oper → List Nat → List Nat
  | [], acc => acc
  | o :: r, acc => mkMasks r (acc ++ [maskOf acc o])
def chkMasks (ms : List Nat) : Nat → List Oper → Bool
  | _, [] => true
  | j, o :: r => Nat.beq (ms.getD j 0) (maskOf ms o) && o.after.toList.all (fun e => !Region.binds .any e || Nat.blt e.on j) && chkMasks ms (j + 1) r
def bef (ms : List Nat) (y x : Nat) : Bool := (ms.getD y 0).testBit x
def quietO (o : IOper) : Bool := match footO o with | some F => (match F.hw with | .no => true | _ => false) | none => false
def pairOk (ms : List Nat) (ios : List IOper) (pans : List Nat) (x y : Nat) : Bool :=
  bef ms y x || (match ios[x]?, ios[y]? with | some ox, some oy => indO ox oy && !pans.contains x && (!pans.contains y || quietO ox) | _, _ => false)
def pairsOk (ms : List Nat) (ios : List IOper) (pans : List Nat) : List Nat → Bool
  | [] => true
  | x :: r => r.all (pairOk ms ios pans x) && pairsOk ms ios pans r
def nodupN : List Nat → Bool
  | [] => true
  | x :: r => !r.contains x && nodupN r
def drawOk (ios : List IOper) (os : List Oper) (ord pans : List Nat) : Bool :=
  (fun ms => chkMasks ms 0 os && pairsOk ms ios pans ord) (mkMasks os []) && nodupN ord && Nat.beq ord.length os.length && ord.all (fun i => Nat.blt i os.length)

section
variable {P : Program} {G : Nat → Option (List AV)} {call : CallF} {lo : Nat}

theorem nodupN_spec : ∀ {l : List Nat}, nodupN l = true → l.Nodup
  | [], _ => List.nodup_nil
  | x :: r, h => by
    simp only [nodupN, Bool.and_eq_true] at h
    exact List.nodup_cons.2 ⟨by simpa using h.1, nodupN_spec h.2⟩
theorem nodup_le : ∀ (n : Nat) (l : List Nat), l.Nodup → (∀ x, x ∈ l → x < n) → l.length ≤ n
  | 0, l, _, h => by
    cases l with
    | nil => simp
    | cons x r => exact absurd (h x (by simp)) (by omega)
  | n + 1, l, hn, h => by
    by_cases hm : n ∈ l
    · have := nodup_le n (l.erase n) (hn.erase n) (fun x hx => by
        have h1 := (hn.mem_erase_iff).1 hx
        have := h x h1.2
        omega)
      rw [List.length_erase_of_mem hm] at this
      omega
    · have := nodup_le n l hn (fun x hx => by
        have h1 := h x hx
        have : x ≠ n := fun e => hm (e ▸ hx)
        omega)
      omega
theorem mask_fold {ms : List Nat} : ∀ {l : List Edge} {s x : Nat}, (l.foldl (fun s e => if Region.binds .any e then s ||| (2 ^ e.on ||| ms.getD e.on 0) else s) s).testBit x = true →
    s.testBit x = true ∨ ∃ e, e ∈ l ∧ Region.binds .any e = true ∧ (e.on = x ∨ bef ms e.on x = true)
  | [], s, x, h => .inl h
  | e :: l, s, x, h => by
    simp only [List.foldl_cons] at h
    rcases mask_fold h with h | ⟨e', h1, h2, h3⟩
    · split at h
      · rename_i hb
        rw [Nat.testBit_or, Nat.testBit_or] at h
        simp only [Bool.or_eq_true] at h
        rcases h with h | h | h
        · exact .inl h
        · rw [Nat.testBit_two_pow] at h; exact .inr ⟨e, by simp, hb, .inl (by simpa using h)⟩
        · exact .inr ⟨e, by simp, hb, .inr h⟩
      · exact .inl h
    · exact .inr ⟨e', List.mem_cons_of_mem _ h1, h2, h3⟩
theorem chkMasks_get {ms : List Nat} : ∀ {os : List Oper} {k : Nat}, chkMasks ms k os = true → ∀ {j : Nat} {o : Oper}, os[j]? = some o → ms.getD (k + j) 0 = maskOf ms o ∧ ∀ e, e ∈ o.after → Region.binds .any e = true → e.on < k + j
  | [], _, _, j, o, h => by simp at h
  | x :: r, k, hc, j, o, h => by
    simp only [chkMasks, Bool.and_eq_true] at hc
    obtain ⟨⟨h1, h2⟩, h3⟩ := hc
    cases j with
    | zero =>
      simp at h; subst h
      refine ⟨Nat.eq_of_beq_eq_true h1, fun e he hb => ?_⟩
      simp only [List.all_eq_true, Bool.or_eq_true, Bool.not_eq_true'] at h2
      rcases h2 e (Array.mem_toList_iff.2 he) with h | h
      · rw [hb] at h; cases h
      · simpa using h
    | succ j =>
      have := chkMasks_get h3 (j := j) (by simpa using h)
      rwa [show k + 1 + j = k + (j + 1) by omega] at this
def Closed (ops : Array Oper) (listed : Array Bool) : Prop := ∀ (j : Nat) o, ops[j]? = some o → listed.getD j false = true → ∀ e, e ∈ o.after → Region.binds .any e = true → listed.getD e.on false = true
theorem bef_listed {ms : List Nat} {ops : Array Oper} (hm : chkMasks ms 0 ops.toList = true) {listed : Array Bool} (hc : Closed ops listed) : ∀ (y : Nat) {o : Oper} {x : Nat}, ops[y]? = some o → (∀ e, e ∈ o.after → Region.binds .any e = true → listed.getD e.on false = true) → bef ms y x = true → listed.getD x false = true := by
  intro y
  induction y using Nat.strongRecOn with
  | _ y ih =>
    intro o x ho hall hb
    obtain ⟨h1, h2⟩ := chkMasks_get hm (j := y) (o := o) (by rw [Array.getElem?_toList]; exact ho)
    rw [Nat.zero_add] at h1 h2
    unfold bef at hb
    rw [h1] at hb
    rcases mask_fold hb with h | ⟨e, e1, e2, e3⟩
    · simp at h
    · have he := Array.mem_toList_iff.1 e1
      have hl := hall e he e2
      rcases e3 with rfl | e3
      · exact hl
      · have hlt := h2 e he e2
        have hy := (Array.getElem?_eq_some_iff.1 ho).1
        have ho2 : ops[e.on]? = some ops[e.on] := Array.getElem?_eq_getElem (by omega)
        exact ih e.on hlt ho2 (hc _ _ ho2 hl) e3
theorem pairsOk_split {ms : List Nat} {ios : List IOper} {pans : List Nat} : ∀ {as : List Nat} {i : Nat} {r : List Nat}, pairsOk ms ios pans (as ++ i :: r) = true → (∀ x, x ∈ as → pairOk ms ios pans x i = true) ∧ pairsOk ms ios pans (as ++ r) = true
  | [], i, r, h => by simp only [List.nil_append, pairsOk, Bool.and_eq_true] at h; exact ⟨fun x hx => by simp at hx, by simpa using h.2⟩
  | x :: as, i, r, h => by
    simp only [List.cons_append, pairsOk, Bool.and_eq_true, List.all_eq_true] at h
    obtain ⟨h1, h2⟩ := pairsOk_split h.2
    refine ⟨fun y hy => ?_, ?_⟩
    · rcases List.mem_cons.1 hy with rfl | hy
      · exact h.1 i (by simp)
      · exact h1 y hy
    · simp only [List.cons_append, pairsOk, Bool.and_eq_true, List.all_eq_true]
      exact ⟨fun z hz => h.1 z (by simp at hz ⊢; rcases hz with h | h <;> simp [h]), h2⟩
theorem Rel.eqv {g : Gh} {s s' : St} {tm : Array Value} {w : World} (k : Rel G g s [] tm w) (e : Eqv s s') : Rel G g s' [] tm w :=
  ⟨fun t => by
    rw [e.1 t]
    exact VF.like3 (fun u o hv cs hc => ⟨cs, by rw [e.1 u]; exact hc⟩) (fun u hv xs sz hc => ⟨by rw [e.1 u]; exact hc, rfl⟩) (k.fr t), fun j v cv hj => by simp at hj, by rw [e.2]; exact k.hp, k.fresh, k.gl⟩
theorem Eqv.symm {a b : St} (h : Eqv a b) : Eqv b a := ⟨fun s => (h.1 s).symm, h.2.symm⟩
theorem any_sound (hc : CallOK P G call) (hq : CallQ call) {nt : Nat} {ops : Array Oper} {ios : List IOper} (hk : chkOpers P nt ops ios ops.toList = true) {ms pans : List Nat} (hm : chkMasks ms 0 ops.toList = true) {Q : Exit → Act → World → Prop} : ∀ (fuel : Nat) (listed : Array Bool) (R : List Nat) (g : Gh) (st : St) (a : Act) (w : World) (ex : Ex) (s s0 : St),
    listed.size = ops.size → R.Nodup → (∀ j, j ∈ R ↔ j < ops.size ∧ listed.getD j true = false) → Closed ops listed → pairsOk ms ios pans R = true → R.length ≤ fuel →
    Rel G g st [] a.tmps w → a.tmps.size = nt → evalDraw G call lo ios pans R st = some (ex, s) → Eqv s0 s → Goes G nt a.defers g w s0 ex Q → wpAny P .any ops Q fuel listed a w := by
  obtain ⟨hlen, hget⟩ := chkOpers_get hk
  have noready : ∀ (listed : Array Bool) (R : List Nat), (∀ j, j ∈ R ↔ j < ops.size ∧ listed.getD j true = false) → listed.size = ops.size → Region.ready .any ops listed = [] → R = [] := by
    intro listed R hR hsz hr
    refine Classical.byContradiction fun hn => ?_
    have hall : ∀ j, ¬ j ∈ R := by
      intro j
      induction j using Nat.strongRecOn with
      | _ j ih =>
        intro hj
        obtain ⟨h1, h2⟩ := (hR j).1 hj
        have ho : ops[j]? = some ops[j] := Array.getElem?_eq_getElem h1
        have hmem : j ∈ Region.ready .any ops listed := by
          rw [mem_ready]
          refine ⟨h2, ops[j], ho, fun e he hb => ?_⟩
          have hlt := (chkMasks_get hm (j := j) (o := ops[j]) (by rw [Array.getElem?_toList]; exact ho)).2 e he hb
          rw [Nat.zero_add] at hlt
          have hne := ih e.on hlt
          have hls : e.on < listed.size := by omega
          have hx : listed.getD e.on true = true := by
            by_cases hx : listed.getD e.on true = true
            · exact hx
            · exact absurd ((hR e.on).2 ⟨by omega, by simpa using hx⟩) hne
          simpa [hls] using hx
        rw [hr] at hmem; simp at hmem
    cases R with
    | nil => exact hn rfl
    | cons x r => exact hall x (by simp)
  intro fuel
  induction fuel with
  | zero =>
    intro listed R g st a w ex s s0 hsz hnd hR hcl hp hf k hn he hs h
    have : R = [] := List.length_eq_zero_iff.1 (by omega)
    subst this
    simp [evalDraw] at he; obtain ⟨rfl, rfl⟩ := he
    refine ⟨?_, h g a w hn rfl (k.eqv hs.symm) (Stay.refl g w)⟩
    cases hrd : Region.ready .any ops listed with
    | nil => rfl
    | cons x r =>
      have hx : x ∈ Region.ready .any ops listed := by rw [hrd]; simp
      rw [mem_ready] at hx
      obtain ⟨h1, o, ho, _⟩ := hx
      exact absurd ((hR x).2 ⟨(Array.getElem?_eq_some_iff.1 ho).1, h1⟩) (by simp)
  | succ fuel ih =>
    intro listed R g st a w ex s s0 hsz hnd hR hcl hp hf k hn he hs h
    refine ⟨fun hr => ?_, fun i hi => ?_⟩
    · have := noready listed R hR hsz hr
      subst this
      simp [evalDraw] at he; obtain ⟨rfl, rfl⟩ := he
      exact h g a w hn rfl (k.eqv hs.symm) (Stay.refl g w)
    · rw [mem_ready] at hi
      obtain ⟨i1, o, ho, i2⟩ := hi
      have hio := (Array.getElem?_eq_some_iff.1 ho).1
      have hiR : i ∈ R := (hR i).2 ⟨hio, i1⟩
      obtain ⟨as, r, rfl⟩ := List.append_of_mem hiR
      obtain ⟨p1, p2⟩ := pairsOk_split hp
      have hlis : i < ios.length := by rw [hlen]; simpa using hio
      have hioi : ios[i]? = some ios[i] := List.getElem?_eq_getElem hlis
      obtain ⟨s', f1, f2⟩ := front (G := G) (lo := lo) hq (ops := ios) (pans := pans) (i := i) (r := r) (as := as) (fun x hx => by
        have hpx := p1 x hx
        unfold pairOk at hpx
        simp only [Bool.or_eq_true] at hpx
        rcases hpx with hb | hpx
        · have hl := bef_listed hm hcl i ho i2 hb
          obtain ⟨h1, h2⟩ := (hR x).1 (by simp [hx])
          have hls : x < listed.size := by omega
          simp [hls] at hl h2
          rw [hl] at h2; cases h2
        · cases hx1 : ios[x]? with
          | none => rw [hx1] at hpx; simp at hpx
          | some ox =>
            rw [hx1, hioi] at hpx
            simp only [Bool.and_eq_true, Bool.or_eq_true, Bool.not_eq_true'] at hpx
            obtain ⟨⟨q1, q2⟩, q3⟩ := hpx
            refine ⟨fun hm => (by rw [List.contains_iff_mem.2 hm] at q2; cases q2), fun ox' oi' e1 e2 => ?_⟩
            cases e1; rw [hioi] at e2; cases e2
            refine ⟨q1, fun hip F hF => ?_⟩
            rcases q3 with q3 | q3
            · rw [List.contains_iff_mem.2 hip] at q3; cases q3
            · unfold quietO at q3
              rw [hF] at q3
              simp only at q3
              cases hw : F.hw <;> rw [hw] at q3 <;> first | rfl | (simp at q3; done)) he
      obtain ⟨oi, e1, f3⟩ := evalDraw_cons f1
      rw [hioi] at e1; cases e1
      have hko := hget i ios[i] o hioi (by rw [Array.getElem?_toList]; exact ho)
      have hnd' : (as ++ r).Nodup := hnd.sublist (by simp)
      have hnotin : i ∉ as ++ r := by
        have := List.nodup_append.1 hnd
        intro hm
        rcases List.mem_append.1 hm with hm | hm
        · exact this.2.2 i hm i (by simp) rfl
        · exact (List.nodup_cons.1 this.2.1).1 hm
      rcases f3 with ⟨s1, g1, g2⟩ | ⟨v, s1, g1, hpn, rfl, rfl⟩
      · refine op1 hc ho hko k hn g1 fun g' a' w' e1 e2 k1 t1 => ?_
        simp only [ExQ]
        refine ih _ (as ++ r) g' s1 a' w' ex s' s0 (by simp [hsz]) hnd' (fun j => ?_) (fun j oj hoj hlj e he hb => ?_) p2 (by simp at hf ⊢; omega) k1 e1 g2 (hs.trans f2) (by rw [e2]; exact h.after t1)
        · by_cases hji : i = j
          · subst hji
            have : i < listed.size := by omega
            simp [hnotin, this]
          · rw [getD_set_ne true hji, ← hR j]
            have hne : j ≠ i := fun h => hji h.symm
            simp [hne]
        · by_cases hji : i = j
          · subst hji
            rw [ho] at hoj; cases hoj
            exact getD_set_true (i2 e he hb)
          · rw [getD_set_ne false hji] at hlj
            exact getD_set_true (hcl j oj hoj hlj e he hb)
      · refine op1 hc ho hko k hn g1 fun g' a' w' e1 e2 k1 t1 => ?_
        simp only [ExQ]
        intro cv hv hpv
        refine h g' a' w' e1 e2 ?_ t1 cv hv hpv
        have k2 : Rel G g' ⟨[], s1.hp⟩ [] a'.tmps w' := ⟨fun t => by simp [Fr.get, VF, VX, V, Owns], fun j v cv hj => by simp at hj, k1.hp, k1.fresh, k1.gl⟩
        exact k2.eqv ((hs.trans f2).symm)
theorem Rel.drawn {g : Gh} {s : St} {tm : Array Value} {w : World} (k : Rel G g s [] tm w) : Rel G g s [] tm { w with drawn := w.drawn + 1 } := k.draws rfl
theorem draw_sound (hmx : P.follows .mixedOrders = true) (hc : CallOK P G call) (hq : CallQ call) {nt : Nat} {ops : Array Oper} {ios : List IOper} (hk : chkOpers P nt ops ios ops.toList = true) {ord pans : List Nat} (hd : drawOk ios ops.toList ord pans = true)
    {Q : Exit → Act → World → Prop} {g : Gh} {st : St} {a : Act} {w : World} (k : Rel G g st [] a.tmps w) (hn : a.tmps.size = nt) {ex : Ex} {st' : St} (hr : evalDraw G call lo ios pans ord st = some (ex, st'))
    (h : Goes G nt a.defers g w st' ex Q) (id : Nat) : (Code.region id ops true).wp P Q a w := by
  simp only [drawOk, Bool.and_eq_true, List.all_eq_true] at hd
  obtain ⟨⟨⟨⟨h1, h2⟩, h3⟩, h4⟩, h5⟩ := hd
  have hnd := nodupN_spec h3
  have hlen : ord.length = ops.size := by have := Nat.eq_of_beq_eq_true h4; simpa using this
  have hlt : ∀ j, j ∈ ord → j < ops.size := fun j hj => by have := h5 j hj; simpa using this
  refine wp_region_any hmx (any_sound hc hq hk h1 ops.size _ ord g st a _ ex st' st' (by simp) hnd (fun j => ?_) (fun j o ho hl => ?_) h2 (by omega) k.drawn hn hr (Eqv.refl _) ?_)
  · refine ⟨fun hj => ⟨hlt j hj, by simp [hlt j hj]⟩, fun ⟨hj, _⟩ => ?_⟩
    -- a list without repeats, as long as the range, holds all of it
    refine Classical.byContradiction fun hn => ?_
    have := nodup_le ops.size (j :: ord) (List.nodup_cons.2 ⟨hn, hnd⟩) (fun x hx => by
      rcases List.mem_cons.1 hx with rfl | hx
      · exact hj
      · exact hlt x hx)
    simp at this; omega
  · exfalso
    have := (Array.getElem?_eq_some_iff.1 ho).1
    simp [this] at hl
  · refine h.after ?_
    exact { ow := fun _ _ _ _ => rfl, cell := fun _ _ _ _ => rfl, frz := fun _ _ _ _ => rfl, blk := fun _ _ _ => rfl, hb := fun _ _ h => h, os := rfl, tape := rfl, output := rfl, size := Nat.le_refl _ }
end
end Go.Proofs.Ytajlmldpbhendaa.Rf
end
section
/- The machine on plain values tells what the model's program does. -/
set_option linter.unusedSimpArgs false
set_option linter.unusedVariables false
namespace Go.Proofs.Ytajlmldpbhendaa.Rf

def chkCode (P : Program) (nt : Nat) : ICode → Code → Bool
  | .skip, .skip => true
  | .region is _, .region _ os false => chkOpers P nt os is os.toList
  | .draw is ord pans _, .region _ os true => chkOpers P nt os is os.toList && drawOk is os.toList ord pans
  | .seq a b, .seq c d => chkCode P nt a c && chkCode P nt b d
  | .cond x a b, .cond y c d => opdOk x y && chkCode P nt a c && chkCode P nt b d
  | .block i a, .block j c => decide (i = j) && chkCode P nt a c
  | .loop a, .loop c => chkCode P nt a c
  | .exit i, .exit j => decide (i = j)
  | .ret, .ret => true
  | _, _ => false
def nodupB : List Nat → Bool
  | [] => true
  | x :: r => !r.contains x && nodupB r
theorem nodupB_spec : ∀ {l : List Nat}, nodupB l = true → l.Nodup
  | [], _ => List.nodup_nil
  | x :: r, h => by
    simp only [nodupB, Bool.and_eq_true] at h
    exact List.nodup_cons.2 ⟨by simpa using h.1, nodupB_spec h.2⟩
def chkFun (P : Program) (f : FuncId) (fn : IFun) : Bool :=
  funOk P f &&
  match P.funcs[f]? with
  | some m =>
    (match m.body with
     | some c => chkCode P m.ntmps fn.body c
     | none => false) && chkRes P fn.res m.results.toList && nodupB (fn.res.map IRes.slot) && Nat.ble fn.arity m.ntmps
  | none => false
def LoopOK (P : Program) (G : Nat → Option (List AV)) (k : Nat) (loop : LoopF) : Prop :=
  ∀ nt (body : ICode) (code : Code), chkCode P nt body code = true → ∀ (Q : Exit → Act → World → Prop) (g : Gh) (st : St) (a : Act) (w : World) (ex : Ex) (st' : St), Rel G g st [] a.tmps w → a.tmps.size = nt → loop body st = some (ex, st') → Goes G nt a.defers g w st' ex Q → Code.rounds P code Q k a w

section
variable {P : Program} {G : Nat → Option (List AV)}

theorem Goes.mono {nt : Nat} {df : List Deferred} {g : Gh} {w : World} {st : St} {ex : Ex} {Q Q' : Exit → Act → World → Prop} (h : Goes G nt df g w st ex Q) (hq : ∀ g' a' w', ExQ g' w' a' Q ex → ExQ g' w' a' Q' ex) : Goes G nt df g w st ex Q' :=
  fun g' a' w' h1 h2 h3 h4 => hq _ _ _ (h g' a' w' h1 h2 h3 h4)
theorem code_sound (hm : P.follows .mixedOrders = true) {call : CallF} {loop : LoopF} {lo k : Nat} (hc : CallOK P G call) (hq : CallQ call) (hl : LoopOK P G k loop) {nt : Nat} : ∀ {ic : ICode} {c : Code}, chkCode P nt ic c = true → ∀ {Q : Exit → Act → World → Prop} {g : Gh} {st : St} {a : Act} {w : World} {ex : Ex} {st' : St},
    Rel G g st [] a.tmps w → a.tmps.size = nt → evalC G call loop lo ic st = some (ex, st') → Goes G nt a.defers g w st' ex Q → c.wp P Q a w := by
  intro ic
  induction ic with
  | skip =>
    intro c hk Q g st a w ex st' kk hn hr h
    cases c <;> simp [chkCode] at hk
    simp [evalC] at hr; obtain ⟨rfl, rfl⟩ := hr
    exact wp_skip (h g a w hn rfl kk (Stay.refl g w))
  | ret =>
    intro c hk Q g st a w ex st' kk hn hr h
    cases c <;> simp [chkCode] at hk
    simp [evalC] at hr; obtain ⟨rfl, rfl⟩ := hr
    exact wp_ret (h g a w hn rfl kk (Stay.refl g w))
  | exit id =>
    intro c hk Q g st a w ex st' kk hn hr h
    cases c <;> simp [chkCode] at hk
    subst hk
    simp [evalC] at hr; obtain ⟨rfl, rfl⟩ := hr
    exact wp_exit (h g a w hn rfl kk (Stay.refl g w))
  | region is live =>
    intro c hk Q g st a w ex st' kk hn hr h
    cases c <;> try (simp [chkCode] at hk; done)
    rename_i id os dr
    cases dr <;> simp [chkCode] at hk
    obtain ⟨e1, e2⟩ := chkOpers_get hk
    have hops : ∀ {ex1 : Ex} {s1 : St}, evalOps G call lo is st = some (ex1, s1) → Goes G nt a.defers g w s1 ex1 Q → (Code.region id os false).wp P Q a w := fun hr1 h1 =>
      wp_region (ops_sound hc _ _ (by simpa using e1) (fun j i x hi hx => by
        have hj := (List.getElem?_eq_some_iff.1 hi).1
        have hx' : x = j := by
          obtain ⟨h2, h3⟩ := List.getElem?_eq_some_iff.1 hx; simp at h3; exact h3.symm
        subst hx'
        have hlt : x < os.size := by rw [e1] at hj; simpa using hj
        exact ⟨os[x], by simp [hlt], e2 x i os[x] hi (by simp [hlt])⟩) kk hn hr1 h1)
    simp only [evalC] at hr
    split at hr
    · rename_i s1 he
      split at hr
      · rename_i hko; cases hr
        exact hops he fun g' a' w' h1 h2 h3 h4 => h g' a' w' h1 h2 (h3.keep hko) h4
      · cases hr
    · exact hops hr h
  | draw is ord pans live =>
    intro c hk Q g st a w ex st' kk hn hr h
    cases c <;> try (simp [chkCode] at hk; done)
    rename_i id os dr
    cases dr <;> simp [chkCode] at hk
    simp only [evalC] at hr
    split at hr
    · rename_i s1 he
      split at hr
      · rename_i hko; cases hr
        exact draw_sound hm hc hq hk.1 hk.2 kk hn he (fun g' a' w' h1 h2 h3 h4 => h g' a' w' h1 h2 (h3.keep hko) h4) id
      · cases hr
    · exact draw_sound hm hc hq hk.1 hk.2 kk hn hr h id
  | seq x y ihx ihy =>
    intro c hk Q g st a w ex st' kk hn hr h
    cases c <;> simp [chkCode] at hk
    simp only [evalC] at hr
    split at hr
    · rename_i s1 he
      refine wp_seq (ihx hk.1 kk hn he fun g' a' w' h1 h2 h3 h4 => ?_)
      exact ihy hk.2 h3 h1 hr (by rw [h2]; exact h.after h4)
    · rename_i hne
      refine wp_seq (ihx hk.1 kk hn hr (h.mono fun g' a' w' h5 => ?_))
      cases ex with
      | normal => exact absurd hr (by simpa using hne st')
      | exit i => exact h5
      | ret => exact h5
      | pan v => exact h5
  | cond x y z ihy ihz =>
    intro c hk Q g st a w ex st' kk hn hr h
    cases c <;> simp [chkCode] at hk
    simp only [evalC] at hr
    split at hr
    · rename_i t ht
      have hrd := kk.read hk.1.1
      rw [ht] at hrd; simp only [VX, V] at hrd
      refine wp_cond_split (t := t) (by rw [Act.eval_eq]; exact hrd) (fun e => ?_) (fun e => ?_)
      · subst e; simp only [if_true] at hr; exact ihy hk.1.2 kk hn hr h
      · subst e; simp only [Bool.false_eq_true, if_false] at hr; exact ihz hk.2 kk hn hr h
    · cases hr
  | block i x ih =>
    intro c hk Q g st a w ex st' kk hn hr h
    cases c <;> simp [chkCode] at hk
    obtain ⟨rfl, hk⟩ := hk
    simp only [evalC] at hr
    split at hr
    · rename_i j s1 he
      split at hr
      · rename_i hj; subst hj; cases hr
        exact wp_block (ih hk kk hn he fun g' a' w' h1 h2 h3 h4 => by
          show Exit.inBlock j Q (.exit j) a' w'
          simp only [Exit.inBlock, if_true]; exact h g' a' w' h1 h2 h3 h4)
      · rename_i hj; cases hr
        exact wp_block (ih hk kk hn he fun g' a' w' h1 h2 h3 h4 => by
          show Exit.inBlock i Q (.exit j) a' w'
          simp only [Exit.inBlock, if_neg hj]; exact h g' a' w' h1 h2 h3 h4)
    · rename_i hne
      refine wp_block (ih hk kk hn hr (h.mono fun g' a' w' h5 => ?_))
      cases ex with
      | normal => exact h5
      | exit j => exact absurd hr (by simpa using hne j st')
      | ret => exact h5
      | pan v => exact h5
  | loop x ih =>
    intro c hk Q g st a w ex st' kk hn hr h
    cases c <;> simp [chkCode] at hk
    simp only [evalC] at hr
    exact wp_loop_rounds k (hl nt x _ hk Q g st a w ex st' kk hn hr h)

theorem run_quiet (IP : IProg) : ∀ k, CallQ (run G IP k).1
  | 0 => fun f vs hp lo r h => by simp [run] at h
  | k + 1 => fun f vs hp lo r h => by
    simp only [run, callBody] at h
    split at h
    · cases h
    · rename_i fn hfn
      split at h
      · cases h
      · rename_i hc
        have hs : fn.still = true := by simp at hc; exact hc.1
        simp only [hs, if_true] at h
        repeat' split at h
        all_goals first
          | (cases h; done)
          | (cases h; rfl)
theorem run_sound (hm : P.follows .mixedOrders = true) {IP : IProg} (hIP : ∀ f fn, IP f = some fn → chkFun P f fn = true) : ∀ k, CallOK P G (run G IP k).1 ∧ ∀ lo, LoopOK P G k ((run G IP k).2 lo)
  | 0 => ⟨fun f vs hp lo q r g w us h => by simp [run] at h, fun lo nt body code _ Q g st a w ex st' _ _ h => by simp [run] at h⟩
  | k + 1 => by
    obtain ⟨hc, hl⟩ := run_sound hm hIP k
    refine ⟨fun f vs hp lo q r g w us h hlen hpl kk => ?_, fun lo nt body code hk Q g st a w ex st' kk hn hr h => ?_⟩
    · simp only [run, callBody] at h
      cases hfn : IP f with
      | none => rw [hfn] at h; simp at h
      | some fn =>
        rw [hfn] at h
        have hf := hIP f fn hfn
        simp only [chkFun, Bool.and_eq_true] at hf
        obtain ⟨hfo, hf⟩ := hf
        refine ⟨hfo, ?_⟩
        cases hm' : P.funcs[f]? with
        | none => rw [hm'] at hf; simp at hf
        | some m =>
          rw [hm'] at hf
          simp only [Bool.and_eq_true] at hf
          obtain ⟨⟨⟨hb, hres⟩, hnd⟩, har⟩ := hf
          cases hbd : m.body with
          | none => rw [hbd] at hb; simp at hb
          | some c =>
            rw [hbd] at hb
            simp only at hb h
            split at h
            · cases h
            · rename_i hcnd
              have hq : vs.length = fn.arity := by
                simp at hcnd
                exact hcnd.2
              have harity : fn.arity ≤ m.ntmps := Nat.le_of_ble_eq_true har
              obtain ⟨k1, s1⟩ := kk.enter hlen hpl (m.ntmps - us.toArray.size)
              have hsize : (us.toArray ++ Array.replicate (m.ntmps - us.toArray.size) undef).size = m.ntmps := by
                simp; omega
              have hnodup := nodupB_spec hnd
              refine calls_of_wp hm' hbd ?_
              -- what is owed behind the body
              have fin : ∀ {ex : Ex} {s2 : St} (lo' : Nat), evalC G (run G IP k).1 ((run G IP k).2 lo') lo' fn.body { fr := Rf.enter 0 vs, hp } = some (ex, s2) →
                  (Goes G m.ntmps [] g.inn w s2 ex (bodyPost P m (Ret G g w r))) → c.wp P (bodyPost P m (Ret G g w r)) { tmps := us.toArray ++ Array.replicate (m.ntmps - us.toArray.size) undef, defers := [] } w := fun lo' he hg =>
                code_sound hm hc (run_quiet IP k) (hl lo') hb k1 hsize he hg
              have fin1 : ∀ {s2 : St} {vs' : List AV}, evalRess s2 fn.res = some vs' → ∀ (g2 : Gh) (a2 : Act) (w2 : World), a2.defers = [] → Rel G g2 s2 [] a2.tmps w2 → Stay g.inn w g2 w2 →
                  (∀ cv g3, Rel G g3 ⟨[], s2.hp⟩ [(tupOf vs', cv)] #[] w2 → Stay g w g3 w2 → Ret G g w r (.returned cv) w2) → a2.defers = [] ∧ ∃ v, (results m a2.tmps).run P w2 = .ok v w2 ∧ Ret G g w r (.returned v) w2 := fun he g2 a2 w2 hd k2 s2 hR => by
                obtain ⟨cv, q1, q2, q3⟩ := run_results k2 hres hnodup he
                exact ⟨hd, cv, q1, hR cv _ q2 ((s1.trans s2).trans q3)⟩
              cases hst : fn.still with
              | false =>
                simp only [hst, Bool.false_eq_true, if_false] at h
                split at h
                · rename_i s2 he
                  split at h
                  · rename_i vs' hv; cases h
                    refine fin lo he fun g2 a2 w2 e1 e2 k2 s2 => fin1 hv g2 a2 w2 e2 k2 s2 fun cv g3 k3 s3 => ?_
                    exact ⟨g3, _, _, rfl, k3, s3⟩
                  · cases h
                · rename_i s2 he
                  split at h
                  · rename_i vs' hv; cases h
                    refine fin lo he fun g2 a2 w2 e1 e2 k2 s2 => fin1 hv g2 a2 w2 e2 k2 s2 fun cv g3 k3 s3 => ?_
                    exact ⟨g3, _, _, rfl, k3, s3⟩
                  · cases h
                · rename_i v s2 he; cases h
                  refine fin lo he fun g2 a2 w2 e1 e2 k2 s2 cv hv hp => ?_
                  have sm := same_outw g2 w2 []
                  exact ⟨e2, g2.outw [], v, _, cv, rfl, rfl, V.mono (sm.ext trivial) _ _ hv, hp,
                    ⟨fun s => by simp [Fr.get, VF, VX, V, Owns], fun j u cu hj => by simp at hj, k2.hp.same sm trivial (fun _ => trivial) (fun _ _ => trivial) (fun _ _ _ => trivial) rfl, fun b o hb => by show (g2.ow b o).outw [] = .out; rw [k2.fresh b o hb]; rfl, k2.gl.same sm trivial trivial⟩,
                    (s1.trans s2).trans (stay_of_same sm trivial trivial)⟩
                · cases h
              | true =>
                simp only [hst, if_true] at h
                have pre : ∀ {ex : Ex} {s2 : St}, evalC G (run G IP k).1 ((run G IP k).2 hp.length) hp.length fn.body { fr := Rf.enter 0 vs, hp } = some (ex, s2) → s2.hp.take hp.length = hp := fun he => by
                  obtain ⟨p1, p2⟩ := run_pre (G := G) IP k
                  have := (evalC_pre p1 (p2 _) he (Nat.le_refl _)).1
                  simpa using this
                have hb0 : g.hb.length ≤ hp.length := Nat.le_of_eq kk.hp.len
                have fin2 : ∀ {s2 : St} {vs' : List AV}, s2.hp.take hp.length = hp → (tupOf vs').closed hp.length = true → ∀ (w2 : World) cv g3, Rel G g3 ⟨[], s2.hp⟩ [(tupOf vs', cv)] #[] w2 → Stay g w g3 w2 → Ret G g w (.ret (tupOf vs') hp) (.returned cv) w2 := fun hpre hcl w2 cv g3 k3 s3 =>
                  ⟨g3.cutb hp.length, _, hp, rfl, k3.cutb hpre kk.hp kk.gl (fun j v cv hj => by
                    cases j with
                    | zero => simp at hj; obtain ⟨rfl, rfl⟩ := hj; exact hcl
                    | succ j => simp at hj), s3.cutb hb0⟩
                split at h
                · rename_i s2 he
                  split at h
                  · rename_i vs' hv
                    split at h
                    · rename_i hcl; cases h
                      exact fin _ he fun g2 a2 w2 e1 e2 k2 s2 => fin1 hv g2 a2 w2 e2 k2 s2 fun cv g3 k3 s3 => fin2 (pre he) hcl w2 cv g3 k3 s3
                    · cases h
                  · cases h
                · rename_i s2 he
                  split at h
                  · rename_i vs' hv
                    split at h
                    · rename_i hcl; cases h
                      exact fin _ he fun g2 a2 w2 e1 e2 k2 s2 => fin1 hv g2 a2 w2 e2 k2 s2 fun cv g3 k3 s3 => fin2 (pre he) hcl w2 cv g3 k3 s3
                    · cases h
                  · cases h
                · rename_i v s2 he
                  split at h
                  · rename_i hcl; cases h
                    refine fin _ he fun g2 a2 w2 e1 e2 k2 s2 cv hv hp' => ?_
                    have sm := same_outw g2 w2 []
                    have k3 : Rel G (g2.outw []) ⟨[], _⟩ [] #[] w2 := ⟨fun s => by simp [Fr.get, VF, VX, V, Owns], fun j u cu hj => by simp at hj, k2.hp.same sm trivial (fun _ => trivial) (fun _ _ => trivial) (fun _ _ _ => trivial) rfl, fun b o hb => by show (g2.ow b o).outw [] = .out; rw [k2.fresh b o hb]; rfl, k2.gl.same sm trivial trivial⟩
                    exact ⟨e2, (g2.outw []).cutb hp.length, v, hp, cv, rfl, rfl, V.cutb _ _ hcl (V.mono (sm.ext trivial) _ _ hv), hp', k3.cutb (pre he) kk.hp kk.gl (fun j v cv hj => by simp at hj),
                      ((s1.trans s2).trans (stay_of_same sm trivial trivial)).cutb hb0⟩
                  · cases h
                · cases h
    · simp only [run, loopBody] at hr
      rw [rounds_succ]
      split at hr
      · rename_i s1 he
        refine code_sound hm hc (run_quiet IP k) (hl lo) hk kk hn he fun g' a' w' h1 h2 h3 h4 => ?_
        exact hl lo nt body code hk Q g' s1 a' w' ex st' h3 h1 hr (by rw [h2]; exact h.after h4)
      · rename_i hne
        refine code_sound hm hc (run_quiet IP k) (hl lo) hk kk hn hr (h.mono fun g' a' w' h5 => ?_)
        cases ex with
        | normal => exact absurd hr (by simpa using hne st')
        | exit i => exact h5
        | ret => exact h5
        | pan v => exact h5
end
end Go.Proofs.Ytajlmldpbhendaa.Rf
end
section
/- What an argument reads as, as plain values. -/
set_option linter.unusedSimpArgs false
set_option linter.unusedVariables false
namespace Go.Proofs.Ytajlmldpbhendaa.Rf

def aggTy (P : Program) (t : TypeId) : Bool :=
  match P.underlying t with
  | some (.struct _) | some (.array _ _) => true
  | _ => false
def elemAV (P : Program) (t : TypeId) (cs : List AV) : AV := if aggTy P t then .agg cs else cs.headD .none
/-- the plain cells of what reads as d -/
def HasTy {H : Type} (P : Program) : Nat → TypeId → List AV → DataW H → Prop
  | 0, _, _, _ => False
  | n + 1, t, cs, d =>
    match P.underlying t with
    | some .bool => ∃ b, cs = [.bool b] ∧ d = .lit (.bool b)
    | some (.int k) => ∃ m, cs = [.int k m] ∧ (Lit.int k m).wf = true ∧ d = .lit (.int k m)
    | some .string => ∃ s : List UInt8, cs = [.str s] ∧ s.length ≤ maxLen ∧ d = .lit (.string s)
    | some (.slice e) => (cs = [.list [] .nil] ∧ d = .nil) ∨ ∃ xs els rest, cs = [.list xs .no] ∧ d = .slice els rest ∧ xs.length = els.length ∧ xs.length ≤ maxLen ∧ ∀ (i : Nat) x d', xs[i]? = some x → els[i]? = some d' → ∃ ds, x = elemAV P e ds ∧ HasTy P n e ds d'
    | some (.struct fs) => ∃ (parts : List (List AV)) (els : List (DataW H)), cs = parts.flatten ∧ d = .agg els ∧ parts.length = fs.size ∧ els.length = fs.size ∧ ∀ (i : Nat) f ds d', fs[i]? = some f → parts[i]? = some ds → els[i]? = some d' → HasTy P n f.type ds d'
    | some (.array m e) => ∃ (parts : List (List AV)) (els : List (DataW H)), cs = parts.flatten ∧ d = .agg els ∧ parts.length = m ∧ els.length = m ∧ ∀ (i : Nat) ds d', parts[i]? = some ds → els[i]? = some d' → HasTy P n e ds d'
    | _ => False
/-- a closed set of types -/
def tileOk (P : Program) : List Field → Nat → Nat → Bool
  | [], k, n => Nat.beq k n
  | f :: r, k, n => Nat.beq f.offset k && tileOk P r (k + P.cellsOf f.type) n
def covT (P : Program) (S : List TypeId) (t : TypeId) : Bool :=
  match P.underlying t with
  | some .bool | some (.int _) | some .string => Nat.beq (P.cellsOf t) 1
  | some (.slice e) => S.contains e && Nat.blt 0 (P.cellsOf e) && Nat.beq (P.cellsOf t) 1
  | some (.struct fs) => fs.toList.all (fun f => S.contains f.type) && tileOk P fs.toList 0 (P.cellsOf t)
  | some (.array n e) => S.contains e && Nat.beq (n * P.cellsOf e) (P.cellsOf t)
  | _ => false
def covS (P : Program) (S : List TypeId) : Bool := S.all (covT P S)

section
variable {H : Type} {enc : TypeId × Value → H} {P : Program} {g : Gh} {W : World} {base : Nat} {held : Bool}

theorem pick_all {α : Type} {Q : Nat → α → Prop} : ∀ (n : Nat), (∀ i, i < n → ∃ x, Q i x) → ∃ xs : List α, xs.length = n ∧ ∀ (i : Nat) x, xs[i]? = some x → Q i x
  | 0, _ => ⟨[], rfl, fun i x h => by simp at h⟩
  | n + 1, h => by
    obtain ⟨xs, h1, h2⟩ := pick_all n fun i hi => h i (by omega)
    obtain ⟨x, hx⟩ := h n (by omega)
    refine ⟨xs ++ [x], by simp [h1], fun i y hy => ?_⟩
    rw [List.getElem?_append] at hy
    split at hy
    · exact h2 i y hy
    · rename_i hlt
      have : i = n := by
        have := (List.getElem?_eq_some_iff.1 hy).1; simp at this; omega
      subst this; simp [h1] at hy; subst hy; exact hx
theorem VE.of_get {w : World} {sz : Nat} : ∀ {xs : List AV} {b off : Nat}, (∀ (i : Nat) x, xs[i]? = some x → x.cells.length = sz ∧ VC g w x.cells b (off + i * sz)) → VE g w sz xs b off
  | [], _, _, _ => by simp [VE]
  | x :: xs, b, off, h => by
    have h0 := h 0 x rfl
    rw [Nat.zero_mul, Nat.add_zero] at h0
    refine VE.cons_mk h0.1 h0.2 (VE.of_get fun i y hy => ?_)
    have := h (i + 1) y (by simpa using hy)
    rwa [show off + (i + 1) * sz = off + sz + i * sz by rw [Nat.succ_mul]; omega] at this
theorem VC.of_get {w : World} : ∀ {cs : List AV} {b off : Nat}, (∀ (i : Nat) c, cs[i]? = some c → g.ow b (off + i) = .imm ∧ ∃ cv, w.cell? ⟨b, off + i, none⟩ = some cv ∧ cv.oneCell' = true ∧ V g w c cv) → VC g w cs b off
  | [], _, _, _ => by simp [VC]
  | c :: cs, b, off, h => by
    simp only [VC]
    have h0 := h 0 c rfl
    rw [Nat.add_zero] at h0
    refine ⟨h0, VC.of_get fun i y hy => ?_⟩
    have := h (i + 1) y (by simpa using hy)
    rwa [show off + (i + 1) = off + 1 + i by omega] at this
/-- consecutive parts -/
theorem VS.tiles {cells : List Value} {n : Nat} (hn : cells.length = n) : ∀ (sizes : List Nat) (k : Nat) (parts : List (List AV)), parts.length = sizes.length → k + sizes.sum = n →
    (∀ (i : Nat) ds sz, parts[i]? = some ds → sizes[i]? = some sz → VS g W ds ((cells.drop (k + (sizes.take i).sum)).take sz) ∧ Ones ((cells.drop (k + (sizes.take i).sum)).take sz)) → VS g W parts.flatten (cells.drop k) ∧ Ones (cells.drop k)
  | [], k, parts, hp, hk, _ => by
    have : parts = [] := List.length_eq_zero_iff.1 (by simpa using hp)
    subst this
    have e : cells.drop k = [] := List.drop_eq_nil_of_le (by simp at hk; omega)
    rw [e]; exact ⟨by simp [VS], fun u hu => by simp at hu⟩
  | sz :: sizes, k, [], hp, _, _ => by simp at hp
  | sz :: sizes, k, ds :: parts, hp, hk, h => by
    have h0 := h 0 ds sz rfl rfl
    simp at h0
    have ih := VS.tiles hn sizes (k + sz) parts (by simpa using hp) (by simp at hk; omega) (fun i ds' sz' a b => by
      have := h (i + 1) ds' sz' (by simpa using a) (by simpa using b)
      simpa [Nat.add_assoc] using this)
    have e : cells.drop k = (cells.drop k).take sz ++ cells.drop (k + sz) := by
      rw [← List.drop_drop, List.take_append_drop]
    rw [e, List.flatten_cons]
    refine ⟨h0.1.append ih.1, fun u hu => ?_⟩
    rcases List.mem_append.1 hu with hu | hu
    · exact h0.2 u hu
    · exact ih.2 u hu
theorem tile_sum : ∀ {fs : List Field} {k n : Nat}, tileOk P fs k n = true → k + (fs.map fun f => P.cellsOf f.type).sum = n ∧ ∀ (i : Nat) f, fs[i]? = some f → f.offset = k + ((fs.map fun f => P.cellsOf f.type).take i).sum
  | [], k, n, h => by simp [tileOk] at h; exact ⟨by simp [h], fun i f hf => by simp at hf⟩
  | f :: r, k, n, h => by
    simp only [tileOk, Bool.and_eq_true] at h
    obtain ⟨h1, h2⟩ := tile_sum h.2
    have h0 := Nat.eq_of_beq_eq_true h.1
    refine ⟨by simp; omega, fun i f' hf => ?_⟩
    cases i with
    | zero => simp at hf; subst hf; simpa using h0
    | succ i => have := h2 i f' (by simpa using hf); simp; omega
theorem cell_spot {w : World} {a : Addr} {v : Value} (h : w.cell? a = some v) : a.spot = none := by
  unfold World.cell? at h
  split at h
  · split at h
    · cases h
    · rename_i hs; simpa using hs
  · cases h

/-- What reads as data stands to plain values. -/
theorem trod_V {S : List TypeId} (hS : covS P S = true) (hg : ∀ b o, b < W.heap.size → g.ow b o = .imm) : ∀ (fuel : Nat) (t : TypeId) (cs : List Value) (x : DataW H × List MemPlace), t ∈ S → DataW.trod enc P W base (fun _ => true) held fuel t cs = some x →
    ∃ avs, VS g W avs cs ∧ Ones cs ∧ HasTy P fuel t avs x.1 ∧ cs.length = P.cellsOf t := by
  intro fuel
  induction fuel with
  | zero => intro t cs x _ h; simp [DataW.trod] at h
  | succ fuel ih =>
    intro t cs x ht h
    have hc : covT P S t = true := by simp only [covS, List.all_eq_true] at hS; exact hS t ht
    unfold covT at hc
    cases hu : P.underlying t with
    | none => simp [hu] at hc
    | some d =>
      cases d <;> simp [hu] at hc
      case bool =>
        obtain ⟨b, rfl, rfl⟩ := DataW.trod_bool hu h
        exact ⟨[.bool b], by simp [VS, V], by simp [Ones, Value.oneCell'], by simp only [HasTy, hu]; exact ⟨b, rfl, rfl⟩, by simp [hc]⟩
      case int k =>
        obtain ⟨n, rfl, rfl, hw⟩ := DataW.trod_int hu h
        exact ⟨[.int k n], by simp [VS, V], by simp [Ones, Value.oneCell'], by simp only [HasTy, hu]; exact ⟨n, rfl, hw, rfl⟩, by simp [hc]⟩
      case string =>
        obtain ⟨s, rfl, rfl, hw⟩ := DataW.trod_string hu h
        refine ⟨[.str s.data.toList], ?_, by simp [Ones, Value.oneCell'], by simp only [HasTy, hu]; exact ⟨_, rfl, (by rw [Array.length_toList]; exact hw), rfl⟩, by simp [hc]⟩
        simp only [VS, V]
        exact ⟨_, [], rfl, by simp, rfl⟩
      case slice e =>
        obtain ⟨⟨he, hpos⟩, h1⟩ := hc
        rcases DataW.trod_slice hu h with ⟨rfl, rfl⟩ | ⟨a, len, cap, elems, rest, n, hn, rfl, rfl, hb, hl, hcap, hel, hget, hsp, _⟩
        · refine ⟨[.list [] .nil], ?_, by simp [Ones, Value.oneCell'], by simp only [HasTy, hu]; exact .inl (by simp), by simp [h1]⟩
          simp only [VS, V]
          exact ⟨_, [], rfl, ⟨none, 0, rfl, by simp, by decide, fun _ => rfl, fun _ => rfl, fun a e => by cases e⟩, rfl⟩
        · cases hn
          -- the address is a plain one
          have first : 0 < cap → a.spot = none := fun hc0 => by
            have key : ∀ {y : Option (DataW H × List MemPlace)}, (W.cells? base (a.add 0) (P.cellsOf e)).bind (DataW.trod enc P W base (fun _ => true) held fuel e) = y → y ≠ none → a.spot = none := fun {y} hy hne => by
              cases hcs : W.cells? base (a.add 0) (P.cellsOf e) with
              | none => rw [hcs] at hy; simp at hy; exact absurd hy.symm hne
              | some l =>
                obtain ⟨_, q2, q3⟩ := World.cells?_some hcs
                have := q3 0 hpos
                have h0 : l[0]? = some l[0] := List.getElem?_eq_getElem (by omega)
                rw [h0] at this
                have e0 : (a.add 0).add 0 = a := by simp [Addr.add]
                rw [e0] at this
                exact cell_spot this
            by_cases h0 : 0 < len
            · have := hget 0 h0
              rw [Nat.zero_mul] at this
              exact key this (by rw [List.getElem?_eq_getElem (by omega)]; simp)
            · have h00 : len = 0 := by omega
              obtain ⟨r1, r2⟩ := hsp rfl
              have := r2 0 (by omega)
              rw [h00, Nat.zero_add, Nat.zero_mul] at this
              exact key this (by rw [List.getElem?_eq_getElem (by omega)]; simp)
          have one : ∀ i, i < len → ∃ y, (y.cells.length = P.cellsOf e ∧ VC g W y.cells a.block (a.off + i * P.cellsOf e)) ∧ ∃ ds d', y = elemAV P e ds ∧ elems[i]? = some d' ∧ HasTy P fuel e ds d'.1 := fun i hi => by
            have hgi := hget i hi
            have hei : elems[i]? = some elems[i] := List.getElem?_eq_getElem (by omega)
            rw [hei] at hgi
            cases hcs : W.cells? base (a.add (i * P.cellsOf e)) (P.cellsOf e) with
            | none => rw [hcs] at hgi; simp at hgi
            | some l =>
              rw [hcs] at hgi
              simp only [Option.bind_some] at hgi
              obtain ⟨avs, v1, v2, v3, v4⟩ := ih e l _ (by simpa using he) hgi
              obtain ⟨_, q2, q3⟩ := World.cells?_some hcs
              have hs := first (by omega)
              have ha : a.add (i * P.cellsOf e) = ⟨a.block, a.off + i * P.cellsOf e, none⟩ := by
                obtain ⟨b, q, sp⟩ := a
                simp only at hs; subst hs
                exact Addr.add_lit b q _
              have hvc : VC g W avs a.block (a.off + i * P.cellsOf e) := VC.of_get fun j c hj => by
                obtain ⟨u, u1, u2⟩ := v1.get hj
                have hjl := (List.getElem?_eq_some_iff.1 u1).1
                have := q3 j (by omega)
                rw [u1, ha, Addr.add_lit] at this
                exact ⟨hg _ _ (World.block_lt_of_cell? W ⟨a.block, a.off + i * P.cellsOf e + j, none⟩ this), u, this, v2 u (List.mem_of_getElem? u1), u2⟩
              have hlen : avs.length = P.cellsOf e := by rw [← v1.len]; exact v4
              refine ⟨elemAV P e avs, ?_, avs, elems[i], rfl, hei, v3⟩
              unfold elemAV
              by_cases hag : aggTy P e = true
              · rw [if_pos hag]; exact ⟨hlen, hvc⟩
              · rw [if_neg hag]
                have hce : covT P S e = true := by simp only [covS, List.all_eq_true] at hS; exact hS e (by simpa using he)
                have h3 := v3
                cases fuel with
                | zero => exact h3.elim
                | succ m =>
                  unfold aggTy at hag
                  unfold covT at hce
                  simp only [HasTy] at h3
                  cases hue : P.underlying e with
                  | none => simp [hue] at hce
                  | some de =>
                    rw [hue] at h3 hag hce
                    cases de <;> simp at hag hce
                    case bool => obtain ⟨b, rfl, _⟩ := h3; exact ⟨hlen, hvc⟩
                    case int k => obtain ⟨b, rfl, _⟩ := h3; exact ⟨hlen, hvc⟩
                    case string => obtain ⟨b, rfl, _⟩ := h3; exact ⟨hlen, hvc⟩
                    case slice e2 =>
                      rcases h3 with ⟨rfl, _⟩ | ⟨xs, _, _, rfl, _⟩ <;> exact ⟨hlen, hvc⟩
          obtain ⟨xs, hxl, hx⟩ := pick_all len one
          refine ⟨[.list xs .no], ?_, by simp [Ones, Value.oneCell'], ?_, by simp [h1]⟩
          · simp only [VS, V]
            refine ⟨_, [], rfl, ⟨some a, cap, by rw [hxl], by omega, by simpa [maxLen] using hcap, (fun e => by cases e), (fun e => by cases e), fun ad ha => ?_⟩, rfl⟩
            cases ha
            exact ⟨fun hc => first (hc.resolve_left (by simp)), P.cellsOf e, VE.of_get fun i y hy => (hx i y hy).1⟩
          · simp only [HasTy, hu]
            refine .inr ⟨xs, elems.map (·.1), rest.map (·.1), rfl, rfl, by simp [hxl, hel], by omega, fun i y d' hy hd => ?_⟩
            obtain ⟨_, ds, d'', e1, e2, e3⟩ := hx i y hy
            rw [List.getElem?_map, e2] at hd
            simp at hd; subst hd
            exact ⟨ds, e1, e3⟩
      case struct fs =>
        obtain ⟨hall, htile⟩ := hc
        obtain ⟨xs, n, hn, rfl, hlen, hxl, hget⟩ := DataW.trod_struct hu h
        cases hn
        obtain ⟨ts1, ts2⟩ := tile_sum htile
        have one : ∀ i, i < fs.size → ∃ ds, (∃ f d', fs[i]? = some f ∧ xs[i]? = some d' ∧ HasTy P fuel f.type ds d'.1 ∧ VS g W ds ((cs.drop f.offset).take (P.cellsOf f.type)) ∧ Ones ((cs.drop f.offset).take (P.cellsOf f.type))) := fun i hi => by
          have hf : fs[i]? = some fs[i] := Array.getElem?_eq_getElem hi
          have hxi : xs[i]? = some xs[i] := List.getElem?_eq_getElem (by omega)
          have := hget i _ hf
          rw [hxi] at this
          obtain ⟨avs, v1, v2, v3, _⟩ := ih _ _ _ (by
            have := hall i hi
            simpa using this) this
          exact ⟨avs, _, _, hf, hxi, v3, v1, v2⟩
        obtain ⟨parts, hpl, hp⟩ := pick_all fs.size one
        have tl := VS.tiles (g := g) (W := W) hlen (fs.toList.map fun f => P.cellsOf f.type) 0 parts (by simp [hpl]) (by simpa using ts1) (fun i ds sz a b => by
          obtain ⟨f, d', q1, _, _, q4, q5⟩ := hp i ds a
          have hfl : fs.toList[i]? = some f := by rw [Array.getElem?_toList]; exact q1
          rw [List.getElem?_map, hfl] at b
          simp at b; subst b
          have := ts2 i f hfl
          rw [← this]; exact ⟨q4, q5⟩)
        simp only [List.drop_zero] at tl
        refine ⟨parts.flatten, tl.1, tl.2, ?_, hlen⟩
        simp only [HasTy, hu]
        refine ⟨parts, xs.map (·.1), rfl, rfl, hpl, by simp [hxl], fun i f ds d' a b c => ?_⟩
        obtain ⟨f', d'', q1, q2, q3, _⟩ := hp i ds b
        rw [a] at q1; cases q1
        rw [List.getElem?_map, q2] at c
        simp at c; subst c; exact q3
      case array m e =>
        obtain ⟨he, hsz⟩ := hc
        obtain ⟨xs, n, hn, rfl, hlen, hxl, hget⟩ := DataW.trod_array hu h
        cases hn
        have one : ∀ i, i < m → ∃ ds, (∃ d', xs[i]? = some d' ∧ HasTy P fuel e ds d'.1 ∧ VS g W ds ((cs.drop (i * P.cellsOf e)).take (P.cellsOf e)) ∧ Ones ((cs.drop (i * P.cellsOf e)).take (P.cellsOf e))) := fun i hi => by
          have hxi : xs[i]? = some xs[i] := List.getElem?_eq_getElem (by omega)
          have := hget i hi
          rw [hxi] at this
          obtain ⟨avs, v1, v2, v3, _⟩ := ih _ _ _ (by simpa using he) this
          exact ⟨avs, _, hxi, v3, v1, v2⟩
        obtain ⟨parts, hpl, hp⟩ := pick_all m one
        have tl := VS.tiles (g := g) (W := W) hlen (List.replicate m (P.cellsOf e)) 0 parts (by simp [hpl]) (by simp; exact hsz) (fun i ds sz a b => by
          obtain ⟨d', _, _, q4, q5⟩ := hp i ds a
          have hi := (List.getElem?_eq_some_iff.1 a).1
          have hsz' : sz = P.cellsOf e := by
            obtain ⟨h1, h2⟩ := List.getElem?_eq_some_iff.1 b; simp at h2; exact h2.symm
          subst hsz'
          have hm : min i m = i := by omega
          simp [List.take_replicate, hm]
          exact ⟨q4, q5⟩)
        simp only [List.drop_zero] at tl
        refine ⟨parts.flatten, tl.1, tl.2, ?_, hlen⟩
        simp only [HasTy, hu]
        refine ⟨parts, xs.map (·.1), rfl, rfl, hpl, by simp [hxl], fun i ds d' b c => ?_⟩
        obtain ⟨d'', q2, q3, _⟩ := hp i ds b
        rw [List.getElem?_map, q2] at c
        simp at c; subst c; exact q3
end
end Go.Proofs.Ytajlmldpbhendaa.Rf
end
section
/- From a run on plain values to a law's statement. -/
set_option linter.unusedSimpArgs false
set_option linter.unusedVariables false
namespace Go.Proofs.Ytajlmldpbhendaa.Rf

/-- At the start: all that is there is only read. -/
def gh0 (W : World) : Gh := ⟨fun b _ => if b < W.heap.size then .imm else .out, [], fun _ => 0⟩
theorem gh0_imm {W : World} {b o : Nat} (h : b < W.heap.size) : (gh0 W).ow b o = .imm := if_pos h
def noOwn : AV → Bool
  | .list _ (.own _) => false
  | .tup _ => false
  | v => v.plain
def ArgTy {H : Type} (P : Program) (t : TypeId) (v : AV) (d : DataW H) : Prop := ∃ n cs, v = elemAV P t cs ∧ HasTy P n t cs d
inductive ArgsTy {H : Type} (P : Program) : List TypeId → List AV → List (DataW H) → Prop
  | nil : ArgsTy P [] [] []
  | cons {t : TypeId} {v : AV} {d : DataW H} {ts : List TypeId} {vs : List AV} {ds : List (DataW H)} : ArgTy P t v d → ArgsTy P ts vs ds → ArgsTy P (t :: ts) (v :: vs) (d :: ds)

section
variable {H : Type} {enc : TypeId × Value → H} {P : Program} {W : World} {base : Nat}

theorem arg_V {S : List TypeId} (hS : covS P S = true) {t : TypeId} (ht : t ∈ S) {v : Value} {d : DataW H} {p : List MemPlace} (hv : Value.okWide P W .any base t v) (h : DataW.Trod enc P W 0 (fun _ => true) true t v d p) :
    ∃ av, V (gh0 W) W av v ∧ noOwn av = true ∧ ArgTy P t av d := by
  obtain ⟨fuel, hf⟩ := h
  obtain ⟨avs, v1, v2, v3, v4⟩ := trod_V (g := gh0 W) hS (fun b o h => gh0_imm h) fuel t _ _ ht hf
  refine ⟨elemAV P t avs, ?_, ?_, fuel, avs, rfl, v3⟩
  all_goals
    have hc : covT P S t = true := by simp only [covS, List.all_eq_true] at hS; exact hS t ht
    unfold covT at hc
    unfold Value.okWide at hv
    unfold elemAV aggTy
    cases fuel with
    | zero => exact v3.elim
    | succ n =>
      simp only [HasTy] at v3
      cases hu : P.underlying t with
      | none => simp [hu] at hc
      | some de =>
        rw [hu] at v3 hc hv
        cases de <;> simp at hc
        case' bool => obtain ⟨b, rfl, _⟩ := v3
        case' int k => obtain ⟨b, rfl, _⟩ := v3
        case' string => obtain ⟨b, rfl, _⟩ := v3
        case' slice e => rcases v3 with ⟨rfl, _⟩ | ⟨xs, _, _, rfl, _⟩
        all_goals simp only [Bool.false_eq_true, if_false, if_true, List.headD]
        all_goals first
          | rfl
          | (obtain ⟨cs, rfl, _⟩ := hv
             simp only [V]
             exact ⟨cs.toList, by simp, by simpa [Value.cells] using v1, by simpa [Value.cells] using v2⟩)
          | (have hna : v.cells = #[v] := by
               cases v <;> first | rfl | (simp [Cell.okWide, Cell.ok, hu] at hv)
             rw [hna] at v1
             simp only [VS] at v1
             obtain ⟨u, r, e, hv1, _⟩ := v1
             simp at e
             rw [e.1]; exact hv1)
theorem args_V {S : List TypeId} (hS : covS P S = true) : ∀ {ts : List TypeId} {vs : List Value} {ds : List (DataW H)} {ps : List MemPlace}, (∀ t, t ∈ ts → t ∈ S) → (∀ (j : Nat) t v, ts[j]? = some t → vs[j]? = some v → Value.okWide P W .any base t v) → DataW.TrodAll enc P W 0 (fun _ => true) true ts vs ds ps →
    ∃ avs, VS (gh0 W) W avs vs ∧ avs.all noOwn = true ∧ ArgsTy P ts avs ds
  | [], [], [], _, _, _, _ => ⟨[], by simp [VS], rfl, .nil⟩
  | t :: ts, v :: vs, d :: ds, ps, ht, hv, ⟨p, q, h1, h2, _⟩ => by
    obtain ⟨av, a1, a2, a3⟩ := arg_V hS (ht t (by simp)) (hv 0 t v rfl rfl) h1
    obtain ⟨avs, b1, b2, b3⟩ := args_V hS (fun x hx => ht x (by simp [hx])) (fun j t' v' a b => hv (j + 1) t' v' (by simpa using a) (by simpa using b)) h2
    exact ⟨av :: avs, by simp only [VS]; exact ⟨v, vs, rfl, a1, b1⟩, by simp [a2, b2], .cons a3 b3⟩
  | [], [], _ :: _, _, _, _, h => h.elim
  | [], _ :: _, _, _, _, _, h => h.elim
  | _ :: _, [], _, _, _, _, h => h.elim
  | _ :: _, _ :: _, [], _, _, _, h => h.elim
theorem trodAll_len : ∀ {ts : List TypeId} {vs : List Value} {ds : List (DataW H)} {ps : List MemPlace} {sp : Nat → Bool} {held : Bool}, DataW.TrodAll enc P W base sp held ts vs ds ps → ds.length = ts.length ∧ vs.length = ts.length
  | [], [], [], _, _, _, _ => ⟨rfl, rfl⟩
  | t :: ts, v :: vs, d :: ds, _, _, _, ⟨_, _, _, h, _⟩ => by
    obtain ⟨h1, h2⟩ := trodAll_len h; simp [h1, h2]
  | [], [], _ :: _, _, _, _, h => h.elim
  | [], _ :: _, _, _, _, _, h => h.elim
  | _ :: _, [], _, _, _, _, h => h.elim
  | _ :: _, _ :: _, [], _, _, _, h => h.elim
/-- the arguments read as they did -/
theorem args_back {W' : World} (hl : laidOutB P = true) (hb : RowKit.Below W.heap.size W W') : ∀ {ts : List TypeId} {vs : List Value} {ds : List (DataW H)} {ps : List MemPlace}, (∀ t, t ∈ ts → P.readableRec t = true ∧ t < P.types.size) → DataW.TrodAll enc P W 0 (fun _ => true) true ts vs ds ps → DataW.TrodAll enc P W' 0 (fun b => decide (b < W.heap.size)) true ts vs ds ps
  | [], [], [], _, _, h => h
  | t :: ts, v :: vs, d :: ds, ps, ht, ⟨p, q, h1, h2, h3⟩ => by
    obtain ⟨r1, r2⟩ := ht t (by simp)
    refine ⟨p, q, RowKit.Below.trod hl r1 r2 h1 hb ?_, args_back hl hb (fun x hx => ht x (by simp [hx])) h2, h3⟩
    obtain ⟨m, hm⟩ := h1
    exact DataW.trod_lt m _ _ _ hm
  | [], [], _ :: _, _, _, h => h.elim
  | [], _ :: _, _, _, _, h => h.elim
  | _ :: _, [], _, _, _, h => h.elim
  | _ :: _, _ :: _, [], _, _, h => h.elim

def noG : Nat → Option (List AV) := fun _ => none
theorem calls_of_run (hm : P.follows .mixedOrders = true) {IP : IProg} (hIP : ∀ f fn, IP f = some fn → chkFun P f fn = true) {f : FuncId} {avs : List AV} {us : List Value} (hv : VS (gh0 W) W avs us) (hno : avs.all noOwn = true) {k : Nat} {q : Bool} {hp : List HObj} (hr : (run noG IP k).1 f avs [] 0 q = some (.ret (.bool true) hp)) :
    Calls P f us.toArray W fun e W' => e = .returned (.bool true) ∧ RowKit.Below W.heap.size W W' := by
  obtain ⟨hc, _⟩ := run_sound (G := noG) hm hIP k
  have hpl : plains avs = true := by
    simp only [plains, List.all_eq_true] at hno ⊢
    intro x hx
    have := hno x hx
    cases x <;> simp_all [noOwn, AV.plain]
  have hrel : Rel noG (gh0 W) ⟨[], []⟩ (avs.zip us) #[] W := by
    refine ⟨fun s => by simp [Fr.get, VF, VX, V, Owns], fun j v cv hj => ?_, ⟨rfl, fun id o h => by simp at h⟩, fun b o hb => by simp only [gh0]; rw [if_neg (by omega)], fun b cs h => by simp [noG] at h⟩
    obtain ⟨h1, h2⟩ := zip_get hj
    have hvv := hv.get' h1 h2
    have hn : noOwn v = true := by simp only [List.all_eq_true] at hno; exact hno v (List.mem_of_getElem? h1)
    have hp' : v.plain = true := by simp only [plains, List.all_eq_true] at hpl; exact hpl v (List.mem_of_getElem? h1)
    rw [VF_loose (AV.loose_of_plain hp'), VX_plain hp']
    refine ⟨hvv, Owns.not_own (fun xs sz e => ?_) fun vs e => ?_⟩
    · subst e; simp [noOwn] at hn
    · subst e; simp [noOwn] at hn
  obtain ⟨_, hcall⟩ := hc f avs [] 0 q _ (gh0 W) W us hr hv.len hpl hrel
  refine Calls.mono hcall fun e W' h => ?_
  cases e with
  | returned cv =>
    obtain ⟨g', v, hp', e1, k1, s1⟩ := h
    cases e1
    have f1 := k1.ps 0 _ _ rfl
    rw [VF_loose rfl] at f1
    simp only [VX, V] at f1
    refine ⟨by rw [f1.1], s1.os, s1.tape, s1.output, s1.size, fun b hb => s1.blk b hb fun o => ?_⟩
    rw [gh0_imm hb]; trivial
  | panicked chain =>
    obtain ⟨g', v, hp', cv, e1, _⟩ := h
    cases e1
  | outgrown => exact h.elim

theorem law_end (hm : P.follows .mixedOrders = true) {IP : IProg} (hIP : ∀ f fn, IP f = some fn → chkFun P f fn = true) (hlaid : laidOutB P = true) {S : List TypeId} (hS : covS P S = true) {f : FuncId} {fn : Func}
    (hp : fn.params.toList.all (fun t => S.contains t && P.readableRec t && Nat.blt t P.types.size) = true) {s : ChangeSpec} (hvars : s.vars = []) {tb : TypeId} (hres : fn.resultTypes = #[tb]) (hb : P.underlying tb = some .bool)
    (hspec : ∀ ds : List (DataW H), ds.length = fn.params.size → s.fn H (ds ++ []) = ⟨[.lit (.bool true)], ds, []⟩) {args : Array Value} {ds gs : List (DataW H)} {before : List MemPlace}
    (hval : ∀ (j : Nat) t v, fn.params[j]? = some t → args[j]? = some v → Value.okWide P W .any base t v) (hW : DataW.Whole enc P fn.params.toList s.vars false W args.toList ds gs before)
    (hrun : ∀ avs, ArgsTy P fn.params.toList avs ds → ∃ k q hp, (run noG IP k).1 f avs [] 0 q = some (.ret (.bool true) hp)) :
    Calls P f args W fun e W' => ∃ v, e = .returned v ∧ s.post enc P fn false true false false W args v W' := by
  have hW0 := hW
  obtain ⟨p, q, hA, hV, rfl, hfz, hnd⟩ := hW
  have hgs : gs = [] ∧ q = [] := by
    rw [hvars] at hV
    cases gs with
    | nil => exact ⟨rfl, hV⟩
    | cons g gs => exact hV.elim
  obtain ⟨rfl, rfl⟩ := hgs
  simp only [List.all_eq_true, Bool.and_eq_true] at hp
  obtain ⟨avs, a1, a2, a3⟩ := args_V hS (fun t ht => by have := (hp t ht).1.1; simpa using this) (fun j t v h1 h2 => hval j t v (by simpa using h1) (by simpa using h2)) hA
  obtain ⟨k, q, hp', hr⟩ := hrun avs a3
  have hlen := trodAll_len hA
  have hsp := hspec ds (by simpa using hlen.1)
  have hcall := calls_of_run hm hIP a1 a2 hr
  rw [show args.toList.toArray = args by simp] at hcall
  refine Calls.mono hcall fun e W' ⟨he, bel⟩ => ⟨_, he, ds, [], p ++ [], [], p, [], hW0, ?_, ?_, ?_, bel.frame _, fun h => by cases h⟩
  · rw [hsp, hres]; exact ChangeShapes.trodAll_mk1 (open Go.ChangeShapes Go.WideShapes Go.ChangeAt Go.RowKit in shut_bool hb _)
  · rw [hsp]
    exact args_back hlaid bel (fun t ht => by
      have := hp t ht
      exact ⟨this.1.2, by simpa using this.2⟩) hA
  · rw [hsp, hvars]; rfl
end
end Go.Proofs.Ytajlmldpbhendaa.Rf
end
section
/- Arguments' shapes. -/
set_option linter.unusedSimpArgs false
set_option linter.unusedVariables false
namespace Go.Proofs.Ytajlmldpbhendaa.Rf
section
variable {H : Type} {P : Program}
theorem HasTy.int {n : Nat} {t : TypeId} {k : IntKind} {cs : List AV} {d : DataW H} (hu : P.underlying t = some (.int k)) (h : HasTy P n t cs d) : ∃ m, cs = [.int k m] ∧ (Lit.int k m).wf = true := by
  cases n with
  | zero => exact h.elim
  | succ n => simp only [HasTy, hu] at h; obtain ⟨m, h1, h2, _⟩ := h; exact ⟨m, h1, h2⟩
theorem ints_flat {n : Nat} {e : TypeId} {k : IntKind} (he : P.underlying e = some (.int k)) : ∀ {parts : List (List AV)} {els : List (DataW H)}, els.length = parts.length → (∀ (i : Nat) ds d', parts[i]? = some ds → els[i]? = some d' → HasTy P n e ds d') → ∃ l : List Int, l.length = parts.length ∧ parts.flatten = l.map (AV.int k) ∧ ∀ m, m ∈ l → (Lit.int k m).wf = true
  | [], els, _, _ => ⟨[], rfl, rfl, fun m h => by simp at h⟩
  | ds :: parts, [], hl, _ => by simp at hl
  | ds :: parts, d :: els, hl, h => by
    obtain ⟨m, rfl, hm⟩ := HasTy.int he (h 0 _ _ rfl rfl)
    obtain ⟨l, h1, h2, h3⟩ := ints_flat he (parts := parts) (els := els) (by simpa using hl) fun i ds d' a b => h (i + 1) ds d' (by simpa using a) (by simpa using b)
    exact ⟨m :: l, by simp [h1], by simp [h2], fun x hx => by
      rcases List.mem_cons.1 hx with rfl | hx
      · exact hm
      · exact h3 x hx⟩
theorem ArgTy.ints {t e : TypeId} {k : IntKind} {m : Nat} {v : AV} {d : DataW H} (hu : P.underlying t = some (.array m e)) (he : P.underlying e = some (.int k)) (h : ArgTy P t v d) : ∃ l : List Int, l.length = m ∧ v = .agg (l.map (AV.int k)) ∧ ∀ x, x ∈ l → (Lit.int k x).wf = true := by
  obtain ⟨n, cs, rfl, h⟩ := h
  cases n with
  | zero => exact h.elim
  | succ n =>
    simp only [HasTy, hu] at h
    obtain ⟨parts, els, rfl, _, h1, h2, h3⟩ := h
    obtain ⟨l, l1, l2, l3⟩ := ints_flat he (by omega) h3
    exact ⟨l, by omega, by unfold elemAV aggTy; rw [hu, l2]; rfl, l3⟩
theorem ArgTy.int {t : TypeId} {k : IntKind} {v : AV} {d : DataW H} (hu : P.underlying t = some (.int k)) (h : ArgTy P t v d) : ∃ m, v = .int k m ∧ (Lit.int k m).wf = true := by
  obtain ⟨n, cs, rfl, h⟩ := h
  obtain ⟨m, rfl, hm⟩ := h.int hu
  exact ⟨m, by unfold elemAV aggTy; rw [hu]; rfl, hm⟩
theorem ArgsTy.cons' {t : TypeId} {ts : List TypeId} {avs : List AV} {ds : List (DataW H)} (h : ArgsTy P (t :: ts) avs ds) : ∃ v d vs ds', avs = v :: vs ∧ ds = d :: ds' ∧ ArgTy P t v d ∧ ArgsTy P ts vs ds' := by
  cases h with
  | cons h1 h2 => exact ⟨_, _, _, _, rfl, rfl, h1, h2⟩
theorem ArgsTy.nil' {avs : List AV} {ds : List (DataW H)} (h : ArgsTy P [] avs ds) : avs = [] ∧ ds = [] := by
  cases h; exact ⟨rfl, rfl⟩
end
end Go.Proofs.Ytajlmldpbhendaa.Rf
end
section
/- Functions' plain forms, kept in a tree. -/
namespace Go.Proofs.Ytajlmldpbhendaa.Rf
inductive IT where
  | leaf
  | node (k : Nat) (fn : IFun) (l r : IT)
def IT.get : IT → Nat → Option IFun
  | .leaf, _ => none
  | .node k fn l r, f => bif Nat.beq f k then some fn else bif Nat.blt f k then l.get f else r.get f
def IT.all (p : Nat → IFun → Bool) : IT → Bool
  | .leaf => true
  | .node k fn l r => p k fn && (l.all p && r.all p)
theorem IT.all_get {p : Nat → IFun → Bool} : ∀ {t : IT}, t.all p = true → ∀ {f fn}, t.get f = some fn → p f fn = true
  | .leaf, _, f, fn, h => by simp [IT.get] at h
  | .node k g l r, ha, f, fn, h => by
    simp only [IT.all, Bool.and_eq_true] at ha
    simp only [IT.get] at h
    cases hk : Nat.beq f k with
    | true =>
      rw [hk] at h; simp only [cond_true] at h; cases h
      rw [Nat.eq_of_beq_eq_true hk]; exact ha.1
    | false =>
      rw [hk] at h; simp only [cond_false] at h
      cases hb : Nat.blt f k with
      | true => rw [hb] at h; exact IT.all_get ha.2.1 h
      | false => rw [hb] at h; exact IT.all_get ha.2.2 h
end Go.Proofs.Ytajlmldpbhendaa.Rf
end
