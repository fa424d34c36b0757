/- The like, for the operations on memory. -/
import Derived.Test.YtajlmldpbhendaaRfD2
set_option linter.unusedSimpArgs false
set_option linter.unusedVariables false
namespace Go.Proofs.Ytajlmldpbhendaa.Rf

section
variable {G : Nat → Option (List AV)} {call : CallF} {lo : Nat} {st st' : St} {F : Foot}

theorem Like.hpset {F : Foot} {fr1 fr1' : Fr} {hp1 hp1' : List HObj} (h : Moved F.wr st.fr fr1 st'.fr fr1') (hw : F.hw ≠ .no) (e : st'.hp = st.hp → hp1' = hp1) (k : HpKeep F.hw st.hp hp1) : Like F st ⟨fr1, hp1⟩ st' ⟨fr1', hp1'⟩ :=
  ⟨h, fun e => absurd e hw, e, k⟩

theorem like_op_load {x : Opd} {m : Mem} {n : Nat} {agg tk : Bool} (hf : foot (.load x m n agg tk) = some F) (hc : ClearF F st st') {r : OpR} (h : evalOp G call lo (.load x m n agg tk) st = some r) :
    ∃ s1', evalOp G call lo (.load x m n agg tk) st' = some (r.as s1') ∧ Like F st r.stt st' s1' := by
  obtain ⟨hc1, hc2, hc3⟩ := hc
  cases m with
  | last r0 => simp [foot] at hf
  | loc r0 =>
    simp only [foot, Option.some.injEq] at hf; subst hf
    have h1 := (opd_on (x := x) hc1.left).1
    have h2 : st'.fr.get r0 = st.fr.get r0 := hc1 r0 (by simp)
    simp only [evalOp, h1] at h ⊢
    split at h
    · cases h
    · rename_i hmm
      rw [if_neg hmm]
      cases hp : (opd st.fr x).1 <;> rw [hp] at h hmm <;> simp only [memOk, behind] at h hmm <;> try (simp at hmm; done)
      rename_i s off
      have hs : s = r0 := by simpa using hmm
      subst hs
      simp only [behind, h2, behindPut] at h ⊢
      split at h
      · rename_i cs off' hb
        split at h
        · rename_i l hl
          cases tk with
          | true =>
            simp only [if_true] at h ⊢
            split at h
            · rename_i hn; cases ret1_some h
              refine ⟨_, by rw [if_pos hn]; rfl, ?_⟩
              exact Like.take (Moved.set _ _) rfl
            · cases h
          | false =>
            simp only [Bool.false_eq_true, if_false] at h ⊢
            cases ret1_some h
            exact ⟨st', rfl, Like.same rfl rfl⟩
        · cases h
      · cases h
  | elem =>
    simp only [foot, Option.some.injEq] at hf; subst hf
    have h1 := (opd_on (x := x) hc1).1
    simp only [evalOp, h1] at h ⊢
    split at h
    · cases h
    · rename_i hmm
      rw [if_neg hmm]
      cases hp : (opd st.fr x).1 <;> rw [hp] at h hmm <;> simp only [memOk, behind] at h hmm <;> try (simp at hmm; done)
      rename_i s off
      simp only [behind, behindPut] at h ⊢
      split at h
      · rename_i l hl
        cases tk with
        | true =>
          simp only [if_true] at h ⊢
          split at h <;> cases h
        | false =>
          simp only [Bool.false_eq_true, if_false] at h ⊢
          cases ret1_some h
          exact ⟨st', rfl, Like.same rfl rfl⟩
      · cases h
  | heap =>
    simp only [foot, Option.some.injEq] at hf; subst hf
    have h1 := (opd_on (x := x) hc1).1
    simp only [evalOp, h1] at h ⊢
    split at h
    · cases h
    · rename_i hmm
      rw [if_neg hmm]
      cases hp : (opd st.fr x).1 <;> rw [hp] at h hmm <;> simp only [memOk, behind] at h hmm <;> try (simp at hmm; done)
      case ptr id off =>
        cases ho : st.hp[id]? with
        | none => simp [ho] at h
        | some ob =>
          cases ob with
          | map es => simp [ho] at h
          | cells ds =>
            have ho' := cells_at hc2 (.inl rfl) ho
            simp only [behind, behindPut, ho, ho'] at h ⊢
            split at h
            · rename_i l hl
              cases tk with
              | true =>
                have hh := hc3 (by simp)
                simp only [if_true] at h ⊢
                split at h
                · rename_i hn
                  split at h
                  · rename_i s1 hs1
                    split at hs1
                    · rename_i hlo; cases hs1; cases ret1_some h
                      refine ⟨{ st' with hp := st.hp.set id (.cells (put ds off (l.map AV.cp1))) }, by rw [if_pos hn, if_pos hlo, hh]; rfl, ?_⟩
                      exact Like.hpset (Moved.refl _ _) (by simp) (fun _ => rfl) (keep_set_cells ho)
                    · cases hs1
                  · cases h
                · cases h
              | false =>
                simp only [Bool.false_eq_true, if_false] at h ⊢
                cases ret1_some h
                exact ⟨st', rfl, Like.same rfl (by simp)⟩
            · cases h
      case glob b off =>
        simp only [behind, behindPut] at h ⊢
        cases hG : G b with
        | none => simp [hG] at h
        | some cs =>
          simp only [hG, Option.map_some] at h ⊢
          split at h
          · rename_i l hl
            cases tk with
            | true =>
              simp only [if_true] at h ⊢
              split at h <;> cases h
            | false =>
              simp only [Bool.false_eq_true, if_false] at h ⊢
              cases ret1_some h
              exact ⟨st', rfl, Like.same rfl (by simp)⟩
          · cases h

theorem like_op_store {x v : Opd} {m : Mem} {n : Nat} (hf : foot (.store x m v n) = some F) (hc : ClearF F st st') {r : OpR} (h : evalOp G call lo (.store x m v n) st = some r) :
    ∃ s1', evalOp G call lo (.store x m v n) st' = some (r.as s1') ∧ Like F st r.stt st' s1' := by
  obtain ⟨hc1, hc2, hc3⟩ := hc
  cases m with
  | last r0 => simp [foot] at hf
  | elem => simp [foot] at hf
  | loc r0 =>
    simp only [foot, Option.some.injEq] at hf; subst hf
    obtain ⟨h1, h2⟩ := opd_on (x := v) hc1.left
    have h3 := (opd_on (x := x) (hc1.right.left.moved h2)).1
    have h4 : (opd st'.fr v).2.get r0 = (opd st.fr v).2.get r0 := (hc1.right.right.moved h2) r0 (by simp)
    simp only [evalOp, h1, h3] at h ⊢
    split at h
    · cases h
    · rename_i hmm
      rw [if_neg hmm]
      simp only [not_or, Bool.not_eq_false] at hmm
      cases hp : (opd (opd st.fr v).2 x).1 <;> rw [hp] at h hmm <;> simp only [memOk, behind] at h hmm <;> try (simp at hmm; done)
      rename_i s off
      have hs : s = r0 := by simpa using hmm.2
      subst hs
      simp only [behind, h4, behindPut] at h ⊢
      split at h
      · rename_i cs off' hb
        split at h
        · rename_i hl; cases ret1_some h
          refine ⟨_, by rw [if_pos hl]; rfl, ?_⟩
          exact Like.take (F := ⟨_, opdW v ++ [s], _, _⟩) (h2.trans (Moved.set _ _)) rfl
        · cases h
      · cases h
  | heap =>
    simp only [foot, Option.some.injEq] at hf; subst hf
    obtain ⟨h1, h2⟩ := opd_on (x := v) hc1.left
    have h3 := (opd_on (x := x) (hc1.right.moved h2)).1
    have hh := hc3 (by simp)
    simp only [evalOp, h1, h3] at h ⊢
    split at h
    · cases h
    · rename_i hmm
      rw [if_neg hmm]
      simp only [not_or, Bool.not_eq_false] at hmm
      cases hp : (opd (opd st.fr v).2 x).1 <;> rw [hp] at h hmm <;> simp only [memOk, behind] at h hmm <;> try (simp at hmm; done)
      case ptr id off =>
        cases ho : st.hp[id]? with
        | none => simp [ho] at h
        | some ob =>
          cases ob with
          | map es => simp [ho] at h
          | cells ds =>
            simp only [behind, behindPut, hh, ho] at h ⊢
            split at h
            · rename_i hl
              split at h
              · rename_i s1 hs1
                split at hs1
                · rename_i hlo; cases hs1; cases ret1_some h
                  refine ⟨{ fr := (opd st'.fr v).2, hp := st.hp.set id (.cells (put ds off (opd st.fr v).1.spread)) }, by rw [if_pos hl, if_pos hlo]; rfl, ?_⟩
                  exact Like.hpset h2 (by simp) (fun _ => rfl) (keep_set_cells ho)
                · cases hs1
              · cases h
            · cases h
      case glob b off =>
        simp only [behind, behindPut] at h
        repeat' split at h
        all_goals first | (cases h; done) | (rename_i h9; cases h9; done)

theorem like_op_maps {i : IOp} (hf : foot i = some F) (hc : ClearF F st st') {r : OpR} (h : evalOp G call lo i st = some r)
    (hi : match i with | .lookup .. | .mapset .. | .len _ .map => True | _ => False) :
    ∃ s1', evalOp G call lo i st' = some (r.as s1') ∧ Like F st r.stt st' s1' := by
  obtain ⟨hc1, hc2, hc3⟩ := hc
  cases i <;> try exact hi.elim
  case len x kd =>
    cases kd <;> try exact hi.elim
    simp only [foot, Option.some.injEq] at hf; subst hf
    have h1 := (opd_on (x := x) hc1).1
    simp only [evalOp, h1] at h ⊢
    split at h
    · contradiction
    · contradiction
    · cases ret1_some h; exact ⟨st', rfl, Like.same rfl rfl⟩
    · rename_i id _ hv
      cases ho : st.hp[id]? with
      | none => simp [ho] at h
      | some ob =>
        cases ob with
        | cells es => simp [ho] at h
        | map es =>
          have ho' := maps_at hc2 (.inl rfl) ho
          simp only [ho, ho'] at h ⊢
          cases ret1_some h; exact ⟨st', rfl, Like.same rfl rfl⟩
    · cases h
  case lookup kd m k z ok tk =>
    simp only [foot, Option.some.injEq] at hf; subst hf
    have h1 := (opd_on (x := m) hc1.left).1
    have h2 := (opd_on (x := k) hc1.right).1
    simp only [evalOp, h1, h2] at h ⊢
    split at h
    · rename_i id hv
      cases ho : st.hp[id]? with
      | none => simp [ho] at h
      | some ob =>
        cases ob with
        | cells es => simp [ho] at h
        | map es =>
          have ho' := maps_at hc2 (.inl rfl) ho
          simp only [ho, ho'] at h ⊢
          split at h
          · cases h
          · rename_i hp
            rw [if_neg hp]
            split at h
            · rename_i j v hfk
              cases tk with
              | true =>
                have hh := hc3 (by simp)
                simp only [if_true] at h ⊢
                split at h
                · rename_i hlv; cases ret1_some h
                  refine ⟨{ st' with hp := st.hp.set id (.map (es.set j ((es.getD j default).1, v.cp))) }, by rw [if_pos hlv, hh]; rfl, ?_⟩
                  exact Like.hpset (Moved.refl _ _) (by simp) (fun _ => rfl) (keep_set_map ho)
                · cases h
              | false =>
                simp only [Bool.false_eq_true, if_false] at h ⊢
                cases ret1_some h
                exact ⟨st', rfl, Like.same rfl (by simp)⟩
            · cases ret1_some h
              refine ⟨st', rfl, ?_⟩
              exact ⟨Moved.refl _ _, fun _ => rfl, fun e => e, by cases tk <;> simp [HpKeep, OpR.stt, HpOn]⟩
            · cases h
    · rename_i hv
      split at h
      · cases h
      · rename_i hp
        rw [if_neg hp]
        simp only [findKey] at h ⊢
        cases ret1_some h
        refine ⟨st', rfl, ?_⟩
        exact ⟨Moved.refl _ _, fun _ => rfl, fun e => e, by cases tk <;> simp [HpKeep, OpR.stt, HpOn]⟩
    · cases h
  case mapset kd m k v z =>
    simp only [foot, Option.some.injEq] at hf; subst hf
    obtain ⟨h1, h2⟩ := opd_on (x := v) hc1.left
    have h3 := (opd_on (x := m) (hc1.right.left.moved h2)).1
    have h4 := (opd_on (x := k) (hc1.right.right.moved h2)).1
    have hh := hc3 (by simp)
    simp only [evalOp, h1, h3, h4, hh] at h ⊢
    split at h
    · cases h
    · rename_i hp
      rw [if_neg hp]
      split at h
      · rename_i id hv
        cases ho : st.hp[id]? with
        | none => simp [ho] at h
        | some ob =>
          cases ob with
          | cells es => simp [ho] at h
          | map es =>
            simp only [ho] at h ⊢
            split at h
            · rename_i hlo
              rw [if_pos hlo]
              split at h
              · cases ret1_some h
                exact ⟨{ fr := (opd st'.fr v).2, hp := _ }, rfl, Like.hpset h2 (by simp) (fun _ => rfl) (keep_set_map ho)⟩
              · cases ret1_some h
                exact ⟨{ fr := (opd st'.fr v).2, hp := _ }, rfl, Like.hpset h2 (by simp) (fun _ => rfl) (keep_set_map ho)⟩
              · cases h
            · cases h
      · cases h

theorem like_op_all {i : IOp} (hq : CallQ call) (hf : foot i = some F) (hc : ClearF F st st') {r : OpR} (h : evalOp G call lo i st = some r)
    (hi : match i with | .alloc true _ | .box true _ | .mkmap | .call .. => True | _ => False) :
    ∃ s1', evalOp G call lo i st' = some (r.as s1') ∧ Like F st r.stt st' s1' := by
  obtain ⟨hc1, hc2, hc3⟩ := hc
  cases i <;> try exact hi.elim
  case mkmap =>
    simp only [foot, Option.some.injEq] at hf; subst hf
    simp only [HpOn] at hc2
    simp only [evalOp, hc2] at h ⊢
    cases ret1_some h
    exact ⟨{ st' with hp := _ }, rfl, Like.hpset (Moved.refl _ _) (by simp) (fun _ => rfl) trivial⟩
  case alloc heap cs =>
    cases heap
    · exact hi.elim
    · simp only [foot, if_true, Option.some.injEq] at hf; subst hf
      simp only [HpOn] at hc2
      simp only [evalOp, if_true, hc2] at h ⊢
      cases ret1_some h
      exact ⟨{ st' with hp := _ }, rfl, Like.hpset (Moved.refl _ _) (by simp) (fun _ => rfl) trivial⟩
  case box heap x =>
    cases heap
    · exact hi.elim
    · simp only [foot, if_true, Option.some.injEq] at hf; subst hf
      simp only [HpOn] at hc2
      obtain ⟨h1, h2⟩ := opd_on (x := x) hc1
      simp only [evalOp, if_true, hc2, h1] at h ⊢
      split at h
      · cases h
      · rename_i hp
        cases ret1_some h
        exact ⟨{ fr := (opd st'.fr x).2, hp := _ }, by rw [if_neg hp]; rfl, Like.hpset h2 (by simp) (fun _ => rfl) trivial⟩
  case call f xs q =>
    simp only [foot, Option.some.injEq] at hf; subst hf
    simp only [HpOn] at hc2
    obtain ⟨h1, h2⟩ := opds_on (xs := xs) hc1.left
    have h3 := (opd_on (x := f) (hc1.right.moved h2)).1
    simp only [evalOp, hc2, h1, h3] at h ⊢
    split at h
    · cases h
    · rename_i hp
      rw [if_neg hp]
      split at h
      · rename_i fid caps hv
        split at h
        · cases h
        · rename_i hpc
          rw [if_neg hpc]
          have fin : ∀ (hp1 : List HObj), (q = true → hp1 = st.hp) → Like ⟨opdsR xs ++ opdR f, opdsW xs, .all, if q then .no else .all⟩ st ⟨(opds st.fr xs).2, hp1⟩ st' ⟨(opds st'.fr xs).2, hp1⟩ := fun hp1 e => by
            cases q with
            | true => 
              have := e rfl; subst this
              exact ⟨h2, fun _ => hc2.symm, fun _ => rfl, rfl⟩
            | false => exact ⟨h2, (fun e => by simp at e), fun _ => rfl, trivial⟩
          split at h
          · rename_i v hp1 hcall; cases ret1_some h
            exact ⟨⟨(opds st'.fr xs).2, hp1⟩, rfl, fin hp1 fun e => by subst e; exact hq _ _ _ _ _ hcall⟩
          · rename_i v hp1 hcall; cases h
            exact ⟨⟨(opds st'.fr xs).2, hp1⟩, rfl, fin hp1 fun e => by subst e; exact hq _ _ _ _ _ hcall⟩
          · cases h
      · cases h

theorem like_op {i : IOp} (hq : CallQ call) (hf : foot i = some F) (hc : ClearF F st st') {r : OpR} (h : evalOp G call lo i st = some r) :
    ∃ s1', evalOp G call lo i st' = some (r.as s1') ∧ Like F st r.stt st' s1' := by
  cases i
  case load => exact like_op_load hf hc h
  case store => exact like_op_store hf hc h
  case iaddrL => exact like_op_iaddrL hf hc.1 h
  case lookup => exact like_op_maps hf hc h trivial
  case mapset => exact like_op_maps hf hc h trivial
  case mkmap => exact like_op_all hq hf hc h trivial
  case call => exact like_op_all hq hf hc h trivial
  case panic => simp [foot] at hf
  case alloc heap cs => cases heap <;> first | exact like_op_all hq hf hc h trivial | exact like_op_take hf hc.1 h trivial
  case box heap x => cases heap <;> first | exact like_op_all hq hf hc h trivial | exact like_op_take hf hc.1 h trivial
  case len x kd => cases kd <;> first | exact like_op_maps hf hc h trivial | exact like_op_pure hf hc.1 h trivial
  all_goals first
    | exact like_op_pure hf hc.1 h trivial
    | exact like_op_take hf hc.1 h trivial
end
end Go.Proofs.Ytajlmldpbhendaa.Rf
