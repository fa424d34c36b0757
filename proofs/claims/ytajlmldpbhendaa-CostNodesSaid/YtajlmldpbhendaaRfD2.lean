/- An operation does the like where what it reads is the like. -/
import Derived.Test.YtajlmldpbhendaaRfD1
set_option linter.unusedSimpArgs false
set_option linter.unusedVariables false
namespace Go.Proofs.Ytajlmldpbhendaa.Rf

/-- the same answer, from another state -/
def OpR.as (r : OpR) (s : St) : OpR :=
  match r with
  | .val v _ => .val v s
  | .pan v _ => .pan v s
section
variable {G : Nat → Option (List AV)} {call : CallF} {lo : Nat} {st st' : St} {F : Foot}

theorem cells_at {k : HpK} {hp hp' : List HObj} (h : HpOn k hp hp') (hk : k = .cells ∨ k = .all) {id : Nat} {cs : List AV} (e : hp[id]? = some (.cells cs)) : hp'[id]? = some (.cells cs) := by
  rcases hk with rfl | rfl
  · exact (h id cs).1 e
  · simp only [HpOn] at h; rw [h]; exact e
theorem maps_at {k : HpK} {hp hp' : List HObj} (h : HpOn k hp hp') (hk : k = .maps ∨ k = .all) {id : Nat} {cs : List (AV × AV)} (e : hp[id]? = some (.map cs)) : hp'[id]? = some (.map cs) := by
  rcases hk with rfl | rfl
  · exact (h id cs).1 e
  · simp only [HpOn] at h; rw [h]; exact e
theorem keep_set_map {hp : List HObj} {id : Nat} {es es' : List (AV × AV)} (h : hp[id]? = some (.map es)) : HpOn .cells hp (hp.set id (.map es')) := fun i cs => by
  rw [List.getElem?_set]
  by_cases e : id = i
  · subst e; simp only [if_true]; rw [h]; simp
  · rw [if_neg e]
theorem keep_set_cells {hp : List HObj} {id : Nat} {es es' : List AV} (h : hp[id]? = some (.cells es)) : HpOn .maps hp (hp.set id (.cells es')) := fun i cs => by
  rw [List.getElem?_set]
  by_cases e : id = i
  · subst e; simp only [if_true]; rw [h]; simp
  · rw [if_neg e]


theorem like_op_pure {i : IOp} (hf : foot i = some F) (hc : FrOn F.rd st.fr st'.fr) {r : OpR} (h : evalOp G call lo i st = some r)
    (hi : match i with | .pick .. | .nilchk _ | .bin .. | .eq .. | .un .. | .conv .. | .sconv _ | .faddr .. | .field .. | .idxS .. | .konst _ | .min .. | .max .. | .assert .. | .iaddrA .. | .slcS .. | .slcL .. | .len _ .list | .len _ .str => True | _ => False) :
    ∃ s1', evalOp G call lo i st' = some (r.as s1') ∧ Like F st r.stt st' s1' := by
  cases i <;> try exact hi.elim
  case pick c a b =>
    simp only [foot, Option.some.injEq] at hf; subst hf
    have h1 := (opd_on (x := c) hc.left).1
    have h2 := (opd_on (x := a) hc.right.left).1
    have h3 := (opd_on (x := b) hc.right.right).1
    simp only [evalOp, h1, h2, h3] at h ⊢
    repeat' split at h
    all_goals first
      | (cases h; done)
      | (exfalso; contradiction)
      | (cases ret1_some h
         refine ⟨st', ?_, Like.same rfl rfl⟩
         simp only [OpR.as, ret1, *, if_true, if_false, and_self]
         first | done | rfl)
  case nilchk x =>
    simp only [foot, Option.some.injEq] at hf; subst hf
    have h1 := (opd_on (x := x) hc).1
    simp only [evalOp, h1] at h ⊢
    repeat' split at h
    all_goals first
      | (cases h; done)
      | (exfalso; contradiction)
      | (cases ret1_some h
         refine ⟨st', ?_, Like.same rfl rfl⟩
         simp only [OpR.as, ret1, *, if_true, if_false, and_self]
         first | done | rfl)
  case bin op x y =>
    simp only [foot, Option.some.injEq] at hf; subst hf
    have h1 := (opd_on (x := x) hc.left).1
    have h2 := (opd_on (x := y) hc.right).1
    simp only [evalOp, h1, h2] at h ⊢
    repeat' split at h
    all_goals first
      | (cases h; done)
      | (exfalso; contradiction)
      | (cases ret1_some h
         refine ⟨st', ?_, Like.same rfl rfl⟩
         simp only [OpR.as, ret1, *, if_true, if_false, and_self]
         first | done | rfl)
  case eq n k x y =>
    simp only [foot, Option.some.injEq] at hf; subst hf
    have h1 := (opd_on (x := x) hc.left).1
    have h2 := (opd_on (x := y) hc.right).1
    simp only [evalOp, h1, h2] at h ⊢
    repeat' split at h
    all_goals first
      | (cases h; done)
      | (exfalso; contradiction)
      | (cases ret1_some h
         refine ⟨st', ?_, Like.same rfl rfl⟩
         simp only [OpR.as, ret1, *, if_true, if_false, and_self]
         first | done | rfl)
  case un op x =>
    simp only [foot, Option.some.injEq] at hf; subst hf
    have h1 := (opd_on (x := x) hc).1
    simp only [evalOp, h1] at h ⊢
    repeat' split at h
    all_goals first
      | (cases h; done)
      | (exfalso; contradiction)
      | (cases ret1_some h
         refine ⟨st', ?_, Like.same rfl rfl⟩
         simp only [OpR.as, ret1, *, if_true, if_false, and_self]
         first | done | rfl)
  case conv op x =>
    simp only [foot, Option.some.injEq] at hf; subst hf
    have h1 := (opd_on (x := x) hc).1
    simp only [evalOp, h1] at h ⊢
    repeat' split at h
    all_goals first
      | (cases h; done)
      | (exfalso; contradiction)
      | (cases ret1_some h
         refine ⟨st', ?_, Like.same rfl rfl⟩
         simp only [OpR.as, ret1, *, if_true, if_false, and_self]
         first | done | rfl)
  case sconv x =>
    simp only [foot, Option.some.injEq] at hf; subst hf
    have h1 := (opd_on (x := x) hc).1
    simp only [evalOp, h1] at h ⊢
    repeat' split at h
    all_goals first
      | (cases h; done)
      | (exfalso; contradiction)
      | (cases ret1_some h
         refine ⟨st', ?_, Like.same rfl rfl⟩
         simp only [OpR.as, ret1, *, if_true, if_false, and_self]
         first | done | rfl)
  case faddr x o =>
    simp only [foot, Option.some.injEq] at hf; subst hf
    have h1 := (opd_on (x := x) hc).1
    simp only [evalOp, h1] at h ⊢
    repeat' split at h
    all_goals first
      | (cases h; done)
      | (exfalso; contradiction)
      | (cases ret1_some h
         refine ⟨st', ?_, Like.same rfl rfl⟩
         simp only [OpR.as, ret1, *, if_true, if_false, and_self]
         first | done | rfl)
  case field x o n a =>
    simp only [foot, Option.some.injEq] at hf; subst hf
    have h1 := (opd_on (x := x) hc).1
    simp only [evalOp, h1] at h ⊢
    repeat' split at h
    all_goals first
      | (cases h; done)
      | (exfalso; contradiction)
      | (cases ret1_some h
         refine ⟨st', ?_, Like.same rfl rfl⟩
         simp only [OpR.as, ret1, *, if_true, if_false, and_self]
         first | done | rfl)
  case idxS x y =>
    simp only [foot, Option.some.injEq] at hf; subst hf
    have h1 := (opd_on (x := x) hc.left).1
    have h2 := (opd_on (x := y) hc.right).1
    simp only [evalOp, h1, h2] at h ⊢
    repeat' split at h
    all_goals first
      | (cases h; done)
      | (exfalso; contradiction)
      | (cases ret1_some h
         refine ⟨st', ?_, Like.same rfl rfl⟩
         simp only [OpR.as, ret1, *, if_true, if_false, and_self]
         first | done | rfl)
  case konst v =>
    simp only [foot, Option.some.injEq] at hf; subst hf
    simp only [evalOp] at h ⊢
    repeat' split at h
    all_goals first
      | (cases h; done)
      | (exfalso; contradiction)
      | (cases ret1_some h
         refine ⟨st', ?_, Like.same rfl rfl⟩
         simp only [OpR.as, ret1, *, if_true, if_false, and_self]
         first | done | rfl)
  case min x y =>
    simp only [foot, Option.some.injEq] at hf; subst hf
    have h1 := (opd_on (x := x) hc.left).1
    have h2 := (opd_on (x := y) hc.right).1
    simp only [evalOp, h1, h2] at h ⊢
    repeat' split at h
    all_goals first
      | (cases h; done)
      | (exfalso; contradiction)
      | (cases ret1_some h
         refine ⟨st', ?_, Like.same rfl rfl⟩
         simp only [OpR.as, ret1, *, if_true, if_false, and_self]
         first | done | rfl)
  case max x y =>
    simp only [foot, Option.some.injEq] at hf; subst hf
    have h1 := (opd_on (x := x) hc.left).1
    have h2 := (opd_on (x := y) hc.right).1
    simp only [evalOp, h1, h2] at h ⊢
    repeat' split at h
    all_goals first
      | (cases h; done)
      | (exfalso; contradiction)
      | (cases ret1_some h
         refine ⟨st', ?_, Like.same rfl rfl⟩
         simp only [OpR.as, ret1, *, if_true, if_false, and_self]
         first | done | rfl)
  case assert x t z ok =>
    simp only [foot, Option.some.injEq] at hf; subst hf
    have h1 := (opd_on (x := x) hc).1
    simp only [evalOp, h1] at h ⊢
    repeat' split at h
    all_goals first
      | (cases h; done)
      | (exfalso; contradiction)
      | (cases ret1_some h
         refine ⟨st', ?_, Like.same rfl rfl⟩
         simp only [OpR.as, ret1, *, if_true, if_false, and_self]
         first | done | rfl)
  case iaddrA x y len sz =>
    simp only [foot, Option.some.injEq] at hf; subst hf
    have h1 := (opd_on (x := x) hc.left).1
    have h2 := (opd_on (x := y) hc.right).1
    simp only [evalOp, h1, h2] at h ⊢
    repeat' split at h
    all_goals first
      | (cases h; done)
      | (exfalso; contradiction)
      | (cases ret1_some h
         refine ⟨st', ?_, Like.same rfl rfl⟩
         simp only [OpR.as, ret1, *, if_true, if_false, and_self]
         first | done | rfl)
  case slcS x a b =>
    simp only [foot, Option.some.injEq] at hf; subst hf
    have h1 := (opd_on (x := x) hc.left).1
    have h2 := fun d => bound_on (x := a) hc.right.left d
    have h3 := fun d => bound_on (x := b) hc.right.right d
    simp only [evalOp, h1, h2, h3] at h ⊢
    repeat' split at h
    all_goals first
      | (cases h; done)
      | (exfalso; contradiction)
      | (cases ret1_some h
         refine ⟨st', ?_, Like.same rfl rfl⟩
         simp only [OpR.as, ret1, *, if_true, if_false, and_self]
         first | done | rfl)
  case slcL x a b sz =>
    simp only [foot, Option.some.injEq] at hf; subst hf
    have h1 := (opd_on (x := x) hc.left).1
    have h2 := fun d => bound_on (x := a) hc.right.left d
    have h3 := fun d => bound_on (x := b) hc.right.right d
    simp only [evalOp, h1, h2, h3] at h ⊢
    repeat' split at h
    all_goals first
      | (cases h; done)
      | (exfalso; contradiction)
      | (cases ret1_some h
         refine ⟨st', ?_, Like.same rfl rfl⟩
         simp only [OpR.as, ret1, *, if_true, if_false, and_self]
         first | done | rfl)
  case len x kd =>
    cases kd <;> first | exact hi.elim | (
      simp only [foot, Option.some.injEq] at hf; subst hf
      have h1 := (opd_on (x := x) hc).1
      simp only [evalOp, h1] at h ⊢
      repeat' split at h
      all_goals first
        | (cases h; done)
        | (exfalso; contradiction)
        | (cases ret1_some h
           refine ⟨st', ?_, Like.same rfl rfl⟩
           simp only [OpR.as, ret1, *, if_true, if_false, and_self]
           first | done | rfl))

theorem like_op_take {i : IOp} (hf : foot i = some F) (hc : FrOn F.rd st.fr st'.fr) {r : OpR} (h : evalOp G call lo i st = some r)
    (hi : match i with | .mv _ | .build .. | .bslice .. | .mkiface .. | .mkfunc .. | .extract .. | .append .. | .alloc false _ | .box false _ => True | _ => False) :
    ∃ s1', evalOp G call lo i st' = some (r.as s1') ∧ Like F st r.stt st' s1' := by
  cases i <;> try exact hi.elim
  case mv x =>
    simp only [foot, Option.some.injEq] at hf; subst hf
    obtain ⟨h1, h2⟩ := opd_on (x := x) hc
    simp only [evalOp] at h ⊢
    cases ret1_some h
    exact ⟨_, by rw [h1]; rfl, Like.take h2 rfl⟩
  case mkiface t x =>
    simp only [foot, Option.some.injEq] at hf; subst hf
    obtain ⟨h1, h2⟩ := opd_on (x := x) hc
    simp only [evalOp, h1] at h ⊢
    split at h
    · rename_i hp; cases ret1_some h
      exact ⟨_, by rw [if_pos hp]; rfl, Like.take h2 rfl⟩
    · cases h
  case extract x i =>
    simp only [foot, Option.some.injEq] at hf; subst hf
    obtain ⟨h1, h2⟩ := opd_on (x := x) hc
    simp only [evalOp, h1] at h ⊢
    split at h
    · rename_i vs hv
      split at h
      · rename_i u hu
        split at h
        · rename_i hp; cases ret1_some h
          exact ⟨_, by simp only [hv, hu, if_pos hp]; rfl, Like.take h2 rfl⟩
        · cases h
      · cases h
    · cases h
  case mkfunc f xs =>
    simp only [foot, Option.some.injEq] at hf; subst hf
    obtain ⟨h1, h2⟩ := opds_on (xs := xs) hc
    simp only [evalOp, h1] at h ⊢
    split at h
    · rename_i hp; cases ret1_some h
      exact ⟨_, by rw [if_pos hp]; rfl, Like.take h2 rfl⟩
    · cases h
  case build zs ps =>
    simp only [foot, Option.some.injEq] at hf; subst hf
    obtain ⟨h1, h2⟩ := opds_on (xs := ps.map (·.2.2)) hc
    simp only [evalOp, h1] at h ⊢
    split at h
    · cases h
    · rename_i hp
      split at h
      · rename_i cs hcs; cases ret1_some h
        exact ⟨_, by rw [if_neg hp]; rfl, Like.take h2 rfl⟩
      · cases h
  case bslice z n ps =>
    simp only [foot, Option.some.injEq] at hf; subst hf
    obtain ⟨h1, h2⟩ := opds_on (xs := ps.map (·.2)) hc
    simp only [evalOp, h1] at h ⊢
    split at h
    · cases h
    · rename_i hp
      split at h
      · rename_i cs hcs; cases ret1_some h
        exact ⟨_, by rw [if_neg hp]; rfl, Like.take h2 rfl⟩
      · cases h
  case append x y sz bytes pend =>
    simp only [foot, Option.some.injEq] at hf; subst hf
    obtain ⟨h1, h2⟩ := opd_on (x := x) hc.left
    have h3 := (opd_on (x := y) (hc.right.moved h2)).1
    simp only [evalOp, h1, h3] at h ⊢
    split at h
    · rename_i xs o hv
      split at h
      · rename_i hown
        split at h
        · rename_i ys o2 hy
          split at h
          · rename_i hb
            split at h
            · rename_i hpd
              split at h
              · rename_i h1'; cases ret1_some h
                exact ⟨_, by rw [if_pos hown, if_pos hb, if_pos hpd, if_pos h1']; rfl, Like.take h2 rfl⟩
              · cases h
            · rename_i hpd; cases ret1_some h
              exact ⟨_, by rw [if_pos hown, if_pos hb, if_neg hpd]; rfl, Like.take h2 rfl⟩
          · cases h
        · rename_i sx hy
          split at h
          · rename_i hb; cases ret1_some h
            exact ⟨_, by rw [if_pos hown, if_pos hb]; rfl, Like.take h2 rfl⟩
          · cases h
        · cases h
      · cases h
    · cases h
  case alloc heap cs =>
    cases heap
    · simp only [foot, Bool.false_eq_true, if_false, Option.some.injEq] at hf; subst hf
      simp only [evalOp, Bool.false_eq_true, if_false] at h ⊢
      cases ret1_some h
      exact ⟨st', rfl, Like.same rfl rfl⟩
    · exact hi.elim
  case box heap x =>
    cases heap
    · simp only [foot, Bool.false_eq_true, if_false, Option.some.injEq] at hf; subst hf
      obtain ⟨h1, h2⟩ := opd_on (x := x) hc
      simp only [evalOp, h1, Bool.false_eq_true, if_false] at h ⊢
      split at h
      · cases h
      · rename_i hp
        cases ret1_some h
        exact ⟨_, by rw [if_neg hp]; rfl, Like.take h2 rfl⟩
    · exact hi.elim

theorem like_op_iaddrL {x i : Opd} {sz : Nat} (hf : foot (.iaddrL x i sz) = some F) (hc : FrOn F.rd st.fr st'.fr) {r : OpR} (h : evalOp G call lo (.iaddrL x i sz) st = some r) : ∃ s1', evalOp G call lo (.iaddrL x i sz) st' = some (r.as s1') ∧ Like F st r.stt st' s1' := by
  simp only [foot, Option.some.injEq] at hf; subst hf
  have h1 := (opd_on (x := x) hc.left).1
  have h2 := (opd_on (x := i) hc.right).1
  cases x with
  | t s tk =>
    have h3 : st'.fr.get s = st.fr.get s := hc s (by simp [opdR])
    simp only [evalOp, h1, h2, h3] at h ⊢
    repeat' split at h
    all_goals first
      | (cases h; done)
      | (cases ret1_some h
         try injections
         subst_vars
         refine ⟨st', ?_, Like.same rfl rfl⟩
         simp only [OpR.as, ret1, *, if_true, if_false, and_self]
         first | done | rfl)
  | c v =>
    simp only [evalOp, h1, h2] at h ⊢
    repeat' split at h
    all_goals first
      | (cases h; done)
      | (exfalso; contradiction)
      | (cases ret1_some h
         refine ⟨st', ?_, Like.same rfl rfl⟩
         simp only [OpR.as, ret1, *, if_true, if_false, and_self]
         first | done | rfl)
  | g v =>
    simp only [evalOp, h1, h2] at h ⊢
    repeat' split at h
    all_goals first
      | (cases h; done)
      | (exfalso; contradiction)
      | (cases ret1_some h
         refine ⟨st', ?_, Like.same rfl rfl⟩
         simp only [OpR.as, ret1, *, if_true, if_false, and_self]
         first | done | rfl)
  | f v =>
    simp only [evalOp, h1, h2] at h ⊢
    repeat' split at h
    all_goals first
      | (cases h; done)
      | (exfalso; contradiction)
      | (cases ret1_some h
         refine ⟨st', ?_, Like.same rfl rfl⟩
         simp only [OpR.as, ret1, *, if_true, if_false, and_self]
         first | done | rfl)
end
end Go.Proofs.Ytajlmldpbhendaa.Rf
