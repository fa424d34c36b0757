/- A part of the proof: see the last text. -/
import Derived.Test.YtkofimhnehkdoaaGreatDoorRbG10
set_option linter.unusedVariables false
set_option linter.unusedSimpArgs false
section
namespace Go.Proofs.YtkofimhnehkdoaaGreatDoor.Rf
def OpR.as (r:OpR) (s:St) : OpR :=
 match r with
 | .val v _ => .val v s
 | .pan v _ => .pan v s
section
variable {G:Nat → Option (List AV)} {call:CallF} {lo:Nat} {st st' : St} {F:Foot}
theorem cells_at {k:HpK} {hp hp' : List HObj} (h:HpOn k hp hp') (hk:k = .cells ∨ k = .all) {id:Nat} {ty:Nat} {cs:List AV} (e:hp[id]? = some (.cells ty cs)) : hp'[id]? = some (.cells ty cs) := by
 rcases hk with rfl | rfl
 · exact (h id ty cs).1 e
 · simp only [HpOn] at h; rw [h]; exact e
theorem maps_at {k:HpK} {hp hp' : List HObj} (h:HpOn k hp hp') (hk:k = .maps ∨ k = .all) {id:Nat} {cs:List (AV × AV)} (e:hp[id]? = some (.map cs)) : hp'[id]? = some (.map cs) := by
 rcases hk with rfl | rfl
 · exact (h id cs).1 e
 · simp only [HpOn] at h; rw [h]; exact e
theorem keep_set_map {hp:List HObj} {id:Nat} {es es' : List (AV × AV)} (h:hp[id]? = some (.map es)) : HpOn .cells hp (hp.set id (.map es')) := fun i ty cs => by
 rw [List.getElem?_set]
 by_cases e : id = i
 · subst e; simp only [if_true]; rw [h]; simp
 · rw [if_neg e]
theorem keep_set_cells {hp:List HObj} {id:Nat} {ty:Nat} {es es' : List AV} (h:hp[id]? = some (.cells ty es)) : HpOn .maps hp (hp.set id (.cells ty es')) := fun i cs => by
 rw [List.getElem?_set]
 by_cases e : id = i
 · subst e; simp only [if_true]; rw [h]; simp
 · rw [if_neg e]
theorem like_op_pure {i:IOp} (hf:foot i = some F) (hc:FrOn F.rd st.fr st'.fr) {r:OpR} (h:evalOp G call lo i st = some r)
   (hi:match i with | .pick .. | .nilchk _ | .bin .. | .eq .. | .un .. | .conv .. | .sconv _ | .faddr .. | .field .. | .idxS .. | .konst _ | .min .. | .max .. | .assert .. | .iaddrA .. | .slcS .. | .slcL .. | .len _ .list | .len _ .str | .sdata .. | .bytesS _ | .idxB .. | .ident .. | .mkslice .. => True | _ => False) :
   ∃ s1',evalOp G call lo i st' = some (r.as s1') ∧ Like F st r.stt st' s1' := by
 cases i <;> try exact hi.elim
 case pick c a b =>
   simp only [foot,Option.some.injEq] at hf; subst hf
   have h1 := (opd_on (x := c) hc.left).1
   have h2 := (opd_on (x := a) hc.right.left).1
   have h3 := (opd_on (x := b) hc.right.right).1
   simp only [evalOp,h1,h2,h3] at h ⊢
   repeat' split at h
   all_goals first
     | (cases h; done)
     | (exfalso; contradiction)
     | (cases ret1_some h
        refine ⟨st',?_,Like.same rfl rfl⟩
        simp only [OpR.as,ret1, *,if_true,if_false,and_self]
        first | done | rfl)
 case nilchk x =>
   simp only [foot,Option.some.injEq] at hf; subst hf
   have h1 := (opd_on (x := x) hc).1
   simp only [evalOp,h1] at h ⊢
   repeat' split at h
   all_goals first
     | (cases h; done)
     | (exfalso; contradiction)
     | (cases ret1_some h
        refine ⟨st',?_,Like.same rfl rfl⟩
        simp only [OpR.as,ret1, *,if_true,if_false,and_self]
        first | done | rfl)
 case bin op x y =>
   simp only [foot,Option.some.injEq] at hf; subst hf
   have h1 := (opd_on (x := x) hc.left).1
   have h2 := (opd_on (x := y) hc.right).1
   simp only [evalOp,h1,h2] at h ⊢
   repeat' split at h
   all_goals first
     | (cases h; done)
     | (exfalso; contradiction)
     | (cases ret1_some h
        refine ⟨st',?_,Like.same rfl rfl⟩
        simp only [OpR.as,ret1, *,if_true,if_false,and_self]
        first | done | rfl)
 case eq n k x y =>
   simp only [foot,Option.some.injEq] at hf; subst hf
   have h1 := (opd_on (x := x) hc.left).1
   have h2 := (opd_on (x := y) hc.right).1
   simp only [evalOp,h1,h2] at h ⊢
   repeat' split at h
   all_goals first
     | (cases h; done)
     | (exfalso; contradiction)
     | (cases ret1_some h
        refine ⟨st',?_,Like.same rfl rfl⟩
        simp only [OpR.as,ret1, *,if_true,if_false,and_self]
        first | done | rfl)
 case un op x =>
   simp only [foot,Option.some.injEq] at hf; subst hf
   have h1 := (opd_on (x := x) hc).1
   simp only [evalOp,h1] at h ⊢
   repeat' split at h
   all_goals first
     | (cases h; done)
     | (exfalso; contradiction)
     | (cases ret1_some h
        refine ⟨st',?_,Like.same rfl rfl⟩
        simp only [OpR.as,ret1, *,if_true,if_false,and_self]
        first | done | rfl)
 case conv op x =>
   simp only [foot,Option.some.injEq] at hf; subst hf
   have h1 := (opd_on (x := x) hc).1
   simp only [evalOp,h1] at h ⊢
   repeat' split at h
   all_goals first
     | (cases h; done)
     | (exfalso; contradiction)
     | (cases ret1_some h
        refine ⟨st',?_,Like.same rfl rfl⟩
        simp only [OpR.as,ret1, *,if_true,if_false,and_self]
        first | done | rfl)
 case sconv x =>
   simp only [foot,Option.some.injEq] at hf; subst hf
   have h1 := (opd_on (x := x) hc).1
   simp only [evalOp,h1] at h ⊢
   repeat' split at h
   all_goals first
     | (cases h; done)
     | (exfalso; contradiction)
     | (cases ret1_some h
        refine ⟨st',?_,Like.same rfl rfl⟩
        simp only [OpR.as,ret1, *,if_true,if_false,and_self]
        first | done | rfl)
 case faddr x o =>
   simp only [foot,Option.some.injEq] at hf; subst hf
   have h1 := (opd_on (x := x) hc).1
   simp only [evalOp,h1] at h ⊢
   repeat' split at h
   all_goals first
     | (cases h; done)
     | (exfalso; contradiction)
     | (cases ret1_some h
        refine ⟨st',?_,Like.same rfl rfl⟩
        simp only [OpR.as,ret1, *,if_true,if_false,and_self]
        first | done | rfl)
 case field x o n a =>
   simp only [foot,Option.some.injEq] at hf; subst hf
   have h1 := (opd_on (x := x) hc).1
   simp only [evalOp,h1] at h ⊢
   repeat' split at h
   all_goals first
     | (cases h; done)
     | (exfalso; contradiction)
     | (cases ret1_some h
        refine ⟨st',?_,Like.same rfl rfl⟩
        simp only [OpR.as,ret1, *,if_true,if_false,and_self]
        first | done | rfl)
 case idxS x y =>
   simp only [foot,Option.some.injEq] at hf; subst hf
   have h1 := (opd_on (x := x) hc.left).1
   have h2 := (opd_on (x := y) hc.right).1
   simp only [evalOp,h1,h2] at h ⊢
   repeat' split at h
   all_goals first
     | (cases h; done)
     | (exfalso; contradiction)
     | (cases ret1_some h
        refine ⟨st',?_,Like.same rfl rfl⟩
        simp only [OpR.as,ret1, *,if_true,if_false,and_self]
        first | done | rfl)
 case konst v =>
   simp only [foot,Option.some.injEq] at hf; subst hf
   simp only [evalOp] at h ⊢
   repeat' split at h
   all_goals first
     | (cases h; done)
     | (exfalso; contradiction)
     | (cases ret1_some h
        refine ⟨st',?_,Like.same rfl rfl⟩
        simp only [OpR.as,ret1, *,if_true,if_false,and_self]
        first | done | rfl)
 case min x y =>
   simp only [foot,Option.some.injEq] at hf; subst hf
   have h1 := (opd_on (x := x) hc.left).1
   have h2 := (opd_on (x := y) hc.right).1
   simp only [evalOp,h1,h2] at h ⊢
   repeat' split at h
   all_goals first
     | (cases h; done)
     | (exfalso; contradiction)
     | (cases ret1_some h
        refine ⟨st',?_,Like.same rfl rfl⟩
        simp only [OpR.as,ret1, *,if_true,if_false,and_self]
        first | done | rfl)
 case max x y =>
   simp only [foot,Option.some.injEq] at hf; subst hf
   have h1 := (opd_on (x := x) hc.left).1
   have h2 := (opd_on (x := y) hc.right).1
   simp only [evalOp,h1,h2] at h ⊢
   repeat' split at h
   all_goals first
     | (cases h; done)
     | (exfalso; contradiction)
     | (cases ret1_some h
        refine ⟨st',?_,Like.same rfl rfl⟩
        simp only [OpR.as,ret1, *,if_true,if_false,and_self]
        first | done | rfl)
 case assert x t z ok =>
   simp only [foot,Option.some.injEq] at hf; subst hf
   have h1 := (opd_on (x := x) hc).1
   simp only [evalOp,h1] at h ⊢
   repeat' split at h
   all_goals first
     | (cases h; done)
     | (exfalso; contradiction)
     | (cases ret1_some h
        refine ⟨st',?_,Like.same rfl rfl⟩
        simp only [OpR.as,ret1, *,if_true,if_false,and_self]
        first | done | rfl)
 case iaddrA x y len sz =>
   simp only [foot,Option.some.injEq] at hf; subst hf
   have h1 := (opd_on (x := x) hc.left).1
   have h2 := (opd_on (x := y) hc.right).1
   simp only [evalOp,h1,h2] at h ⊢
   repeat' split at h
   all_goals first
     | (cases h; done)
     | (exfalso; contradiction)
     | (cases ret1_some h
        refine ⟨st',?_,Like.same rfl rfl⟩
        simp only [OpR.as,ret1, *,if_true,if_false,and_self]
        first | done | rfl)
 case slcS x a b =>
   simp only [foot,Option.some.injEq] at hf; subst hf
   have h1 := (opd_on (x := x) hc.left).1
   have h2 := fun d => bound_on (x := a) hc.right.left d
   have h3 := fun d => bound_on (x := b) hc.right.right d
   simp only [evalOp,h1,h2,h3] at h ⊢
   repeat' split at h
   all_goals first
     | (cases h; done)
     | (exfalso; contradiction)
     | (cases ret1_some h
        refine ⟨st',?_,Like.same rfl rfl⟩
        simp only [OpR.as,ret1, *,if_true,if_false,and_self]
        first | done | rfl)
 case slcL x a b sz =>
   simp only [foot,Option.some.injEq] at hf; subst hf
   have h1 := (opd_on (x := x) hc.left).1
   have h2 := fun d => bound_on (x := a) hc.right.left d
   have h3 := fun d => bound_on (x := b) hc.right.right d
   simp only [evalOp,h1,h2,h3] at h ⊢
   repeat' split at h
   all_goals first
     | (cases h; done)
     | (exfalso; contradiction)
     | (cases ret1_some h
        refine ⟨st',?_,Like.same rfl rfl⟩
        simp only [OpR.as,ret1, *,if_true,if_false,and_self]
        first | done | rfl)
 case sdata x e =>
   simp only [foot,Option.some.injEq] at hf; subst hf
   have h1 := (opd_on (x := x) hc).1
   simp only [evalOp,h1] at h ⊢
   clear hi
   generalize (opd st.fr x).1 = v at h ⊢
   cases v <;> try (cases h; done)
   rename_i xs o
   cases o <;> try (cases h; done)
   · cases ret1_some h; exact ⟨st',rfl,Like.same rfl rfl⟩
   · simp only at h ⊢
     split at h
     · rename_i hq; cases ret1_some h; exact ⟨st',by rw [if_pos hq]; rfl,Like.same rfl rfl⟩
     · cases h
 case bytesS x =>
   simp only [foot,Option.some.injEq] at hf; subst hf
   have h1 := (opd_on (x := x) hc).1
   simp only [evalOp,h1] at h ⊢
   repeat' split at h
   all_goals first
     | (cases h; done)
     | (exfalso; contradiction)
     | (cases ret1_some h
        refine ⟨st',?_,Like.same rfl rfl⟩
        simp only [OpR.as,ret1, *,if_true,if_false,and_self]
        first | done | rfl)
 case idxB f x y =>
   simp only [foot,Option.some.injEq] at hf; subst hf
   have h1 := (opd_on (x := x) hc.left).1
   have h2 := (opd_on (x := y) hc.right).1
   simp only [evalOp,h1,h2] at h ⊢
   repeat' split at h
   all_goals first
     | (cases h; done)
     | (exfalso; contradiction)
     | (cases ret1_some h
        refine ⟨st',?_,Like.same rfl rfl⟩
        simp only [OpR.as,ret1, *,if_true,if_false,and_self]
        first | done | rfl)
 case ident f x =>
   simp only [foot,Option.some.injEq] at hf; subst hf
   have h1 := (opd_on (x := x) hc).1
   simp only [evalOp,h1] at h ⊢
   repeat' split at h
   all_goals first
     | (cases h; done)
     | (exfalso; contradiction)
     | (cases ret1_some h
        refine ⟨st',?_,Like.same rfl rfl⟩
        simp only [OpR.as,ret1, *,if_true,if_false,and_self]
        first | done | rfl)
 case mkslice z e x y b =>
   simp only [foot,Option.some.injEq] at hf; subst hf
   have h1 := (opd_on (x := x) hc.left).1
   have h2 := (opd_on (x := y) hc.right).1
   simp only [evalOp,h1,h2] at h ⊢
   repeat' split at h
   all_goals first
     | (cases h; done)
     | (exfalso; contradiction)
     | (cases ret1_some h
        refine ⟨st',?_,Like.same rfl rfl⟩
        simp only [OpR.as,ret1, *,if_true,if_false,and_self]
        first | done | rfl)
 case len x kd =>
   cases kd <;> first | exact hi.elim | (
     simp only [foot,Option.some.injEq] at hf; subst hf
     have h1 := (opd_on (x := x) hc).1
     simp only [evalOp,h1] at h ⊢
     repeat' split at h
     all_goals first
       | (cases h; done)
       | (exfalso; contradiction)
       | (cases ret1_some h
          refine ⟨st',?_,Like.same rfl rfl⟩
          simp only [OpR.as,ret1, *,if_true,if_false,and_self]
          first | done | rfl))
theorem like_op_take {i:IOp} (hf:foot i = some F) (hc:FrOn F.rd st.fr st'.fr) {r:OpR} (h:evalOp G call lo i st = some r)
   (hi:match i with | .mv _ | .build .. | .bslice .. | .mkiface .. | .mkfunc .. | .extract .. | .append .. | .alloc false _ _ | .box false _ => True | _ => False) :
   ∃ s1',evalOp G call lo i st' = some (r.as s1') ∧ Like F st r.stt st' s1' := by
 cases i <;> try exact hi.elim
 case mv x =>
   simp only [foot,Option.some.injEq] at hf; subst hf
   obtain ⟨h1,h2⟩ := opd_on (x := x) hc
   simp only [evalOp] at h ⊢
   cases ret1_some h
   exact ⟨_,by rw [h1]; rfl,Like.take h2 rfl⟩
 case mkiface t x =>
   simp only [foot,Option.some.injEq] at hf; subst hf
   obtain ⟨h1,h2⟩ := opd_on (x := x) hc
   simp only [evalOp,h1] at h ⊢
   split at h
   · rename_i hp; cases ret1_some h
     exact ⟨_,by rw [if_pos hp]; rfl,Like.take h2 rfl⟩
   · cases h
 case extract x i =>
   simp only [foot,Option.some.injEq] at hf; subst hf
   obtain ⟨h1,h2⟩ := opd_on (x := x) hc
   simp only [evalOp,h1] at h ⊢
   split at h
   · rename_i vs hv
     split at h
     · rename_i u hu
       split at h
       · rename_i hp; cases ret1_some h
         exact ⟨_,by simp only [hv,hu,if_pos hp]; rfl,Like.take h2 rfl⟩
       · cases h
     · cases h
   · cases h
 case mkfunc f xs =>
   simp only [foot,Option.some.injEq] at hf; subst hf
   obtain ⟨h1,h2⟩ := opds_on (xs := xs) hc
   simp only [evalOp,h1] at h ⊢
   split at h
   · rename_i hp; cases ret1_some h
     exact ⟨_,by rw [if_pos hp]; rfl,Like.take h2 rfl⟩
   · cases h
 case build zs ps =>
   simp only [foot,Option.some.injEq] at hf; subst hf
   obtain ⟨h1,h2⟩ := opds_on (xs := ps.map (·.2.2)) hc
   simp only [evalOp,h1] at h ⊢
   split at h
   · cases h
   · rename_i hp
     split at h
     · rename_i cs hcs; cases ret1_some h
       exact ⟨_,by rw [if_neg hp]; rfl,Like.take h2 rfl⟩
     · cases h
 case bslice z e n ps =>
   simp only [foot,Option.some.injEq] at hf; subst hf
   obtain ⟨h1,h2⟩ := opds_on (xs := ps.map (·.2)) hc
   simp only [evalOp,h1] at h ⊢
   split at h
   · cases h
   · rename_i hp
     split at h
     · rename_i cs hcs; cases ret1_some h
       exact ⟨_,by rw [if_neg hp]; rfl,Like.take h2 rfl⟩
     · cases h
 case append x y sz e bytes pend =>
   simp only [foot,Option.some.injEq] at hf; subst hf
   obtain ⟨h1,h2⟩ := opd_on (x := x) hc.left
   have h3 := (opd_on (x := y) (hc.right.moved h2)).1
   simp only [evalOp,h1,h3] at h ⊢
   split at h
   · rename_i xs o hv
     split at h
     · rename_i hown
       split at h
       · rename_i ys o2 hy
         split at h
         · rename_i hb
           split at h
           · rename_i hpd
             split at h
             · rename_i h1'; cases ret1_some h
               exact ⟨_,by rw [if_pos hown,if_pos hb,if_pos hpd,if_pos h1']; rfl,Like.take h2 rfl⟩
             · cases h
           · rename_i hpd; cases ret1_some h
             exact ⟨_,by rw [if_pos hown,if_pos hb,if_neg hpd]; rfl,Like.take h2 rfl⟩
         · cases h
       · rename_i sx hy
         split at h
         · rename_i hb; cases ret1_some h
           exact ⟨_,by rw [if_pos hown,if_pos hb]; rfl,Like.take h2 rfl⟩
         · cases h
       · cases h
     · cases h
   · cases h
 case alloc heap ty cs =>
   cases heap
   · simp only [foot,Bool.false_eq_true,if_false,Option.some.injEq] at hf; subst hf
     simp only [evalOp,Bool.false_eq_true,if_false] at h ⊢
     cases ret1_some h
     exact ⟨st',rfl,Like.same rfl rfl⟩
   · exact hi.elim
 case box heap x =>
   cases heap
   · simp only [foot,Bool.false_eq_true,if_false,Option.some.injEq] at hf; subst hf
     obtain ⟨h1,h2⟩ := opd_on (x := x) hc
     simp only [evalOp,h1,Bool.false_eq_true,if_false] at h ⊢
     split at h
     · cases h
     · rename_i hp
       cases ret1_some h
       exact ⟨_,by rw [if_neg hp]; rfl,Like.take h2 rfl⟩
   · exact hi.elim
theorem like_op_iaddrL {x i:Opd} {sz:Nat} (hf:foot (.iaddrL x i sz) = some F) (hc:FrOn F.rd st.fr st'.fr) {r:OpR} (h:evalOp G call lo (.iaddrL x i sz) st = some r) : ∃ s1',evalOp G call lo (.iaddrL x i sz) st' = some (r.as s1') ∧ Like F st r.stt st' s1' := by
 simp only [foot,Option.some.injEq] at hf; subst hf
 have h1 := (opd_on (x := x) hc.left).1
 have h2 := (opd_on (x := i) hc.right).1
 cases x with
 | t s tk =>
   have h3 : st'.fr.get s = st.fr.get s := hc s (by simp [opdR])
   simp only [evalOp,h1,h2,h3] at h ⊢
   repeat' split at h
   all_goals first
     | (cases h; done)
     | (cases ret1_some h
        try injections
        subst_vars
        refine ⟨st',?_,Like.same rfl rfl⟩
        simp only [OpR.as,ret1, *,if_true,if_false,and_self]
        first | done | rfl)
 | c v =>
   simp only [evalOp,h1,h2] at h ⊢
   repeat' split at h
   all_goals first
     | (cases h; done)
     | (exfalso; contradiction)
     | (cases ret1_some h
        refine ⟨st',?_,Like.same rfl rfl⟩
        simp only [OpR.as,ret1, *,if_true,if_false,and_self]
        first | done | rfl)
 | g v =>
   simp only [evalOp,h1,h2] at h ⊢
   repeat' split at h
   all_goals first
     | (cases h; done)
     | (exfalso; contradiction)
     | (cases ret1_some h
        refine ⟨st',?_,Like.same rfl rfl⟩
        simp only [OpR.as,ret1, *,if_true,if_false,and_self]
        first | done | rfl)
 | f v =>
   simp only [evalOp,h1,h2] at h ⊢
   repeat' split at h
   all_goals first
     | (cases h; done)
     | (exfalso; contradiction)
     | (cases ret1_some h
        refine ⟨st',?_,Like.same rfl rfl⟩
        simp only [OpR.as,ret1, *,if_true,if_false,and_self]
        first | done | rfl)
end
end Go.Proofs.YtkofimhnehkdoaaGreatDoor.Rf
end
section
namespace Go.Proofs.YtkofimhnehkdoaaGreatDoor.Rf
section
variable {G:Nat → Option (List AV)} {call:CallF} {lo:Nat} {st st' : St} {F:Foot}
theorem Like.hpset {F:Foot} {fr1 fr1' : Fr} {hp1 hp1' : List HObj} (h:Moved F.wr st.fr fr1 st'.fr fr1') (hw:F.hw ≠ .no) (e:st'.hp = st.hp → hp1' = hp1) (k:HpKeep F.hw st.hp hp1) : Like F st ⟨fr1,hp1⟩ st' ⟨fr1',hp1'⟩ :=
 ⟨h,fun e => absurd e hw,e,k⟩
theorem like_op_load {x : Opd} {m:Mem} {n:Nat} {agg tk:Bool} (hf:foot (.load x m n agg tk) = some F) (hc:ClearF F st st') {r:OpR} (h:evalOp G call lo (.load x m n agg tk) st = some r) :
   ∃ s1',evalOp G call lo (.load x m n agg tk) st' = some (r.as s1') ∧ Like F st r.stt st' s1' := by
 obtain ⟨hc1,hc2,hc3⟩ := hc
 cases m with
 | last r0 => simp [foot] at hf
 | loc r0 =>
   simp only [foot,Option.some.injEq] at hf; subst hf
   have h1 := (opd_on (x := x) hc1.left).1
   have h2 : st'.fr.get r0 = st.fr.get r0 := hc1 r0 (by simp)
   simp only [evalOp,h1] at h ⊢
   split at h
   · cases h
   · rename_i hmm
     rw [if_neg hmm]
     cases hp : (opd st.fr x).1 <;> rw [hp] at h hmm <;> simp only [memOk,behind] at h hmm <;> try (simp at hmm; done)
     rename_i s off
     have hs : s = r0 := by simpa using hmm
     subst hs
     simp only [behind,h2,behindPut] at h ⊢
     split at h
     · rename_i cs off' hb
       split at h
       · rename_i l hl
         cases tk with
         | true =>
           simp only [if_true] at h ⊢
           split at h
           · rename_i hn; cases ret1_some h
             refine ⟨_,by rw [if_pos hn]; rfl,?_⟩
             exact Like.take (Moved.set _ _) rfl
           · cases h
         | false =>
           simp only [Bool.false_eq_true,if_false] at h ⊢
           cases ret1_some h
           exact ⟨st',rfl,Like.same rfl rfl⟩
       · cases h
     · cases h
 | elem =>
   simp only [foot,Option.some.injEq] at hf; subst hf
   have h1 := (opd_on (x := x) hc1).1
   simp only [evalOp,h1] at h ⊢
   split at h
   · cases h
   · rename_i hmm
     rw [if_neg hmm]
     cases hp : (opd st.fr x).1 <;> rw [hp] at h hmm <;> simp only [memOk,behind] at h hmm <;> try (simp at hmm; done)
     rename_i s off
     simp only [behind,behindPut] at h ⊢
     split at h
     · rename_i l hl
       cases tk with
       | true =>
         simp only [if_true] at h ⊢
         split at h <;> cases h
       | false =>
         simp only [Bool.false_eq_true,if_false] at h ⊢
         cases ret1_some h
         exact ⟨st',rfl,Like.same rfl rfl⟩
     · cases h
 | heap =>
   simp only [foot,Option.some.injEq] at hf; subst hf
   have h1 := (opd_on (x := x) hc1).1
   simp only [evalOp,h1] at h ⊢
   split at h
   · cases h
   · rename_i hmm
     rw [if_neg hmm]
     cases hp : (opd st.fr x).1 <;> rw [hp] at h hmm <;> simp only [memOk,behind] at h hmm <;> try (simp at hmm; done)
     case ptr id off =>
       cases ho : st.hp[id]? with
       | none => simp [ho] at h
       | some ob =>
         cases ob with
         | dead => simp [ho] at h
         | map es => simp [ho] at h
         | cells t0 ds =>
           have ho' := cells_at hc2 (.inl rfl) ho
           simp only [behind,behindPut,ho,ho'] at h ⊢
           split at h
           · rename_i l hl
             cases tk with
             | true =>
               have hh := hc3 (by simp)
               simp only [if_true] at h ⊢
               split at h
               · rename_i hn
                 split at h
                 · rename_i s1 hs1
                   split at hs1
                   · rename_i hlo; cases hs1; cases ret1_some h
                     refine ⟨{ st' with hp := st.hp.set id (.cells t0 (put ds off (l.map AV.cp1))) },by rw [if_pos hn,if_pos hlo,hh]; rfl,?_⟩
                     exact Like.hpset (Moved.refl _ _) (by simp) (fun _ => rfl) (keep_set_cells ho)
                   · cases hs1
                 · cases h
               · cases h
             | false =>
               simp only [Bool.false_eq_true,if_false] at h ⊢
               cases ret1_some h
               exact ⟨st',rfl,Like.same rfl (by simp)⟩
           · cases h
     case glob b off =>
       simp only [behind,behindPut] at h ⊢
       cases hG : G b with
       | none => simp [hG] at h
       | some cs =>
         simp only [hG,Option.map_some] at h ⊢
         split at h
         · rename_i l hl
           cases tk with
           | true =>
             simp only [if_true] at h ⊢
             split at h <;> cases h
           | false =>
             simp only [Bool.false_eq_true,if_false] at h ⊢
             cases ret1_some h
             exact ⟨st',rfl,Like.same rfl (by simp)⟩
         · cases h
theorem like_op_store {x v:Opd} {m:Mem} {n:Nat} (hf:foot (.store x m v n) = some F) (hc:ClearF F st st') {r:OpR} (h:evalOp G call lo (.store x m v n) st = some r) :
   ∃ s1',evalOp G call lo (.store x m v n) st' = some (r.as s1') ∧ Like F st r.stt st' s1' := by
 obtain ⟨hc1,hc2,hc3⟩ := hc
 cases m with
 | last r0 => simp [foot] at hf
 | elem => simp [foot] at hf
 | loc r0 =>
   simp only [foot,Option.some.injEq] at hf; subst hf
   obtain ⟨h1,h2⟩ := opd_on (x := v) hc1.left
   have h3 := (opd_on (x := x) (hc1.right.left.moved h2)).1
   have h4 : (opd st'.fr v).2.get r0 = (opd st.fr v).2.get r0 := (hc1.right.right.moved h2) r0 (by simp)
   simp only [evalOp,h1,h3] at h ⊢
   split at h
   · cases h
   · rename_i hmm
     rw [if_neg hmm]
     simp only [not_or,Bool.not_eq_false] at hmm
     cases hp : (opd (opd st.fr v).2 x).1 <;> rw [hp] at h hmm <;> simp only [memOk,behind] at h hmm <;> try (simp at hmm; done)
     rename_i s off
     have hs : s = r0 := by simpa using hmm.2
     subst hs
     simp only [behind,h4,behindPut] at h ⊢
     split at h
     · rename_i cs off' hb
       split at h
       · rename_i hl; cases ret1_some h
         refine ⟨_,by rw [if_pos hl]; rfl,?_⟩
         exact Like.take (F := ⟨_,opdW v ++ [s],_,_⟩) (h2.trans (Moved.set _ _)) rfl
       · cases h
     · cases h
 | heap =>
   simp only [foot,Option.some.injEq] at hf; subst hf
   obtain ⟨h1,h2⟩ := opd_on (x := v) hc1.left
   have h3 := (opd_on (x := x) (hc1.right.moved h2)).1
   have hh := hc3 (by simp)
   simp only [evalOp,h1,h3] at h ⊢
   split at h
   · cases h
   · rename_i hmm
     rw [if_neg hmm]
     simp only [not_or,Bool.not_eq_false] at hmm
     cases hp : (opd (opd st.fr v).2 x).1 <;> rw [hp] at h hmm <;> simp only [memOk,behind] at h hmm <;> try (simp at hmm; done)
     case ptr id off =>
       cases ho : st.hp[id]? with
       | none => simp [ho] at h
       | some ob =>
         cases ob with
         | dead => simp [ho] at h
         | map es => simp [ho] at h
         | cells t0 ds =>
           simp only [behind,behindPut,hh,ho] at h ⊢
           split at h
           · rename_i hl
             split at h
             · rename_i s1 hs1
               split at hs1
               · rename_i hlo; cases hs1; cases ret1_some h
                 refine ⟨{ fr := (opd st'.fr v).2,hp := st.hp.set id (.cells t0 (put ds off (opd st.fr v).1.spread)) },by rw [if_pos hl,if_pos hlo]; rfl,?_⟩
                 exact Like.hpset h2 (by simp) (fun _ => rfl) (keep_set_cells ho)
               · cases hs1
             · cases h
           · cases h
     case glob b off =>
       simp only [behind,behindPut] at h
       repeat' split at h
       all_goals first | (cases h; done) | (rename_i h9; cases h9; done)
theorem like_op_maps {i:IOp} (hf:foot i = some F) (hc:ClearF F st st') {r:OpR} (h:evalOp G call lo i st = some r)
   (hi:match i with | .lookup .. | .mapset .. | .len _ .map => True | _ => False) :
   ∃ s1',evalOp G call lo i st' = some (r.as s1') ∧ Like F st r.stt st' s1' := by
 obtain ⟨hc1,hc2,hc3⟩ := hc
 cases i <;> try exact hi.elim
 case len x kd =>
   cases kd <;> try exact hi.elim
   simp only [foot,Option.some.injEq] at hf; subst hf
   have h1 := (opd_on (x := x) hc1).1
   simp only [evalOp,h1] at h ⊢
   split at h
   · contradiction
   · contradiction
   · contradiction
   · cases ret1_some h; exact ⟨st',rfl,Like.same rfl rfl⟩
   · rename_i id _ hv
     cases ho : st.hp[id]? with
     | none => simp [ho] at h
     | some ob =>
       cases ob with
       | dead => simp [ho] at h
       | cells t0 es => simp [ho] at h
       | map es =>
         have ho' := maps_at hc2 (.inl rfl) ho
         simp only [ho,ho'] at h ⊢
         cases ret1_some h; exact ⟨st',rfl,Like.same rfl rfl⟩
   · cases h
 case lookup kd m k z ok tk =>
   simp only [foot,Option.some.injEq] at hf; subst hf
   have h1 := (opd_on (x := m) hc1.left).1
   have h2 := (opd_on (x := k) hc1.right).1
   simp only [evalOp,h1,h2] at h ⊢
   split at h
   · rename_i id hv
     cases ho : st.hp[id]? with
     | none => simp [ho] at h
     | some ob =>
       cases ob with
       | dead => simp [ho] at h
       | cells t0 es => simp [ho] at h
       | map es =>
         have ho' := maps_at hc2 (.inl rfl) ho
         simp only [ho,ho'] at h ⊢
         split at h
         · cases h
         · rename_i hp
           rw [if_neg hp]
           split at h
           · rename_i j v hfk
             cases tk with
             | true =>
               have hh := hc3 (by simp)
               simp only [if_true] at h ⊢
               split at h
               · rename_i hlv; cases ret1_some h
                 refine ⟨{ st' with hp := st.hp.set id (.map (es.set j ((es.getD j default).1,v.cp))) },by rw [if_pos hlv,hh]; rfl,?_⟩
                 exact Like.hpset (Moved.refl _ _) (by simp) (fun _ => rfl) (keep_set_map ho)
               · cases h
             | false =>
               simp only [Bool.false_eq_true,if_false] at h ⊢
               cases ret1_some h
               exact ⟨st',rfl,Like.same rfl (by simp)⟩
           · cases ret1_some h
             refine ⟨st',rfl,?_⟩
             exact ⟨Moved.refl _ _,fun _ => rfl,fun e => e,by cases tk <;> simp [HpKeep,OpR.stt,HpOn]⟩
           · cases h
   · rename_i hv
     split at h
     · cases h
     · rename_i hp
       rw [if_neg hp]
       simp only [findKey] at h ⊢
       cases ret1_some h
       refine ⟨st',rfl,?_⟩
       exact ⟨Moved.refl _ _,fun _ => rfl,fun e => e,by cases tk <;> simp [HpKeep,OpR.stt,HpOn]⟩
   · cases h
 case mapset kd m k v z =>
   simp only [foot,Option.some.injEq] at hf; subst hf
   obtain ⟨h1,h2⟩ := opd_on (x := v) hc1.left
   have h3 := (opd_on (x := m) (hc1.right.left.moved h2)).1
   have h4 := (opd_on (x := k) (hc1.right.right.moved h2)).1
   have hh := hc3 (by simp)
   simp only [evalOp,h1,h3,h4,hh] at h ⊢
   split at h
   · cases h
   · rename_i hp
     rw [if_neg hp]
     split at h
     · rename_i id hv
       cases ho : st.hp[id]? with
       | none => simp [ho] at h
       | some ob =>
         cases ob with
         | dead => simp [ho] at h
         | cells t0 es => simp [ho] at h
         | map es =>
           simp only [ho] at h ⊢
           split at h
           · rename_i hlo
             rw [if_pos hlo]
             split at h
             · cases ret1_some h
               exact ⟨{ fr := (opd st'.fr v).2,hp := _ },rfl,Like.hpset h2 (by simp) (fun _ => rfl) (keep_set_map ho)⟩
             · cases ret1_some h
               exact ⟨{ fr := (opd st'.fr v).2,hp := _ },rfl,Like.hpset h2 (by simp) (fun _ => rfl) (keep_set_map ho)⟩
             · cases h
           · cases h
     · cases h
theorem like_op_all {i:IOp} (hq:CallQ call) (hf:foot i = some F) (hc:ClearF F st st') {r:OpR} (h:evalOp G call lo i st = some r)
   (hi:match i with | .alloc true _ _ | .box true _ | .mkmap | .mkbuf .. | .ustr .. | .copyS .. | .appR .. | .call .. => True | _ => False) :
   ∃ s1',evalOp G call lo i st' = some (r.as s1') ∧ Like F st r.stt st' s1' := by
 obtain ⟨hc1,hc2,hc3⟩ := hc
 cases i <;> try exact hi.elim
 case mkmap =>
   simp only [foot,Option.some.injEq] at hf; subst hf
   simp only [HpOn] at hc2
   simp only [evalOp,hc2] at h ⊢
   cases ret1_some h
   exact ⟨{ st' with hp := _ },rfl,Like.hpset (Moved.refl _ _) (by simp) (fun _ => rfl) trivial⟩
 case ustr x y e =>
   simp only [foot,Option.some.injEq] at hf; subst hf
   simp only [HpOn] at hc2
   have h1 := (opd_on (x := x) hc1.left).1
   have h2 := (opd_on (x := y) hc1.right).1
   simp only [evalOp,hc2,h1,h2] at h ⊢
   clear hi
   generalize (opd st.fr x).1 = v at h ⊢
   generalize (opd st.fr y).1 = u at h ⊢
   cases v <;> try (cases h; done)
   · cases u <;> try (cases h; done)
     rename_i id q k m
     cases k <;> try (cases h; done)
     simp only at h ⊢
     cases ho : st.hp[id]? with
     | none => simp [ho] at h
     | some ob =>
       cases ob with
       | dead => simp [ho] at h
       | map es => simp [ho] at h
       | cells t0 ds =>
         simp only [ho] at h ⊢
         split at h
         · rename_i hq
           cases hl : cut ds 0 m.toNat with
           | none => simp [hl] at h
           | some l =>
             simp only [hl] at h ⊢
             cases hb : bytesOf l with
             | none => simp [hb] at h
             | some bs =>
               simp only [hb] at h ⊢
               cases ret1_some h
               exact ⟨{ st' with hp := _ },by rw [if_pos hq]; rfl,Like.hpset (Moved.refl _ _) (by simp) (fun _ => rfl) trivial⟩
         · cases h
   · cases u <;> try (cases h; done)
     rename_i k m
     cases k <;> try (cases h; done)
     simp only at h ⊢
     split at h
     · rename_i hq; cases ret1_some h; exact ⟨st',by rw [if_pos hq]; rfl,⟨Moved.refl _ _,fun e => (by cases e),fun h => h,trivial⟩⟩
     · cases h
   · cases u <;> try (cases h; done)
     rename_i k m
     cases k <;> try (cases h; done)
     simp only at h ⊢
     split at h
     · rename_i bs hb
       try simp only [hb]
       split at h
       · rename_i hq; cases ret1_some h; exact ⟨st',by rw [if_pos hq]; rfl,⟨Moved.refl _ _,fun e => (by cases e),fun h => h,trivial⟩⟩
       · cases h
     · cases h
 case copyS x y =>
   simp only [foot,Option.some.injEq] at hf; subst hf
   simp only [HpOn] at hc2
   have h1 := (opd_on (x := x) hc1.left).1
   have h2 := (opd_on (x := y) hc1.right).1
   simp only [evalOp,hc2,h1,h2] at h ⊢
   repeat' split at h
   all_goals first
     | (cases h; done)
     | (exfalso; contradiction)
     | (cases ret1_some h
        refine ⟨{ st' with hp := _ },?_,Like.hpset (Moved.refl _ _) (by simp) (fun _ => rfl) trivial⟩
        first
          | done
          | rfl
          | (simp only [OpR.as,ret1, *,if_true,if_false,and_self]; first | done | rfl)
          | (simp_all [OpR.as,ret1]; done))
     | (cases ret1_some h
        refine ⟨st',?_,⟨Moved.refl _ _,fun e => (by cases e),fun h => h,trivial⟩⟩
        first
          | done
          | rfl
          | (simp only [OpR.as,ret1, *,if_true,if_false,and_self]; first | done | rfl)
          | (simp_all [OpR.as,ret1]; done))
 case appR x y sz bytes =>
   simp only [foot,Option.some.injEq] at hf; subst hf
   simp only [HpOn] at hc2
   have h1 := (opd_on (x := x) hc1.left).1
   have h2 := (opd_on (x := y) hc1.right).1
   simp only [evalOp,hc2,h1,h2] at h ⊢
   repeat' split at h
   all_goals first
     | (cases h; done)
     | (exfalso; contradiction)
     | (cases ret1_some h
        refine ⟨{ st' with hp := _ },?_,Like.hpset (Moved.refl _ _) (by simp) (fun _ => rfl) trivial⟩
        first
          | done
          | rfl
          | (simp only [OpR.as,ret1, *,if_true,if_false,and_self]; first | done | rfl)
          | (simp_all [OpR.as,ret1]; done))
     | (cases ret1_some h
        refine ⟨st',?_,⟨Moved.refl _ _,fun e => (by cases e),fun h => h,trivial⟩⟩
        first
          | done
          | rfl
          | (simp only [OpR.as,ret1, *,if_true,if_false,and_self]; first | done | rfl)
          | (simp_all [OpR.as,ret1]; done))
 case mkbuf z e n c b =>
   simp only [foot,Option.some.injEq] at hf; subst hf
   simp only [HpOn] at hc2
   have h1 := (opd_on (x := n) hc1.left).1
   have h2 := (opd_on (x := c) hc1.right).1
   simp only [evalOp,hc2,h1,h2] at h ⊢
   split at h
   · split at h
     · rename_i hp
       cases ret1_some h
       exact ⟨{ st' with hp := _ },by rw [if_pos hp]; rfl,Like.hpset (Moved.refl _ _) (by simp) (fun _ => rfl) trivial⟩
     · cases h
   · cases h
 case alloc heap ty cs =>
   cases heap
   · exact hi.elim
   · simp only [foot,if_true,Option.some.injEq] at hf; subst hf
     simp only [HpOn] at hc2
     simp only [evalOp,if_true,hc2] at h ⊢
     cases ret1_some h
     exact ⟨{ st' with hp := _ },rfl,Like.hpset (Moved.refl _ _) (by simp) (fun _ => rfl) trivial⟩
 case box heap x =>
   cases heap
   · exact hi.elim
   · simp only [foot,if_true,Option.some.injEq] at hf; subst hf
     simp only [HpOn] at hc2
     obtain ⟨h1,h2⟩ := opd_on (x := x) hc1
     simp only [evalOp,if_true,hc2,h1] at h ⊢
     split at h
     · cases h
     · rename_i hp
       cases ret1_some h
       exact ⟨{ fr := (opd st'.fr x).2,hp := _ },by rw [if_neg hp]; rfl,Like.hpset h2 (by simp) (fun _ => rfl) trivial⟩
 case call f xs q =>
   simp only [foot,Option.some.injEq] at hf; subst hf
   simp only [HpOn] at hc2
   obtain ⟨h1,h2⟩ := opds_on (xs := xs) hc1.left
   have h3 := (opd_on (x := f) (hc1.right.moved h2)).1
   simp only [evalOp,hc2,h1,h3] at h ⊢
   split at h
   · cases h
   · rename_i hp
     rw [if_neg hp]
     split at h
     · rename_i fid caps hv
       split at h
       · cases h
       · rename_i hpc
         rw [if_neg hpc]
         have fin : ∀ (hp1:List HObj),(q = true → hp1 = st.hp) → Like ⟨opdsR xs ++ opdR f,opdsW xs,.all,if q then .no else .all⟩ st ⟨(opds st.fr xs).2,hp1⟩ st' ⟨(opds st'.fr xs).2,hp1⟩ := fun hp1 e => by
           cases q with
           | true => 
             have := e rfl; subst this
             exact ⟨h2,fun _ => hc2.symm,fun _ => rfl,rfl⟩
           | false => exact ⟨h2,(fun e => by simp at e),fun _ => rfl,trivial⟩
         split at h
         · rename_i v hp1 hcall; cases ret1_some h
           exact ⟨⟨(opds st'.fr xs).2,hp1⟩,rfl,fin hp1 fun e => by subst e; exact hq _ _ _ _ _ hcall⟩
         · rename_i v hp1 hcall; cases h
           exact ⟨⟨(opds st'.fr xs).2,hp1⟩,rfl,fin hp1 fun e => by subst e; exact hq _ _ _ _ _ hcall⟩
         · cases h
     · cases h
theorem like_op {i:IOp} (hq:CallQ call) (hf:foot i = some F) (hc:ClearF F st st') {r:OpR} (h:evalOp G call lo i st = some r) :
   ∃ s1',evalOp G call lo i st' = some (r.as s1') ∧ Like F st r.stt st' s1' := by
 cases i
 case load => exact like_op_load hf hc h
 case store => exact like_op_store hf hc h
 case iaddrL => exact like_op_iaddrL hf hc.1 h
 case lookup => exact like_op_maps hf hc h trivial
 case mapset => exact like_op_maps hf hc h trivial
 case uptr x u n =>
   obtain ⟨hc1,hc2,hc3⟩ := hc
   simp only [foot,Option.some.injEq] at hf; subst hf
   have h1 := (opd_on (x := x) hc1).1
   simp only [evalOp,h1] at h ⊢
   split at h
   · rename_i i j hv
     cases ho : st.hp[i]? with
     | none => simp [ho] at h
     | some ob =>
       cases ob with
       | dead => simp [ho] at h
       | map es => simp [ho] at h
       | cells t0 ds =>
         have ho' := cells_at hc2 (.inl rfl) ho
         simp only [ho,ho'] at h ⊢
         split at h
         · rename_i hq; cases ret1_some h
           exact ⟨st',by rw [if_pos hq]; rfl,Like.same rfl (by simp)⟩
         · cases h
   · cases h
 case slcA x a b len sz =>
   obtain ⟨hc1,hc2,hc3⟩ := hc
   simp only [foot,Option.some.injEq] at hf; subst hf
   have h1 := (opd_on (x := x) hc1.left).1
   have h2 := fun d => bound_on (x := a) hc1.right.left d
   have h3 := fun d => bound_on (x := b) hc1.right.right d
   simp only [evalOp,h1,h2,h3] at h ⊢
   split at h
   · rename_i i j hv
     cases ho : st.hp[i]? with
     | none => simp [ho] at h
     | some ob =>
       cases ob with
       | dead => simp [ho] at h
       | map es => simp [ho] at h
       | cells t0 ds =>
         have ho' := cells_at hc2 (.inl rfl) ho
         simp only [ho,ho'] at h ⊢
         split at h
         · rename_i l hh q1 q2 q3
           cases q1
           split at h
           · rename_i hq; cases ret1_some h
             exact ⟨st',by first | rfl | (rw [if_pos hq]; rfl) | (simp only [OpR.as,ret1, *,if_true,and_self]; done),Like.same rfl (by simp)⟩
           · cases h
         · cases h
   · cases h
 case strL x =>
   obtain ⟨hc1,hc2,hc3⟩ := hc
   simp only [foot,Option.some.injEq] at hf; subst hf
   have h1 := (opd_on (x := x) hc1).1
   simp only [evalOp,h1] at h ⊢
   split at h
   · rename_i xs ow hv
     split at h
     · rename_i hb; cases ret1_some h; exact ⟨st',by first | rfl | (simp only [OpR.as,ret1, *]; done),Like.same rfl (by simp)⟩
     · cases h
   · rename_i i q n sz hv
     cases ho : st.hp[i]? with
     | none => simp [ho] at h
     | some ob =>
       cases ob with
       | dead => simp [ho] at h
       | map es => simp [ho] at h
       | cells t0 ds =>
         have ho' := cells_at hc2 (.inl rfl) ho
         simp only [ho,ho'] at h ⊢
         split at h
         · split at h
           · split at h
             · rename_i hs _ l hl _ bs hb; cases ret1_some h; exact ⟨st',by first | rfl | (rw [if_pos hs]; rfl) | (simp only [OpR.as,ret1, *,if_true]; done),Like.same rfl (by simp)⟩
             · cases h
           · cases h
         · cases h
   · cases h
 case mkmap => exact like_op_all hq hf hc h trivial
 case mkbuf => exact like_op_all hq hf hc h trivial
 case ustr => exact like_op_all hq hf hc h trivial
 case copyS => exact like_op_all hq hf hc h trivial
 case appR => exact like_op_all hq hf hc h trivial
 case call => exact like_op_all hq hf hc h trivial
 case panic => simp [foot] at hf
 case alloc heap ty cs => cases heap <;> first | exact like_op_all hq hf hc h trivial | exact like_op_take hf hc.1 h trivial
 case box heap x => cases heap <;> first | exact like_op_all hq hf hc h trivial | exact like_op_take hf hc.1 h trivial
 case len x kd => cases kd <;> first | exact like_op_maps hf hc h trivial | exact like_op_pure hf hc.1 h trivial
 all_goals first
   | exact like_op_pure hf hc.1 h trivial
   | exact like_op_take hf hc.1 h trivial
end
end Go.Proofs.YtkofimhnehkdoaaGreatDoor.Rf
end
section
namespace Go.Proofs.YtkofimhnehkdoaaGreatDoor.Rf
def slotL : Option Nat → List Nat
 | some s => [s]
 | none => []
def footO (o:IOper) : Option Foot := (foot o.op).map fun F => ⟨slotL (o.guard.map (·.1)) ++ (F.rd ++ slotL o.dst),F.wr ++ slotL o.dst,F.hr,F.hw⟩
def Eqv (st st' : St) : Prop := (∀ s,st'.fr.get s = st.fr.get s) ∧ st'.hp = st.hp
theorem Eqv.refl (st:St) : Eqv st st := ⟨fun _ => rfl,rfl⟩
theorem Eqv.trans {a b c:St} (h:Eqv a b) (k:Eqv b c) : Eqv a c := ⟨fun s => (k.1 s).trans (h.1 s),k.2.trans h.2⟩
section
variable {G:Nat → Option (List AV)} {call:CallF} {lo:Nat} {st st' : St} {F:Foot}
theorem noLast_iff {fr:Fr} {s:Nat} : fr.noLast s = true ↔ ∀ t u,fr.get t = .lastr u → u ≠ s := by
 refine ⟨fun h t u => Fr.noLast_get h,fun h => ?_⟩
 simp only [Fr.noLast,List.all_eq_true]
 intro e _
 cases hv : fr.get e.1 <;> simp only []
 rename_i u
 simpa using h _ _ hv
theorem wild_op {i:IOp} (hf:foot i = none) (he:Eqv st st') {r:OpR} (h:evalOp G call lo i st = some r) : ∃ s1',evalOp G call lo i st' = some (r.as s1') ∧ Eqv r.stt s1' := by
 obtain ⟨e1,e2⟩ := he
 have ro : ∀ x,(opd st'.fr x).1 = (opd st.fr x).1 := fun x => (opd_on (x := x) fun s _ => e1 s).1
 cases i
 case panic x =>
   simp only [evalOp,ro] at h ⊢
   split at h
   · cases h; exact ⟨st',rfl,e1,e2⟩
   · cases h
 case load x m n agg tk =>
   cases m <;> simp only [foot] at hf <;> try (cases hf; done)
   rename_i r0
   simp only [evalOp,ro] at h ⊢
   split at h
   · cases h
   · rename_i hmm
     cases hp : (opd st.fr x).1 <;> rw [hp] at h hmm <;> simp only [memOk,behind] at h hmm <;> first | (simp at hmm; done) | (simp at h; done)
 case store x m v n =>
   have tk : ∀ s,(opd st'.fr v).2.get s = (opd st.fr v).2.get s := fun s => by
     have := (opd_on (x := v) (fr := st.fr) (fr' := st'.fr) fun s _ => e1 s).2
     by_cases hs : s ∈ opdW v
     · exact this.new s hs
     · rw [this.old' s hs,this.old s hs]; exact e1 s
   have ro2 : ∀ x,(opd (opd st'.fr v).2 x).1 = (opd (opd st.fr v).2 x).1 := fun x => (opd_on (x := x) fun s _ => tk s).1
   cases m with
   | loc r0 => simp [foot] at hf
   | heap => simp [foot] at hf
   | elem =>
     simp only [evalOp,ro,ro2] at h ⊢
     split at h
     · cases h
     · rename_i hmm
       simp only [not_or,Bool.not_eq_false] at hmm
       cases hp : (opd (opd st.fr v).2 x).1 <;> rw [hp] at h hmm <;> simp only [memOk,behind,behindPut] at h hmm <;> first | (simp at hmm; done) | (split at h <;> cases h; done)
   | last r0 =>
     simp only [evalOp,ro,ro2] at h ⊢
     split at h
     · cases h
     · rename_i hmm
       rw [if_neg hmm]
       simp only [not_or,Bool.not_eq_false] at hmm
       cases hp : (opd (opd st.fr v).2 x).1 <;> rw [hp] at h hmm <;> simp only [memOk] at h hmm <;> try (simp at hmm; done)
       rename_i s
       dsimp only
       simp only [tk]
       cases x <;> try (simp at h; done)
       rename_i p tk2
       cases hs : (opd st.fr v).2.get s <;> rw [hs] at h <;> try (simp at h; done)
       rename_i xs sz
       dsimp only at h ⊢
       split at h
       · rename_i hh; cases ret1_some h
         have hno : ((opd st'.fr v).2.set p .none).noLast s = true := by
           rw [noLast_iff]; intro t u ht
           rw [Fr.get_set,tk] at ht
           exact noLast_iff.1 hh.2.2.2 t u (by rw [Fr.get_set]; exact ht)
         refine ⟨{ st' with fr := ((opd st'.fr v).2.set p .none).set s (.list (xs ++ [(opd st.fr v).1.cp]) (.own sz 0)) },by rw [if_pos ⟨hh.1,hh.2.1,hh.2.2.1,hno⟩]; rfl,fun t => ?_,e2⟩
         simp only [OpR.stt]
         rw [Fr.get_set,Fr.get_set,Fr.get_set,Fr.get_set,tk]
       · cases h
 all_goals first
   | (simp [foot] at hf; done)
   | (rename_i b _; cases b <;> simp [foot] at hf; done)
   | (rename_i b; cases b <;> simp [foot] at hf; done)
   | (rename_i b _ _; cases b <;> simp [foot] at hf; done)
theorem like_eqv {s1 s1' : St} (he:Eqv st st') (h:Like F st s1 st' s1') : Eqv s1 s1' :=
 ⟨fun s => by
   by_cases hs : s ∈ F.wr
   · exact h.fr.new s hs
   · rw [h.fr.old' s hs,h.fr.old s hs]; exact he.1 s,h.hp' he.2⟩
theorem Eqv.clear (he:Eqv st st') : ClearF F st st' := ⟨fun s _ => he.1 s,by rw [he.2]; exact HpOn.rfl',fun _ => he.2⟩
theorem eqv_op (hq:CallQ call) {i:IOp} (he:Eqv st st') {r:OpR} (h:evalOp G call lo i st = some r) : ∃ s1',evalOp G call lo i st' = some (r.as s1') ∧ Eqv r.stt s1' := by
 cases hf : foot i with
 | none => exact wild_op hf he h
 | some F =>
   obtain ⟨s1',h1,h2⟩ := like_op hq hf he.clear h
   exact ⟨s1',h1,like_eqv he h2⟩
theorem wanted_on {fr fr' : Fr} {g:Option (Nat × Bool)} (h:FrOn (slotL (g.map (·.1))) fr fr') : wanted fr' g = wanted fr g := by
 cases g with
 | none => rfl
 | some x => obtain ⟨s,b⟩ := x; simp only [wanted]; rw [h s (by simp [slotL])]
theorem put_on {s s' s1 : St} {d:Option Nat} {v:AV} (h:FrOn (slotL d) s.fr s'.fr) (hp:s.put d v = some s1) : ∃ s1',s'.put d v = some s1' ∧ Moved (slotL d) s.fr s1.fr s'.fr s1'.fr ∧ s1.hp = s.hp ∧ s1'.hp = s'.hp := by
 cases d with
 | none => simp [St.put] at hp; subst hp; exact ⟨s',rfl,Moved.refl _ _,rfl,rfl⟩
 | some d =>
   simp only [St.put] at hp ⊢
   rw [h d (by simp [slotL])]
   split at hp
   · rename_i hl; cases hp
     exact ⟨{ s' with fr := s'.fr.set d v },by rw [if_pos hl],Moved.set d v,rfl,rfl⟩
   · cases hp
theorem HpKeep.of {k:HpK} {a b c:List HObj} (h:HpKeep k a b) (e:c = b) : HpKeep k a c := by rw [e]; exact h
theorem opdW_R {x:Opd} {s:Nat} (h:s ∈ opdW x) : s ∈ opdR x := by
 cases x with
 | t s' tk => cases tk <;> simp [opdW,opdR] at h ⊢; exact h
 | c v => simp [opdW] at h
 | g v => simp [opdW] at h
 | f v => simp [opdW] at h
theorem opdsW_R : ∀ {xs:List Opd} {s:Nat},s ∈ opdsW xs → s ∈ opdsR xs
 | [],s,h => by simp [opdsW] at h
 | x :: xs,s,h => by
   simp only [opdsW,opdsR,List.mem_append] at h ⊢
   rcases h with h | h
   · exact .inl (opdW_R h)
   · exact .inr (opdsW_R h)
theorem foot_wr_rd {i:IOp} {F:Foot} (h:foot i = some F) (s:Nat) (hs:s ∈ F.wr) : s ∈ F.rd := by
 cases i
 case load x m n agg tk =>
   cases m <;> simp only [foot] at h <;> cases h
   · cases tk <;> simp at hs ⊢; exact .inr hs
   · simp at hs
   · simp at hs
 case store x m v n =>
   cases m <;> simp only [foot] at h <;> cases h
   · simp only [List.mem_append] at hs ⊢
     rcases hs with hs | hs
     · exact .inl (opdW_R hs)
     · exact .inr (.inr hs)
   · simp only [List.mem_append]; exact .inl (opdW_R hs)
 case alloc heap ty cs => cases heap <;> simp only [foot] at h <;> cases h <;> simp at hs
 case box heap x => cases heap <;> simp only [foot] at h <;> cases h <;> exact opdW_R hs
 case len x kd => cases kd <;> simp only [foot] at h <;> cases h <;> simp at hs
 case panic => simp [foot] at h
 all_goals
   simp only [foot,Option.some.injEq] at h; subst h
   first
     | (simp at hs; done)
     | exact opdW_R hs
     | exact opdsW_R hs
     | exact List.mem_append_left _ (opdW_R hs)
     | exact List.mem_append_left _ (opdsW_R hs)
theorem like_step (hq:CallQ call) {o:IOper} (hf:footO o = some F) (hc:ClearF F st st') {ex:Ex} {s1:St} (h:evalOps G call lo [o] st = some (ex,s1)) :
   ∃ s1',evalOps G call lo [o] st' = some (ex,s1') ∧ (ex = .normal → Like F st s1 st' s1') ∧ (st'.hp = st.hp → s1'.hp = s1.hp) := by
 unfold footO at hf
 cases hf0 : foot o.op with
 | none => simp [hf0] at hf
 | some F0 =>
   simp [hf0] at hf; subst hf
   obtain ⟨c1,c2,c3⟩ := hc
   simp only at c1 c2 c3
   have c0 : ClearF F0 st st' := ⟨c1.right.left,c2,c3⟩
   have cd : FrOn (slotL o.dst) st.fr st'.fr := c1.right.right
   simp only [evalOps] at h ⊢
   rw [wanted_on c1.left]
   split at h
   · rename_i hw
     try simp only [hw]
     split at h
     · rename_i v s2 he
       obtain ⟨s2',h2,l2⟩ := like_op hq hf0 c0 he
       simp only [OpR.as] at h2
       simp only [OpR.stt] at l2
       rw [h2]
       simp only []
       split at h
       · rename_i s3 hp
         simp at h; obtain ⟨rfl,rfl⟩ := h
         have cd2 : FrOn (slotL o.dst) s2.fr s2'.fr := cd.moved l2.fr
         obtain ⟨s3',p1,p2,p3,p4⟩ := put_on cd2 hp
         rw [p1]
         refine ⟨s3',rfl,fun _ => ⟨l2.fr.trans p2,fun e => by rw [p4]; exact l2.hp e,fun e => by rw [p4,p3]; exact l2.hp' e,l2.keep.of p3⟩,fun e => by rw [p4,p3]; exact l2.hp' e⟩
       · cases h
     · rename_i v s2 he
       obtain ⟨s2',h2,l2⟩ := like_op hq hf0 c0 he
       simp only [OpR.as] at h2
       simp only [OpR.stt] at l2
       rw [h2]
       simp at h; obtain ⟨rfl,rfl⟩ := h
       exact ⟨s2',rfl,(fun e => by cases e),l2.hp'⟩
     · cases h
   · rename_i hw
     try simp only [hw]
     split at h
     · rename_i s3 hp
       simp at h; obtain ⟨rfl,rfl⟩ := h
       obtain ⟨s3',p1,p2,p3,p4⟩ := put_on cd hp
       rw [p1]
       refine ⟨s3',rfl,fun _ => ⟨?_,fun _ => p4,fun e => by rw [p4,p3]; exact e,?_⟩,fun e => by rw [p4,p3]; exact e⟩
       · exact ⟨fun s hs => by
           by_cases hd : s ∈ slotL o.dst
           · exact p2.new s hd
           · have h1 : s ∈ F0.wr := by simpa [hd] using hs
             rw [p2.old' s hd,p2.old s hd]
             exact c1.right.left s (foot_wr_rd hf0 s h1),fun s hs => by simp at hs; exact p2.old' s hs.2,fun s hs => by simp at hs; exact p2.old s hs.2⟩
       · rw [p3]; cases F0.hw <;> simp [HpKeep,HpOn]
     · cases h
   · cases h
end
end Go.Proofs.YtkofimhnehkdoaaGreatDoor.Rf
end
