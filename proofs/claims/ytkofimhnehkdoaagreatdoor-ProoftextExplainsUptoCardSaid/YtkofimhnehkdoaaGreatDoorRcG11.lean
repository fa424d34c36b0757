/- A part of the proof: see the last text. -/
import Derived.Test.YtkofimhnehkdoaaGreatDoorRcG10
set_option linter.unusedVariables false
set_option linter.unusedSimpArgs false
section
namespace Go.Proofs.YtkofimhnehkdoaaGreatDoor.Rf
def opdR : Opd → List Nat
 | .t s _ => [s]
 | _ => []
def opdW : Opd → List Nat
 | .t s true => [s]
 | _ => []
def opdsR : List Opd → List Nat
 | [] => []
 | x :: r => opdR x ++ opdsR r
def opdsW : List Opd → List Nat
 | [] => []
 | x :: r => opdW x ++ opdsW r
def optR : Option Opd → List Nat
 | none => []
 | some x => opdR x
inductive HpK where
 | no | cells | maps | all
 deriving DecidableEq
structure Foot where
 rd : List Nat
 wr : List Nat
 hr : HpK
 hw : HpK
def foot : IOp → Option Foot
 | .mv x => some ⟨opdR x,opdW x,.no,.no⟩
 | .pick c a b => some ⟨opdR c ++ (opdR a ++ opdR b),[],.no,.no⟩
 | .alloc heap _ _ => if heap then some ⟨[],[],.all,.all⟩ else some ⟨[],[],.no,.no⟩
 | .box heap x => if heap then some ⟨opdR x,opdW x,.all,.all⟩ else some ⟨opdR x,opdW x,.no,.no⟩
 | .build _ ps => some ⟨opdsR (ps.map (·.2.2)),opdsW (ps.map (·.2.2)),.no,.no⟩
 | .bslice _ _ _ ps => some ⟨opdsR (ps.map (·.2)),opdsW (ps.map (·.2)),.no,.no⟩
 | .load x (.loc r) _ _ tk => some ⟨opdR x ++ [r],if tk then [r] else [],.no,.no⟩
 | .load x .heap _ _ tk => some ⟨opdR x,[],.cells,if tk then .cells else .no⟩
 | .load x .elem _ _ tk => some ⟨opdR x,[],.no,.no⟩
 | .load _ (.last _) _ _ _ => none
 | .store x (.loc r) v _ => some ⟨opdR v ++ (opdR x ++ [r]),opdW v ++ [r],.no,.no⟩
 | .store x .heap v _ => some ⟨opdR v ++ opdR x,opdW v,.cells,.cells⟩
 | .store _ _ _ _ => none
 | .nilchk x => some ⟨opdR x,[],.no,.no⟩
 | .bin _ x y => some ⟨opdR x ++ opdR y,[],.no,.no⟩
 | .eq _ _ x y => some ⟨opdR x ++ opdR y,[],.no,.no⟩
 | .un _ x => some ⟨opdR x,[],.no,.no⟩
 | .conv _ x => some ⟨opdR x,[],.no,.no⟩
 | .sconv x => some ⟨opdR x,[],.no,.no⟩
 | .mkiface _ x => some ⟨opdR x,opdW x,.no,.no⟩
 | .mkfunc _ xs => some ⟨opdsR xs,opdsW xs,.no,.no⟩
 | .mkmap => some ⟨[],[],.all,.all⟩
 | .faddr x _ => some ⟨opdR x,[],.no,.no⟩
 | .field x _ _ _ => some ⟨opdR x,[],.no,.no⟩
 | .iaddrL x i _ => some ⟨opdR x ++ opdR i,[],.no,.no⟩
 | .iaddrA x i _ _ => some ⟨opdR x ++ opdR i,[],.no,.no⟩
 | .idxS x i => some ⟨opdR x ++ opdR i,[],.no,.no⟩
 | .slcS x a b => some ⟨opdR x ++ (optR a ++ optR b),[],.no,.no⟩
 | .slcL x a b _ => some ⟨opdR x ++ (optR a ++ optR b),[],.no,.no⟩
 | .lookup _ m k _ _ tk => some ⟨opdR m ++ opdR k,[],.maps,if tk then .maps else .no⟩
 | .mapset _ m k v _ => some ⟨opdR v ++ (opdR m ++ opdR k),opdW v,.maps,.maps⟩
 | .len x .map => some ⟨opdR x,[],.maps,.no⟩
 | .len x _ => some ⟨opdR x,[],.no,.no⟩
 | .konst _ => some ⟨[],[],.no,.no⟩
 | .append x y _ _ _ _ => some ⟨opdR x ++ opdR y,opdW x,.no,.no⟩
 | .min x y => some ⟨opdR x ++ opdR y,[],.no,.no⟩
 | .max x y => some ⟨opdR x ++ opdR y,[],.no,.no⟩
 | .extract x _ => some ⟨opdR x,opdW x,.no,.no⟩
 | .assert x _ _ _ => some ⟨opdR x,[],.no,.no⟩
 | .panic _ => none
 | .sdata x _ => some ⟨opdR x,[],.no,.no⟩
 | .ustr p n _ => some ⟨opdR p ++ opdR n,[],.all,.all⟩
 | .uptr x _ _ => some ⟨opdR x,[],.cells,.no⟩
 | .ident _ x => some ⟨opdR x,[],.no,.no⟩
 | .mkbuf _ _ n c _ => some ⟨opdR n ++ opdR c,[],.all,.all⟩
 | .slcA x a b _ _ => some ⟨opdR x ++ (optR a ++ optR b),[],.cells,.no⟩
 | .strL x => some ⟨opdR x,[],.cells,.no⟩
 | .bytesS x => some ⟨opdR x,[],.no,.no⟩
 | .idxB _ x c => some ⟨opdR x ++ opdR c,[],.no,.no⟩
 | .copyS x y => some ⟨opdR x ++ opdR y,[],.all,.all⟩
 | .appR x y _ _ => some ⟨opdR x ++ opdR y,[],.all,.all⟩
 | .mkroom _ _ x => some ⟨opdR x,[],.no,.no⟩
 | .slcR s b => some ⟨s :: opdR b,[s],.no,.no⟩
 | .capN x => some ⟨opdR x,[],.no,.no⟩
 | .copyN x y => some ⟨opdR x ++ opdR y,[],.no,.no⟩
 | .mkslice _ _ n c _ => some ⟨opdR n ++ opdR c,[],.no,.no⟩
 | .call f xs q => some ⟨opdsR xs ++ opdR f,opdsW xs,.all,if q then .no else .all⟩
def FrOn (S:List Nat) (fr fr' : Fr) : Prop := ∀ s,s ∈ S → fr'.get s = fr.get s
structure Moved (W:List Nat) (fr fr1 fr' fr1' : Fr) : Prop where
 new : ∀ s,s ∈ W → fr1'.get s = fr1.get s
 old' : ∀ s,s ∉ W → fr1'.get s = fr'.get s
 old : ∀ s,s ∉ W → fr1.get s = fr.get s
def HpOn (k:HpK) (hp hp' : List HObj) : Prop :=
 match k with
 | .no => True
 | .cells => ∀ (id:Nat) (ty:Nat) (cs:List AV),hp[id]? = some (.cells ty cs) ↔ hp'[id]? = some (.cells ty cs)
 | .maps => ∀ (id:Nat) (es:List (AV × AV)),hp[id]? = some (.map es) ↔ hp'[id]? = some (.map es)
 | .all => hp' = hp
def HpKeep (k:HpK) (hp hp1:List HObj) : Prop :=
 match k with
 | .no => hp1 = hp
 | .cells => HpOn .maps hp hp1
 | .maps => HpOn .cells hp hp1
 | .all => True
structure Like (F:Foot) (st s1 st' s1' : St) : Prop where
 fr : Moved F.wr st.fr s1.fr st'.fr s1'.fr
 hp : F.hw = .no → s1'.hp = st'.hp
 hp' : st'.hp = st.hp → s1'.hp = s1.hp
 keep : HpKeep F.hw st.hp s1.hp
section
variable {G:Nat → Option (List AV)} {call:CallF} {lo:Nat}
theorem Moved.refl (fr fr' : Fr) : Moved [] fr fr fr' fr' := ⟨fun s h => by simp at h,fun _ _ => rfl,fun _ _ => rfl⟩
theorem FrOn.left {S T:List Nat} {fr fr' : Fr} (h:FrOn (S ++ T) fr fr') : FrOn S fr fr' := fun s hs => h s (List.mem_append_left _ hs)
theorem FrOn.right {S T:List Nat} {fr fr' : Fr} (h:FrOn (S ++ T) fr fr') : FrOn T fr fr' := fun s hs => h s (List.mem_append_right _ hs)
theorem FrOn.moved {S W:List Nat} {fr fr1 fr' fr1' : Fr} (h:FrOn S fr fr') (m:Moved W fr fr1 fr' fr1') : FrOn S fr1 fr1' := fun s hs => by
 by_cases hw : s ∈ W
 · exact m.new s hw
 · rw [m.old' s hw,m.old s hw]; exact h s hs
theorem Moved.trans {W1 W2:List Nat} {a b c a' b' c' : Fr} (h:Moved W1 a b a' b') (k:Moved W2 b c b' c') : Moved (W1 ++ W2) a c a' c' :=
 ⟨fun s hs => by
     by_cases h2 : s ∈ W2
     · exact k.new s h2
     · have h1 : s ∈ W1 := by simpa [h2] using hs
       rw [k.old' s h2,k.old s h2]; exact h.new s h1,
  fun s hs => by simp at hs; rw [k.old' s hs.2,h.old' s hs.1],fun s hs => by simp at hs; rw [k.old s hs.2,h.old s hs.1]⟩
theorem Moved.set {fr fr' : Fr} (s:Nat) (v:AV) : Moved [s] fr (fr.set s v) fr' (fr'.set s v) :=
 ⟨fun t ht => by simp at ht; subst ht; rw [Fr.get_set,Fr.get_set]; simp,fun t ht => by simp at ht; rw [Fr.get_set,if_neg (fun e => ht e.symm)],fun t ht => by simp at ht; rw [Fr.get_set,if_neg (fun e => ht e.symm)]⟩
theorem Moved.more {W W' : List Nat} {a b a' b' : Fr} (h:Moved W a b a' b') (k:∀ s,s ∈ W → s ∈ W') (hn:FrOn W' a a') : Moved W' a b a' b' :=
 ⟨fun s hs => by
     by_cases hw : s ∈ W
     · exact h.new s hw
     · rw [h.old' s hw,h.old s hw]; exact hn s hs,fun s hs => h.old' s (fun h => hs (k s h)),fun s hs => h.old s (fun h => hs (k s h))⟩
theorem opd_on {fr fr' : Fr} {x:Opd} (h:FrOn (opdR x) fr fr') : (opd fr' x).1 = (opd fr x).1 ∧ Moved (opdW x) fr (opd fr x).2 fr' (opd fr' x).2 := by
 cases x with
 | t s tk =>
   have e : fr'.get s = fr.get s := h s (by simp [opdR])
   have m0 : Moved [s] fr fr fr' fr' := (Moved.refl fr fr').more (by simp) (fun t ht => by simp at ht; subst ht; exact e)
   simp only [opd,e]
   cases tk with
   | true =>
     simp only [opdW]
     cases fr.get s <;> simp only [if_true] <;> first
       | exact ⟨trivial,Moved.set s _⟩
       | exact ⟨trivial,m0⟩
   | false =>
     simp only [opdW]
     cases fr.get s <;> simp only [Bool.false_eq_true,if_false] <;> exact ⟨trivial,Moved.refl _ _⟩
 | c v => exact ⟨rfl,Moved.refl _ _⟩
 | g a => exact ⟨rfl,Moved.refl _ _⟩
 | f a => exact ⟨rfl,Moved.refl _ _⟩
theorem opds_on : ∀ {xs:List Opd} {fr fr' : Fr},FrOn (opdsR xs) fr fr' → (opds fr' xs).1 = (opds fr xs).1 ∧ Moved (opdsW xs) fr (opds fr xs).2 fr' (opds fr' xs).2
 | [],fr,fr',_ => ⟨rfl,Moved.refl _ _⟩
 | x :: xs,fr,fr',h => by
   obtain ⟨h1,h2⟩ := opd_on h.left
   obtain ⟨h3,h4⟩ := opds_on (h.right.moved h2)
   simp only [opds]
   exact ⟨by rw [h1,h3],h2.trans h4⟩
theorem bound_on {fr fr' : Fr} {x:Option Opd} (h:FrOn (optR x) fr fr') (d:Nat) : bound fr' d x = bound fr d x := by
 cases x with
 | none => rfl
 | some x => simp only [bound]; rw [(opd_on (x := x) h).1]
theorem HpOn.rfl' {k:HpK} {hp:List HObj} : HpOn k hp hp := by cases k <;> simp [HpOn]
theorem Like.same {F:Foot} {st st' : St} (h:F.wr = []) (hw:F.hw = .no) : Like F st st st' st' :=
 ⟨by rw [h]; exact Moved.refl _ _,fun _ => rfl,fun h => h,by rw [hw]; rfl⟩
theorem Like.take {F:Foot} {st st' : St} {fr1 fr1' : Fr} (h:Moved F.wr st.fr fr1 st'.fr fr1') (hw:F.hw = .no) : Like F st { st with fr := fr1 } st' { st' with fr := fr1' } :=
 ⟨h,fun _ => rfl,fun h => h,by rw [hw]; rfl⟩
def ClearF (F:Foot) (st st' : St) : Prop := FrOn F.rd st.fr st'.fr ∧ HpOn F.hr st.hp st'.hp ∧ (F.hw ≠ .no → st'.hp = st.hp)
def CallQ (call:CallF) : Prop := ∀ f vs hp lo r,call f vs hp lo true = some r → r.hp = hp
end
end Go.Proofs.YtkofimhnehkdoaaGreatDoor.Rf
end
section
namespace Go.Proofs.YtkofimhnehkdoaaGreatDoor.Rf
def OpR.as (r:OpR) (s:St) : OpR :=
 match r with
 | .val v _ => .val v s
 | .pan v _ => .pan v s
section
variable {G:Nat → Option (List AV)} {call:CallF} {lo:Nat} {st st' : St} {F:Foot}
theorem cells_at {k:HpK} {hp hp' : List HObj} (h:HpOn k hp hp') (hk:k = .cells ∨ k = .all) {id:Nat} {ty:Nat} {cs:List AV} (e:hp[id]? = some (.cells ty cs)) : hp'[id]? = some (.cells ty cs) := by
 rcases hk with rfl | rfl
 · exact (h id ty cs).1 e
 · simp only [HpOn] at h; rw [h]; exact e
theorem maps_at {k:HpK} {hp hp' : List HObj} (h:HpOn k hp hp') (hk:k = .maps ∨ k = .all) {id:Nat} {cs:List (AV × AV)} (e:hp[id]? = some (.map cs)) : hp'[id]? = some (.map cs) := by
 rcases hk with rfl | rfl
 · exact (h id cs).1 e
 · simp only [HpOn] at h; rw [h]; exact e
theorem keep_set_map {hp:List HObj} {id:Nat} {es es' : List (AV × AV)} (h:hp[id]? = some (.map es)) : HpOn .cells hp (hp.set id (.map es')) := fun i ty cs => by
 rw [List.getElem?_set]
 by_cases e : id = i
 · subst e; simp only [if_true]; rw [h]; simp
 · rw [if_neg e]
theorem keep_set_cells {hp:List HObj} {id:Nat} {ty:Nat} {es es' : List AV} (h:hp[id]? = some (.cells ty es)) : HpOn .maps hp (hp.set id (.cells ty es')) := fun i cs => by
 rw [List.getElem?_set]
 by_cases e : id = i
 · subst e; simp only [if_true]; rw [h]; simp
 · rw [if_neg e]
theorem like_op_pure {i:IOp} (hf:foot i = some F) (hc:FrOn F.rd st.fr st'.fr) {r:OpR} (h:evalOp G call lo i st = some r)
   (hi:match i with | .pick .. | .nilchk _ | .bin .. | .eq .. | .un .. | .conv .. | .sconv _ | .faddr .. | .field .. | .idxS .. | .konst _ | .min .. | .max .. | .assert .. | .iaddrA .. | .slcS .. | .slcL .. | .len _ .list | .len _ .str | .sdata .. | .bytesS _ | .idxB .. | .ident .. | .mkslice .. | .mkroom .. | .capN _ | .copyN .. => True | _ => False) :
   ∃ s1',evalOp G call lo i st' = some (r.as s1') ∧ Like F st r.stt st' s1' := by
 cases i <;> try exact hi.elim
 case pick c a b =>
   simp only [foot,Option.some.injEq] at hf; subst hf
   have h1 := (opd_on (x := c) hc.left).1
   have h2 := (opd_on (x := a) hc.right.left).1
   have h3 := (opd_on (x := b) hc.right.right).1
   simp only [evalOp,h1,h2,h3] at h ⊢
   repeat' split at h
   all_goals first
     | (cases h; done)
     | (exfalso; contradiction)
     | (cases ret1_some h
        refine ⟨st',?_,Like.same rfl rfl⟩
        simp only [OpR.as,ret1, *,if_true,if_false,and_self]
        first | done | rfl)
 case nilchk x =>
   simp only [foot,Option.some.injEq] at hf; subst hf
   have h1 := (opd_on (x := x) hc).1
   simp only [evalOp,h1] at h ⊢
   repeat' split at h
   all_goals first
     | (cases h; done)
     | (exfalso; contradiction)
     | (cases ret1_some h
        refine ⟨st',?_,Like.same rfl rfl⟩
        simp only [OpR.as,ret1, *,if_true,if_false,and_self]
        first | done | rfl)
 case bin op x y =>
   simp only [foot,Option.some.injEq] at hf; subst hf
   have h1 := (opd_on (x := x) hc.left).1
   have h2 := (opd_on (x := y) hc.right).1
   simp only [evalOp,h1,h2] at h ⊢
   repeat' split at h
   all_goals first
     | (cases h; done)
     | (exfalso; contradiction)
     | (cases ret1_some h
        refine ⟨st',?_,Like.same rfl rfl⟩
        simp only [OpR.as,ret1, *,if_true,if_false,and_self]
        first | done | rfl)
 case eq n k x y =>
   simp only [foot,Option.some.injEq] at hf; subst hf
   have h1 := (opd_on (x := x) hc.left).1
   have h2 := (opd_on (x := y) hc.right).1
   simp only [evalOp,h1,h2] at h ⊢
   repeat' split at h
   all_goals first
     | (cases h; done)
     | (exfalso; contradiction)
     | (cases ret1_some h
        refine ⟨st',?_,Like.same rfl rfl⟩
        simp only [OpR.as,ret1, *,if_true,if_false,and_self]
        first | done | rfl)
 case un op x =>
   simp only [foot,Option.some.injEq] at hf; subst hf
   have h1 := (opd_on (x := x) hc).1
   simp only [evalOp,h1] at h ⊢
   repeat' split at h
   all_goals first
     | (cases h; done)
     | (exfalso; contradiction)
     | (cases ret1_some h
        refine ⟨st',?_,Like.same rfl rfl⟩
        simp only [OpR.as,ret1, *,if_true,if_false,and_self]
        first | done | rfl)
 case conv op x =>
   simp only [foot,Option.some.injEq] at hf; subst hf
   have h1 := (opd_on (x := x) hc).1
   simp only [evalOp,h1] at h ⊢
   repeat' split at h
   all_goals first
     | (cases h; done)
     | (exfalso; contradiction)
     | (cases ret1_some h
        refine ⟨st',?_,Like.same rfl rfl⟩
        simp only [OpR.as,ret1, *,if_true,if_false,and_self]
        first | done | rfl)
 case sconv x =>
   simp only [foot,Option.some.injEq] at hf; subst hf
   have h1 := (opd_on (x := x) hc).1
   simp only [evalOp,h1] at h ⊢
   repeat' split at h
   all_goals first
     | (cases h; done)
     | (exfalso; contradiction)
     | (cases ret1_some h
        refine ⟨st',?_,Like.same rfl rfl⟩
        simp only [OpR.as,ret1, *,if_true,if_false,and_self]
        first | done | rfl)
 case faddr x o =>
   simp only [foot,Option.some.injEq] at hf; subst hf
   have h1 := (opd_on (x := x) hc).1
   simp only [evalOp,h1] at h ⊢
   repeat' split at h
   all_goals first
     | (cases h; done)
     | (exfalso; contradiction)
     | (cases ret1_some h
        refine ⟨st',?_,Like.same rfl rfl⟩
        simp only [OpR.as,ret1, *,if_true,if_false,and_self]
        first | done | rfl)
 case field x o n a =>
   simp only [foot,Option.some.injEq] at hf; subst hf
   have h1 := (opd_on (x := x) hc).1
   simp only [evalOp,h1] at h ⊢
   repeat' split at h
   all_goals first
     | (cases h; done)
     | (exfalso; contradiction)
     | (cases ret1_some h
        refine ⟨st',?_,Like.same rfl rfl⟩
        simp only [OpR.as,ret1, *,if_true,if_false,and_self]
        first | done | rfl)
 case idxS x y =>
   simp only [foot,Option.some.injEq] at hf; subst hf
   have h1 := (opd_on (x := x) hc.left).1
   have h2 := (opd_on (x := y) hc.right).1
   simp only [evalOp,h1,h2] at h ⊢
   repeat' split at h
   all_goals first
     | (cases h; done)
     | (exfalso; contradiction)
     | (cases ret1_some h
        refine ⟨st',?_,Like.same rfl rfl⟩
        simp only [OpR.as,ret1, *,if_true,if_false,and_self]
        first | done | rfl)
 case konst v =>
   simp only [foot,Option.some.injEq] at hf; subst hf
   simp only [evalOp] at h ⊢
   repeat' split at h
   all_goals first
     | (cases h; done)
     | (exfalso; contradiction)
     | (cases ret1_some h
        refine ⟨st',?_,Like.same rfl rfl⟩
        simp only [OpR.as,ret1, *,if_true,if_false,and_self]
        first | done | rfl)
 case min x y =>
   simp only [foot,Option.some.injEq] at hf; subst hf
   have h1 := (opd_on (x := x) hc.left).1
   have h2 := (opd_on (x := y) hc.right).1
   simp only [evalOp,h1,h2] at h ⊢
   repeat' split at h
   all_goals first
     | (cases h; done)
     | (exfalso; contradiction)
     | (cases ret1_some h
        refine ⟨st',?_,Like.same rfl rfl⟩
        simp only [OpR.as,ret1, *,if_true,if_false,and_self]
        first | done | rfl)
 case max x y =>
   simp only [foot,Option.some.injEq] at hf; subst hf
   have h1 := (opd_on (x := x) hc.left).1
   have h2 := (opd_on (x := y) hc.right).1
   simp only [evalOp,h1,h2] at h ⊢
   repeat' split at h
   all_goals first
     | (cases h; done)
     | (exfalso; contradiction)
     | (cases ret1_some h
        refine ⟨st',?_,Like.same rfl rfl⟩
        simp only [OpR.as,ret1, *,if_true,if_false,and_self]
        first | done | rfl)
 case assert x t z ok =>
   simp only [foot,Option.some.injEq] at hf; subst hf
   have h1 := (opd_on (x := x) hc).1
   simp only [evalOp,h1] at h ⊢
   repeat' split at h
   all_goals first
     | (cases h; done)
     | (exfalso; contradiction)
     | (cases ret1_some h
        refine ⟨st',?_,Like.same rfl rfl⟩
        simp only [OpR.as,ret1, *,if_true,if_false,and_self]
        first | done | rfl)
 case iaddrA x y len sz =>
   simp only [foot,Option.some.injEq] at hf; subst hf
   have h1 := (opd_on (x := x) hc.left).1
   have h2 := (opd_on (x := y) hc.right).1
   simp only [evalOp,h1,h2] at h ⊢
   repeat' split at h
   all_goals first
     | (cases h; done)
     | (exfalso; contradiction)
     | (cases ret1_some h
        refine ⟨st',?_,Like.same rfl rfl⟩
        simp only [OpR.as,ret1, *,if_true,if_false,and_self]
        first | done | rfl)
 case slcS x a b =>
   simp only [foot,Option.some.injEq] at hf; subst hf
   have h1 := (opd_on (x := x) hc.left).1
   have h2 := fun d => bound_on (x := a) hc.right.left d
   have h3 := fun d => bound_on (x := b) hc.right.right d
   simp only [evalOp,h1,h2,h3] at h ⊢
   repeat' split at h
   all_goals first
     | (cases h; done)
     | (exfalso; contradiction)
     | (cases ret1_some h
        refine ⟨st',?_,Like.same rfl rfl⟩
        simp only [OpR.as,ret1, *,if_true,if_false,and_self]
        first | done | rfl)
 case slcL x a b sz =>
   simp only [foot,Option.some.injEq] at hf; subst hf
   have h1 := (opd_on (x := x) hc.left).1
   have h2 := fun d => bound_on (x := a) hc.right.left d
   have h3 := fun d => bound_on (x := b) hc.right.right d
   simp only [evalOp,h1,h2,h3] at h ⊢
   repeat' split at h
   all_goals first
     | (cases h; done)
     | (exfalso; contradiction)
     | (cases ret1_some h
        refine ⟨st',?_,Like.same rfl rfl⟩
        simp only [OpR.as,ret1, *,if_true,if_false,and_self]
        first | done | rfl)
 case sdata x e =>
   simp only [foot,Option.some.injEq] at hf; subst hf
   have h1 := (opd_on (x := x) hc).1
   simp only [evalOp,h1] at h ⊢
   clear hi
   generalize (opd st.fr x).1 = v at h ⊢
   cases v <;> try (cases h; done)
   rename_i xs o
   cases o <;> try (cases h; done)
   · cases ret1_some h; exact ⟨st',rfl,Like.same rfl rfl⟩
   · simp only at h ⊢
     split at h
     · rename_i hq; cases ret1_some h; exact ⟨st',by rw [if_pos hq]; rfl,Like.same rfl rfl⟩
     · cases h
 case bytesS x =>
   simp only [foot,Option.some.injEq] at hf; subst hf
   have h1 := (opd_on (x := x) hc).1
   simp only [evalOp,h1] at h ⊢
   repeat' split at h
   all_goals first
     | (cases h; done)
     | (exfalso; contradiction)
     | (cases ret1_some h
        refine ⟨st',?_,Like.same rfl rfl⟩
        simp only [OpR.as,ret1, *,if_true,if_false,and_self]
        first | done | rfl)
 case idxB f x y =>
   simp only [foot,Option.some.injEq] at hf; subst hf
   have h1 := (opd_on (x := x) hc.left).1
   have h2 := (opd_on (x := y) hc.right).1
   simp only [evalOp,h1,h2] at h ⊢
   repeat' split at h
   all_goals first
     | (cases h; done)
     | (exfalso; contradiction)
     | (cases ret1_some h
        refine ⟨st',?_,Like.same rfl rfl⟩
        simp only [OpR.as,ret1, *,if_true,if_false,and_self]
        first | done | rfl)
 case ident f x =>
   simp only [foot,Option.some.injEq] at hf; subst hf
   have h1 := (opd_on (x := x) hc).1
   simp only [evalOp,h1] at h ⊢
   repeat' split at h
   all_goals first
     | (cases h; done)
     | (exfalso; contradiction)
     | (cases ret1_some h
        refine ⟨st',?_,Like.same rfl rfl⟩
        simp only [OpR.as,ret1, *,if_true,if_false,and_self]
        first | done | rfl)
 case mkslice z e x y b =>
   simp only [foot,Option.some.injEq] at hf; subst hf
   have h1 := (opd_on (x := x) hc.left).1
   have h2 := (opd_on (x := y) hc.right).1
   simp only [evalOp,h1,h2] at h ⊢
   repeat' split at h
   all_goals first
     | (cases h; done)
     | (exfalso; contradiction)
     | (cases ret1_some h
        refine ⟨st',?_,Like.same rfl rfl⟩
        simp only [OpR.as,ret1, *,if_true,if_false,and_self]
        first | done | rfl)
 case mkroom f e x =>
   simp only [foot,Option.some.injEq] at hf; subst hf
   have h1 := (opd_on (x := x) hc).1
   simp only [evalOp,h1] at h ⊢
   repeat' split at h
   all_goals first
     | (cases h; done)
     | (exfalso; contradiction)
     | (cases ret1_some h
        refine ⟨st',?_,Like.same rfl rfl⟩
        simp only [OpR.as,ret1, *,if_true,if_false,and_self]
        first | done | rfl)
 case capN x =>
   simp only [foot,Option.some.injEq] at hf; subst hf
   have h1 := (opd_on (x := x) hc).1
   simp only [evalOp,h1] at h ⊢
   repeat' split at h
   all_goals first
     | (cases h; done)
     | (exfalso; contradiction)
     | (cases ret1_some h
        refine ⟨st',?_,Like.same rfl rfl⟩
        simp only [OpR.as,ret1, *,if_true,if_false,and_self]
        first | done | rfl)
 case copyN x y =>
   simp only [foot,Option.some.injEq] at hf; subst hf
   have h1 := (opd_on (x := x) hc.left).1
   have h2 := (opd_on (x := y) hc.right).1
   simp only [evalOp,h1,h2] at h ⊢
   repeat' split at h
   all_goals first
     | (cases h; done)
     | (exfalso; contradiction)
     | (cases ret1_some h
        refine ⟨st',?_,Like.same rfl rfl⟩
        simp only [OpR.as,ret1, *,if_true,if_false,and_self]
        first | done | rfl)
 case len x kd =>
   cases kd <;> first | exact hi.elim | (
     simp only [foot,Option.some.injEq] at hf; subst hf
     have h1 := (opd_on (x := x) hc).1
     simp only [evalOp,h1] at h ⊢
     repeat' split at h
     all_goals first
       | (cases h; done)
       | (exfalso; contradiction)
       | (cases ret1_some h
          refine ⟨st',?_,Like.same rfl rfl⟩
          simp only [OpR.as,ret1, *,if_true,if_false,and_self]
          first | done | rfl))
theorem like_op_take {i:IOp} (hf:foot i = some F) (hc:FrOn F.rd st.fr st'.fr) {r:OpR} (h:evalOp G call lo i st = some r)
   (hi:match i with | .mv _ | .build .. | .bslice .. | .mkiface .. | .mkfunc .. | .extract .. | .append .. | .slcR .. | .alloc false _ _ | .box false _ => True | _ => False) :
   ∃ s1',evalOp G call lo i st' = some (r.as s1') ∧ Like F st r.stt st' s1' := by
 cases i <;> try exact hi.elim
 case mv x =>
   simp only [foot,Option.some.injEq] at hf; subst hf
   obtain ⟨h1,h2⟩ := opd_on (x := x) hc
   simp only [evalOp] at h ⊢
   cases ret1_some h
   exact ⟨_,by rw [h1]; rfl,Like.take h2 rfl⟩
 case slcR s b =>
   simp only [foot,Option.some.injEq] at hf; subst hf
   have h1 : st'.fr.get s = st.fr.get s := hc s (by simp)
   have h2 := (opd_on (x := b) (fun t ht => hc t (by simp [ht]))).1
   simp only [evalOp,h1,h2] at h ⊢
   split at h
   · rename_i n e kk i hv hw
     split at h
     · rename_i h0; cases ret1_some h
       refine ⟨_,by simp only [hv,hw,if_pos h0]; rfl,Like.take ⟨fun t ht => ?_,fun t ht => ?_,fun t ht => ?_⟩ rfl⟩
       · simp at ht; subst ht; simp [Fr.get_set]
       · simp at ht; rw [Fr.get_set,if_neg (fun e => ht e.symm)]
       · simp at ht; rw [Fr.get_set,if_neg (fun e => ht e.symm)]
     · cases h
   · cases h
 case mkiface t x =>
   simp only [foot,Option.some.injEq] at hf; subst hf
   obtain ⟨h1,h2⟩ := opd_on (x := x) hc
   simp only [evalOp,h1] at h ⊢
   split at h
   · rename_i hp; cases ret1_some h
     exact ⟨_,by rw [if_pos hp]; rfl,Like.take h2 rfl⟩
   · cases h
 case extract x i =>
   simp only [foot,Option.some.injEq] at hf; subst hf
   obtain ⟨h1,h2⟩ := opd_on (x := x) hc
   simp only [evalOp,h1] at h ⊢
   split at h
   · rename_i vs hv
     split at h
     · rename_i u hu
       split at h
       · rename_i hp; cases ret1_some h
         exact ⟨_,by simp only [hv,hu,if_pos hp]; rfl,Like.take h2 rfl⟩
       · cases h
     · cases h
   · cases h
 case mkfunc f xs =>
   simp only [foot,Option.some.injEq] at hf; subst hf
   obtain ⟨h1,h2⟩ := opds_on (xs := xs) hc
   simp only [evalOp,h1] at h ⊢
   split at h
   · rename_i hp; cases ret1_some h
     exact ⟨_,by rw [if_pos hp]; rfl,Like.take h2 rfl⟩
   · cases h
 case build zs ps =>
   simp only [foot,Option.some.injEq] at hf; subst hf
   obtain ⟨h1,h2⟩ := opds_on (xs := ps.map (·.2.2)) hc
   simp only [evalOp,h1] at h ⊢
   split at h
   · cases h
   · rename_i hp
     split at h
     · rename_i cs hcs; cases ret1_some h
       exact ⟨_,by rw [if_neg hp]; rfl,Like.take h2 rfl⟩
     · cases h
 case bslice z e n ps =>
   simp only [foot,Option.some.injEq] at hf; subst hf
   obtain ⟨h1,h2⟩ := opds_on (xs := ps.map (·.2)) hc
   simp only [evalOp,h1] at h ⊢
   split at h
   · cases h
   · rename_i hp
     split at h
     · rename_i cs hcs; cases ret1_some h
       exact ⟨_,by rw [if_neg hp]; rfl,Like.take h2 rfl⟩
     · cases h
 case append x y sz e bytes pend =>
   simp only [foot,Option.some.injEq] at hf; subst hf
   obtain ⟨h1,h2⟩ := opd_on (x := x) hc.left
   have h3 := (opd_on (x := y) (hc.right.moved h2)).1
   simp only [evalOp,h1,h3] at h ⊢
   split at h
   · rename_i xs o hv
     split at h
     · rename_i hown
       split at h
       · rename_i ys o2 hy
         split at h
         · rename_i hb
           split at h
           · rename_i hpd
             split at h
             · rename_i h1'; cases ret1_some h
               exact ⟨_,by rw [if_pos hown,if_pos hb,if_pos hpd,if_pos h1']; rfl,Like.take h2 rfl⟩
             · cases h
           · rename_i hpd; cases ret1_some h
             exact ⟨_,by rw [if_pos hown,if_pos hb,if_neg hpd]; rfl,Like.take h2 rfl⟩
         · cases h
       · rename_i sx hy
         split at h
         · rename_i hb; cases ret1_some h
           exact ⟨_,by rw [if_pos hown,if_pos hb]; rfl,Like.take h2 rfl⟩
         · cases h
       · cases h
     · cases h
   · cases h
 case alloc heap ty cs =>
   cases heap
   · simp only [foot,Bool.false_eq_true,if_false,Option.some.injEq] at hf; subst hf
     simp only [evalOp,Bool.false_eq_true,if_false] at h ⊢
     cases ret1_some h
     exact ⟨st',rfl,Like.same rfl rfl⟩
   · exact hi.elim
 case box heap x =>
   cases heap
   · simp only [foot,Bool.false_eq_true,if_false,Option.some.injEq] at hf; subst hf
     obtain ⟨h1,h2⟩ := opd_on (x := x) hc
     simp only [evalOp,h1,Bool.false_eq_true,if_false] at h ⊢
     split at h
     · cases h
     · rename_i hp
       cases ret1_some h
       exact ⟨_,by rw [if_neg hp]; rfl,Like.take h2 rfl⟩
   · exact hi.elim
theorem like_op_iaddrL {x i:Opd} {sz:Nat} (hf:foot (.iaddrL x i sz) = some F) (hc:FrOn F.rd st.fr st'.fr) {r:OpR} (h:evalOp G call lo (.iaddrL x i sz) st = some r) : ∃ s1',evalOp G call lo (.iaddrL x i sz) st' = some (r.as s1') ∧ Like F st r.stt st' s1' := by
 simp only [foot,Option.some.injEq] at hf; subst hf
 have h1 := (opd_on (x := x) hc.left).1
 have h2 := (opd_on (x := i) hc.right).1
 cases x with
 | t s tk =>
   have h3 : st'.fr.get s = st.fr.get s := hc s (by simp [opdR])
   simp only [evalOp,h1,h2,h3] at h ⊢
   repeat' split at h
   all_goals first
     | (cases h; done)
     | (cases ret1_some h
        try injections
        subst_vars
        refine ⟨st',?_,Like.same rfl rfl⟩
        simp only [OpR.as,ret1, *,if_true,if_false,and_self]
        first | done | rfl)
 | c v =>
   simp only [evalOp,h1,h2] at h ⊢
   repeat' split at h
   all_goals first
     | (cases h; done)
     | (exfalso; contradiction)
     | (cases ret1_some h
        refine ⟨st',?_,Like.same rfl rfl⟩
        simp only [OpR.as,ret1, *,if_true,if_false,and_self]
        first | done | rfl)
 | g v =>
   simp only [evalOp,h1,h2] at h ⊢
   repeat' split at h
   all_goals first
     | (cases h; done)
     | (exfalso; contradiction)
     | (cases ret1_some h
        refine ⟨st',?_,Like.same rfl rfl⟩
        simp only [OpR.as,ret1, *,if_true,if_false,and_self]
        first | done | rfl)
 | f v =>
   simp only [evalOp,h1,h2] at h ⊢
   repeat' split at h
   all_goals first
     | (cases h; done)
     | (exfalso; contradiction)
     | (cases ret1_some h
        refine ⟨st',?_,Like.same rfl rfl⟩
        simp only [OpR.as,ret1, *,if_true,if_false,and_self]
        first | done | rfl)
end
end Go.Proofs.YtkofimhnehkdoaaGreatDoor.Rf
end
section
namespace Go.Proofs.YtkofimhnehkdoaaGreatDoor.Rf
section
variable {G:Nat → Option (List AV)} {call:CallF} {lo:Nat} {st st' : St} {F:Foot}
theorem Like.hpset {F:Foot} {fr1 fr1' : Fr} {hp1 hp1' : List HObj} (h:Moved F.wr st.fr fr1 st'.fr fr1') (hw:F.hw ≠ .no) (e:st'.hp = st.hp → hp1' = hp1) (k:HpKeep F.hw st.hp hp1) : Like F st ⟨fr1,hp1⟩ st' ⟨fr1',hp1'⟩ :=
 ⟨h,fun e => absurd e hw,e,k⟩
theorem like_op_load {x : Opd} {m:Mem} {n:Nat} {agg tk:Bool} (hf:foot (.load x m n agg tk) = some F) (hc:ClearF F st st') {r:OpR} (h:evalOp G call lo (.load x m n agg tk) st = some r) :
   ∃ s1',evalOp G call lo (.load x m n agg tk) st' = some (r.as s1') ∧ Like F st r.stt st' s1' := by
 obtain ⟨hc1,hc2,hc3⟩ := hc
 cases m with
 | last r0 => simp [foot] at hf
 | loc r0 =>
   simp only [foot,Option.some.injEq] at hf; subst hf
   have h1 := (opd_on (x := x) hc1.left).1
   have h2 : st'.fr.get r0 = st.fr.get r0 := hc1 r0 (by simp)
   simp only [evalOp,h1] at h ⊢
   split at h
   · cases h
   · rename_i hmm
     rw [if_neg hmm]
     cases hp : (opd st.fr x).1 <;> rw [hp] at h hmm <;> simp only [memOk,behind] at h hmm <;> try (simp at hmm; done)
     rename_i s off
     have hs : s = r0 := by simpa using hmm
     subst hs
     simp only [behind,h2,behindPut] at h ⊢
     split at h
     · rename_i cs off' hb
       split at h
       · rename_i l hl
         cases tk with
         | true =>
           simp only [if_true] at h ⊢
           split at h
           · rename_i hn; cases ret1_some h
             refine ⟨_,by rw [if_pos hn]; rfl,?_⟩
             exact Like.take (Moved.set _ _) rfl
           · cases h
         | false =>
           simp only [Bool.false_eq_true,if_false] at h ⊢
           cases ret1_some h
           exact ⟨st',rfl,Like.same rfl rfl⟩
       · cases h
     · cases h
 | elem =>
   simp only [foot,Option.some.injEq] at hf; subst hf
   have h1 := (opd_on (x := x) hc1).1
   simp only [evalOp,h1] at h ⊢
   split at h
   · cases h
   · rename_i hmm
     rw [if_neg hmm]
     cases hp : (opd st.fr x).1 <;> rw [hp] at h hmm <;> simp only [memOk,behind] at h hmm <;> try (simp at hmm; done)
     rename_i s off
     simp only [behind,behindPut] at h ⊢
     split at h
     · rename_i l hl
       cases tk with
       | true =>
         simp only [if_true] at h ⊢
         split at h <;> cases h
       | false =>
         simp only [Bool.false_eq_true,if_false] at h ⊢
         cases ret1_some h
         exact ⟨st',rfl,Like.same rfl rfl⟩
     · cases h
 | heap =>
   simp only [foot,Option.some.injEq] at hf; subst hf
   have h1 := (opd_on (x := x) hc1).1
   simp only [evalOp,h1] at h ⊢
   split at h
   · cases h
   · rename_i hmm
     rw [if_neg hmm]
     cases hp : (opd st.fr x).1 <;> rw [hp] at h hmm <;> simp only [memOk,behind] at h hmm <;> try (simp at hmm; done)
     case ptr id off =>
       cases ho : st.hp[id]? with
       | none => simp [ho] at h
       | some ob =>
         cases ob with
         | dead => simp [ho] at h
         | map es => simp [ho] at h
         | cells t0 ds =>
           have ho' := cells_at hc2 (.inl rfl) ho
           simp only [behind,behindPut,ho,ho'] at h ⊢
           split at h
           · rename_i l hl
             cases tk with
             | true =>
               have hh := hc3 (by simp)
               simp only [if_true] at h ⊢
               split at h
               · rename_i hn
                 split at h
                 · rename_i s1 hs1
                   split at hs1
                   · rename_i hlo; cases hs1; cases ret1_some h
                     refine ⟨{ st' with hp := st.hp.set id (.cells t0 (put ds off (l.map AV.cp1))) },by rw [if_pos hn,if_pos hlo,hh]; rfl,?_⟩
                     exact Like.hpset (Moved.refl _ _) (by simp) (fun _ => rfl) (keep_set_cells ho)
                   · cases hs1
                 · cases h
               · cases h
             | false =>
               simp only [Bool.false_eq_true,if_false] at h ⊢
               cases ret1_some h
               exact ⟨st',rfl,Like.same rfl (by simp)⟩
           · cases h
     case glob b off =>
       simp only [behind,behindPut] at h ⊢
       cases hG : G b with
       | none => simp [hG] at h
       | some cs =>
         simp only [hG,Option.map_some] at h ⊢
         split at h
         · rename_i l hl
           cases tk with
           | true =>
             simp only [if_true] at h ⊢
             split at h <;> cases h
           | false =>
             simp only [Bool.false_eq_true,if_false] at h ⊢
             cases ret1_some h
             exact ⟨st',rfl,Like.same rfl (by simp)⟩
         · cases h
theorem like_op_store {x v:Opd} {m:Mem} {n:Nat} (hf:foot (.store x m v n) = some F) (hc:ClearF F st st') {r:OpR} (h:evalOp G call lo (.store x m v n) st = some r) :
   ∃ s1',evalOp G call lo (.store x m v n) st' = some (r.as s1') ∧ Like F st r.stt st' s1' := by
 obtain ⟨hc1,hc2,hc3⟩ := hc
 cases m with
 | last r0 => simp [foot] at hf
 | elem => simp [foot] at hf
 | loc r0 =>
   simp only [foot,Option.some.injEq] at hf; subst hf
   obtain ⟨h1,h2⟩ := opd_on (x := v) hc1.left
   have h3 := (opd_on (x := x) (hc1.right.left.moved h2)).1
   have h4 : (opd st'.fr v).2.get r0 = (opd st.fr v).2.get r0 := (hc1.right.right.moved h2) r0 (by simp)
   simp only [evalOp,h1,h3] at h ⊢
   split at h
   · cases h
   · rename_i hmm
     rw [if_neg hmm]
     simp only [not_or,Bool.not_eq_false] at hmm
     cases hp : (opd (opd st.fr v).2 x).1 <;> rw [hp] at h hmm <;> simp only [memOk,behind] at h hmm <;> try (simp at hmm; done)
     rename_i s off
     have hs : s = r0 := by simpa using hmm.2
     subst hs
     simp only [behind,h4,behindPut] at h ⊢
     split at h
     · rename_i cs off' hb
       split at h
       · rename_i hl; cases ret1_some h
         refine ⟨_,by rw [if_pos hl]; rfl,?_⟩
         exact Like.take (F := ⟨_,opdW v ++ [s],_,_⟩) (h2.trans (Moved.set _ _)) rfl
       · cases h
     · cases h
 | heap =>
   simp only [foot,Option.some.injEq] at hf; subst hf
   obtain ⟨h1,h2⟩ := opd_on (x := v) hc1.left
   have h3 := (opd_on (x := x) (hc1.right.moved h2)).1
   have hh := hc3 (by simp)
   simp only [evalOp,h1,h3] at h ⊢
   split at h
   · cases h
   · rename_i hmm
     rw [if_neg hmm]
     simp only [not_or,Bool.not_eq_false] at hmm
     cases hp : (opd (opd st.fr v).2 x).1 <;> rw [hp] at h hmm <;> simp only [memOk,behind] at h hmm <;> try (simp at hmm; done)
     case ptr id off =>
       cases ho : st.hp[id]? with
       | none => simp [ho] at h
       | some ob =>
         cases ob with
         | dead => simp [ho] at h
         | map es => simp [ho] at h
         | cells t0 ds =>
           simp only [behind,behindPut,hh,ho] at h ⊢
           split at h
           · rename_i hl
             split at h
             · rename_i s1 hs1
               split at hs1
               · rename_i hlo; cases hs1; cases ret1_some h
                 refine ⟨{ fr := (opd st'.fr v).2,hp := st.hp.set id (.cells t0 (put ds off (opd st.fr v).1.spread)) },by rw [if_pos hl,if_pos hlo]; rfl,?_⟩
                 exact Like.hpset h2 (by simp) (fun _ => rfl) (keep_set_cells ho)
               · cases hs1
             · cases h
           · cases h
     case glob b off =>
       simp only [behind,behindPut] at h
       repeat' split at h
       all_goals first | (cases h; done) | (rename_i h9; cases h9; done)
theorem like_op_maps {i:IOp} (hf:foot i = some F) (hc:ClearF F st st') {r:OpR} (h:evalOp G call lo i st = some r)
   (hi:match i with | .lookup .. | .mapset .. | .len _ .map => True | _ => False) :
   ∃ s1',evalOp G call lo i st' = some (r.as s1') ∧ Like F st r.stt st' s1' := by
 obtain ⟨hc1,hc2,hc3⟩ := hc
 cases i <;> try exact hi.elim
 case len x kd =>
   cases kd <;> try exact hi.elim
   simp only [foot,Option.some.injEq] at hf; subst hf
   have h1 := (opd_on (x := x) hc1).1
   simp only [evalOp,h1] at h ⊢
   split at h
   · contradiction
   · contradiction
   · contradiction
   · cases ret1_some h; exact ⟨st',rfl,Like.same rfl rfl⟩
   · rename_i id _ hv
     cases ho : st.hp[id]? with
     | none => simp [ho] at h
     | some ob =>
       cases ob with
       | dead => simp [ho] at h
       | cells t0 es => simp [ho] at h
       | map es =>
         have ho' := maps_at hc2 (.inl rfl) ho
         simp only [ho,ho'] at h ⊢
         cases ret1_some h; exact ⟨st',rfl,Like.same rfl rfl⟩
   · cases h
 case lookup kd m k z ok tk =>
   simp only [foot,Option.some.injEq] at hf; subst hf
   have h1 := (opd_on (x := m) hc1.left).1
   have h2 := (opd_on (x := k) hc1.right).1
   simp only [evalOp,h1,h2] at h ⊢
   split at h
   · rename_i id hv
     cases ho : st.hp[id]? with
     | none => simp [ho] at h
     | some ob =>
       cases ob with
       | dead => simp [ho] at h
       | cells t0 es => simp [ho] at h
       | map es =>
         have ho' := maps_at hc2 (.inl rfl) ho
         simp only [ho,ho'] at h ⊢
         split at h
         · cases h
         · rename_i hp
           rw [if_neg hp]
           split at h
           · rename_i j v hfk
             cases tk with
             | true =>
               have hh := hc3 (by simp)
               simp only [if_true] at h ⊢
               split at h
               · rename_i hlv; cases ret1_some h
                 refine ⟨{ st' with hp := st.hp.set id (.map (es.set j ((es.getD j default).1,v.cp))) },by rw [if_pos hlv,hh]; rfl,?_⟩
                 exact Like.hpset (Moved.refl _ _) (by simp) (fun _ => rfl) (keep_set_map ho)
               · cases h
             | false =>
               simp only [Bool.false_eq_true,if_false] at h ⊢
               cases ret1_some h
               exact ⟨st',rfl,Like.same rfl (by simp)⟩
           · cases ret1_some h
             refine ⟨st',rfl,?_⟩
             exact ⟨Moved.refl _ _,fun _ => rfl,fun e => e,by cases tk <;> simp [HpKeep,OpR.stt,HpOn]⟩
           · cases h
   · rename_i hv
     split at h
     · cases h
     · rename_i hp
       rw [if_neg hp]
       simp only [findKey] at h ⊢
       cases ret1_some h
       refine ⟨st',rfl,?_⟩
       exact ⟨Moved.refl _ _,fun _ => rfl,fun e => e,by cases tk <;> simp [HpKeep,OpR.stt,HpOn]⟩
   · cases h
 case mapset kd m k v z =>
   simp only [foot,Option.some.injEq] at hf; subst hf
   obtain ⟨h1,h2⟩ := opd_on (x := v) hc1.left
   have h3 := (opd_on (x := m) (hc1.right.left.moved h2)).1
   have h4 := (opd_on (x := k) (hc1.right.right.moved h2)).1
   have hh := hc3 (by simp)
   simp only [evalOp,h1,h3,h4,hh] at h ⊢
   split at h
   · cases h
   · rename_i hp
     rw [if_neg hp]
     split at h
     · rename_i id hv
       cases ho : st.hp[id]? with
       | none => simp [ho] at h
       | some ob =>
         cases ob with
         | dead => simp [ho] at h
         | cells t0 es => simp [ho] at h
         | map es =>
           simp only [ho] at h ⊢
           split at h
           · rename_i hlo
             rw [if_pos hlo]
             split at h
             · cases ret1_some h
               exact ⟨{ fr := (opd st'.fr v).2,hp := _ },rfl,Like.hpset h2 (by simp) (fun _ => rfl) (keep_set_map ho)⟩
             · cases ret1_some h
               exact ⟨{ fr := (opd st'.fr v).2,hp := _ },rfl,Like.hpset h2 (by simp) (fun _ => rfl) (keep_set_map ho)⟩
             · cases h
           · cases h
     · cases h
theorem like_op_all {i:IOp} (hq:CallQ call) (hf:foot i = some F) (hc:ClearF F st st') {r:OpR} (h:evalOp G call lo i st = some r)
   (hi:match i with | .alloc true _ _ | .box true _ | .mkmap | .mkbuf .. | .ustr .. | .copyS .. | .appR .. | .call .. => True | _ => False) :
   ∃ s1',evalOp G call lo i st' = some (r.as s1') ∧ Like F st r.stt st' s1' := by
 obtain ⟨hc1,hc2,hc3⟩ := hc
 cases i <;> try exact hi.elim
 case mkmap =>
   simp only [foot,Option.some.injEq] at hf; subst hf
   simp only [HpOn] at hc2
   simp only [evalOp,hc2] at h ⊢
   cases ret1_some h
   exact ⟨{ st' with hp := _ },rfl,Like.hpset (Moved.refl _ _) (by simp) (fun _ => rfl) trivial⟩
 case ustr x y e =>
   simp only [foot,Option.some.injEq] at hf; subst hf
   simp only [HpOn] at hc2
   have h1 := (opd_on (x := x) hc1.left).1
   have h2 := (opd_on (x := y) hc1.right).1
   simp only [evalOp,hc2,h1,h2] at h ⊢
   clear hi
   generalize (opd st.fr x).1 = v at h ⊢
   generalize (opd st.fr y).1 = u at h ⊢
   cases v <;> try (cases h; done)
   · cases u <;> try (cases h; done)
     rename_i id q k m
     cases k <;> try (cases h; done)
     simp only at h ⊢
     cases ho : st.hp[id]? with
     | none => simp [ho] at h
     | some ob =>
       cases ob with
       | dead => simp [ho] at h
       | map es => simp [ho] at h
       | cells t0 ds =>
         simp only [ho] at h ⊢
         split at h
         · rename_i hq
           cases hl : cut ds 0 m.toNat with
           | none => simp [hl] at h
           | some l =>
             simp only [hl] at h ⊢
             cases hb : bytesOf l with
             | none => simp [hb] at h
             | some bs =>
               simp only [hb] at h ⊢
               cases ret1_some h
               exact ⟨{ st' with hp := _ },by rw [if_pos hq]; rfl,Like.hpset (Moved.refl _ _) (by simp) (fun _ => rfl) trivial⟩
         · cases h
   · cases u <;> try (cases h; done)
     rename_i k m
     cases k <;> try (cases h; done)
     simp only at h ⊢
     split at h
     · rename_i hq; cases ret1_some h; exact ⟨st',by rw [if_pos hq]; rfl,⟨Moved.refl _ _,fun e => (by cases e),fun h => h,trivial⟩⟩
     · cases h
   · cases u <;> try (cases h; done)
     rename_i k m
     cases k <;> try (cases h; done)
     simp only at h ⊢
     split at h
     · rename_i bs hb
       try simp only [hb]
       split at h
       · rename_i hq; cases ret1_some h; exact ⟨st',by rw [if_pos hq]; rfl,⟨Moved.refl _ _,fun e => (by cases e),fun h => h,trivial⟩⟩
       · cases h
     · cases h
 case copyS x y =>
   simp only [foot,Option.some.injEq] at hf; subst hf
   simp only [HpOn] at hc2
   have h1 := (opd_on (x := x) hc1.left).1
   have h2 := (opd_on (x := y) hc1.right).1
   simp only [evalOp,hc2,h1,h2] at h ⊢
   repeat' split at h
   all_goals first
     | (cases h; done)
     | (exfalso; contradiction)
     | (cases ret1_some h
        refine ⟨{ st' with hp := _ },?_,Like.hpset (Moved.refl _ _) (by simp) (fun _ => rfl) trivial⟩
        first
          | done
          | rfl
          | (simp only [OpR.as,ret1, *,if_true,if_false,and_self]; first | done | rfl)
          | (simp_all [OpR.as,ret1]; done))
     | (cases ret1_some h
        refine ⟨st',?_,⟨Moved.refl _ _,fun e => (by cases e),fun h => h,trivial⟩⟩
        first
          | done
          | rfl
          | (simp only [OpR.as,ret1, *,if_true,if_false,and_self]; first | done | rfl)
          | (simp_all [OpR.as,ret1]; done))
 case appR x y sz bytes =>
   simp only [foot,Option.some.injEq] at hf; subst hf
   simp only [HpOn] at hc2
   have h1 := (opd_on (x := x) hc1.left).1
   have h2 := (opd_on (x := y) hc1.right).1
   simp only [evalOp,hc2,h1,h2] at h ⊢
   repeat' split at h
   all_goals first
     | (cases h; done)
     | (exfalso; contradiction)
     | (cases ret1_some h
        refine ⟨{ st' with hp := _ },?_,Like.hpset (Moved.refl _ _) (by simp) (fun _ => rfl) trivial⟩
        first
          | done
          | rfl
          | (simp only [OpR.as,ret1, *,if_true,if_false,and_self]; first | done | rfl)
          | (simp_all [OpR.as,ret1]; done))
     | (cases ret1_some h
        refine ⟨st',?_,⟨Moved.refl _ _,fun e => (by cases e),fun h => h,trivial⟩⟩
        first
          | done
          | rfl
          | (simp only [OpR.as,ret1, *,if_true,if_false,and_self]; first | done | rfl)
          | (simp_all [OpR.as,ret1]; done))
 case mkbuf z e n c b =>
   simp only [foot,Option.some.injEq] at hf; subst hf
   simp only [HpOn] at hc2
   have h1 := (opd_on (x := n) hc1.left).1
   have h2 := (opd_on (x := c) hc1.right).1
   simp only [evalOp,hc2,h1,h2] at h ⊢
   split at h
   · split at h
     · rename_i hp
       cases ret1_some h
       exact ⟨{ st' with hp := _ },by rw [if_pos hp]; rfl,Like.hpset (Moved.refl _ _) (by simp) (fun _ => rfl) trivial⟩
     · cases h
   · cases h
 case alloc heap ty cs =>
   cases heap
   · exact hi.elim
   · simp only [foot,if_true,Option.some.injEq] at hf; subst hf
     simp only [HpOn] at hc2
     simp only [evalOp,if_true,hc2] at h ⊢
     cases ret1_some h
     exact ⟨{ st' with hp := _ },rfl,Like.hpset (Moved.refl _ _) (by simp) (fun _ => rfl) trivial⟩
 case box heap x =>
   cases heap
   · exact hi.elim
   · simp only [foot,if_true,Option.some.injEq] at hf; subst hf
     simp only [HpOn] at hc2
     obtain ⟨h1,h2⟩ := opd_on (x := x) hc1
     simp only [evalOp,if_true,hc2,h1] at h ⊢
     split at h
     · cases h
     · rename_i hp
       cases ret1_some h
       exact ⟨{ fr := (opd st'.fr x).2,hp := _ },by rw [if_neg hp]; rfl,Like.hpset h2 (by simp) (fun _ => rfl) trivial⟩
 case call f xs q =>
   simp only [foot,Option.some.injEq] at hf; subst hf
   simp only [HpOn] at hc2
   obtain ⟨h1,h2⟩ := opds_on (xs := xs) hc1.left
   have h3 := (opd_on (x := f) (hc1.right.moved h2)).1
   simp only [evalOp,hc2,h1,h3] at h ⊢
   split at h
   · cases h
   · rename_i hp
     rw [if_neg hp]
     split at h
     · rename_i fid caps hv
       split at h
       · cases h
       · rename_i hpc
         rw [if_neg hpc]
         have fin : ∀ (hp1:List HObj),(q = true → hp1 = st.hp) → Like ⟨opdsR xs ++ opdR f,opdsW xs,.all,if q then .no else .all⟩ st ⟨(opds st.fr xs).2,hp1⟩ st' ⟨(opds st'.fr xs).2,hp1⟩ := fun hp1 e => by
           cases q with
           | true => 
             have := e rfl; subst this
             exact ⟨h2,fun _ => hc2.symm,fun _ => rfl,rfl⟩
           | false => exact ⟨h2,(fun e => by simp at e),fun _ => rfl,trivial⟩
         split at h
         · rename_i v hp1 hcall; cases ret1_some h
           exact ⟨⟨(opds st'.fr xs).2,hp1⟩,rfl,fin hp1 fun e => by subst e; exact hq _ _ _ _ _ hcall⟩
         · rename_i v hp1 hcall; cases h
           exact ⟨⟨(opds st'.fr xs).2,hp1⟩,rfl,fin hp1 fun e => by subst e; exact hq _ _ _ _ _ hcall⟩
         · cases h
     · cases h
theorem like_op {i:IOp} (hq:CallQ call) (hf:foot i = some F) (hc:ClearF F st st') {r:OpR} (h:evalOp G call lo i st = some r) :
   ∃ s1',evalOp G call lo i st' = some (r.as s1') ∧ Like F st r.stt st' s1' := by
 cases i
 case load => exact like_op_load hf hc h
 case store => exact like_op_store hf hc h
 case iaddrL => exact like_op_iaddrL hf hc.1 h
 case lookup => exact like_op_maps hf hc h trivial
 case mapset => exact like_op_maps hf hc h trivial
 case uptr x u n =>
   obtain ⟨hc1,hc2,hc3⟩ := hc
   simp only [foot,Option.some.injEq] at hf; subst hf
   have h1 := (opd_on (x := x) hc1).1
   simp only [evalOp,h1] at h ⊢
   split at h
   · rename_i i j hv
     cases ho : st.hp[i]? with
     | none => simp [ho] at h
     | some ob =>
       cases ob with
       | dead => simp [ho] at h
       | map es => simp [ho] at h
       | cells t0 ds =>
         have ho' := cells_at hc2 (.inl rfl) ho
         simp only [ho,ho'] at h ⊢
         split at h
         · rename_i hq; cases ret1_some h
           exact ⟨st',by rw [if_pos hq]; rfl,Like.same rfl (by simp)⟩
         · cases h
   · cases h
 case slcA x a b len sz =>
   obtain ⟨hc1,hc2,hc3⟩ := hc
   simp only [foot,Option.some.injEq] at hf; subst hf
   have h1 := (opd_on (x := x) hc1.left).1
   have h2 := fun d => bound_on (x := a) hc1.right.left d
   have h3 := fun d => bound_on (x := b) hc1.right.right d
   simp only [evalOp,h1,h2,h3] at h ⊢
   split at h
   · rename_i i j hv
     cases ho : st.hp[i]? with
     | none => simp [ho] at h
     | some ob =>
       cases ob with
       | dead => simp [ho] at h
       | map es => simp [ho] at h
       | cells t0 ds =>
         have ho' := cells_at hc2 (.inl rfl) ho
         simp only [ho,ho'] at h ⊢
         split at h
         · rename_i l hh q1 q2 q3
           cases q1
           split at h
           · rename_i hq; cases ret1_some h
             exact ⟨st',by first | rfl | (rw [if_pos hq]; rfl) | (simp only [OpR.as,ret1, *,if_true,and_self]; done),Like.same rfl (by simp)⟩
           · cases h
         · cases h
   · cases h
 case strL x =>
   obtain ⟨hc1,hc2,hc3⟩ := hc
   simp only [foot,Option.some.injEq] at hf; subst hf
   have h1 := (opd_on (x := x) hc1).1
   simp only [evalOp,h1] at h ⊢
   split at h
   · rename_i xs ow hv
     split at h
     · rename_i hb; cases ret1_some h; exact ⟨st',by first | rfl | (simp only [OpR.as,ret1, *]; done),Like.same rfl (by simp)⟩
     · cases h
   · rename_i i q n sz hv
     cases ho : st.hp[i]? with
     | none => simp [ho] at h
     | some ob =>
       cases ob with
       | dead => simp [ho] at h
       | map es => simp [ho] at h
       | cells t0 ds =>
         have ho' := cells_at hc2 (.inl rfl) ho
         simp only [ho,ho'] at h ⊢
         split at h
         · split at h
           · split at h
             · rename_i hs _ l hl _ bs hb; cases ret1_some h; exact ⟨st',by first | rfl | (rw [if_pos hs]; rfl) | (simp only [OpR.as,ret1, *,if_true]; done),Like.same rfl (by simp)⟩
             · cases h
           · cases h
         · cases h
   · cases h
 case mkmap => exact like_op_all hq hf hc h trivial
 case mkbuf => exact like_op_all hq hf hc h trivial
 case ustr => exact like_op_all hq hf hc h trivial
 case copyS => exact like_op_all hq hf hc h trivial
 case appR => exact like_op_all hq hf hc h trivial
 case call => exact like_op_all hq hf hc h trivial
 case panic => simp [foot] at hf
 case alloc heap ty cs => cases heap <;> first | exact like_op_all hq hf hc h trivial | exact like_op_take hf hc.1 h trivial
 case box heap x => cases heap <;> first | exact like_op_all hq hf hc h trivial | exact like_op_take hf hc.1 h trivial
 case len x kd => cases kd <;> first | exact like_op_maps hf hc h trivial | exact like_op_pure hf hc.1 h trivial
 all_goals first
   | exact like_op_pure hf hc.1 h trivial
   | exact like_op_take hf hc.1 h trivial
end
end Go.Proofs.YtkofimhnehkdoaaGreatDoor.Rf
end
