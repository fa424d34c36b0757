/- A part of the proof: see the last text. -/
import Derived.Test.YtkofimhnehkdoaaGreatDoorRcG11
set_option linter.unusedVariables false
set_option linter.unusedSimpArgs false
section
namespace Go.Proofs.YtkofimhnehkdoaaGreatDoor.Rf
def slotL : Option Nat → List Nat
 | some s => [s]
 | none => []
def footO (o:IOper) : Option Foot := (foot o.op).map fun F => ⟨slotL (o.guard.map (·.1)) ++ (F.rd ++ slotL o.dst),F.wr ++ slotL o.dst,F.hr,F.hw⟩
def Eqv (st st' : St) : Prop := (∀ s,st'.fr.get s = st.fr.get s) ∧ st'.hp = st.hp
theorem Eqv.refl (st:St) : Eqv st st := ⟨fun _ => rfl,rfl⟩
theorem Eqv.trans {a b c:St} (h:Eqv a b) (k:Eqv b c) : Eqv a c := ⟨fun s => (k.1 s).trans (h.1 s),k.2.trans h.2⟩
section
variable {G:Nat → Option (List AV)} {call:CallF} {lo:Nat} {st st' : St} {F:Foot}
theorem noLast_iff {fr:Fr} {s:Nat} : fr.noLast s = true ↔ ∀ t u,fr.get t = .lastr u → u ≠ s := by
 refine ⟨fun h t u => Fr.noLast_get h,fun h => ?_⟩
 simp only [Fr.noLast,List.all_eq_true]
 intro e _
 cases hv : fr.get e.1 <;> simp only []
 rename_i u
 simpa using h _ _ hv
theorem wild_op {i:IOp} (hf:foot i = none) (he:Eqv st st') {r:OpR} (h:evalOp G call lo i st = some r) : ∃ s1',evalOp G call lo i st' = some (r.as s1') ∧ Eqv r.stt s1' := by
 obtain ⟨e1,e2⟩ := he
 have ro : ∀ x,(opd st'.fr x).1 = (opd st.fr x).1 := fun x => (opd_on (x := x) fun s _ => e1 s).1
 cases i
 case panic x =>
   simp only [evalOp,ro] at h ⊢
   split at h
   · cases h; exact ⟨st',rfl,e1,e2⟩
   · cases h
 case load x m n agg tk =>
   cases m <;> simp only [foot] at hf <;> try (cases hf; done)
   rename_i r0
   simp only [evalOp,ro] at h ⊢
   split at h
   · cases h
   · rename_i hmm
     cases hp : (opd st.fr x).1 <;> rw [hp] at h hmm <;> simp only [memOk,behind] at h hmm <;> first | (simp at hmm; done) | (simp at h; done)
 case store x m v n =>
   have tk : ∀ s,(opd st'.fr v).2.get s = (opd st.fr v).2.get s := fun s => by
     have := (opd_on (x := v) (fr := st.fr) (fr' := st'.fr) fun s _ => e1 s).2
     by_cases hs : s ∈ opdW v
     · exact this.new s hs
     · rw [this.old' s hs,this.old s hs]; exact e1 s
   have ro2 : ∀ x,(opd (opd st'.fr v).2 x).1 = (opd (opd st.fr v).2 x).1 := fun x => (opd_on (x := x) fun s _ => tk s).1
   cases m with
   | loc r0 => simp [foot] at hf
   | heap => simp [foot] at hf
   | elem =>
     simp only [evalOp,ro,ro2] at h ⊢
     split at h
     · cases h
     · rename_i hmm
       simp only [not_or,Bool.not_eq_false] at hmm
       cases hp : (opd (opd st.fr v).2 x).1 <;> rw [hp] at h hmm <;> simp only [memOk,behind,behindPut] at h hmm <;> first | (simp at hmm; done) | (split at h <;> cases h; done)
   | last r0 =>
     simp only [evalOp,ro,ro2] at h ⊢
     split at h
     · cases h
     · rename_i hmm
       rw [if_neg hmm]
       simp only [not_or,Bool.not_eq_false] at hmm
       cases hp : (opd (opd st.fr v).2 x).1 <;> rw [hp] at h hmm <;> simp only [memOk] at h hmm <;> try (simp at hmm; done)
       rename_i s
       dsimp only
       simp only [tk]
       cases x <;> try (simp at h; done)
       rename_i p tk2
       cases hs : (opd st.fr v).2.get s <;> rw [hs] at h <;> try (simp at h; done)
       rename_i xs sz
       dsimp only at h ⊢
       split at h
       · rename_i hh; cases ret1_some h
         have hno : ((opd st'.fr v).2.set p .none).noLast s = true := by
           rw [noLast_iff]; intro t u ht
           rw [Fr.get_set,tk] at ht
           exact noLast_iff.1 hh.2.2.2 t u (by rw [Fr.get_set]; exact ht)
         refine ⟨{ st' with fr := ((opd st'.fr v).2.set p .none).set s (.list (xs ++ [(opd st.fr v).1.cp]) (.own sz 0)) },by rw [if_pos ⟨hh.1,hh.2.1,hh.2.2.1,hno⟩]; rfl,fun t => ?_,e2⟩
         simp only [OpR.stt]
         rw [Fr.get_set,Fr.get_set,Fr.get_set,Fr.get_set,tk]
       · cases h
 all_goals first
   | (simp [foot] at hf; done)
   | (rename_i b _; cases b <;> simp [foot] at hf; done)
   | (rename_i b; cases b <;> simp [foot] at hf; done)
   | (rename_i b _ _; cases b <;> simp [foot] at hf; done)
theorem like_eqv {s1 s1' : St} (he:Eqv st st') (h:Like F st s1 st' s1') : Eqv s1 s1' :=
 ⟨fun s => by
   by_cases hs : s ∈ F.wr
   · exact h.fr.new s hs
   · rw [h.fr.old' s hs,h.fr.old s hs]; exact he.1 s,h.hp' he.2⟩
theorem Eqv.clear (he:Eqv st st') : ClearF F st st' := ⟨fun s _ => he.1 s,by rw [he.2]; exact HpOn.rfl',fun _ => he.2⟩
theorem eqv_op (hq:CallQ call) {i:IOp} (he:Eqv st st') {r:OpR} (h:evalOp G call lo i st = some r) : ∃ s1',evalOp G call lo i st' = some (r.as s1') ∧ Eqv r.stt s1' := by
 cases hf : foot i with
 | none => exact wild_op hf he h
 | some F =>
   obtain ⟨s1',h1,h2⟩ := like_op hq hf he.clear h
   exact ⟨s1',h1,like_eqv he h2⟩
theorem wanted_on {fr fr' : Fr} {g:Option (Nat × Bool)} (h:FrOn (slotL (g.map (·.1))) fr fr') : wanted fr' g = wanted fr g := by
 cases g with
 | none => rfl
 | some x => obtain ⟨s,b⟩ := x; simp only [wanted]; rw [h s (by simp [slotL])]
theorem put_on {s s' s1 : St} {d:Option Nat} {v:AV} (h:FrOn (slotL d) s.fr s'.fr) (hp:s.put d v = some s1) : ∃ s1',s'.put d v = some s1' ∧ Moved (slotL d) s.fr s1.fr s'.fr s1'.fr ∧ s1.hp = s.hp ∧ s1'.hp = s'.hp := by
 cases d with
 | none => simp [St.put] at hp; subst hp; exact ⟨s',rfl,Moved.refl _ _,rfl,rfl⟩
 | some d =>
   simp only [St.put] at hp ⊢
   rw [h d (by simp [slotL])]
   split at hp
   · rename_i hl; cases hp
     exact ⟨{ s' with fr := s'.fr.set d v },by rw [if_pos hl],Moved.set d v,rfl,rfl⟩
   · cases hp
theorem HpKeep.of {k:HpK} {a b c:List HObj} (h:HpKeep k a b) (e:c = b) : HpKeep k a c := by rw [e]; exact h
theorem opdW_R {x:Opd} {s:Nat} (h:s ∈ opdW x) : s ∈ opdR x := by
 cases x with
 | t s' tk => cases tk <;> simp [opdW,opdR] at h ⊢; exact h
 | c v => simp [opdW] at h
 | g v => simp [opdW] at h
 | f v => simp [opdW] at h
theorem opdsW_R : ∀ {xs:List Opd} {s:Nat},s ∈ opdsW xs → s ∈ opdsR xs
 | [],s,h => by simp [opdsW] at h
 | x :: xs,s,h => by
   simp only [opdsW,opdsR,List.mem_append] at h ⊢
   rcases h with h | h
   · exact .inl (opdW_R h)
   · exact .inr (opdsW_R h)
theorem foot_wr_rd {i:IOp} {F:Foot} (h:foot i = some F) (s:Nat) (hs:s ∈ F.wr) : s ∈ F.rd := by
 cases i
 case load x m n agg tk =>
   cases m <;> simp only [foot] at h <;> cases h
   · cases tk <;> simp at hs ⊢; exact .inr hs
   · simp at hs
   · simp at hs
 case store x m v n =>
   cases m <;> simp only [foot] at h <;> cases h
   · simp only [List.mem_append] at hs ⊢
     rcases hs with hs | hs
     · exact .inl (opdW_R hs)
     · exact .inr (.inr hs)
   · simp only [List.mem_append]; exact .inl (opdW_R hs)
 case alloc heap ty cs => cases heap <;> simp only [foot] at h <;> cases h <;> simp at hs
 case box heap x => cases heap <;> simp only [foot] at h <;> cases h <;> exact opdW_R hs
 case len x kd => cases kd <;> simp only [foot] at h <;> cases h <;> simp at hs
 case panic => simp [foot] at h
 case slcR s' b => simp only [foot,Option.some.injEq] at h; subst h; simp at hs ⊢; exact .inl hs
 all_goals
   simp only [foot,Option.some.injEq] at h; subst h
   first
     | (simp at hs; done)
     | exact opdW_R hs
     | exact opdsW_R hs
     | exact List.mem_append_left _ (opdW_R hs)
     | exact List.mem_append_left _ (opdsW_R hs)
theorem like_step (hq:CallQ call) {o:IOper} (hf:footO o = some F) (hc:ClearF F st st') {ex:Ex} {s1:St} (h:evalOps G call lo [o] st = some (ex,s1)) :
   ∃ s1',evalOps G call lo [o] st' = some (ex,s1') ∧ (ex = .normal → Like F st s1 st' s1') ∧ (st'.hp = st.hp → s1'.hp = s1.hp) := by
 unfold footO at hf
 cases hf0 : foot o.op with
 | none => simp [hf0] at hf
 | some F0 =>
   simp [hf0] at hf; subst hf
   obtain ⟨c1,c2,c3⟩ := hc
   simp only at c1 c2 c3
   have c0 : ClearF F0 st st' := ⟨c1.right.left,c2,c3⟩
   have cd : FrOn (slotL o.dst) st.fr st'.fr := c1.right.right
   simp only [evalOps] at h ⊢
   rw [wanted_on c1.left]
   split at h
   · rename_i hw
     try simp only [hw]
     split at h
     · rename_i v s2 he
       obtain ⟨s2',h2,l2⟩ := like_op hq hf0 c0 he
       simp only [OpR.as] at h2
       simp only [OpR.stt] at l2
       rw [h2]
       simp only []
       split at h
       · rename_i s3 hp
         simp at h; obtain ⟨rfl,rfl⟩ := h
         have cd2 : FrOn (slotL o.dst) s2.fr s2'.fr := cd.moved l2.fr
         obtain ⟨s3',p1,p2,p3,p4⟩ := put_on cd2 hp
         rw [p1]
         refine ⟨s3',rfl,fun _ => ⟨l2.fr.trans p2,fun e => by rw [p4]; exact l2.hp e,fun e => by rw [p4,p3]; exact l2.hp' e,l2.keep.of p3⟩,fun e => by rw [p4,p3]; exact l2.hp' e⟩
       · cases h
     · rename_i v s2 he
       obtain ⟨s2',h2,l2⟩ := like_op hq hf0 c0 he
       simp only [OpR.as] at h2
       simp only [OpR.stt] at l2
       rw [h2]
       simp at h; obtain ⟨rfl,rfl⟩ := h
       exact ⟨s2',rfl,(fun e => by cases e),l2.hp'⟩
     · cases h
   · rename_i hw
     try simp only [hw]
     split at h
     · rename_i s3 hp
       simp at h; obtain ⟨rfl,rfl⟩ := h
       obtain ⟨s3',p1,p2,p3,p4⟩ := put_on cd hp
       rw [p1]
       refine ⟨s3',rfl,fun _ => ⟨?_,fun _ => p4,fun e => by rw [p4,p3]; exact e,?_⟩,fun e => by rw [p4,p3]; exact e⟩
       · exact ⟨fun s hs => by
           by_cases hd : s ∈ slotL o.dst
           · exact p2.new s hd
           · have h1 : s ∈ F0.wr := by simpa [hd] using hs
             rw [p2.old' s hd,p2.old s hd]
             exact c1.right.left s (foot_wr_rd hf0 s h1),fun s hs => by simp at hs; exact p2.old' s hs.2,fun s hs => by simp at hs; exact p2.old s hs.2⟩
       · rw [p3]; cases F0.hw <;> simp [HpKeep,HpOn]
     · cases h
   · cases h
end
end Go.Proofs.YtkofimhnehkdoaaGreatDoor.Rf
end
section
namespace Go.Proofs.YtkofimhnehkdoaaGreatDoor.Rf
def hpInd (a b:Foot) : Bool :=
 match a.hw with
 | .no => true
 | .cells => decide (b.hw = .no) && (match b.hr with | .no => true | .maps => true | _ => false)
 | .maps => decide (b.hw = .no) && (match b.hr with | .no => true | .cells => true | _ => false)
 | .all => decide (b.hw = .no) && (match b.hr with | .no => true | _ => false)
def disj : List Nat → List Nat → Bool
 | [],_ => true
 | x :: r,l => !l.contains x && disj r l
theorem disj_spec : ∀ {a b:List Nat},disj a b = true → ∀ s,s ∈ a → s ∉ b
 | [],_,_,s,h => by simp at h
 | x :: r,l,h,s,hs => by
   simp only [disj,Bool.and_eq_true] at h
   rcases List.mem_cons.1 hs with rfl | hs
   · simpa using h.1
   · exact disj_spec h.2 s hs
def indep (a b:Foot) : Bool := disj a.wr b.rd && (disj a.wr b.wr && (disj b.wr a.rd && (hpInd a b && hpInd b a)))
def indO (x y:IOper) : Bool :=
 match footO x,footO y with
 | some a,some b => indep a b
 | _,_ => false
section
variable {G:Nat → Option (List AV)} {call:CallF} {lo:Nat} {st st' : St} {F:Foot}
theorem ClearF.refl (F:Foot) (st:St) : ClearF F st st := ⟨fun _ _ => rfl,HpOn.rfl',fun _ => rfl⟩
theorem like_step_self (hq:CallQ call) {o:IOper} (hf:footO o = some F) {s1:St} (h:evalOps G call lo [o] st = some (.normal,s1)) : Like F st s1 st s1 := by
 obtain ⟨s1',h1,h2,_⟩ := like_step hq hf (ClearF.refl F st) h
 rw [h] at h1; simp at h1; subst h1
 exact h2 rfl
theorem hpOn_symm {k:HpK} {a b:List HObj} (h:HpOn k a b) : HpOn k b a := by
 cases k <;> simp only [HpOn] at h ⊢
 · exact fun i ty c => (h i ty c).symm
 · exact fun i c => (h i c).symm
 · exact h.symm
theorem hpInd_on {a b:Foot} (h:hpInd a b = true) {hp hp1:List HObj} (k:HpKeep a.hw hp hp1) : HpOn b.hr hp1 hp ∧ (b.hw ≠ .no → hp = hp1) := by
 unfold hpInd at h
 split at h
 · rename_i e; rw [e] at k; simp only [HpKeep] at k; subst k; exact ⟨HpOn.rfl',fun _ => rfl⟩
 · rename_i e; rw [e] at k; simp only [HpKeep] at k
   simp only [Bool.and_eq_true,decide_eq_true_eq] at h
   refine ⟨?_,fun hn => absurd h.1 hn⟩
   cases hb : b.hr <;> rw [hb] at h <;> first | trivial | exact hpOn_symm k | (simp at h; done)
 · rename_i e; rw [e] at k; simp only [HpKeep] at k
   simp only [Bool.and_eq_true,decide_eq_true_eq] at h
   refine ⟨?_,fun hn => absurd h.1 hn⟩
   cases hb : b.hr <;> rw [hb] at h <;> first | trivial | exact hpOn_symm k | (simp at h; done)
 · simp only [Bool.and_eq_true,decide_eq_true_eq] at h
   refine ⟨?_,fun hn => absurd h.1 hn⟩
   cases hb : b.hr <;> rw [hb] at h <;> first | trivial | (simp at h; done)
theorem hpInd_no {a b:Foot} (h:hpInd a b = true) (hn:a.hw ≠ .no) : b.hw = .no := by
 unfold hpInd at h
 split at h
 · rename_i e; exact absurd e hn
 all_goals (simp only [Bool.and_eq_true,decide_eq_true_eq] at h; exact h.1)
theorem swap (hq:CallQ call) {x y:IOper} (hi:indO x y = true) {s1 s2:St} {ex:Ex} (h1:evalOps G call lo [x] st = some (.normal,s1)) (h2:evalOps G call lo [y] s1 = some (ex,s2)) :
   ∃ s1',evalOps G call lo [y] st = some (ex,s1') ∧ (ex = .normal → ∃ s2',evalOps G call lo [x] s1' = some (.normal,s2') ∧ Eqv s2 s2') ∧ (ex ≠ .normal → (∀ a,footO x = some a → a.hw = .no) → s1'.hp = s2.hp) := by
 unfold indO at hi
 cases hx : footO x with
 | none => simp [hx] at hi
 | some a =>
   cases hy : footO y with
   | none => simp [hx,hy] at hi
   | some b =>
     simp only [hx,hy,indep,Bool.and_eq_true] at hi
     obtain ⟨i1,i2,i3,i4,i5⟩ := hi
     have la := like_step_self hq hx h1
     obtain ⟨o1,o2⟩ := hpInd_on i4 la.keep
     have cb : ClearF b s1 st := ⟨fun s hs => (la.fr.old s (fun h => disj_spec i1 s h hs)).symm,o1,o2⟩
     obtain ⟨s1',e1,l1,l1'⟩ := like_step hq hy cb h2
     refine ⟨s1',e1,fun en => ?_,fun _ hno => l1' (by have := hno a rfl; exact (la.hp this).symm)⟩
     subst en
     have lb := l1 rfl
     have lbs := like_step_self hq hy e1
     obtain ⟨o3,o4⟩ := hpInd_on i5 lbs.keep
     have ca : ClearF a st s1' := ⟨fun s hs => lbs.fr.old s (fun h => disj_spec i3 s h hs),hpOn_symm o3,fun hn => (o4 hn).symm⟩
     obtain ⟨s2',e2,l2,l2'⟩ := like_step hq hx ca h1
     have l2 := l2 rfl
     refine ⟨s2',e2,fun s => ?_,?_⟩
     · by_cases ha : s ∈ a.wr
       · rw [l2.fr.new s ha,lb.fr.old s (disj_spec i2 s ha)]
       · rw [l2.fr.old' s ha]
         by_cases hb : s ∈ b.wr
         · exact lb.fr.new s hb
         · rw [lb.fr.old' s hb,lb.fr.old s hb,la.fr.old s ha]
     · by_cases hn : a.hw = .no
       · rw [l2.hp hn]
         exact lb.hp' (la.hp hn).symm
       · have hb := hpInd_no i4 hn
         rw [l2' (lb.hp hb)]
         exact (like_step_self hq hy h2).hp hb |>.symm
theorem eqv_step (hq:CallQ call) {o:IOper} (he:Eqv st st') {ex:Ex} {s1:St} (h:evalOps G call lo [o] st = some (ex,s1)) : ∃ s1',evalOps G call lo [o] st' = some (ex,s1') ∧ Eqv s1 s1' := by
 have hw : wanted st'.fr o.guard = wanted st.fr o.guard := wanted_on fun s _ => he.1 s
 have hput : ∀ {s s' s3 : St} {v:AV},Eqv s s' → s.put o.dst v = some s3 → ∃ s3',s'.put o.dst v = some s3' ∧ Eqv s3 s3' := fun {s s' s3 v} e hp => by
   obtain ⟨s3',p1,p2,p3,p4⟩ := put_on (fun t _ => e.1 t) hp
   refine ⟨s3',p1,fun t => ?_,by rw [p4,p3]; exact e.2⟩
   by_cases ht : t ∈ slotL o.dst
   · exact p2.new t ht
   · rw [p2.old' t ht,p2.old t ht]; exact e.1 t
 simp only [evalOps,hw] at h ⊢
 split at h
 · split at h
   · rename_i v s2 ho
     obtain ⟨s2',h2,l2⟩ := eqv_op hq he ho
     simp only [OpR.as] at h2
     simp only [OpR.stt] at l2
     rw [h2]
     split at h
     · rename_i s3 hp
       simp at h; obtain ⟨rfl,rfl⟩ := h
       obtain ⟨s3',p1,p2⟩ := hput l2 hp
       exact ⟨s3',by simp [p1],p2⟩
     · cases h
   · rename_i v s2 ho
     obtain ⟨s2',h2,l2⟩ := eqv_op hq he ho
     simp only [OpR.as] at h2
     simp only [OpR.stt] at l2
     rw [h2]
     simp at h; obtain ⟨rfl,rfl⟩ := h
     exact ⟨s2',rfl,l2⟩
   · cases h
 · split at h
   · rename_i s3 hp
     simp at h; obtain ⟨rfl,rfl⟩ := h
     obtain ⟨s3',p1,p2⟩ := hput he hp
     exact ⟨s3',by simp [p1],p2⟩
   · cases h
 · cases h
variable {ops:List IOper} {pans:List Nat}
theorem evalDraw_cons {i:Nat} {r:List Nat} {ex:Ex} {s:St} (h:evalDraw G call lo ops pans (i :: r) st = some (ex,s)) :
   ∃ o,ops[i]? = some o ∧ ((∃ s1,evalOps G call lo [o] st = some (.normal,s1) ∧ evalDraw G call lo ops pans r s1 = some (ex,s)) ∨
     (∃ v s1,evalOps G call lo [o] st = some (.pan v,s1) ∧ i ∈ pans ∧ ex = .pan v ∧ s = ⟨[],s1.hp⟩)) := by
 simp only [evalDraw] at h
 split at h
 · cases h
 · rename_i o ho
   refine ⟨o,ho,?_⟩
   split at h
   · rename_i s1 he; exact .inl ⟨s1,he,h⟩
   · rename_i v s1 he
     split at h
     · rename_i hp; simp at h; obtain ⟨rfl,rfl⟩ := h; exact .inr ⟨v,s1,he,by simpa using hp,rfl,rfl⟩
     · cases h
   · cases h
theorem evalDraw_normal {i:Nat} {r:List Nat} {o:IOper} (ho:ops[i]? = some o) {s1:St} (h:evalOps G call lo [o] st = some (.normal,s1)) : evalDraw G call lo ops pans (i :: r) st = evalDraw G call lo ops pans r s1 := by
 simp only [evalDraw,ho,h]
theorem evalDraw_pan {i:Nat} {r:List Nat} {o:IOper} (ho:ops[i]? = some o) {s1:St} {v:AV} (h:evalOps G call lo [o] st = some (.pan v,s1)) (hp:i ∈ pans) : evalDraw G call lo ops pans (i :: r) st = some (.pan v,⟨[],s1.hp⟩) := by
 have : pans.contains i = true := by simpa using hp
 simp only [evalDraw,ho,h,this,if_true]
theorem eqv_draw (hq:CallQ call) : ∀ {r:List Nat} {st st' : St} {ex:Ex} {s:St},Eqv st st' → evalDraw G call lo ops pans r st = some (ex,s) → ∃ s',evalDraw G call lo ops pans r st' = some (ex,s') ∧ Eqv s s'
 | [],st,st',ex,s,he,h => by simp [evalDraw] at h; obtain ⟨rfl,rfl⟩ := h; exact ⟨st',rfl,he⟩
 | i :: r,st,st',ex,s,he,h => by
   obtain ⟨o,ho,h⟩ := evalDraw_cons h
   rcases h with ⟨s1,h1,h2⟩ | ⟨v,s1,h1,hp,rfl,rfl⟩
   · obtain ⟨s1',e1,e2⟩ := eqv_step hq he h1
     obtain ⟨s',f1,f2⟩ := eqv_draw hq e2 h2
     exact ⟨s',by rw [evalDraw_normal ho e1]; exact f1,f2⟩
   · obtain ⟨s1',e1,e2⟩ := eqv_step hq he h1
     exact ⟨⟨[],s1'.hp⟩,evalDraw_pan ho e1 hp,fun _ => rfl,e2.2⟩
theorem front (hq:CallQ call) {i:Nat} {r:List Nat} : ∀ {as:List Nat} {st:St} {ex:Ex} {s:St},(∀ x,x ∈ as → x ∉ pans ∧ ∀ ox oi,ops[x]? = some ox → ops[i]? = some oi → indO ox oi = true ∧ (i ∈ pans → ∀ a,footO ox = some a → a.hw = .no)) →
   evalDraw G call lo ops pans (as ++ i :: r) st = some (ex,s) → ∃ s',evalDraw G call lo ops pans (i :: (as ++ r)) st = some (ex,s') ∧ Eqv s s'
 | [],st,ex,s,_,h => ⟨s,h,Eqv.refl s⟩
 | x :: as,st,ex,s,hall,h => by
   obtain ⟨ox,hox,h⟩ := evalDraw_cons h
   obtain ⟨hxp,hx⟩ := hall x (by simp)
   rcases h with ⟨s1,h1,h2⟩ | ⟨v,s1,h1,hp,_,_⟩
   · obtain ⟨s',f1,f2⟩ := front hq (fun y hy => hall y (by simp [hy])) h2
     obtain ⟨oi,hoi,f1⟩ := evalDraw_cons f1
     obtain ⟨hind,hno⟩ := hx ox oi hox hoi
     rcases f1 with ⟨s2,g1,g2⟩ | ⟨v,s2,g1,hp,rfl,rfl⟩
     · obtain ⟨s1',e1,e2,_⟩ := swap hq hind h1 g1
       obtain ⟨s2',e3,e4⟩ := e2 rfl
       obtain ⟨s'',k1,k2⟩ := eqv_draw hq e4 g2
       refine ⟨s'',?_,f2.trans k2⟩
       rw [evalDraw_normal hoi e1,List.cons_append,evalDraw_normal hox e3]; exact k1
     · obtain ⟨s1',e1,_,e3⟩ := swap hq hind h1 g1
       have := e3 (by simp) (hno hp)
       refine ⟨⟨[],s1'.hp⟩,evalDraw_pan hoi e1 hp,f2.trans ⟨fun _ => rfl,this⟩⟩
   · exact absurd hp hxp
end
end Go.Proofs.YtkofimhnehkdoaaGreatDoor.Rf
end
section
namespace Go.Proofs.YtkofimhnehkdoaaGreatDoor.Rf
def Held (a b:Fr) : Prop := ∀ s cs,a.get s = .box cs → ∃ cs',b.get s = .box cs' ∧ cs'.length = cs.length
theorem Held.refl (a:Fr) : Held a a := fun s cs h => ⟨cs,h,rfl⟩
theorem Held.trans {a b c:Fr} (h:Held a b) (k:Held b c) : Held a c := fun s cs e => by
 obtain ⟨x,h1,h2⟩ := h s cs e
 obtain ⟨y,k1,k2⟩ := k s x h1
 exact ⟨y,k1,k2.trans h2⟩
theorem Fr.get_husk : ∀ (fr:Fr) (s:Nat),fr.husk.get s = (fr.get s).husk
 | [],s => rfl
 | (t,v) :: r,s => by
   simp only [Fr.husk,Fr.get]
   split
   · rfl
   · exact Fr.get_husk r s
theorem Held.set {a:Fr} {t:Nat} {v:AV} (h:(a.get t).loose = true) : Held a (a.set t v) := fun s cs e => by
 rw [Fr.get_set]
 by_cases ht : t = s
 · subst ht; rw [e] at h; simp [AV.loose] at h
 · rw [if_neg ht]; exact ⟨cs,e,rfl⟩
theorem Held.setBox {a:Fr} {t:Nat} {cs ds:List AV} (h:a.get t = .box cs) (hl:ds.length = cs.length) : Held a (a.set t (.box ds)) := fun s cs' e => by
 rw [Fr.get_set]
 by_cases ht : t = s
 · subst ht; rw [if_pos rfl]; rw [h] at e; cases e; exact ⟨ds,rfl,hl⟩
 · rw [if_neg ht]; exact ⟨cs',e,rfl⟩
theorem opd_held (fr:Fr) (x:Opd) : Held fr (opd fr x).2 := by
 cases x with
 | t s tk =>
   simp only [opd]
   cases hv : fr.get s <;> simp only [] <;> first
     | exact Held.refl _
     | (cases tk
        · exact Held.refl _
        · exact Held.set (by rw [hv]; rfl))
 | c v => exact Held.refl _
 | g v => exact Held.refl _
 | f v => exact Held.refl _
theorem opds_held : ∀ (xs:List Opd) (fr:Fr),Held fr (opds fr xs).2
 | [],fr => Held.refl _
 | x :: xs,fr => (opd_held fr x).trans (opds_held xs _)
theorem put_len {cs vs:List AV} {off:Nat} (h:off + vs.length ≤ cs.length) : (put cs off vs).length = cs.length := by
 simp [put]; omega
section
variable {G:Nat → Option (List AV)} {call:CallF} {lo:Nat} {st:St}
theorem behindPut_held {p:AV} {cs ds:List AV} {off:Nat} {st' : St} (hb:behind G st p = some (cs,off)) (hl:ds.length = cs.length) (h:behindPut lo st ds p = some st') : Held st.fr st'.fr := by
 cases p <;> simp only [behindPut] at h <;> try (cases h; done)
 · split at h
   · split at h
     · cases h; exact Held.refl _
     · cases h
   · cases h
 · rename_i s o
   cases h
   simp only [behind] at hb
   split at hb
   · rename_i cs' hg; cases hb; exact Held.setBox hg hl
   · cases hb
theorem evalOp_held {i:IOp} {r:OpR} (h:evalOp G call lo i st = some r) : Held st.fr r.stt.fr := by
 cases i
 case load x m n agg tk =>
   simp only [evalOp] at h
   split at h
   · cases h
   · split at h
     · rename_i cs off hb
       split at h
       · rename_i l hl
         split at h
         · split at h
           · split at h
             · rename_i st' hp
               cases ret1_some h
               refine behindPut_held hb (put_len ?_) hp
               simp only [cut] at hl
               split at hl
               · cases hl; simp; omega
               · cases hl
             · cases h
           · cases h
         · cases ret1_some h; exact Held.refl _
       · cases h
     · cases h
 case store x m v n =>
   simp only [evalOp] at h
   split at h
   · cases h
   · split at h
     · rename_i s hx
       split at h
       · rename_i p tk xs sz hs hne
         split at h
         · rename_i hh
           cases ret1_some h
           refine (opd_held st.fr v).trans ?_
           have h1 : Held (opd st.fr v).2 ((opd st.fr v).2.set p .none) := by
             by_cases hl : ((opd st.fr v).2.get p).loose = true
             · exact Held.set hl
             · exact absurd (opd_lastr_loose hx (by simpa using hl)) (by simp)
           refine h1.trans (fun t cs e => ?_)
           show ∃ cs',((((opd st.fr v).2.set p .none).set s _).get t) = _ ∧ _
           rw [Fr.get_set]
           by_cases ht : s = t
           · subst ht
             rw [Fr.get_set,if_neg hh.2.2.1] at e
             rw [hs] at e; cases e
           · rw [if_neg ht]; exact ⟨cs,e,rfl⟩
         · cases h
       · cases h
     · split at h
       · rename_i cs off hb
         split at h
         · rename_i hn
           split at h
           · rename_i st' hp
             cases ret1_some h
             exact (opd_held st.fr v).trans (behindPut_held hb (put_len (by omega)) hp)
           · cases h
         · cases h
       · cases h
 case slcR s' b =>
   simp only [evalOp] at h
   split at h
   · rename_i hv _
     split at h
     · cases ret1_some h
       refine fun t cs e => ?_
       show ∃ cs',(st.fr.set s' .none).get t = _ ∧ _
       rw [Fr.get_set]
       by_cases ht : s' = t
       · subst ht; rw [hv] at e; cases e
       · rw [if_neg ht]; exact ⟨cs,e,rfl⟩
     · cases h
   · cases h
 all_goals
   simp only [evalOp] at h
   repeat' split at h
   all_goals first
     | (cases h; done)
     | (cases ret1_some h; exact Held.refl _)
     | (cases ret1_some h; exact opd_held _ _)
     | (cases ret1_some h; exact opds_held _ _)
     | (cases h; exact Held.refl _)
     | (cases h; exact opd_held _ _)
     | (cases h; exact opds_held _ _)
theorem put_held {d:Option Nat} {v:AV} {s1:St} (h:st.put d v = some s1) : Held st.fr s1.fr := by
 cases d with
 | none => simp [St.put] at h; subst h; exact Held.refl _
 | some d =>
   simp only [St.put] at h
   split at h
   · rename_i hl; cases h; exact Held.set hl
   · cases h
theorem evalOps_held : ∀ {os:List IOper} {st:St} {ex:Ex} {s1:St},evalOps G call lo os st = some (ex,s1) → Held st.fr s1.fr
 | [],st,ex,s1,h => by simp [evalOps] at h; obtain ⟨_,rfl⟩ := h; exact Held.refl _
 | o :: r,st,ex,s1,h => by
   simp only [evalOps] at h
   split at h
   · split at h
     · rename_i v st' he
       split at h
       · rename_i st'' hp
         exact (evalOp_held he).trans ((put_held hp).trans (evalOps_held h))
       · cases h
     · rename_i v st' he
       cases h; exact evalOp_held he
     · cases h
   · split at h
     · rename_i st'' hp; exact (put_held hp).trans (evalOps_held h)
     · cases h
   · cases h
end
theorem Rel.husk {G:Nat → Option (List AV)} {g:Gh} {st:St} {tm:Array Value} {w:World} (k:Rel G g st [] tm w) {fr0:Fr} (h:Held fr0 st.fr) : Rel G g ⟨fr0.husk,st.hp⟩ [] tm w := by
 refine ⟨fun s => ?_,fun j v cv hj => by simp at hj,k.hp,k.fresh,k.gl⟩
 simp only
 rw [Fr.get_husk]
 cases hv : fr0.get s <;> try (simp [AV.husk,VF,VX,V,Owns]; done)
 rename_i cs
 obtain ⟨cs',h1,h2⟩ := h s cs hv
 have f := k.fr s
 rw [h1] at f
 simp only [AV.husk,VF] at f ⊢
 obtain ⟨vs,ty,f1,f2,⟨f3,f4⟩,f5,f6⟩ := f
 refine ⟨vs,ty,f1,f2,⟨VS.mk (by rw [f3.len]; simpa using h2) (fun i v u hv hu => ?_),f4⟩,f5,fun i xs sz e cv hc _ => ?_⟩
 · rw [List.getElem?_map] at hv
   cases hc : cs[i]? <;> rw [hc] at hv <;> simp at hv
   subst hv; simp [V]
 · rw [List.getElem?_map] at hc
   cases hcc : cs[i]? <;> rw [hcc] at hc <;> simp at hc
end Go.Proofs.YtkofimhnehkdoaaGreatDoor.Rf
end
section
namespace Go.Proofs.YtkofimhnehkdoaaGreatDoor.Rf
def setCells : World → Nat → Nat → List Value → World
 | w,_,_,[] => w
 | w,b,q,v :: vs => setCells (w.setCell ⟨b,q,none⟩ v) b (q + 1) vs
theorem setCell_comm (w:World) {a c:Addr} (h:a.block ≠ c.block) (u v:Value) : (w.setCell a u).setCell c v = (w.setCell c v).setCell a u := by
 simp only [World.setCell,World.mk.injEq,and_true,true_and]
 refine Array.ext_getElem? fun i => ?_
 simp only [Array.getElem?_modify]
 by_cases h1 : a.block = i
 · by_cases h2 : c.block = i
   · exact absurd (h1.trans h2.symm) h
   · simp [h1,h2]
 · by_cases h2 : c.block = i
   · simp [h1,h2]
   · simp [h1,h2]
theorem setCells_comm {b:Nat} {c:Addr} (h:b ≠ c.block) (u:Value) : ∀ (vs:List Value) (q:Nat) (w:World),setCells (w.setCell c u) b q vs = (setCells w b q vs).setCell c u
 | [],_,_ => rfl
 | v :: vs,q,w => by
   simp only [setCells]
   rw [setCell_comm w (a := c) (c := ⟨b,q,none⟩) (fun e => h e.symm)]
   exact setCells_comm h u vs (q + 1) _
theorem cell_setCells {b:Nat} {c:Addr} (h:b ≠ c.block) : ∀ (vs:List Value) (q:Nat) (w:World),(setCells w b q vs).cell? c = w.cell? c
 | [],_,_ => rfl
 | v :: vs,q,w => by
   simp only [setCells]
   rw [cell_setCells h vs,World.cell?_setCell_other]
   intro e; exact h (by rw [← e])
theorem frozen_setCells {b:Nat} {c:Addr} : ∀ (vs:List Value) (q:Nat) (w:World),(setCells w b q vs).frozen? c = w.frozen? c
 | [],_,_ => rfl
 | v :: vs,q,w => by
   simp only [setCells]
   rw [frozen_setCells vs,World.frozen?_setCell]
section
variable {P:Program} {G:Nat → Option (List AV)} {g g' : Gh} {st:St} {a:Act} {w w' : World} {o:Oper} {tm:Array Value} {call:CallF} {lo:Nat}
theorem run_storeCells_put (b q:Nat) : ∀ (vs:List Value) (i:Nat) (w:World),(∀ j,j < vs.length → (∃ u,w.cell? ⟨b,q + i + j,none⟩ = some u) ∧ w.frozen? ⟨b,q + i + j,none⟩ = false) → Ones vs →
   (storeCells ⟨b,q,none⟩ vs i).run P w = .ok () (setCells w b (q + i) vs)
 | [],i,w,_,_ => rfl
 | v :: vs,i,w,h,h1 => by
   obtain ⟨⟨u,hu⟩,hf⟩ := h 0 (by simp)
   simp only [Nat.add_zero] at hu hf
   have hv := h1 v (by simp)
   have ne : ∀ j,(⟨b,q + i,none⟩ : Addr) ≠ ⟨b,q + i + (j + 1),none⟩ := fun j e => by injection e with _ e2; omega
   have r1 := run_storeCells_put b q vs (i + 1) (w.setCell ⟨b,q + i,none⟩ v) (fun j hj => by
     have := h (j + 1) (by simpa using hj)
     rw [show q + (i + 1) + j = q + i + (j + 1) by omega,World.cell?_setCell_other _ _ _ _ (ne j),World.frozen?_setCell]; exact this) (fun x hx => h1 x (by simp [hx]))
   simp only [storeCells,Sem.run_bind,Addr.add_lit,run_store P w _ v _ hv,hu,hf,Bool.false_eq_true,if_false,Result.andThen_ok]
   rw [r1]; rfl
theorem run_storeVar_put {t:TypeId} {n:Nat} {agg:Bool} (h:tyOk P t n agg = true) {b q:Nat} {cu:Value} (hn:cu.cells.toList.length = n) (h1:Ones cu.cells.toList)
   (hc:∀ j,j < n → (∃ u,w.cell? ⟨b,q + j,none⟩ = some u) ∧ w.frozen? ⟨b,q + j,none⟩ = false) : (storeVar t ⟨b,q,none⟩ cu).run P w = .ok () (setCells w b q cu.cells.toList) := by
 have hsz : (sizeOf t).run P w = .ok n w := by
   unfold tyOk at h
   cases hi : P.info? t with
   | none => simp [hi] at h
   | some i =>
     cases hu : P.underlying t with
     | none => simp [hi,hu] at h
     | some d =>
       simp only [hi,hu,Bool.and_eq_true,decide_eq_true_eq] at h
       simp [sizeOf,typeInfo,hi,h.1.1]
 have r1 := run_storeCells_put (P := P) b q cu.cells.toList 0 w (fun j hj => by rw [Nat.add_zero]; exact hc j (by rw [← hn]; exact hj)) h1
 rw [Nat.add_zero] at r1
 simp only [storeVar,Sem.run_bind,hsz,Result.andThen_ok]
 rw [if_neg (by simp at hn; simpa using hn)]
 simpa using r1
theorem step_run (hc:CallOK P G call) {nt:NT} {ops:Array Oper} {io:IOper} (hk:chkOper P nt.toNK ops io o = true) (k:Rel G g st [] a.tmps w) (hn:nt.ok a.tmps) (hg:io.guard = none) {st' : St}
   (hr:evalOps G call lo [io] st = some (.normal,st')) {n:Next} {x:Value} (hrun:(execOp a.eval o).run P w = .ok n w') (hx:(n = .skip ∧ x = undef) ∨ n = .value x) :
   ∃ g',Rel G g' st' [] (a.put o.dst x).tmps w' ∧ Stay g w g' w' ∧ nt.ok (a.put o.dst x).tmps ∧ (a.put o.dst x).defers = a.defers := by
 simp only [chkOper,Bool.and_eq_true,decide_eq_true_eq] at hk
 obtain ⟨⟨⟨h1,h2⟩,h3⟩,h4⟩ := hk
 simp only [evalOps,hg,wanted] at hr
 cases he : evalOp G call lo io.op st with
 | none => rw [he] at hr; simp at hr
 | some e =>
   rw [he] at hr
   have := op_sound hc k h4 he (fun a' w'' => ∃ g',Rel G g' st' [] a'.tmps w'' ∧ Stay g w g' w'' ∧ nt.ok a'.tmps ∧ a'.defers = a.defers) (fun _ _ _ => True) (fun g1 w1 v s1 cv e1 k1 t1 => by
     subst e1
     simp only at hr
     cases hp : s1.put io.dst v with
     | none => rw [hp] at hr; simp at hr
     | some s2 =>
       rw [hp] at hr; simp at hr; subst hr
       obtain ⟨g2,k2,s3,e1,e2⟩ := St.put_ok k1 hn h2 hp
       rw [← h1]
       exact ⟨g2,k2,t1.trans s3,e1,e2⟩) (fun _ _ _ _ _ _ _ _ _ _ => trivial)
   unfold Oper.wp at this
   rw [hrun] at this
   rcases hx with ⟨rfl,rfl⟩ | rfl
   · exact this
   · exact this
structure Late (P:Program) (w:World) (a:Act) (o7 o8:Oper) where
 bA : Nat
 qA : Nat
 vs : List Value
 c0 : Addr
 u : Value
 ne : bA ≠ c0.block
 run7 : ∀ w',(∀ x : Addr,x.block = bA → w'.cell? x = w.cell? x ∧ w'.frozen? x = w.frozen? x) → (execOp a.eval o7).run P w' = .ok .skip (setCells w' bA qA vs)
 run8 : ∀ w',w'.cell? c0 = w.cell? c0 → w'.frozen? c0 = w.frozen? c0 → (execOp a.eval o8).run P w' = .ok .skip (w'.setCell c0 u)
theorem late_facts (k:Rel G g st [] a.tmps w) {p q b n:Nat} {v:Opd} {o7 o8:Oper} (hk7:chkOp P (.store (.t p false) (.last q) v n) o7.op = true) (hk8:chkOp P (.store (.t b false) (.loc b) (.t q true) 1) o8.op = true)
   {r7:OpR} (h7:evalOp G call lo (.store (.t p false) (.last q) v n) st = some r7) {c:AV} {cs:List AV} (hb:st.fr.get b = .box (c :: cs)) : Nonempty (Late P w a o7 o8) := by
 simp only [chkOp] at hk7 hk8
 split at hk7
 rotate_left
 · cases hk7
 rename_i t7 y7 u7 ho7
 split at hk8
 rotate_left
 · cases hk8
 rename_i t8 y8 u8 ho8
 simp only [Bool.and_eq_true] at hk7 hk8
 obtain ⟨⟨x7,v7⟩,ty7⟩ := hk7
 obtain ⟨⟨x8,v8⟩,ty8⟩ := hk8
 have hty7 : ∃ agg,tyOk P t7 n agg = true := by
   simp only [Bool.or_eq_true] at ty7; rcases ty7 with h | h <;> exact ⟨_,h⟩
 obtain ⟨agg7,hty7⟩ := hty7
 have hty8 : ∃ agg,tyOk P t8 1 agg = true := by
   simp only [Bool.or_eq_true] at ty8; rcases ty8 with h | h <;> exact ⟨_,h⟩
 obtain ⟨agg8,hty8⟩ := hty8
 have hpos : 0 < n := by
   unfold tyOk at hty7
   cases hi : P.info? t7 <;> cases hu : P.underlying t7 <;> simp [hi,hu] at hty7
   exact hty7.1.2
 simp only [evalOp] at h7
 split at h7
 · cases h7
 rename_i hpm
 simp only [not_or,Bool.not_eq_false] at hpm
 obtain ⟨hp,hm⟩ := hpm
 have hls : (opd (opd st.fr v).2 (.t p false)).1 = .lastr q := by
   cases hx : (opd (opd st.fr v).2 (.t p false)).1 <;> rw [hx] at hm <;> simp only [memOk] at hm <;> first | (simp at hm; done) | (rw [Nat.eq_of_beq_eq_true hm])
 rw [hls] at h7
 simp only at h7
 cases hs : (opd st.fr v).2.get q <;> rw [hs] at h7 <;> try (simp at h7; done)
 rename_i xs sz
 simp only at h7
 split at h7
 rotate_left
 · cases h7
 rename_i hh
 obtain ⟨hl,hns,hpq,hno⟩ := hh
 subst hns
 obtain ⟨g1,k1,s1,_⟩ := k.take v7
 simp only [List.nil_append] at k1
 have hr := k1.read x7
 simp only at hr
 rw [hls] at hr
 simp only [VX] at hr
 obtain ⟨xs',sz',ad,cc,r1,r2,r3⟩ := hr
 rw [hs] at r1; cases r1
 have hu := k1.ps 0 _ _ rfl
 rw [VF_loose (AV.loose_of_plain hp),VX_plain hp] at hu
 have hc := V.cells hp hu.1
 have hcn : (Act.opd a.tmps u7).cells.toList.length = n := by rw [hc.1.len]; exact hl
 have hf := k1.fr q
 simp only at hf
 rw [hs,r2] at hf
 simp only [VF] at hf
 obtain ⟨ad',c',f1,f2,f3,f4,f5⟩ := hf
 cases f1
 obtain ⟨bA,qA,sp⟩ := ad
 simp only at f4; subst f4
 obtain ⟨hE,htail⟩ := f5.get
 simp only at hE htail r3
 have hle : (xs.length + 1) * n ≤ cc * n := Nat.mul_le_mul_right n f2
 rw [Nat.add_mul,Nat.one_mul] at hle
 have hbx := k1.fr b
 simp only at hbx
 obtain ⟨cs',hb1,hb2⟩ := opd_held st.fr v b _ hb
 rw [hb1] at hbx
 simp only [VF] at hbx
 obtain ⟨vs8,ty,z1,z2,⟨z3,z4⟩,z5,z6⟩ := hbx
 have hvl : vs8.length = cs.length + 1 := by rw [z3.len]; simpa using hb2
 obtain ⟨u8v,vr,hu8⟩ : ∃ x r,vs8 = x :: r := by
   match vs8,hvl with
   | x :: r,_ => exact ⟨x,r,rfl⟩
 subst hu8
 have hcell : w.cell? ⟨g1.bx (.fr b),0,none⟩ = some u8v := by simp [World.cell?,z2]
 have hfrz : w.frozen? ⟨g1.bx (.fr b),0,none⟩ = false := by simp [World.frozen?,z2]
 have hne : bA ≠ g1.bx (.fr b) := fun e => by
   have h1 := (htail (qA + xs.length * n) (by omega) (by omega)).1
   rw [e,z5] at h1; cases h1
 cases y8 <;> simp [opdOk] at x8
 subst x8
 cases u8 <;> simp [opdOk] at v8
 subst v8
 refine ⟨{ bA := bA,qA := qA + xs.length * n,vs := (Act.opd a.tmps u7).cells.toList,c0 := ⟨g1.bx (.fr b),0,none⟩,u := a.tmps.getD q undef,ne := hne,run7 := fun w' hw => ?_,run8 := fun w' hw1 hw2 => ?_ }⟩
 · have hrun := run_storeVar_put (P := P) (w := w') hty7 (b := bA) (q := qA + xs.length * n) hcn hc.2 (fun j hj => by
     obtain ⟨e1,e2⟩ := hw ⟨bA,qA + xs.length * n + j,none⟩ rfl
     rw [e1,e2]; exact (htail _ (by omega) (by omega)).2)
   simp [execOp,ho7,Act.eval_eq,r3,Instr.storeAt,Instr.sureAddr,hrun]
 · have hcu : (a.tmps.getD q undef).cells.toList = [a.tmps.getD q undef] := by rw [r2]; rfl
   have hrun := run_storeVar_put (P := P) (w := w') hty8 (b := g1.bx (.fr b)) (q := 0) (cu := a.tmps.getD q undef) (by rw [hcu]; rfl) (by rw [hcu,r2]; intro x hx; simp at hx; subst hx; rfl) (fun j hj => by
     have : j = 0 := by omega
     subst this
     exact ⟨⟨u8v,by rw [Nat.zero_add,hw1,hcell]⟩,by rw [Nat.zero_add,hw2,hfrz]⟩)
   rw [hcu] at hrun
   simp only [setCells] at hrun
   have e1 : Act.opd a.tmps (.tmp b) = .pointer (some ⟨g1.bx (.fr b),0,none⟩) := z1
   have e2 : (storeVar t8 ⟨g1.bx (.fr b),0,none⟩ (Act.opd a.tmps (.tmp q))).run P w' = .ok () (w'.setCell ⟨g1.bx (.fr b),0,none⟩ (a.tmps.getD q undef)) := hrun
   simp [execOp,ho8,Act.eval_eq,Instr.storeAt,Instr.sureAddr,e1,e2]
theorem opd_box_back {fr:Fr} {x:Opd} {b:Nat} {cs:List AV} (h:(opd fr x).2.get b = .box cs) : fr.get b = .box cs := by
 cases x with
 | t s tk =>
   simp only [opd] at h
   cases hv : fr.get s <;> rw [hv] at h <;> simp only [] at h <;> first
     | exact h
     | (cases tk
        · exact h
        · simp only [if_true] at h
          rw [Fr.get_set] at h
          split at h
          · rename_i e; subst e
            simp [AV.cp,AV.cpA,AV.cp1] at h
          · exact h)
 | c v => exact h
 | g v => exact h
 | f v => exact h
theorem opd_pend_back {fr:Fr} {x:Opd} {b:Nat} {xs:List AV} {sz:Nat} (h:(opd fr x).2.get b = .pend xs sz) : fr.get b = .pend xs sz := by
 cases x with
 | t s tk =>
   simp only [opd] at h
   cases hv : fr.get s <;> rw [hv] at h <;> simp only [] at h <;> first
     | exact h
     | (cases tk
        · exact h
        · simp only [if_true] at h
          rw [Fr.get_set] at h
          split at h
          · rename_i e; subst e
            simp [AV.cp,AV.cpA,AV.cp1] at h
          · exact h)
 | c v => exact h
 | g v => exact h
 | f v => exact h
theorem late_run6 (k:Rel G g st [] a.tmps w) {q sz:Nat} {tk:Bool} {i:Opd} {o6:Oper} (hk6:chkOp P (.iaddrL (.t q tk) i sz) o6.op = true) {r6:OpR} (h6:evalOp G call lo (.iaddrL (.t q tk) i sz) st = some r6) {xs:List AV} {sz' : Nat} (hv:st.fr.get q = .pend xs sz') :
   ∃ cv,∀ w',(execOp a.eval o6).run P w' = .ok (.value cv) w' := by
 simp only [chkOp] at hk6
 split at hk6
 rotate_left
 · cases hk6
 rename_i t y u ho
 simp only [Bool.and_eq_true] at hk6
 obtain ⟨⟨hx,hi⟩,hf⟩ := hk6
 have f := k.fr q; rw [hv] at f; simp only [VF] at f
 obtain ⟨ad,c,e1,e2,e3,e4,e5⟩ := f
 cases y <;> simp [opdOk] at hx
 subst hx
 have ho1 : (opd st.fr (.t q tk)).1 = .none := by simp only [opd,hv]
 simp only [evalOp,ho1] at h6
 cases hj : (opd st.fr i).1 <;> rw [hj] at h6 <;> try (simp at h6; done)
 rename_i kk j
 simp only [hv] at h6
 split at h6
 rotate_left
 · cases h6
 rename_i hh
 obtain ⟨h1,rfl⟩ := hh
 have hri := k.read hi; rw [hj] at hri; simp only [VX,V] at hri
 obtain ⟨ab,ao,asp⟩ := ad
 simp only at e4; subst e4
 refine ⟨.pointer (some ⟨ab,ao + xs.length * sz',none⟩),fun w' => ?_⟩
 have h2 : j.toNat = xs.length := by omega
 have := run_indexAt_slice (w := w') hf (b := ab) (q := ao) (n := xs.length + 1) (c := c) (kk := kk) (j := j) (by omega) (by omega)
 rw [h2] at this
 simp [execOp,ho,Act.eval_eq,hri,this]
 rw [show Act.opd a.tmps (Operand.tmp q) = _ from e1,this]; rfl
end
end Go.Proofs.YtkofimhnehkdoaaGreatDoor.Rf
end
