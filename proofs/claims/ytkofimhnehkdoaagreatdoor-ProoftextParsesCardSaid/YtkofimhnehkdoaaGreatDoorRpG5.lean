/- A part of the proof: see the last text. -/
import Derived.Test.YtkofimhnehkdoaaGreatDoorRpG4
import Derived.Defers
import Derived.Recover
set_option linter.unusedVariables false
set_option linter.unusedSimpArgs false
section
namespace Go.Proofs.YtkofimhnehkdoaaGreatDoor.Rf
def slotL : Option Nat → List Nat
 | some s => [s]
 | none => []
def footO (o:IOper) : Option Foot := (foot o.op).map fun F => ⟨slotL (o.guard.map (·.1)) ++ (F.rd ++ slotL o.dst),F.wr ++ slotL o.dst,F.hr,F.hw⟩
def Eqv (st st' : St) : Prop := (∀ s,st'.fr.get s = st.fr.get s) ∧ st'.hp = st.hp
theorem Eqv.refl (st:St) : Eqv st st := ⟨fun _ => rfl,rfl⟩
theorem Eqv.trans {a b c:St} (h:Eqv a b) (k:Eqv b c) : Eqv a c := ⟨fun s => (k.1 s).trans (h.1 s),k.2.trans h.2⟩
section
variable {G:Nat → Option (List AV)} {call:CallF} {lo:Nat} {st st' : St} {F:Foot}
theorem noLast_iff {fr:Fr} {s:Nat} : fr.noLast s = true ↔ ∀ t u,fr.get t = .lastr u → u ≠ s := by
 refine ⟨fun h t u => Fr.noLast_get h,fun h => ?_⟩
 simp only [Fr.noLast,List.all_eq_true]
 intro e _
 cases hv : fr.get e.1 <;> simp only []
 rename_i u
 simpa using h _ _ hv
theorem wild_op {i:IOp} (hf:foot i = none) (he:Eqv st st') {r:OpR} (h:evalOp G call lo i st = some r) : ∃ s1',evalOp G call lo i st' = some (r.as s1') ∧ Eqv r.stt s1' := by
 obtain ⟨e1,e2⟩ := he
 have ro : ∀ x,(opd st'.fr x).1 = (opd st.fr x).1 := fun x => (opd_on (x := x) fun s _ => e1 s).1
 cases i
 case panic x =>
   simp only [evalOp,ro] at h ⊢
   split at h
   · cases h; exact ⟨st',rfl,e1,e2⟩
   · cases h
 case load x m n agg tk =>
   cases m <;> simp only [foot] at hf <;> try (cases hf; done)
   rename_i r0
   simp only [evalOp,ro] at h ⊢
   split at h
   · cases h
   · rename_i hmm
     cases hp : (opd st.fr x).1 <;> rw [hp] at h hmm <;> simp only [memOk,behind] at h hmm <;> first | (simp at hmm; done) | (simp at h; done)
 case store x m v n =>
   have tk : ∀ s,(opd st'.fr v).2.get s = (opd st.fr v).2.get s := fun s => by
     have := (opd_on (x := v) (fr := st.fr) (fr' := st'.fr) fun s _ => e1 s).2
     by_cases hs : s ∈ opdW v
     · exact this.new s hs
     · rw [this.old' s hs,this.old s hs]; exact e1 s
   have ro2 : ∀ x,(opd (opd st'.fr v).2 x).1 = (opd (opd st.fr v).2 x).1 := fun x => (opd_on (x := x) fun s _ => tk s).1
   cases m with
   | loc r0 => simp [foot] at hf
   | heap => simp [foot] at hf
   | elem =>
     simp only [evalOp,ro,ro2] at h ⊢
     split at h
     · cases h
     · rename_i hmm
       simp only [not_or,Bool.not_eq_false] at hmm
       cases hp : (opd (opd st.fr v).2 x).1 <;> rw [hp] at h hmm <;> simp only [memOk,behind,behindPut] at h hmm <;> first | (simp at hmm; done) | (split at h <;> cases h; done)
   | last r0 =>
     simp only [evalOp,ro,ro2] at h ⊢
     split at h
     · cases h
     · rename_i hmm
       rw [if_neg hmm]
       simp only [not_or,Bool.not_eq_false] at hmm
       cases hp : (opd (opd st.fr v).2 x).1 <;> rw [hp] at h hmm <;> simp only [memOk] at h hmm <;> try (simp at hmm; done)
       rename_i s
       dsimp only
       simp only [tk]
       cases x <;> try (simp at h; done)
       rename_i p tk2
       cases hs : (opd st.fr v).2.get s <;> rw [hs] at h <;> try (simp at h; done)
       rename_i xs sz
       dsimp only at h ⊢
       split at h
       · rename_i hh; cases ret1_some h
         have hno : ((opd st'.fr v).2.set p .none).noLast s = true := by
           rw [noLast_iff]; intro t u ht
           rw [Fr.get_set,tk] at ht
           exact noLast_iff.1 hh.2.2.2 t u (by rw [Fr.get_set]; exact ht)
         refine ⟨{ st' with fr := ((opd st'.fr v).2.set p .none).set s (.list (xs ++ [(opd st.fr v).1.cp]) (.own sz 0)) },by rw [if_pos ⟨hh.1,hh.2.1,hh.2.2.1,hno⟩]; rfl,fun t => ?_,e2⟩
         simp only [OpR.stt]
         rw [Fr.get_set,Fr.get_set,Fr.get_set,Fr.get_set,tk]
       · cases h
 all_goals first
   | (simp [foot] at hf; done)
   | (rename_i b _; cases b <;> simp [foot] at hf; done)
   | (rename_i b; cases b <;> simp [foot] at hf; done)
   | (rename_i b _ _; cases b <;> simp [foot] at hf; done)
theorem like_eqv {s1 s1' : St} (he:Eqv st st') (h:Like F st s1 st' s1') : Eqv s1 s1' :=
 ⟨fun s => by
   by_cases hs : s ∈ F.wr
   · exact h.fr.new s hs
   · rw [h.fr.old' s hs,h.fr.old s hs]; exact he.1 s,h.hp' he.2⟩
theorem Eqv.clear (he:Eqv st st') : ClearF F st st' := ⟨fun s _ => he.1 s,by rw [he.2]; exact HpOn.rfl',fun _ => he.2⟩
theorem eqv_op (hq:CallQ call) {i:IOp} (he:Eqv st st') {r:OpR} (h:evalOp G call lo i st = some r) : ∃ s1',evalOp G call lo i st' = some (r.as s1') ∧ Eqv r.stt s1' := by
 cases hf : foot i with
 | none => exact wild_op hf he h
 | some F =>
   obtain ⟨s1',h1,h2⟩ := like_op hq hf he.clear h
   exact ⟨s1',h1,like_eqv he h2⟩
theorem wanted_on {fr fr' : Fr} {g:Option (Nat × Bool)} (h:FrOn (slotL (g.map (·.1))) fr fr') : wanted fr' g = wanted fr g := by
 cases g with
 | none => rfl
 | some x => obtain ⟨s,b⟩ := x; simp only [wanted]; rw [h s (by simp [slotL])]
theorem put_on {s s' s1 : St} {d:Option Nat} {v:AV} (h:FrOn (slotL d) s.fr s'.fr) (hp:s.put d v = some s1) : ∃ s1',s'.put d v = some s1' ∧ Moved (slotL d) s.fr s1.fr s'.fr s1'.fr ∧ s1.hp = s.hp ∧ s1'.hp = s'.hp := by
 cases d with
 | none => simp [St.put] at hp; subst hp; exact ⟨s',rfl,Moved.refl _ _,rfl,rfl⟩
 | some d =>
   simp only [St.put] at hp ⊢
   rw [h d (by simp [slotL])]
   split at hp
   · rename_i hl; cases hp
     exact ⟨{ s' with fr := s'.fr.set d v },by rw [if_pos hl],Moved.set d v,rfl,rfl⟩
   · cases hp
theorem HpKeep.of {k:HpK} {a b c:List HObj} (h:HpKeep k a b) (e:c = b) : HpKeep k a c := by rw [e]; exact h
theorem opdW_R {x:Opd} {s:Nat} (h:s ∈ opdW x) : s ∈ opdR x := by
 cases x with
 | t s' tk => cases tk <;> simp [opdW,opdR] at h ⊢; exact h
 | c v => simp [opdW] at h
 | g v => simp [opdW] at h
 | f v => simp [opdW] at h
theorem opdsW_R : ∀ {xs:List Opd} {s:Nat},s ∈ opdsW xs → s ∈ opdsR xs
 | [],s,h => by simp [opdsW] at h
 | x :: xs,s,h => by
   simp only [opdsW,opdsR,List.mem_append] at h ⊢
   rcases h with h | h
   · exact .inl (opdW_R h)
   · exact .inr (opdsW_R h)
theorem foot_wr_rd {i:IOp} {F:Foot} (h:foot i = some F) (s:Nat) (hs:s ∈ F.wr) : s ∈ F.rd := by
 cases i
 case load x m n agg tk =>
   cases m <;> simp only [foot] at h <;> cases h
   · cases tk <;> simp at hs ⊢; exact .inr hs
   · simp at hs
   · simp at hs
 case store x m v n =>
   cases m <;> simp only [foot] at h <;> cases h
   · simp only [List.mem_append] at hs ⊢
     rcases hs with hs | hs
     · exact .inl (opdW_R hs)
     · exact .inr (.inr hs)
   · simp only [List.mem_append]; exact .inl (opdW_R hs)
 case alloc heap ty cs => cases heap <;> simp only [foot] at h <;> cases h <;> simp at hs
 case box heap x => cases heap <;> simp only [foot] at h <;> cases h <;> exact opdW_R hs
 case len x kd => cases kd <;> simp only [foot] at h <;> cases h <;> simp at hs
 case panic => simp [foot] at h
 all_goals
   simp only [foot,Option.some.injEq] at h; subst h
   first
     | (simp at hs; done)
     | exact opdW_R hs
     | exact opdsW_R hs
     | exact List.mem_append_left _ (opdW_R hs)
     | exact List.mem_append_left _ (opdsW_R hs)
theorem like_step (hq:CallQ call) {o:IOper} (hf:footO o = some F) (hc:ClearF F st st') {ex:Ex} {s1:St} (h:evalOps G call lo [o] st = some (ex,s1)) :
   ∃ s1',evalOps G call lo [o] st' = some (ex,s1') ∧ (ex = .normal → Like F st s1 st' s1') ∧ (st'.hp = st.hp → s1'.hp = s1.hp) := by
 unfold footO at hf
 cases hf0 : foot o.op with
 | none => simp [hf0] at hf
 | some F0 =>
   simp [hf0] at hf; subst hf
   obtain ⟨c1,c2,c3⟩ := hc
   simp only at c1 c2 c3
   have c0 : ClearF F0 st st' := ⟨c1.right.left,c2,c3⟩
   have cd : FrOn (slotL o.dst) st.fr st'.fr := c1.right.right
   simp only [evalOps] at h ⊢
   rw [wanted_on c1.left]
   split at h
   · rename_i hw
     try simp only [hw]
     split at h
     · rename_i v s2 he
       obtain ⟨s2',h2,l2⟩ := like_op hq hf0 c0 he
       simp only [OpR.as] at h2
       simp only [OpR.stt] at l2
       rw [h2]
       simp only []
       split at h
       · rename_i s3 hp
         simp at h; obtain ⟨rfl,rfl⟩ := h
         have cd2 : FrOn (slotL o.dst) s2.fr s2'.fr := cd.moved l2.fr
         obtain ⟨s3',p1,p2,p3,p4⟩ := put_on cd2 hp
         rw [p1]
         refine ⟨s3',rfl,fun _ => ⟨l2.fr.trans p2,fun e => by rw [p4]; exact l2.hp e,fun e => by rw [p4,p3]; exact l2.hp' e,l2.keep.of p3⟩,fun e => by rw [p4,p3]; exact l2.hp' e⟩
       · cases h
     · rename_i v s2 he
       obtain ⟨s2',h2,l2⟩ := like_op hq hf0 c0 he
       simp only [OpR.as] at h2
       simp only [OpR.stt] at l2
       rw [h2]
       simp at h; obtain ⟨rfl,rfl⟩ := h
       exact ⟨s2',rfl,(fun e => by cases e),l2.hp'⟩
     · cases h
   · rename_i hw
     try simp only [hw]
     split at h
     · rename_i s3 hp
       simp at h; obtain ⟨rfl,rfl⟩ := h
       obtain ⟨s3',p1,p2,p3,p4⟩ := put_on cd hp
       rw [p1]
       refine ⟨s3',rfl,fun _ => ⟨?_,fun _ => p4,fun e => by rw [p4,p3]; exact e,?_⟩,fun e => by rw [p4,p3]; exact e⟩
       · exact ⟨fun s hs => by
           by_cases hd : s ∈ slotL o.dst
           · exact p2.new s hd
           · have h1 : s ∈ F0.wr := by simpa [hd] using hs
             rw [p2.old' s hd,p2.old s hd]
             exact c1.right.left s (foot_wr_rd hf0 s h1),fun s hs => by simp at hs; exact p2.old' s hs.2,fun s hs => by simp at hs; exact p2.old s hs.2⟩
       · rw [p3]; cases F0.hw <;> simp [HpKeep,HpOn]
     · cases h
   · cases h
end
end Go.Proofs.YtkofimhnehkdoaaGreatDoor.Rf
end
section
namespace Go.Proofs.YtkofimhnehkdoaaGreatDoor.Rf
def hpInd (a b:Foot) : Bool :=
 match a.hw with
 | .no => true
 | .cells => decide (b.hw = .no) && (match b.hr with | .no => true | .maps => true | _ => false)
 | .maps => decide (b.hw = .no) && (match b.hr with | .no => true | .cells => true | _ => false)
 | .all => decide (b.hw = .no) && (match b.hr with | .no => true | _ => false)
def disj : List Nat → List Nat → Bool
 | [],_ => true
 | x :: r,l => !l.contains x && disj r l
theorem disj_spec : ∀ {a b:List Nat},disj a b = true → ∀ s,s ∈ a → s ∉ b
 | [],_,_,s,h => by simp at h
 | x :: r,l,h,s,hs => by
   simp only [disj,Bool.and_eq_true] at h
   rcases List.mem_cons.1 hs with rfl | hs
   · simpa using h.1
   · exact disj_spec h.2 s hs
def indep (a b:Foot) : Bool := disj a.wr b.rd && (disj a.wr b.wr && (disj b.wr a.rd && (hpInd a b && hpInd b a)))
def indO (x y:IOper) : Bool :=
 match footO x,footO y with
 | some a,some b => indep a b
 | _,_ => false
section
variable {G:Nat → Option (List AV)} {call:CallF} {lo:Nat} {st st' : St} {F:Foot}
theorem ClearF.refl (F:Foot) (st:St) : ClearF F st st := ⟨fun _ _ => rfl,HpOn.rfl',fun _ => rfl⟩
theorem like_step_self (hq:CallQ call) {o:IOper} (hf:footO o = some F) {s1:St} (h:evalOps G call lo [o] st = some (.normal,s1)) : Like F st s1 st s1 := by
 obtain ⟨s1',h1,h2,_⟩ := like_step hq hf (ClearF.refl F st) h
 rw [h] at h1; simp at h1; subst h1
 exact h2 rfl
theorem hpOn_symm {k:HpK} {a b:List HObj} (h:HpOn k a b) : HpOn k b a := by
 cases k <;> simp only [HpOn] at h ⊢
 · exact fun i ty c => (h i ty c).symm
 · exact fun i c => (h i c).symm
 · exact h.symm
theorem hpInd_on {a b:Foot} (h:hpInd a b = true) {hp hp1:List HObj} (k:HpKeep a.hw hp hp1) : HpOn b.hr hp1 hp ∧ (b.hw ≠ .no → hp = hp1) := by
 unfold hpInd at h
 split at h
 · rename_i e; rw [e] at k; simp only [HpKeep] at k; subst k; exact ⟨HpOn.rfl',fun _ => rfl⟩
 · rename_i e; rw [e] at k; simp only [HpKeep] at k
   simp only [Bool.and_eq_true,decide_eq_true_eq] at h
   refine ⟨?_,fun hn => absurd h.1 hn⟩
   cases hb : b.hr <;> rw [hb] at h <;> first | trivial | exact hpOn_symm k | (simp at h; done)
 · rename_i e; rw [e] at k; simp only [HpKeep] at k
   simp only [Bool.and_eq_true,decide_eq_true_eq] at h
   refine ⟨?_,fun hn => absurd h.1 hn⟩
   cases hb : b.hr <;> rw [hb] at h <;> first | trivial | exact hpOn_symm k | (simp at h; done)
 · simp only [Bool.and_eq_true,decide_eq_true_eq] at h
   refine ⟨?_,fun hn => absurd h.1 hn⟩
   cases hb : b.hr <;> rw [hb] at h <;> first | trivial | (simp at h; done)
theorem hpInd_no {a b:Foot} (h:hpInd a b = true) (hn:a.hw ≠ .no) : b.hw = .no := by
 unfold hpInd at h
 split at h
 · rename_i e; exact absurd e hn
 all_goals (simp only [Bool.and_eq_true,decide_eq_true_eq] at h; exact h.1)
theorem swap (hq:CallQ call) {x y:IOper} (hi:indO x y = true) {s1 s2:St} {ex:Ex} (h1:evalOps G call lo [x] st = some (.normal,s1)) (h2:evalOps G call lo [y] s1 = some (ex,s2)) :
   ∃ s1',evalOps G call lo [y] st = some (ex,s1') ∧ (ex = .normal → ∃ s2',evalOps G call lo [x] s1' = some (.normal,s2') ∧ Eqv s2 s2') ∧ (ex ≠ .normal → (∀ a,footO x = some a → a.hw = .no) → s1'.hp = s2.hp) := by
 unfold indO at hi
 cases hx : footO x with
 | none => simp [hx] at hi
 | some a =>
   cases hy : footO y with
   | none => simp [hx,hy] at hi
   | some b =>
     simp only [hx,hy,indep,Bool.and_eq_true] at hi
     obtain ⟨i1,i2,i3,i4,i5⟩ := hi
     have la := like_step_self hq hx h1
     obtain ⟨o1,o2⟩ := hpInd_on i4 la.keep
     have cb : ClearF b s1 st := ⟨fun s hs => (la.fr.old s (fun h => disj_spec i1 s h hs)).symm,o1,o2⟩
     obtain ⟨s1',e1,l1,l1'⟩ := like_step hq hy cb h2
     refine ⟨s1',e1,fun en => ?_,fun _ hno => l1' (by have := hno a rfl; exact (la.hp this).symm)⟩
     subst en
     have lb := l1 rfl
     have lbs := like_step_self hq hy e1
     obtain ⟨o3,o4⟩ := hpInd_on i5 lbs.keep
     have ca : ClearF a st s1' := ⟨fun s hs => lbs.fr.old s (fun h => disj_spec i3 s h hs),hpOn_symm o3,fun hn => (o4 hn).symm⟩
     obtain ⟨s2',e2,l2,l2'⟩ := like_step hq hx ca h1
     have l2 := l2 rfl
     refine ⟨s2',e2,fun s => ?_,?_⟩
     · by_cases ha : s ∈ a.wr
       · rw [l2.fr.new s ha,lb.fr.old s (disj_spec i2 s ha)]
       · rw [l2.fr.old' s ha]
         by_cases hb : s ∈ b.wr
         · exact lb.fr.new s hb
         · rw [lb.fr.old' s hb,lb.fr.old s hb,la.fr.old s ha]
     · by_cases hn : a.hw = .no
       · rw [l2.hp hn]
         exact lb.hp' (la.hp hn).symm
       · have hb := hpInd_no i4 hn
         rw [l2' (lb.hp hb)]
         exact (like_step_self hq hy h2).hp hb |>.symm
theorem eqv_step (hq:CallQ call) {o:IOper} (he:Eqv st st') {ex:Ex} {s1:St} (h:evalOps G call lo [o] st = some (ex,s1)) : ∃ s1',evalOps G call lo [o] st' = some (ex,s1') ∧ Eqv s1 s1' := by
 have hw : wanted st'.fr o.guard = wanted st.fr o.guard := wanted_on fun s _ => he.1 s
 have hput : ∀ {s s' s3 : St} {v:AV},Eqv s s' → s.put o.dst v = some s3 → ∃ s3',s'.put o.dst v = some s3' ∧ Eqv s3 s3' := fun {s s' s3 v} e hp => by
   obtain ⟨s3',p1,p2,p3,p4⟩ := put_on (fun t _ => e.1 t) hp
   refine ⟨s3',p1,fun t => ?_,by rw [p4,p3]; exact e.2⟩
   by_cases ht : t ∈ slotL o.dst
   · exact p2.new t ht
   · rw [p2.old' t ht,p2.old t ht]; exact e.1 t
 simp only [evalOps,hw] at h ⊢
 split at h
 · split at h
   · rename_i v s2 ho
     obtain ⟨s2',h2,l2⟩ := eqv_op hq he ho
     simp only [OpR.as] at h2
     simp only [OpR.stt] at l2
     rw [h2]
     split at h
     · rename_i s3 hp
       simp at h; obtain ⟨rfl,rfl⟩ := h
       obtain ⟨s3',p1,p2⟩ := hput l2 hp
       exact ⟨s3',by simp [p1],p2⟩
     · cases h
   · rename_i v s2 ho
     obtain ⟨s2',h2,l2⟩ := eqv_op hq he ho
     simp only [OpR.as] at h2
     simp only [OpR.stt] at l2
     rw [h2]
     simp at h; obtain ⟨rfl,rfl⟩ := h
     exact ⟨s2',rfl,l2⟩
   · cases h
 · split at h
   · rename_i s3 hp
     simp at h; obtain ⟨rfl,rfl⟩ := h
     obtain ⟨s3',p1,p2⟩ := hput he hp
     exact ⟨s3',by simp [p1],p2⟩
   · cases h
 · cases h
variable {ops:List IOper} {pans:List Nat}
theorem evalDraw_cons {i:Nat} {r:List Nat} {ex:Ex} {s:St} (h:evalDraw G call lo ops pans (i :: r) st = some (ex,s)) :
   ∃ o,ops[i]? = some o ∧ ((∃ s1,evalOps G call lo [o] st = some (.normal,s1) ∧ evalDraw G call lo ops pans r s1 = some (ex,s)) ∨
     (∃ v s1,evalOps G call lo [o] st = some (.pan v,s1) ∧ i ∈ pans ∧ ex = .pan v ∧ s = ⟨[],s1.hp⟩)) := by
 simp only [evalDraw] at h
 split at h
 · cases h
 · rename_i o ho
   refine ⟨o,ho,?_⟩
   split at h
   · rename_i s1 he; exact .inl ⟨s1,he,h⟩
   · rename_i v s1 he
     split at h
     · rename_i hp; simp at h; obtain ⟨rfl,rfl⟩ := h; exact .inr ⟨v,s1,he,by simpa using hp,rfl,rfl⟩
     · cases h
   · cases h
theorem evalDraw_normal {i:Nat} {r:List Nat} {o:IOper} (ho:ops[i]? = some o) {s1:St} (h:evalOps G call lo [o] st = some (.normal,s1)) : evalDraw G call lo ops pans (i :: r) st = evalDraw G call lo ops pans r s1 := by
 simp only [evalDraw,ho,h]
theorem evalDraw_pan {i:Nat} {r:List Nat} {o:IOper} (ho:ops[i]? = some o) {s1:St} {v:AV} (h:evalOps G call lo [o] st = some (.pan v,s1)) (hp:i ∈ pans) : evalDraw G call lo ops pans (i :: r) st = some (.pan v,⟨[],s1.hp⟩) := by
 have : pans.contains i = true := by simpa using hp
 simp only [evalDraw,ho,h,this,if_true]
theorem eqv_draw (hq:CallQ call) : ∀ {r:List Nat} {st st' : St} {ex:Ex} {s:St},Eqv st st' → evalDraw G call lo ops pans r st = some (ex,s) → ∃ s',evalDraw G call lo ops pans r st' = some (ex,s') ∧ Eqv s s'
 | [],st,st',ex,s,he,h => by simp [evalDraw] at h; obtain ⟨rfl,rfl⟩ := h; exact ⟨st',rfl,he⟩
 | i :: r,st,st',ex,s,he,h => by
   obtain ⟨o,ho,h⟩ := evalDraw_cons h
   rcases h with ⟨s1,h1,h2⟩ | ⟨v,s1,h1,hp,rfl,rfl⟩
   · obtain ⟨s1',e1,e2⟩ := eqv_step hq he h1
     obtain ⟨s',f1,f2⟩ := eqv_draw hq e2 h2
     exact ⟨s',by rw [evalDraw_normal ho e1]; exact f1,f2⟩
   · obtain ⟨s1',e1,e2⟩ := eqv_step hq he h1
     exact ⟨⟨[],s1'.hp⟩,evalDraw_pan ho e1 hp,fun _ => rfl,e2.2⟩
theorem front (hq:CallQ call) {i:Nat} {r:List Nat} : ∀ {as:List Nat} {st:St} {ex:Ex} {s:St},(∀ x,x ∈ as → x ∉ pans ∧ ∀ ox oi,ops[x]? = some ox → ops[i]? = some oi → indO ox oi = true ∧ (i ∈ pans → ∀ a,footO ox = some a → a.hw = .no)) →
   evalDraw G call lo ops pans (as ++ i :: r) st = some (ex,s) → ∃ s',evalDraw G call lo ops pans (i :: (as ++ r)) st = some (ex,s') ∧ Eqv s s'
 | [],st,ex,s,_,h => ⟨s,h,Eqv.refl s⟩
 | x :: as,st,ex,s,hall,h => by
   obtain ⟨ox,hox,h⟩ := evalDraw_cons h
   obtain ⟨hxp,hx⟩ := hall x (by simp)
   rcases h with ⟨s1,h1,h2⟩ | ⟨v,s1,h1,hp,_,_⟩
   · obtain ⟨s',f1,f2⟩ := front hq (fun y hy => hall y (by simp [hy])) h2
     obtain ⟨oi,hoi,f1⟩ := evalDraw_cons f1
     obtain ⟨hind,hno⟩ := hx ox oi hox hoi
     rcases f1 with ⟨s2,g1,g2⟩ | ⟨v,s2,g1,hp,rfl,rfl⟩
     · obtain ⟨s1',e1,e2,_⟩ := swap hq hind h1 g1
       obtain ⟨s2',e3,e4⟩ := e2 rfl
       obtain ⟨s'',k1,k2⟩ := eqv_draw hq e4 g2
       refine ⟨s'',?_,f2.trans k2⟩
       rw [evalDraw_normal hoi e1,List.cons_append,evalDraw_normal hox e3]; exact k1
     · obtain ⟨s1',e1,_,e3⟩ := swap hq hind h1 g1
       have := e3 (by simp) (hno hp)
       refine ⟨⟨[],s1'.hp⟩,evalDraw_pan hoi e1 hp,f2.trans ⟨fun _ => rfl,this⟩⟩
   · exact absurd hp hxp
end
end Go.Proofs.YtkofimhnehkdoaaGreatDoor.Rf
end
section
namespace Go.Proofs.YtkofimhnehkdoaaGreatDoor.Rf
def Held (a b:Fr) : Prop := ∀ s cs,a.get s = .box cs → ∃ cs',b.get s = .box cs' ∧ cs'.length = cs.length
theorem Held.refl (a:Fr) : Held a a := fun s cs h => ⟨cs,h,rfl⟩
theorem Held.trans {a b c:Fr} (h:Held a b) (k:Held b c) : Held a c := fun s cs e => by
 obtain ⟨x,h1,h2⟩ := h s cs e
 obtain ⟨y,k1,k2⟩ := k s x h1
 exact ⟨y,k1,k2.trans h2⟩
theorem Fr.get_husk : ∀ (fr:Fr) (s:Nat),fr.husk.get s = (fr.get s).husk
 | [],s => rfl
 | (t,v) :: r,s => by
   simp only [Fr.husk,Fr.get]
   split
   · rfl
   · exact Fr.get_husk r s
theorem Held.set {a:Fr} {t:Nat} {v:AV} (h:(a.get t).loose = true) : Held a (a.set t v) := fun s cs e => by
 rw [Fr.get_set]
 by_cases ht : t = s
 · subst ht; rw [e] at h; simp [AV.loose] at h
 · rw [if_neg ht]; exact ⟨cs,e,rfl⟩
theorem Held.setBox {a:Fr} {t:Nat} {cs ds:List AV} (h:a.get t = .box cs) (hl:ds.length = cs.length) : Held a (a.set t (.box ds)) := fun s cs' e => by
 rw [Fr.get_set]
 by_cases ht : t = s
 · subst ht; rw [if_pos rfl]; rw [h] at e; cases e; exact ⟨ds,rfl,hl⟩
 · rw [if_neg ht]; exact ⟨cs',e,rfl⟩
theorem opd_held (fr:Fr) (x:Opd) : Held fr (opd fr x).2 := by
 cases x with
 | t s tk =>
   simp only [opd]
   cases hv : fr.get s <;> simp only [] <;> first
     | exact Held.refl _
     | (cases tk
        · exact Held.refl _
        · exact Held.set (by rw [hv]; rfl))
 | c v => exact Held.refl _
 | g v => exact Held.refl _
 | f v => exact Held.refl _
theorem opds_held : ∀ (xs:List Opd) (fr:Fr),Held fr (opds fr xs).2
 | [],fr => Held.refl _
 | x :: xs,fr => (opd_held fr x).trans (opds_held xs _)
theorem put_len {cs vs:List AV} {off:Nat} (h:off + vs.length ≤ cs.length) : (put cs off vs).length = cs.length := by
 simp [put]; omega
section
variable {G:Nat → Option (List AV)} {call:CallF} {lo:Nat} {st:St}
theorem behindPut_held {p:AV} {cs ds:List AV} {off:Nat} {st' : St} (hb:behind G st p = some (cs,off)) (hl:ds.length = cs.length) (h:behindPut lo st ds p = some st') : Held st.fr st'.fr := by
 cases p <;> simp only [behindPut] at h <;> try (cases h; done)
 · split at h
   · split at h
     · cases h; exact Held.refl _
     · cases h
   · cases h
 · rename_i s o
   cases h
   simp only [behind] at hb
   split at hb
   · rename_i cs' hg; cases hb; exact Held.setBox hg hl
   · cases hb
theorem evalOp_held {i:IOp} {r:OpR} (h:evalOp G call lo i st = some r) : Held st.fr r.stt.fr := by
 cases i
 case load x m n agg tk =>
   simp only [evalOp] at h
   split at h
   · cases h
   · split at h
     · rename_i cs off hb
       split at h
       · rename_i l hl
         split at h
         · split at h
           · split at h
             · rename_i st' hp
               cases ret1_some h
               refine behindPut_held hb (put_len ?_) hp
               simp only [cut] at hl
               split at hl
               · cases hl; simp; omega
               · cases hl
             · cases h
           · cases h
         · cases ret1_some h; exact Held.refl _
       · cases h
     · cases h
 case store x m v n =>
   simp only [evalOp] at h
   split at h
   · cases h
   · split at h
     · rename_i s hx
       split at h
       · rename_i p tk xs sz hs hne
         split at h
         · rename_i hh
           cases ret1_some h
           refine (opd_held st.fr v).trans ?_
           have h1 : Held (opd st.fr v).2 ((opd st.fr v).2.set p .none) := by
             by_cases hl : ((opd st.fr v).2.get p).loose = true
             · exact Held.set hl
             · exact absurd (opd_lastr_loose hx (by simpa using hl)) (by simp)
           refine h1.trans (fun t cs e => ?_)
           show ∃ cs',((((opd st.fr v).2.set p .none).set s _).get t) = _ ∧ _
           rw [Fr.get_set]
           by_cases ht : s = t
           · subst ht
             rw [Fr.get_set,if_neg hh.2.2.1] at e
             rw [hs] at e; cases e
           · rw [if_neg ht]; exact ⟨cs,e,rfl⟩
         · cases h
       · cases h
     · split at h
       · rename_i cs off hb
         split at h
         · rename_i hn
           split at h
           · rename_i st' hp
             cases ret1_some h
             exact (opd_held st.fr v).trans (behindPut_held hb (put_len (by omega)) hp)
           · cases h
         · cases h
       · cases h
 all_goals
   simp only [evalOp] at h
   repeat' split at h
   all_goals first
     | (cases h; done)
     | (cases ret1_some h; exact Held.refl _)
     | (cases ret1_some h; exact opd_held _ _)
     | (cases ret1_some h; exact opds_held _ _)
     | (cases h; exact Held.refl _)
     | (cases h; exact opd_held _ _)
     | (cases h; exact opds_held _ _)
theorem put_held {d:Option Nat} {v:AV} {s1:St} (h:st.put d v = some s1) : Held st.fr s1.fr := by
 cases d with
 | none => simp [St.put] at h; subst h; exact Held.refl _
 | some d =>
   simp only [St.put] at h
   split at h
   · rename_i hl; cases h; exact Held.set hl
   · cases h
theorem evalOps_held : ∀ {os:List IOper} {st:St} {ex:Ex} {s1:St},evalOps G call lo os st = some (ex,s1) → Held st.fr s1.fr
 | [],st,ex,s1,h => by simp [evalOps] at h; obtain ⟨_,rfl⟩ := h; exact Held.refl _
 | o :: r,st,ex,s1,h => by
   simp only [evalOps] at h
   split at h
   · split at h
     · rename_i v st' he
       split at h
       · rename_i st'' hp
         exact (evalOp_held he).trans ((put_held hp).trans (evalOps_held h))
       · cases h
     · rename_i v st' he
       cases h; exact evalOp_held he
     · cases h
   · split at h
     · rename_i st'' hp; exact (put_held hp).trans (evalOps_held h)
     · cases h
   · cases h
end
theorem Rel.husk {G:Nat → Option (List AV)} {g:Gh} {st:St} {tm:Array Value} {w:World} (k:Rel G g st [] tm w) {fr0:Fr} (h:Held fr0 st.fr) : Rel G g ⟨fr0.husk,st.hp⟩ [] tm w := by
 refine ⟨fun s => ?_,fun j v cv hj => by simp at hj,k.hp,k.fresh,k.gl⟩
 simp only
 rw [Fr.get_husk]
 cases hv : fr0.get s <;> try (simp [AV.husk,VF,VX,V,Owns]; done)
 rename_i cs
 obtain ⟨cs',h1,h2⟩ := h s cs hv
 have f := k.fr s
 rw [h1] at f
 simp only [AV.husk,VF] at f ⊢
 obtain ⟨vs,ty,f1,f2,⟨f3,f4⟩,f5,f6⟩ := f
 refine ⟨vs,ty,f1,f2,⟨VS.mk (by rw [f3.len]; simpa using h2) (fun i v u hv hu => ?_),f4⟩,f5,fun i xs sz e cv hc _ => ?_⟩
 · rw [List.getElem?_map] at hv
   cases hc : cs[i]? <;> rw [hc] at hv <;> simp at hv
   subst hv; simp [V]
 · rw [List.getElem?_map] at hc
   cases hcc : cs[i]? <;> rw [hcc] at hc <;> simp at hc
end Go.Proofs.YtkofimhnehkdoaaGreatDoor.Rf
end
section
namespace Go.Proofs.YtkofimhnehkdoaaGreatDoor.Rf
def setCells : World → Nat → Nat → List Value → World
 | w,_,_,[] => w
 | w,b,q,v :: vs => setCells (w.setCell ⟨b,q,none⟩ v) b (q + 1) vs
theorem setCell_comm (w:World) {a c:Addr} (h:a.block ≠ c.block) (u v:Value) : (w.setCell a u).setCell c v = (w.setCell c v).setCell a u := by
 simp only [World.setCell,World.mk.injEq,and_true,true_and]
 refine Array.ext_getElem? fun i => ?_
 simp only [Array.getElem?_modify]
 by_cases h1 : a.block = i
 · by_cases h2 : c.block = i
   · exact absurd (h1.trans h2.symm) h
   · simp [h1,h2]
 · by_cases h2 : c.block = i
   · simp [h1,h2]
   · simp [h1,h2]
theorem setCells_comm {b:Nat} {c:Addr} (h:b ≠ c.block) (u:Value) : ∀ (vs:List Value) (q:Nat) (w:World),setCells (w.setCell c u) b q vs = (setCells w b q vs).setCell c u
 | [],_,_ => rfl
 | v :: vs,q,w => by
   simp only [setCells]
   rw [setCell_comm w (a := c) (c := ⟨b,q,none⟩) (fun e => h e.symm)]
   exact setCells_comm h u vs (q + 1) _
theorem cell_setCells {b:Nat} {c:Addr} (h:b ≠ c.block) : ∀ (vs:List Value) (q:Nat) (w:World),(setCells w b q vs).cell? c = w.cell? c
 | [],_,_ => rfl
 | v :: vs,q,w => by
   simp only [setCells]
   rw [cell_setCells h vs,World.cell?_setCell_other]
   intro e; exact h (by rw [← e])
theorem frozen_setCells {b:Nat} {c:Addr} : ∀ (vs:List Value) (q:Nat) (w:World),(setCells w b q vs).frozen? c = w.frozen? c
 | [],_,_ => rfl
 | v :: vs,q,w => by
   simp only [setCells]
   rw [frozen_setCells vs,World.frozen?_setCell]
section
variable {P:Program} {G:Nat → Option (List AV)} {g g' : Gh} {st:St} {a:Act} {w w' : World} {o:Oper} {tm:Array Value} {call:CallF} {lo:Nat}
theorem run_storeCells_put (b q:Nat) : ∀ (vs:List Value) (i:Nat) (w:World),(∀ j,j < vs.length → (∃ u,w.cell? ⟨b,q + i + j,none⟩ = some u) ∧ w.frozen? ⟨b,q + i + j,none⟩ = false) → Ones vs →
   (storeCells ⟨b,q,none⟩ vs i).run P w = .ok () (setCells w b (q + i) vs)
 | [],i,w,_,_ => rfl
 | v :: vs,i,w,h,h1 => by
   obtain ⟨⟨u,hu⟩,hf⟩ := h 0 (by simp)
   simp only [Nat.add_zero] at hu hf
   have hv := h1 v (by simp)
   have ne : ∀ j,(⟨b,q + i,none⟩ : Addr) ≠ ⟨b,q + i + (j + 1),none⟩ := fun j e => by injection e with _ e2; omega
   have r1 := run_storeCells_put b q vs (i + 1) (w.setCell ⟨b,q + i,none⟩ v) (fun j hj => by
     have := h (j + 1) (by simpa using hj)
     rw [show q + (i + 1) + j = q + i + (j + 1) by omega,World.cell?_setCell_other _ _ _ _ (ne j),World.frozen?_setCell]; exact this) (fun x hx => h1 x (by simp [hx]))
   simp only [storeCells,Sem.run_bind,Addr.add_lit,run_store P w _ v _ hv,hu,hf,Bool.false_eq_true,if_false,Result.andThen_ok]
   rw [r1]; rfl
theorem run_storeVar_put {t:TypeId} {n:Nat} {agg:Bool} (h:tyOk P t n agg = true) {b q:Nat} {cu:Value} (hn:cu.cells.toList.length = n) (h1:Ones cu.cells.toList)
   (hc:∀ j,j < n → (∃ u,w.cell? ⟨b,q + j,none⟩ = some u) ∧ w.frozen? ⟨b,q + j,none⟩ = false) : (storeVar t ⟨b,q,none⟩ cu).run P w = .ok () (setCells w b q cu.cells.toList) := by
 have hsz : (sizeOf t).run P w = .ok n w := by
   unfold tyOk at h
   cases hi : P.info? t with
   | none => simp [hi] at h
   | some i =>
     cases hu : P.underlying t with
     | none => simp [hi,hu] at h
     | some d =>
       simp only [hi,hu,Bool.and_eq_true,decide_eq_true_eq] at h
       simp [sizeOf,typeInfo,hi,h.1.1]
 have r1 := run_storeCells_put (P := P) b q cu.cells.toList 0 w (fun j hj => by rw [Nat.add_zero]; exact hc j (by rw [← hn]; exact hj)) h1
 rw [Nat.add_zero] at r1
 simp only [storeVar,Sem.run_bind,hsz,Result.andThen_ok]
 rw [if_neg (by simp at hn; simpa using hn)]
 simpa using r1
theorem step_run (hc:CallOK P G call) {nt:NT} {ops:Array Oper} {io:IOper} (hk:chkOper P nt.toNK ops io o = true) (k:Rel G g st [] a.tmps w) (hn:nt.ok a.tmps) (hg:io.guard = none) {st' : St}
   (hr:evalOps G call lo [io] st = some (.normal,st')) {n:Next} {x:Value} (hrun:(execOp a.eval o).run P w = .ok n w') (hx:(n = .skip ∧ x = undef) ∨ n = .value x) :
   ∃ g',Rel G g' st' [] (a.put o.dst x).tmps w' ∧ Stay g w g' w' ∧ nt.ok (a.put o.dst x).tmps ∧ (a.put o.dst x).defers = a.defers := by
 simp only [chkOper,Bool.and_eq_true,decide_eq_true_eq] at hk
 obtain ⟨⟨⟨h1,h2⟩,h3⟩,h4⟩ := hk
 simp only [evalOps,hg,wanted] at hr
 cases he : evalOp G call lo io.op st with
 | none => rw [he] at hr; simp at hr
 | some e =>
   rw [he] at hr
   have := op_sound hc k h4 he (fun a' w'' => ∃ g',Rel G g' st' [] a'.tmps w'' ∧ Stay g w g' w'' ∧ nt.ok a'.tmps ∧ a'.defers = a.defers) (fun _ _ _ => True) (fun g1 w1 v s1 cv e1 k1 t1 => by
     subst e1
     simp only at hr
     cases hp : s1.put io.dst v with
     | none => rw [hp] at hr; simp at hr
     | some s2 =>
       rw [hp] at hr; simp at hr; subst hr
       obtain ⟨g2,k2,s3,e1,e2⟩ := St.put_ok k1 hn h2 hp
       rw [← h1]
       exact ⟨g2,k2,t1.trans s3,e1,e2⟩) (fun _ _ _ _ _ _ _ _ _ _ => trivial)
   unfold Oper.wp at this
   rw [hrun] at this
   rcases hx with ⟨rfl,rfl⟩ | rfl
   · exact this
   · exact this
structure Late (P:Program) (w:World) (a:Act) (o7 o8:Oper) where
 bA : Nat
 qA : Nat
 vs : List Value
 c0 : Addr
 u : Value
 ne : bA ≠ c0.block
 run7 : ∀ w',(∀ x : Addr,x.block = bA → w'.cell? x = w.cell? x ∧ w'.frozen? x = w.frozen? x) → (execOp a.eval o7).run P w' = .ok .skip (setCells w' bA qA vs)
 run8 : ∀ w',w'.cell? c0 = w.cell? c0 → w'.frozen? c0 = w.frozen? c0 → (execOp a.eval o8).run P w' = .ok .skip (w'.setCell c0 u)
theorem late_facts (k:Rel G g st [] a.tmps w) {p q b n:Nat} {v:Opd} {o7 o8:Oper} (hk7:chkOp P (.store (.t p false) (.last q) v n) o7.op = true) (hk8:chkOp P (.store (.t b false) (.loc b) (.t q true) 1) o8.op = true)
   {r7:OpR} (h7:evalOp G call lo (.store (.t p false) (.last q) v n) st = some r7) {c:AV} {cs:List AV} (hb:st.fr.get b = .box (c :: cs)) : Nonempty (Late P w a o7 o8) := by
 simp only [chkOp] at hk7 hk8
 split at hk7
 rotate_left
 · cases hk7
 rename_i t7 y7 u7 ho7
 split at hk8
 rotate_left
 · cases hk8
 rename_i t8 y8 u8 ho8
 simp only [Bool.and_eq_true] at hk7 hk8
 obtain ⟨⟨x7,v7⟩,ty7⟩ := hk7
 obtain ⟨⟨x8,v8⟩,ty8⟩ := hk8
 have hty7 : ∃ agg,tyOk P t7 n agg = true := by
   simp only [Bool.or_eq_true] at ty7; rcases ty7 with h | h <;> exact ⟨_,h⟩
 obtain ⟨agg7,hty7⟩ := hty7
 have hty8 : ∃ agg,tyOk P t8 1 agg = true := by
   simp only [Bool.or_eq_true] at ty8; rcases ty8 with h | h <;> exact ⟨_,h⟩
 obtain ⟨agg8,hty8⟩ := hty8
 have hpos : 0 < n := by
   unfold tyOk at hty7
   cases hi : P.info? t7 <;> cases hu : P.underlying t7 <;> simp [hi,hu] at hty7
   exact hty7.1.2
 simp only [evalOp] at h7
 split at h7
 · cases h7
 rename_i hpm
 simp only [not_or,Bool.not_eq_false] at hpm
 obtain ⟨hp,hm⟩ := hpm
 have hls : (opd (opd st.fr v).2 (.t p false)).1 = .lastr q := by
   cases hx : (opd (opd st.fr v).2 (.t p false)).1 <;> rw [hx] at hm <;> simp only [memOk] at hm <;> first | (simp at hm; done) | (rw [Nat.eq_of_beq_eq_true hm])
 rw [hls] at h7
 simp only at h7
 cases hs : (opd st.fr v).2.get q <;> rw [hs] at h7 <;> try (simp at h7; done)
 rename_i xs sz
 simp only at h7
 split at h7
 rotate_left
 · cases h7
 rename_i hh
 obtain ⟨hl,hns,hpq,hno⟩ := hh
 subst hns
 obtain ⟨g1,k1,s1,_⟩ := k.take v7
 simp only [List.nil_append] at k1
 have hr := k1.read x7
 simp only at hr
 rw [hls] at hr
 simp only [VX] at hr
 obtain ⟨xs',sz',ad,cc,r1,r2,r3⟩ := hr
 rw [hs] at r1; cases r1
 have hu := k1.ps 0 _ _ rfl
 rw [VF_loose (AV.loose_of_plain hp),VX_plain hp] at hu
 have hc := V.cells hp hu.1
 have hcn : (Act.opd a.tmps u7).cells.toList.length = n := by rw [hc.1.len]; exact hl
 have hf := k1.fr q
 simp only at hf
 rw [hs,r2] at hf
 simp only [VF] at hf
 obtain ⟨ad',c',f1,f2,f3,f4,f5⟩ := hf
 cases f1
 obtain ⟨bA,qA,sp⟩ := ad
 simp only at f4; subst f4
 obtain ⟨hE,htail⟩ := f5.get
 simp only at hE htail r3
 have hle : (xs.length + 1) * n ≤ cc * n := Nat.mul_le_mul_right n f2
 rw [Nat.add_mul,Nat.one_mul] at hle
 have hbx := k1.fr b
 simp only at hbx
 obtain ⟨cs',hb1,hb2⟩ := opd_held st.fr v b _ hb
 rw [hb1] at hbx
 simp only [VF] at hbx
 obtain ⟨vs8,ty,z1,z2,⟨z3,z4⟩,z5,z6⟩ := hbx
 have hvl : vs8.length = cs.length + 1 := by rw [z3.len]; simpa using hb2
 obtain ⟨u8v,vr,hu8⟩ : ∃ x r,vs8 = x :: r := by
   match vs8,hvl with
   | x :: r,_ => exact ⟨x,r,rfl⟩
 subst hu8
 have hcell : w.cell? ⟨g1.bx (.fr b),0,none⟩ = some u8v := by simp [World.cell?,z2]
 have hfrz : w.frozen? ⟨g1.bx (.fr b),0,none⟩ = false := by simp [World.frozen?,z2]
 have hne : bA ≠ g1.bx (.fr b) := fun e => by
   have h1 := (htail (qA + xs.length * n) (by omega) (by omega)).1
   rw [e,z5] at h1; cases h1
 cases y8 <;> simp [opdOk] at x8
 subst x8
 cases u8 <;> simp [opdOk] at v8
 subst v8
 refine ⟨{ bA := bA,qA := qA + xs.length * n,vs := (Act.opd a.tmps u7).cells.toList,c0 := ⟨g1.bx (.fr b),0,none⟩,u := a.tmps.getD q undef,ne := hne,run7 := fun w' hw => ?_,run8 := fun w' hw1 hw2 => ?_ }⟩
 · have hrun := run_storeVar_put (P := P) (w := w') hty7 (b := bA) (q := qA + xs.length * n) hcn hc.2 (fun j hj => by
     obtain ⟨e1,e2⟩ := hw ⟨bA,qA + xs.length * n + j,none⟩ rfl
     rw [e1,e2]; exact (htail _ (by omega) (by omega)).2)
   simp [execOp,ho7,Act.eval_eq,r3,Instr.storeAt,Instr.sureAddr,hrun]
 · have hcu : (a.tmps.getD q undef).cells.toList = [a.tmps.getD q undef] := by rw [r2]; rfl
   have hrun := run_storeVar_put (P := P) (w := w') hty8 (b := g1.bx (.fr b)) (q := 0) (cu := a.tmps.getD q undef) (by rw [hcu]; rfl) (by rw [hcu,r2]; intro x hx; simp at hx; subst hx; rfl) (fun j hj => by
     have : j = 0 := by omega
     subst this
     exact ⟨⟨u8v,by rw [Nat.zero_add,hw1,hcell]⟩,by rw [Nat.zero_add,hw2,hfrz]⟩)
   rw [hcu] at hrun
   simp only [setCells] at hrun
   have e1 : Act.opd a.tmps (.tmp b) = .pointer (some ⟨g1.bx (.fr b),0,none⟩) := z1
   have e2 : (storeVar t8 ⟨g1.bx (.fr b),0,none⟩ (Act.opd a.tmps (.tmp q))).run P w' = .ok () (w'.setCell ⟨g1.bx (.fr b),0,none⟩ (a.tmps.getD q undef)) := hrun
   simp [execOp,ho8,Act.eval_eq,Instr.storeAt,Instr.sureAddr,e1,e2]
theorem opd_box_back {fr:Fr} {x:Opd} {b:Nat} {cs:List AV} (h:(opd fr x).2.get b = .box cs) : fr.get b = .box cs := by
 cases x with
 | t s tk =>
   simp only [opd] at h
   cases hv : fr.get s <;> rw [hv] at h <;> simp only [] at h <;> first
     | exact h
     | (cases tk
        · exact h
        · simp only [if_true] at h
          rw [Fr.get_set] at h
          split at h
          · rename_i e; subst e
            simp [AV.cp,AV.cpA,AV.cp1] at h
          · exact h)
 | c v => exact h
 | g v => exact h
 | f v => exact h
theorem opd_pend_back {fr:Fr} {x:Opd} {b:Nat} {xs:List AV} {sz:Nat} (h:(opd fr x).2.get b = .pend xs sz) : fr.get b = .pend xs sz := by
 cases x with
 | t s tk =>
   simp only [opd] at h
   cases hv : fr.get s <;> rw [hv] at h <;> simp only [] at h <;> first
     | exact h
     | (cases tk
        · exact h
        · simp only [if_true] at h
          rw [Fr.get_set] at h
          split at h
          · rename_i e; subst e
            simp [AV.cp,AV.cpA,AV.cp1] at h
          · exact h)
 | c v => exact h
 | g v => exact h
 | f v => exact h
theorem late_run6 (k:Rel G g st [] a.tmps w) {q sz:Nat} {tk:Bool} {i:Opd} {o6:Oper} (hk6:chkOp P (.iaddrL (.t q tk) i sz) o6.op = true) {r6:OpR} (h6:evalOp G call lo (.iaddrL (.t q tk) i sz) st = some r6) {xs:List AV} {sz' : Nat} (hv:st.fr.get q = .pend xs sz') :
   ∃ cv,∀ w',(execOp a.eval o6).run P w' = .ok (.value cv) w' := by
 simp only [chkOp] at hk6
 split at hk6
 rotate_left
 · cases hk6
 rename_i t y u ho
 simp only [Bool.and_eq_true] at hk6
 obtain ⟨⟨hx,hi⟩,hf⟩ := hk6
 have f := k.fr q; rw [hv] at f; simp only [VF] at f
 obtain ⟨ad,c,e1,e2,e3,e4,e5⟩ := f
 cases y <;> simp [opdOk] at hx
 subst hx
 have ho1 : (opd st.fr (.t q tk)).1 = .none := by simp only [opd,hv]
 simp only [evalOp,ho1] at h6
 cases hj : (opd st.fr i).1 <;> rw [hj] at h6 <;> try (simp at h6; done)
 rename_i kk j
 simp only [hv] at h6
 split at h6
 rotate_left
 · cases h6
 rename_i hh
 obtain ⟨h1,rfl⟩ := hh
 have hri := k.read hi; rw [hj] at hri; simp only [VX,V] at hri
 obtain ⟨ab,ao,asp⟩ := ad
 simp only at e4; subst e4
 refine ⟨.pointer (some ⟨ab,ao + xs.length * sz',none⟩),fun w' => ?_⟩
 have h2 : j.toNat = xs.length := by omega
 have := run_indexAt_slice (w := w') hf (b := ab) (q := ao) (n := xs.length + 1) (c := c) (kk := kk) (j := j) (by omega) (by omega)
 rw [h2] at this
 simp [execOp,ho,Act.eval_eq,hri,this]
 rw [show Act.opd a.tmps (Operand.tmp q) = _ from e1,this]; rfl
end
end Go.Proofs.YtkofimhnehkdoaaGreatDoor.Rf
end
section
namespace Go.Proofs.YtkofimhnehkdoaaGreatDoor.Rf
def maskOf (ms:List Nat) (o:Oper) : Nat := o.after.toList.foldl (fun s e => if Region.binds .any e then s ||| (2 ^ e.on ||| ms.getD e.on 0) else s) 0
def mkMasks : List Oper → List Nat → List Nat
 | [],acc => acc
 | o :: r,acc => mkMasks r (acc ++ [maskOf acc o])
def chkMasks (ms:List Nat) : Nat → List Oper → Bool
 | _,[] => true
 | j,o :: r => Nat.beq (ms.getD j 0) (maskOf ms o) && o.after.toList.all (fun e => !Region.binds .any e || Nat.blt e.on j) && chkMasks ms (j + 1) r
def bef (ms:List Nat) (y x:Nat) : Bool := (ms.getD y 0).testBit x
def quietO (o:IOper) : Bool := match footO o with | some F => (match F.hw with | .no => true | _ => false) | none => false
def pairOk (ms:List Nat) (ios:List IOper) (pans:List Nat) (x y:Nat) : Bool :=
 bef ms y x || (match ios[x]?,ios[y]? with | some ox,some oy => indO ox oy && !pans.contains x && (!pans.contains y || quietO ox) | _,_ => false)
def pairsOk (ms:List Nat) (ios:List IOper) (pans:List Nat) : List Nat → Bool
 | [] => true
 | x :: r => r.all (pairOk ms ios pans x) && pairsOk ms ios pans r
def nodupN : List Nat → Bool
 | [] => true
 | x :: r => !r.contains x && nodupN r
def late3 (i6 i7 i8:IOper) : Bool :=
 match i6.op,i7.op,i8.op with
 | .iaddrL (.t q _) _ _,.store (.t p t1) (.last q1) _ _,.store (.t b t2) (.loc b1) (.t q2 t3) n8 =>
   decide (i6.dst = some p) && i6.guard.isNone && i7.dst.isNone && i7.guard.isNone && i8.dst.isNone && i8.guard.isNone && (Nat.beq q q1 && Nat.beq q q2 && Nat.beq b b1) && (!Nat.beq b p && !Nat.beq q p && !Nat.beq b q) && (!t1 && !t2 && t3 && Nat.beq n8 1)
 | _,_,_ => false
def lateOk (ms:List Nat) (ios:List IOper) : List Nat → Bool
 | [] => true
 | [x6,x7,x8] => (match ios[x6]?,ios[x7]?,ios[x8]? with | some i6,some i7,some i8 => late3 i6 i7 i8 | _,_,_ => false) && bef ms x7 x6
 | _ => false
def drawPart (ms:List Nat) (ios:List IOper) (pans:List Nat) (R L:List Nat) : Bool :=
 pairsOk ms ios pans R && lateOk ms ios L && L.all fun i => !pans.contains i && R.all (bef ms i)
def drawOk (ios:List IOper) (os:List Oper) (ord pans:List Nat) : Bool :=
 (fun ms => chkMasks ms 0 os && (drawPart ms ios pans ord [] || drawPart ms ios pans (ord.take (ord.length - 3)) (ord.drop (ord.length - 3)))) (mkMasks os []) && nodupN ord && Nat.beq ord.length os.length && ord.all (fun i => Nat.blt i os.length)
section
variable {P:Program} {G:Nat → Option (List AV)} {call:CallF} {lo:Nat}
theorem nodupN_spec : ∀ {l:List Nat},nodupN l = true → l.Nodup
 | [],_ => List.nodup_nil
 | x :: r,h => by
   simp only [nodupN,Bool.and_eq_true] at h
   exact List.nodup_cons.2 ⟨by simpa using h.1,nodupN_spec h.2⟩
theorem nodup_le : ∀ (n:Nat) (l:List Nat),l.Nodup → (∀ x,x ∈ l → x < n) → l.length ≤ n
 | 0,l,_,h => by
   cases l with
   | nil => simp
   | cons x r => exact absurd (h x (by simp)) (by omega)
 | n + 1,l,hn,h => by
   by_cases hm : n ∈ l
   · have := nodup_le n (l.erase n) (hn.erase n) (fun x hx => by
       have h1 := (hn.mem_erase_iff).1 hx
       have := h x h1.2
       omega)
     rw [List.length_erase_of_mem hm] at this
     omega
   · have := nodup_le n l hn (fun x hx => by
       have h1 := h x hx
       have : x ≠ n := fun e => hm (e ▸ hx)
       omega)
     omega
theorem mask_fold {ms:List Nat} : ∀ {l:List Edge} {s x:Nat},(l.foldl (fun s e => if Region.binds .any e then s ||| (2 ^ e.on ||| ms.getD e.on 0) else s) s).testBit x = true →
   s.testBit x = true ∨ ∃ e,e ∈ l ∧ Region.binds .any e = true ∧ (e.on = x ∨ bef ms e.on x = true)
 | [],s,x,h => .inl h
 | e :: l,s,x,h => by
   simp only [List.foldl_cons] at h
   rcases mask_fold h with h | ⟨e',h1,h2,h3⟩
   · split at h
     · rename_i hb
       rw [Nat.testBit_or,Nat.testBit_or] at h
       simp only [Bool.or_eq_true] at h
       rcases h with h | h | h
       · exact .inl h
       · rw [Nat.testBit_two_pow] at h; exact .inr ⟨e,by simp,hb,.inl (by simpa using h)⟩
       · exact .inr ⟨e,by simp,hb,.inr h⟩
     · exact .inl h
   · exact .inr ⟨e',List.mem_cons_of_mem _ h1,h2,h3⟩
theorem chkMasks_get {ms:List Nat} : ∀ {os:List Oper} {k:Nat},chkMasks ms k os = true → ∀ {j:Nat} {o:Oper},os[j]? = some o → ms.getD (k + j) 0 = maskOf ms o ∧ ∀ e,e ∈ o.after → Region.binds .any e = true → e.on < k + j
 | [],_,_,j,o,h => by simp at h
 | x :: r,k,hc,j,o,h => by
   simp only [chkMasks,Bool.and_eq_true] at hc
   obtain ⟨⟨h1,h2⟩,h3⟩ := hc
   cases j with
   | zero =>
     simp at h; subst h
     refine ⟨Nat.eq_of_beq_eq_true h1,fun e he hb => ?_⟩
     simp only [List.all_eq_true,Bool.or_eq_true,Bool.not_eq_true'] at h2
     rcases h2 e (Array.mem_toList_iff.2 he) with h | h
     · rw [hb] at h; cases h
     · simpa using h
   | succ j =>
     have := chkMasks_get h3 (j := j) (by simpa using h)
     rwa [show k + 1 + j = k + (j + 1) by omega] at this
def Closed (ops:Array Oper) (listed:Array Bool) : Prop := ∀ (j:Nat) o,ops[j]? = some o → listed.getD j false = true → ∀ e,e ∈ o.after → Region.binds .any e = true → listed.getD e.on false = true
theorem bef_listed {ms:List Nat} {ops:Array Oper} (hm:chkMasks ms 0 ops.toList = true) {listed:Array Bool} (hc:Closed ops listed) : ∀ (y:Nat) {o:Oper} {x:Nat},ops[y]? = some o → (∀ e,e ∈ o.after → Region.binds .any e = true → listed.getD e.on false = true) → bef ms y x = true → listed.getD x false = true := by
 intro y
 induction y using Nat.strongRecOn with
 | _ y ih =>
   intro o x ho hall hb
   obtain ⟨h1,h2⟩ := chkMasks_get hm (j := y) (o := o) (by rw [Array.getElem?_toList]; exact ho)
   rw [Nat.zero_add] at h1 h2
   unfold bef at hb
   rw [h1] at hb
   rcases mask_fold hb with h | ⟨e,e1,e2,e3⟩
   · simp at h
   · have he := Array.mem_toList_iff.1 e1
     have hl := hall e he e2
     rcases e3 with rfl | e3
     · exact hl
     · have hlt := h2 e he e2
       have hy := (Array.getElem?_eq_some_iff.1 ho).1
       have ho2 : ops[e.on]? = some ops[e.on] := Array.getElem?_eq_getElem (by omega)
       exact ih e.on hlt ho2 (hc _ _ ho2 hl) e3
theorem pairsOk_split {ms:List Nat} {ios:List IOper} {pans:List Nat} : ∀ {as:List Nat} {i:Nat} {r:List Nat},pairsOk ms ios pans (as ++ i :: r) = true → (∀ x,x ∈ as → pairOk ms ios pans x i = true) ∧ pairsOk ms ios pans (as ++ r) = true
 | [],i,r,h => by simp only [List.nil_append,pairsOk,Bool.and_eq_true] at h; exact ⟨fun x hx => by simp at hx,by simpa using h.2⟩
 | x :: as,i,r,h => by
   simp only [List.cons_append,pairsOk,Bool.and_eq_true,List.all_eq_true] at h
   obtain ⟨h1,h2⟩ := pairsOk_split h.2
   refine ⟨fun y hy => ?_,?_⟩
   · rcases List.mem_cons.1 hy with rfl | hy
     · exact h.1 i (by simp)
     · exact h1 y hy
   · simp only [List.cons_append,pairsOk,Bool.and_eq_true,List.all_eq_true]
     exact ⟨fun z hz => h.1 z (by simp at hz ⊢; rcases hz with h | h <;> simp [h]),h2⟩
theorem Rel.eqv {g:Gh} {s s' : St} {tm:Array Value} {w:World} (k:Rel G g s [] tm w) (e:Eqv s s') : Rel G g s' [] tm w :=
 ⟨fun t => by
   rw [e.1 t]
   exact VF.like3 (fun u o hv cs hc => ⟨cs,by rw [e.1 u]; exact hc⟩) (fun u hv xs sz hc => ⟨by rw [e.1 u]; exact hc,rfl⟩) (k.fr t),fun j v cv hj => by simp at hj,by rw [e.2]; exact k.hp,k.fresh,k.gl⟩
theorem Eqv.symm {a b:St} (h:Eqv a b) : Eqv b a := ⟨fun s => (h.1 s).symm,h.2.symm⟩
def outS (B:Fr) (s:St) : Ex → St
 | .normal => s
 | _ => ⟨B.husk,s.hp⟩
def Rem (ops:Array Oper) (listed:Array Bool) (R:List Nat) : Prop := ∀ j,j ∈ R ↔ j < ops.size ∧ listed.getD j true = false
theorem ready_mem {ops:Array Oper} {listed:Array Bool} {R:List Nat} (hR:Rem ops listed R) {i:Nat} (hi:i ∈ Region.ready .any ops listed) : i ∈ R ∧ ∃ o,ops[i]? = some o ∧ ∀ e,e ∈ o.after → Region.binds .any e = true → listed.getD e.on false = true := by
 rw [mem_ready] at hi
 obtain ⟨i1,o,ho,i2⟩ := hi
 exact ⟨(hR i).2 ⟨(Array.getElem?_eq_some_iff.1 ho).1,i1⟩,o,ho,i2⟩
theorem no_ready {ops:Array Oper} {ms:List Nat} (hm:chkMasks ms 0 ops.toList = true) {listed:Array Bool} {R:List Nat} (hR:Rem ops listed R) (hsz:listed.size = ops.size) (hr:Region.ready .any ops listed = []) : R = [] := by
 refine Classical.byContradiction fun hn => ?_
 have hall : ∀ j,¬ j ∈ R := by
   intro j
   induction j using Nat.strongRecOn with
   | _ j ih =>
     intro hj
     obtain ⟨h1,h2⟩ := (hR j).1 hj
     have ho : ops[j]? = some ops[j] := Array.getElem?_eq_getElem h1
     have hmem : j ∈ Region.ready .any ops listed := by
       rw [mem_ready]
       refine ⟨h2,ops[j],ho,fun e he hb => ?_⟩
       have hlt := (chkMasks_get hm (j := j) (o := ops[j]) (by rw [Array.getElem?_toList]; exact ho)).2 e he hb
       rw [Nat.zero_add] at hlt
       have hne := ih e.on hlt
       have hls : e.on < listed.size := by omega
       have hx : listed.getD e.on true = true := by
         by_cases hx : listed.getD e.on true = true
         · exact hx
         · exact absurd ((hR e.on).2 ⟨by omega,by simpa using hx⟩) hne
       simpa [hls] using hx
     rw [hr] at hmem; simp at hmem
 cases R with
 | nil => exact hn rfl
 | cons x r => exact hall x (by simp)
theorem ready_none {ops:Array Oper} {listed:Array Bool} (hR:Rem ops listed []) : Region.ready .any ops listed = [] := by
 cases hrd : Region.ready .any ops listed with
 | nil => rfl
 | cons x r => exact absurd (ready_mem hR (i := x) (by rw [hrd]; simp)).1 (by simp)
theorem any_done {ops:Array Oper} {Q:Exit → Act → World → Prop} {listed:Array Bool} (hR:Rem ops listed []) {a:Act} {w:World} (h:Q .normal a w) : ∀ fuel,wpAny P .any ops Q fuel listed a w
 | 0 => ⟨ready_none hR,h⟩
 | fuel + 1 => ⟨fun _ => h,fun i hi => by rw [ready_none hR] at hi; simp at hi⟩
theorem any_step {ops:Array Oper} {ms:List Nat} (hm:chkMasks ms 0 ops.toList = true) {Q:Exit → Act → World → Prop} {listed:Array Bool} {R:List Nat} (hR:Rem ops listed R) (hsz:listed.size = ops.size) (hne:R ≠ []) {fuel:Nat} {a:Act} {w:World}
   (h:∀ i,i ∈ R → ∀ o,ops[i]? = some o → (∀ e,e ∈ o.after → Region.binds .any e = true → listed.getD e.on false = true) → wpOp P ops Q i (wpAny P .any ops Q fuel (listed.setIfInBounds i true)) a w) : wpAny P .any ops Q (fuel + 1) listed a w :=
 ⟨fun hr => absurd (no_ready hm hR hsz hr) hne,fun i hi => by
   obtain ⟨h1,o,h2,h3⟩ := ready_mem hR hi
   exact h i h1 o h2 h3⟩
theorem rem_set {ops:Array Oper} {listed:Array Bool} {R R' : List Nat} (hR:Rem ops listed R) (hsz:listed.size = ops.size) {i:Nat} (hi:i ∈ R) (hR' : ∀ j,j ∈ R' ↔ j ∈ R ∧ j ≠ i) : Rem ops (listed.setIfInBounds i true) R' := by
 intro j
 rw [hR' j]
 by_cases hji : i = j
 · subst hji
   have h1 := ((hR i).1 hi).1
   have : i < listed.size := by omega
   simp [this]
 · rw [getD_set_ne true hji,hR j]
   have hne : j ≠ i := fun h => hji h.symm
   simp [hne]
theorem closed_set {ops:Array Oper} {listed:Array Bool} (hcl:Closed ops listed) {i:Nat} {o:Oper} (ho:ops[i]? = some o) (i2:∀ e,e ∈ o.after → Region.binds .any e = true → listed.getD e.on false = true) : Closed ops (listed.setIfInBounds i true) := by
 intro j oj hoj hlj e he hb
 by_cases hji : i = j
 · subst hji
   rw [ho] at hoj; cases hoj
   exact getD_set_true (i2 e he hb)
 · rw [getD_set_ne false hji] at hlj
   exact getD_set_true (hcl j oj hoj hlj e he hb)
theorem not_bef {ops:Array Oper} {ms:List Nat} (hm:chkMasks ms 0 ops.toList = true) {listed:Array Bool} {R:List Nat} (hR:Rem ops listed R) (hsz:listed.size = ops.size) (hcl:Closed ops listed) {i x:Nat} {o:Oper} (ho:ops[i]? = some o) (i2:∀ e,e ∈ o.after → Region.binds .any e = true → listed.getD e.on false = true) (hx:x ∈ R) : bef ms i x = false := by
 cases hb : bef ms i x with
 | false => rfl
 | true =>
   exfalso
   have hl := bef_listed hm hcl i ho i2 hb
   obtain ⟨h1,h2⟩ := (hR x).1 hx
   have hls : x < listed.size := by omega
   simp [hls] at hl h2
   rw [hl] at h2; cases h2
def Ends (P:Program) (G:Nat → Option (List AV)) (call:CallF) (lo:Nat) (nt:NT) (ops:Array Oper) (ios:List IOper) (pans:List Nat) (Q:Exit → Act → World → Prop) (B:Fr) (L:List Nat) : Prop :=
 ∀ (fuel:Nat) (listed:Array Bool) (g:Gh) (st:St) (a:Act) (w:World) (ex:Ex) (s s0:St),listed.size = ops.size → Rem ops listed L → Closed ops listed → L.length ≤ fuel → Rel G g st [] a.tmps w → nt.ok a.tmps →
   evalDraw G call lo ios pans L st = some (ex,s) → Eqv s0 s → Held B st.fr → Goes G nt a.defers g w (outS B s0 ex) ex Q → wpAny P .any ops Q fuel listed a w
theorem ends_nil {nt:NT} {ops:Array Oper} {ios:List IOper} {pans:List Nat} {Q:Exit → Act → World → Prop} {B:Fr} : Ends P G call lo nt ops ios pans Q B [] := by
 intro fuel listed g st a w ex s s0 hsz hR hcl hf k hn he hs hB h
 simp [evalDraw] at he; obtain ⟨rfl,rfl⟩ := he
 exact any_done hR (h g a w hn rfl (k.eqv hs.symm) (Stay.refl g w)) fuel
theorem evalOps_one {i:IOper} {st st' : St} (hg:i.guard = none) (h:evalOps G call lo [i] st = some (.normal,st')) : ∃ v s1,evalOp G call lo i.op st = some (.val v s1) ∧ s1.put i.dst v = some st' := by
 simp only [evalOps,hg,wanted] at h
 split at h
 · rename_i v s1 he
   split at h
   · rename_i s2 hp; cases h; exact ⟨v,s1,he,hp⟩
   · cases h
 · cases h
 · cases h
theorem ends_late (hc:CallOK P G call) {nt:NT} {ops:Array Oper} {ios:List IOper} (hk:chkOpers P nt.toNK ops ios ops.toList = true) {ms pans:List Nat} (hm:chkMasks ms 0 ops.toList = true) {Q:Exit → Act → World → Prop} {B:Fr} {x6 x7 x8:Nat} (hnd:[x6,x7,x8].Nodup) (hl:lateOk ms ios [x6,x7,x8] = true) (hpn:∀ i,i ∈ [x6,x7,x8] → i ∉ pans) :
   Ends P G call lo nt ops ios pans Q B [x6,x7,x8] := by
 intro fuel listed g st a w ex s s0 hsz hR hcl hf k hn he hs hB h
 obtain ⟨hlen,hget⟩ := chkOpers_get hk
 simp only [lateOk,Bool.and_eq_true] at hl
 obtain ⟨hl3,hb76⟩ := hl
 -- the canonical run
 obtain ⟨i6,e6,he⟩ := evalDraw_cons he
 rcases he with ⟨st6,r6,he⟩ | ⟨_,_,_,hp,_⟩
 rotate_left
 · exact absurd hp (hpn x6 (by simp))
 obtain ⟨i7,e7,he⟩ := evalDraw_cons he
 rcases he with ⟨st7,r7,he⟩ | ⟨_,_,_,hp,_⟩
 rotate_left
 · exact absurd hp (hpn x7 (by simp))
 obtain ⟨i8,e8,he⟩ := evalDraw_cons he
 rcases he with ⟨st8,r8,he⟩ | ⟨_,_,_,hp,_⟩
 rotate_left
 · exact absurd hp (hpn x8 (by simp))
 simp [evalDraw] at he
 obtain ⟨rfl,rfl⟩ := he
 rw [e6,e7,e8] at hl3
 simp only at hl3
 have hop : ∀ {x:Nat} {io:IOper},ios[x]? = some io → ∃ o,ops[x]? = some o ∧ chkOper P nt.toNK ops io o = true := fun {x io} hx => by
   have h1 := (List.getElem?_eq_some_iff.1 hx).1
   have h2 : x < ops.size := by rw [hlen] at h1; simpa using h1
   exact ⟨ops[x],Array.getElem?_eq_getElem h2,hget x io _ hx (by rw [Array.getElem?_toList]; exact Array.getElem?_eq_getElem h2)⟩
 obtain ⟨o6,ho6,hk6⟩ := hop e6
 obtain ⟨o7,ho7,hk7⟩ := hop e7
 obtain ⟨o8,ho8,hk8⟩ := hop e8
 obtain ⟨d6,p6,gd6⟩ := i6
 obtain ⟨d7,p7,gd7⟩ := i7
 obtain ⟨d8,p8,gd8⟩ := i8
 unfold late3 at hl3
 split at hl3
 rotate_left
 · cases hl3
 rename_i q tq i sz p t1 q1 v n b t2 b1 q2 t3 n8 m6 m7 m8
 simp only at m6 m7 m8
 subst m6 m7 m8
 simp only [Bool.and_eq_true,decide_eq_true_eq,Option.isNone_iff_eq_none,Bool.not_eq_true'] at hl3
 obtain ⟨⟨⟨⟨⟨⟨⟨⟨f1,f2⟩,f3⟩,f4⟩,f5⟩,f6⟩,⟨f7,f8⟩,f9⟩,⟨f10,f11⟩,f12⟩,⟨⟨f13,f14⟩,f15⟩,f16⟩ := hl3
 have f7 := Nat.eq_of_beq_eq_true f7
 have f8 := Nat.eq_of_beq_eq_true f8
 have f9 := Nat.eq_of_beq_eq_true f9
 have f16 := Nat.eq_of_beq_eq_true f16
 have f10 : b ≠ p := fun e => by subst e; simp at f10
 have f11 : q ≠ p := fun e => by subst e; simp at f11
 have f12 : b ≠ q := fun e => by subst e; simp at f12
 subst f1 f2 f3 f4 f5 f6 f7 f8 f9 f13 f14 f15 f16
 obtain ⟨v6,s6,v6e,v6p⟩ := evalOps_one rfl r6
 obtain ⟨v7,s7,v7e,v7p⟩ := evalOps_one rfl r7
 obtain ⟨v8,s8,v8e,v8p⟩ := evalOps_one rfl r8
 -- the box and the pending row,as they stood
 have hs67 : s7 = st7 := by simp only [St.put,Option.some.injEq] at v7p; exact v7p
 subst hs67
 have q7 : st6.fr.get q = .pend (match st6.fr.get q with | .pend xs _ => xs | _ => []) (match st6.fr.get q with | .pend _ sz => sz | _ => 0) ∧ (∀ bx cs,bx ≠ p → bx ≠ q → s7.fr.get bx = .box cs → st6.fr.get bx = .box cs) := by
   have h7 := v7e
   simp only [evalOp] at h7
   split at h7
   · cases h7
   rename_i hpm
   simp only [not_or,Bool.not_eq_false] at hpm
   obtain ⟨hp,hm⟩ := hpm
   have hls : (opd (opd st6.fr v).2 (.t p false)).1 = .lastr q := by
     cases hx : (opd (opd st6.fr v).2 (.t p false)).1 <;> rw [hx] at hm <;> simp only [memOk] at hm <;> first | (simp at hm; done) | (rw [Nat.eq_of_beq_eq_true hm])
   rw [hls] at h7
   simp only at h7
   cases hs : (opd st6.fr v).2.get q <;> rw [hs] at h7 <;> try (simp at h7; done)
   rename_i xs sz
   simp only at h7
   split at h7
   rotate_left
   · cases h7
   simp [ret1] at h7
   obtain ⟨_,rfl⟩ := h7
   have := opd_pend_back hs
   refine ⟨by rw [this],fun bx cs n1 n2 hbx => ?_⟩
   simp only at hbx
   rw [Fr.get_set,if_neg (fun e => n2 e.symm),Fr.get_set,if_neg (fun e => n1 e.symm)] at hbx
   exact opd_box_back hbx
 obtain ⟨q6,back7⟩ := q7
 generalize (match st6.fr.get q with | .pend xs _ => xs | _ => []) = xs at q6
 generalize (match st6.fr.get q with | .pend _ sz => sz | _ => 0) = szq at q6
 have fr6 : ∀ t,t ≠ p → st6.fr.get t = st.fr.get t := by
   have hs6 : s6 = st := by
     have h6 := v6e
     simp only [evalOp] at h6
     repeat' split at h6
     all_goals first
       | (cases h6; done)
       | (simp [ret1] at h6; exact h6.2.symm)
   subst hs6
   intro t ht
   simp only [St.put] at v6p
   split at v6p
   · cases v6p; simp only; rw [Fr.get_set,if_neg (fun e => ht e.symm)]
   · cases v6p
 have box7 : ∃ c cs,s7.fr.get b = .box (c :: cs) := by
   have h8 := v8e
   simp only [evalOp] at h8
   split at h8
   · cases h8
   rename_i hpm
   simp only [not_or,Bool.not_eq_false] at hpm
   obtain ⟨hp,hm⟩ := hpm
   cases hx : (opd (opd s7.fr (.t q true)).2 (.t b false)).1 <;> rw [hx] at hm <;> simp only [memOk] at hm <;> try (simp at hm; done)
   rename_i sb off
   have := Nat.eq_of_beq_eq_true hm
   subst this
   rw [hx] at h8
   simp only [behind] at h8
   split at h8
   · rename_i cs off2 hbb
     split at hbb
     · rename_i cs3 hg
       cases hbb
       split at h8
       · rename_i hh
         have hbk := opd_box_back hg
         cases cs with
         | nil => have := hh.2; simp at this
         | cons c cs => exact ⟨c,cs,hbk⟩
       · cases h8
     · cases hbb
   · cases h8
 obtain ⟨c,cs,hb7⟩ := box7
 have hb6 : st6.fr.get b = .box (c :: cs) := back7 b _ f10 f12 hb7
 -- what is owed
 have h0 : ∀ g' (a' : Act) w',nt.ok a'.tmps → a'.defers = a.defers → Rel G g' st8 [] a'.tmps w' → Stay g w g' w' → Q .normal a' w' := fun g' a' w' q1 q2 q3 q4 => h g' a' w' q1 q2 (q3.eqv hs.symm) q4
 have w6 : Region.wanted o6 (yielded ops a.tmps) = true := by
   unfold Region.wanted
   simp only [chkOper,Bool.and_eq_true] at hk6
   have := hk6.1.2
   cases hg : o6.guard with
   | none => rfl
   | some x => rw [hg] at this; simp [chkGuard] at this
 have w7 : ∀ tm,Region.wanted o7 (yielded ops tm) = true := fun tm => by
   unfold Region.wanted
   simp only [chkOper,Bool.and_eq_true] at hk7
   have := hk7.1.2
   cases hg : o7.guard with
   | none => rfl
   | some x => rw [hg] at this; simp [chkGuard] at this
 have w8 : ∀ tm,Region.wanted o8 (yielded ops tm) = true := fun tm => by
   unfold Region.wanted
   simp only [chkOper,Bool.and_eq_true] at hk8
   have := hk8.1.2
   cases hg : o8.guard with
   | none => rfl
   | some x => rw [hg] at this; simp [chkGuard] at this
 have dst6 : o6.dst = some p := by simp only [chkOper,Bool.and_eq_true,decide_eq_true_eq] at hk6; exact hk6.1.1.1.symm
 have dst7 : o7.dst = none := by simp only [chkOper,Bool.and_eq_true,decide_eq_true_eq] at hk7; exact hk7.1.1.1.symm
 have dst8 : o8.dst = none := by simp only [chkOper,Bool.and_eq_true,decide_eq_true_eq] at hk8; exact hk8.1.1.1.symm
 have ck6 : chkOp P (.iaddrL (.t q tq) i sz) o6.op = true := by simp only [chkOper,Bool.and_eq_true] at hk6; exact hk6.2
 have ck7 : chkOp P (.store (.t p false) (.last q) v n) o7.op = true := by simp only [chkOper,Bool.and_eq_true] at hk7; exact hk7.2
 have ck8 : chkOp P (.store (.t b false) (.loc b) (.t q true) 1) o8.op = true := by simp only [chkOper,Bool.and_eq_true] at hk8; exact hk8.2
 have nd6 : x6 ≠ x7 ∧ x6 ≠ x8 ∧ x7 ≠ x8 := by
   simp only [List.nodup_cons,List.mem_cons,List.mem_singleton,not_or] at hnd
   exact ⟨hnd.1.1,hnd.1.2.1,by simpa using hnd.2.1⟩
 obtain ⟨n67,n68,n78⟩ := nd6
 -- 8 is done,7 is not
 have tail7 : ∀ (fuel:Nat) (l7:Array Bool) (g1:Gh) (a1:Act) (w1:World) (L:Late P w1 a1 o7 o8),l7.size = ops.size → Rem ops l7 [x7] → Rel G g1 st6 [] a1.tmps w1 → Stay g w g1 w1 → nt.ok a1.tmps → a1.defers = a.defers → wpAny P .any ops Q (fuel + 1) l7 a1 (w1.setCell L.c0 L.u) := by
   intro fuel l7 g1 a1 w1 L z1 z2 k1 t1 n1 dd
   refine any_step hm z2 z1 (by simp) fun i hi o hoi i2 => ?_
   simp at hi; subst hi
   rw [ho7] at hoi; cases hoi
   unfold wpOp; rw [ho7]; simp only
   rw [if_pos (w7 _)]
   refine .inl ?_
   have run7 := L.run7 (w1.setCell L.c0 L.u) (fun x hx => ⟨World.cell?_setCell_other _ _ _ _ (fun e => L.ne (by rw [← hx,e])),World.frozen?_setCell _ _ _ _⟩)
   unfold Oper.wp
   rw [run7,Oper.upon_skip,dst7]
   refine any_done (rem_set z2 z1 (by simp) (fun j => by simp)) ?_ fuel
   simp only [Act.put]
   -- the canonical way there
   obtain ⟨g2,k2,t2,n2,_⟩ := step_run hc hk7 k1 n1 rfl r7 (L.run7 w1 (fun _ _ => ⟨rfl,rfl⟩)) (.inl ⟨rfl,rfl⟩)
   rw [dst7] at k2 n2
   simp only [Act.put] at k2 n2
   have run8 := L.run8 (setCells w1 L.bA L.qA L.vs) (cell_setCells L.ne _ _ _) (frozen_setCells _ _ _)
   obtain ⟨g3,k3,t3,n3,_⟩ := step_run hc hk8 k2 n2 rfl r8 run8 (.inl ⟨rfl,rfl⟩)
   rw [dst8] at k3 n3
   simp only [Act.put] at k3 n3
   rw [setCells_comm L.ne]
   exact h0 g3 a1 _ n3 dd k3 ((t1.trans t2).trans t3)
 -- 6 is done
 have part6 : ∀ (fuel:Nat) (l6:Array Bool) (g1:Gh) (a1:Act) (w1:World),l6.size = ops.size → Rem ops l6 [x7,x8] → Rel G g1 st6 [] a1.tmps w1 → Stay g w g1 w1 → nt.ok a1.tmps → a1.defers = a.defers → wpAny P .any ops Q (fuel + 2) l6 a1 w1 := by
   intro fuel l6 g1 a1 w1 z1 z2 k1 t1 n1 dd
   refine any_step hm z2 z1 (by simp) fun i hi o hoi i2 => ?_
   simp only [List.mem_cons,List.not_mem_nil,or_false] at hi
   rcases hi with rfl | rfl
   · refine op1 hc ho7 hk7 k1 n1 r7 fun g2 a2 w2 e1 e2 k2 t2 => ?_
     refine any_step hm (rem_set z2 z1 (by simp) (R' := [x8]) (fun j => by simp; constructor; exact fun e => ⟨.inr e,fun e2 => n78 (e2.symm.trans e)⟩; exact fun e => e.1.resolve_left e.2)) (by simp [z1]) (by simp) fun i hi o hoi i2 => ?_
     simp at hi; subst hi
     refine op1 hc ho8 hk8 k2 e1 r8 fun g3 a3 w3 e3 e4 k3 t3 => ?_
     refine any_done (rem_set (R := [i]) (R' := []) (rem_set z2 z1 (by simp) (fun j => by simp; constructor; exact fun e => ⟨.inr e,fun e2 => n78 (e2.symm.trans e)⟩; exact fun e => e.1.resolve_left e.2)) (by simp [z1]) (by simp) (fun j => by simp)) ?_ fuel
     exact h0 g3 a3 w3 e3 (by rw [e4,e2,dd]) k3 ((t1.trans t2).trans t3)
   · obtain ⟨L⟩ := late_facts k1 ck7 ck8 v7e hb6
     unfold wpOp; rw [ho8]; simp only
     rw [if_pos (w8 _)]
     refine .inl ?_
     unfold Oper.wp
     rw [L.run8 w1 rfl rfl,Oper.upon_skip,dst8]
     simp only [Act.put]
     exact tail7 fuel _ g1 a1 w1 L (by simp [z1]) (rem_set z2 z1 (by simp) (fun j => by simp; constructor; exact fun e => ⟨.inl e,fun e2 => n78 (e.symm.trans e2)⟩; exact fun e => e.1.resolve_right e.2)) k1 t1 n1 dd
 match fuel,hf with
 | fuel + 3,_ =>
   refine any_step hm hR hsz (by simp) fun i hi o hoi i2 => ?_
   simp only [List.mem_cons,List.not_mem_nil,or_false] at hi
   rcases hi with rfl | rfl | rfl
   · refine op1 hc ho6 hk6 k hn r6 fun g1 a1 w1 e1 e2 k1 t1 => ?_
     exact part6 fuel _ g1 a1 w1 (by simp [hsz]) (rem_set hR hsz (by simp) (fun j => by
       simp only [List.mem_cons,List.not_mem_nil,or_false]
       constructor
       · rintro (rfl | rfl)
         · exact ⟨.inr (.inl rfl),fun e => n67 e.symm⟩
         · exact ⟨.inr (.inr rfl),fun e => n68 e.symm⟩
       · rintro ⟨h1,h2⟩; exact h1.resolve_left h2)) k1 t1 e1 e2
   · have := not_bef hm hR hsz hcl hoi i2 (x := x6) (by simp)
     rw [hb76] at this; cases this
   · -- 8 goes first
     obtain ⟨cv,run6⟩ := late_run6 k ck6 v6e (by rw [← fr6 q f11]; exact q6)
     obtain ⟨g1,k1,t1,n1,d1⟩ := step_run hc hk6 k hn rfl r6 (run6 w) (.inr rfl)
     obtain ⟨L⟩ := late_facts k1 ck7 ck8 v7e hb6
     have same8 : ∀ w',(execOp a.eval o8).run P w' = (execOp (Act.eval (a.put o6.dst cv)) o8).run P w' := by
       intro w'
       have ck := ck8
       simp only [chkOp] at ck
       split at ck
       rotate_left
       · cases ck
       rename_i t8 y8 u8 ho8e
       simp only [Bool.and_eq_true] at ck
       obtain ⟨⟨c1,c2⟩,_⟩ := ck
       cases y8 <;> simp [opdOk] at c1
       subst c1
       cases u8 <;> simp [opdOk] at c2
       subst c2
       have ge : ∀ t,t ≠ p → Act.opd (a.put o6.dst cv).tmps (.tmp t) = Act.opd a.tmps (.tmp t) := fun t ht => by
         rw [dst6]
         simp only [Act.put,Act.opd,Array.getD_eq_getD_getElem?,Array.getElem?_setIfInBounds,if_neg (fun e => ht (Eq.symm e))]
       simp only [execOp,ho8e,Act.eval_eq,ge _ f10,ge _ f11]
     unfold wpOp; rw [ho8]; simp only
     rw [if_pos (w8 _)]
     refine .inl ?_
     unfold Oper.wp
     rw [same8,L.run8 w rfl rfl,Oper.upon_skip,dst8]
     simp only [Act.put]
     have hR2 : Rem ops (listed.setIfInBounds i true) [x6,x7] := rem_set hR hsz (by simp) (fun j => by
       simp only [List.mem_cons,List.not_mem_nil,or_false]
       constructor
       · rintro (rfl | rfl)
         · exact ⟨.inl rfl,n68⟩
         · exact ⟨.inr (.inl rfl),n78⟩
       · rintro ⟨h1,h2⟩; exact h1.elim .inl fun h => .inr (h.resolve_right h2))
     refine any_step hm hR2 (by simp [hsz]) (by simp) fun j hj o hoj j2 => ?_
     simp only [List.mem_cons,List.not_mem_nil,or_false] at hj
     rcases hj with rfl | rfl
     · unfold wpOp; rw [ho6]; simp only
       rw [if_pos w6]
       refine .inl ?_
       unfold Oper.wp
       rw [run6,Oper.upon_value]
       refine tail7 fuel _ g1 (a.put o6.dst cv) w L (by simp [hsz]) (rem_set hR2 (by simp [hsz]) (by simp) (fun j => by simp; constructor; exact fun e => ⟨.inr e,fun e2 => n67 (e2.symm.trans e)⟩; exact fun e => e.1.resolve_left e.2)) k1 t1 n1 d1
     · have := not_bef hm hR2 (by simp [hsz]) (closed_set hcl hoi i2) hoj j2 (x := x6) (by simp)
       rw [hb76] at this; cases this
theorem any_sound (hc:CallOK P G call) (hq:CallQ call) {nt:NT} {ops:Array Oper} {ios:List IOper} (hk:chkOpers P nt.toNK ops ios ops.toList = true) {ms pans:List Nat} (hm:chkMasks ms 0 ops.toList = true) {Q:Exit → Act → World → Prop} {B:Fr} {L:List Nat} (hend:Ends P G call lo nt ops ios pans Q B L) : ∀ (fuel:Nat) (listed:Array Bool) (R:List Nat) (g:Gh) (st:St) (a:Act) (w:World) (ex:Ex) (s s0:St),
   listed.size = ops.size → (R ++ L).Nodup → Rem ops listed (R ++ L) → Closed ops listed → pairsOk ms ios pans R = true → (∀ i,i ∈ L → ∀ x,x ∈ R → bef ms i x = true) → (R ++ L).length ≤ fuel →
   Rel G g st [] a.tmps w → nt.ok a.tmps → evalDraw G call lo ios pans (R ++ L) st = some (ex,s) → Eqv s0 s → Held B st.fr → Goes G nt a.defers g w (outS B s0 ex) ex Q → wpAny P .any ops Q fuel listed a w := by
 obtain ⟨hlen,hget⟩ := chkOpers_get hk
 intro fuel
 induction fuel with
 | zero =>
   intro listed R g st a w ex s s0 hsz hnd hR hcl hp hLb hf k hn he hs hB h
   have : R ++ L = [] := List.length_eq_zero_iff.1 (by omega)
   obtain ⟨rfl,rfl⟩ := List.append_eq_nil_iff.1 this
   exact hend 0 listed g st a w ex s s0 hsz hR hcl (by simp) k hn he hs hB h
 | succ fuel ih =>
   intro listed R g st a w ex s s0 hsz hnd hR hcl hp hLb hf k hn he hs hB h
   cases hRe : R with
   | nil =>
     subst hRe
     exact hend _ listed g st a w ex s s0 hsz hR hcl hf k hn he hs hB h
   | cons x0 R0 =>
   refine any_step hm hR hsz (by rw [hRe]; simp) fun i hiR o ho i2 => ?_
   have hio := (Array.getElem?_eq_some_iff.1 ho).1
   have hiR0 : i ∈ R := by
     rcases List.mem_append.1 hiR with h | h
     · exact h
     · have h1 := hLb i h x0 (by rw [hRe]; simp)
       have h2 := not_bef hm hR hsz hcl ho i2 (x := x0) (by rw [hRe]; simp)
       rw [h1] at h2; cases h2
   clear hRe
   obtain ⟨as,r,rfl⟩ := List.append_of_mem hiR0
   obtain ⟨p1,p2⟩ := pairsOk_split hp
   have hlis : i < ios.length := by rw [hlen]; simpa using hio
   have hioi : ios[i]? = some ios[i] := List.getElem?_eq_getElem hlis
   have he' : evalDraw G call lo ios pans (as ++ i :: (r ++ L)) st = some (ex,s) := by rw [List.append_assoc] at he; exact he
   obtain ⟨s',f1,f2⟩ := front (G := G) (lo := lo) hq (ops := ios) (pans := pans) (i := i) (r := r ++ L) (as := as) (fun x hx => by
     have hpx := p1 x hx
     unfold pairOk at hpx
     simp only [Bool.or_eq_true] at hpx
     rcases hpx with hb | hpx
     · have := not_bef hm hR hsz hcl ho i2 (x := x) (by simp [hx])
       rw [hb] at this; cases this
     · cases hx1 : ios[x]? with
       | none => rw [hx1] at hpx; simp at hpx
       | some ox =>
         rw [hx1,hioi] at hpx
         simp only [Bool.and_eq_true,Bool.or_eq_true,Bool.not_eq_true'] at hpx
         obtain ⟨⟨q1,q2⟩,q3⟩ := hpx
         refine ⟨fun hm => (by rw [List.contains_iff_mem.2 hm] at q2; cases q2),fun ox' oi' e1 e2 => ?_⟩
         cases e1; rw [hioi] at e2; cases e2
         refine ⟨q1,fun hip F hF => ?_⟩
         rcases q3 with q3 | q3
         · rw [List.contains_iff_mem.2 hip] at q3; cases q3
         · unfold quietO at q3
           rw [hF] at q3
           simp only at q3
           cases hw : F.hw <;> rw [hw] at q3 <;> first | rfl | (simp at q3; done)) he'
   obtain ⟨oi,e1,f3⟩ := evalDraw_cons f1
   rw [hioi] at e1; cases e1
   have hko := hget i ios[i] o hioi (by rw [Array.getElem?_toList]; exact ho)
   have hnd2 : (as ++ i :: (r ++ L)).Nodup := by rw [List.append_assoc] at hnd; exact hnd
   have hnd' : ((as ++ r) ++ L).Nodup := by rw [List.append_assoc]; exact hnd2.sublist (by simp)
   have hnotin : i ∉ as ++ (r ++ L) := by
     have := List.nodup_append.1 hnd2
     intro hm
     rcases List.mem_append.1 hm with hm | hm
     · exact this.2.2 i hm i (by simp) rfl
     · exact (List.nodup_cons.1 this.2.1).1 hm
   rcases f3 with ⟨s1,g1,g2⟩ | ⟨v,s1,g1,hpn,rfl,rfl⟩
   · refine op1 hc ho hko k hn g1 fun g' a' w' e1 e2 k1 t1 => ?_
     simp only [ExQ]
     refine ih _ (as ++ r) g' s1 a' w' ex s' s0 (by simp [hsz]) hnd' (rem_set hR hsz (by simp) (fun j => ?_)) (closed_set hcl ho i2) p2 (fun i hi x hx => hLb i hi x (by simp at hx ⊢; rcases hx with h | h <;> simp [h])) (by simp at hf ⊢; omega) k1 e1 (by rw [List.append_assoc]; exact g2) (hs.trans f2) (hB.trans (evalOps_held g1)) (by rw [e2]; exact h.after t1)
     by_cases hji : j = i
     · subst hji; simp at hnotin ⊢; exact hnotin
     · simp [hji]
   · refine op1 hc ho hko k hn g1 fun g' a' w' e1 e2 k1 t1 => ?_
     simp only [ExQ]
     intro cv hv hpv
     refine h g' a' w' e1 e2 ?_ t1 cv hv hpv
     have k2 := k1.husk (hB.trans (evalOps_held g1))
     have e3 : s1.hp = s0.hp := (hs.trans f2).2
     rw [e3] at k2
     exact k2
theorem Rel.drawn {g:Gh} {s:St} {tm:Array Value} {w:World} (k:Rel G g s [] tm w) : Rel G g s [] tm { w with drawn := w.drawn + 1 } := k.draws rfl
theorem draw_sound (hmx:P.follows .mixedOrders = true) (hc:CallOK P G call) (hq:CallQ call) {nt:NT} {ops:Array Oper} {ios:List IOper} (hk:chkOpers P nt.toNK ops ios ops.toList = true) {ord pans:List Nat} (hd:drawOk ios ops.toList ord pans = true)
   {Q:Exit → Act → World → Prop} {g:Gh} {st:St} {a:Act} {w:World} (k:Rel G g st [] a.tmps w) (hn:nt.ok a.tmps) {ex:Ex} {st' : St} (hr:evalDraw G call lo ios pans ord st = some (ex,st'))
   (h:Goes G nt a.defers g w (outS st.fr st' ex) ex Q) (id:Nat) : (Code.region id ops true).wp P Q a w := by
 simp only [drawOk,Bool.and_eq_true,List.all_eq_true] at hd
 obtain ⟨⟨⟨⟨h1,h2⟩,h3⟩,h4⟩,h5⟩ := hd
 have hnd := nodupN_spec h3
 have hlen : ord.length = ops.size := by have := Nat.eq_of_beq_eq_true h4; simpa using this
 have hlt : ∀ j,j ∈ ord → j < ops.size := fun j hj => by have := h5 j hj; simpa using this
 have hsplit : ∃ R L,ord = R ++ L ∧ drawPart (mkMasks ops.toList []) ios pans R L = true := by
   simp only [Bool.or_eq_true] at h2
   rcases h2 with h2 | h2
   · exact ⟨ord,[],by simp,h2⟩
   · exact ⟨_,_,(List.take_append_drop _ _).symm,h2⟩
 obtain ⟨R,L,rfl,hpart⟩ := hsplit
 simp only [drawPart,Bool.and_eq_true,List.all_eq_true,Bool.not_eq_true'] at hpart
 obtain ⟨⟨p1,p2⟩,p3⟩ := hpart
 have hndL : L.Nodup := (List.nodup_append.1 hnd).2.1
 have hend : Ends P G call lo nt ops ios pans Q st.fr L := by
   have p2' := p2
   unfold lateOk at p2
   split at p2
   · exact ends_nil
   · exact ends_late hc hk h1 hndL p2' (fun i hi hm => by have := (p3 i hi).1; rw [List.contains_iff_mem.2 hm] at this; cases this)
   · cases p2
 refine wp_region_any hmx (any_sound hc hq hk h1 hend ops.size _ R g st a _ ex st' st' (by simp) hnd (fun j => ?_) (fun j o ho hl => ?_) p1 (fun i hi x hx => (p3 i hi).2 x hx) (by omega) k.drawn hn hr (Eqv.refl _) (Held.refl _) ?_)
 · refine ⟨fun hj => ⟨hlt j hj,by simp [hlt j hj]⟩,fun ⟨hj,_⟩ => ?_⟩
   -- a list without repeats,as long as the range,holds all of it
   refine Classical.byContradiction fun hn => ?_
   have := nodup_le ops.size (j :: (R ++ L)) (List.nodup_cons.2 ⟨hn,hnd⟩) (fun x hx => by
     rcases List.mem_cons.1 hx with rfl | hx
     · exact hj
     · exact hlt x hx)
   rw [List.length_cons,hlen] at this; omega
 · exfalso
   have := (Array.getElem?_eq_some_iff.1 ho).1
   simp [this] at hl
 · refine h.after ?_
   exact { ow := fun _ _ _ _ => rfl,cell := fun _ _ _ _ => rfl,frz := fun _ _ _ _ _ => rfl,blk := fun _ _ _ => rfl,row := fun _ _ _ h => h,te := fun _ => trivial,hb := fun _ _ h => h,os := rfl,tape := rfl,output := rfl,size := Nat.le_refl _ }
end
end Go.Proofs.YtkofimhnehkdoaaGreatDoor.Rf
end
section
namespace Go.Proofs.YtkofimhnehkdoaaGreatDoor.Rf
def chkCode (P:Program) (nt:NK) : ICode → Code → Bool
 | .skip,.skip => true
 | .region is _,.region _ os false => chkOpers P nt os is os.toList
 | .draw is ord pans _,.region _ os true => chkOpers P nt os is os.toList && drawOk is os.toList ord pans
 | .seq a b,.seq c d => chkCode P nt a c && chkCode P nt b d
 | .cond x a b,.cond y c d => opdOk x y && chkCode P nt a c && chkCode P nt b d
 | .block i a,.block j c => decide (i = j) && chkCode P nt a c
 | .loop a,.loop c => chkCode P nt a c
 | .exit i,.exit j => decide (i = j)
 | .ret,.ret => true
 | .stuck,_ => true
 | _,_ => false
def nodupB : List Nat → Bool
 | [] => true
 | x :: r => !r.contains x && nodupB r
theorem nodupB_spec : ∀ {l:List Nat},nodupB l = true → l.Nodup
 | [],_ => List.nodup_nil
 | x :: r,h => by
   simp only [nodupB,Bool.and_eq_true] at h
   exact List.nodup_cons.2 ⟨by simpa using h.1,nodupB_spec h.2⟩
def LoopOK (P:Program) (G:Nat → Option (List AV)) (k:Nat) (loop:LoopF) : Prop :=
 ∀ (nt:NT) (body:ICode) (code:Code),chkCode P nt.toNK body code = true → ∀ (Q:Exit → Act → World → Prop) (g:Gh) (st:St) (a:Act) (w:World) (ex:Ex) (st' : St),Rel G g st [] a.tmps w → nt.ok a.tmps → loop body st = some (ex,st') → Goes G nt a.defers g w st' ex Q → Code.rounds P code Q k a w
section
variable {P:Program} {G:Nat → Option (List AV)}
theorem Goes.mono {nt:NT} {df:List Deferred} {g:Gh} {w:World} {st:St} {ex:Ex} {Q Q' : Exit → Act → World → Prop} (h:Goes G nt df g w st ex Q) (hq:∀ g' a' w',ExQ g' w' a' Q ex → ExQ g' w' a' Q' ex) : Goes G nt df g w st ex Q' :=
 fun g' a' w' h1 h2 h3 h4 => hq _ _ _ (h g' a' w' h1 h2 h3 h4)
theorem code_sound (hm:P.follows .mixedOrders = true) {call:CallF} {loop:LoopF} {lo k:Nat} (hc:CallOK P G call) (hq:CallQ call) (hl:LoopOK P G k loop) {nt:NT} : ∀ {ic:ICode} {c:Code},chkCode P nt.toNK ic c = true → ∀ {Q:Exit → Act → World → Prop} {g:Gh} {st:St} {a:Act} {w:World} {ex:Ex} {st' : St},
   Rel G g st [] a.tmps w → nt.ok a.tmps → evalC G call loop lo ic st = some (ex,st') → Goes G nt a.defers g w st' ex Q → c.wp P Q a w := by
 intro ic
 induction ic with
 | skip =>
   intro c hk Q g st a w ex st' kk hn hr h
   cases c <;> simp [chkCode] at hk
   simp [evalC] at hr; obtain ⟨rfl,rfl⟩ := hr
   exact wp_skip (h g a w hn rfl kk (Stay.refl g w))
 | ret =>
   intro c hk Q g st a w ex st' kk hn hr h
   cases c <;> simp [chkCode] at hk
   simp [evalC] at hr; obtain ⟨rfl,rfl⟩ := hr
   exact wp_ret (h g a w hn rfl kk (Stay.refl g w))
 | stuck =>
   intro c hk Q g st a w ex st' kk hn hr h
   simp [evalC] at hr
 | exit id =>
   intro c hk Q g st a w ex st' kk hn hr h
   cases c <;> simp [chkCode] at hk
   subst hk
   simp [evalC] at hr; obtain ⟨rfl,rfl⟩ := hr
   exact wp_exit (h g a w hn rfl kk (Stay.refl g w))
 | region is live =>
   intro c hk Q g st a w ex st' kk hn hr h
   cases c <;> try (simp [chkCode] at hk; done)
   rename_i id os dr
   cases dr <;> simp [chkCode] at hk
   obtain ⟨e1,e2⟩ := chkOpers_get hk
   have hops : ∀ {ex1:Ex} {s1:St},evalOps G call lo is st = some (ex1,s1) → Goes G nt a.defers g w s1 ex1 Q → (Code.region id os false).wp P Q a w := fun hr1 h1 =>
     wp_region (ops_sound hc _ _ (by simpa using e1) (fun j i x hi hx => by
       have hj := (List.getElem?_eq_some_iff.1 hi).1
       have hx' : x = j := by
         obtain ⟨h2,h3⟩ := List.getElem?_eq_some_iff.1 hx; simp at h3; exact h3.symm
       subst hx'
       have hlt : x < os.size := by rw [e1] at hj; simpa using hj
       exact ⟨os[x],by simp [hlt],e2 x i os[x] hi (by simp [hlt])⟩) kk hn hr1 h1)
   simp only [evalC] at hr
   split at hr
   · rename_i s1 he
     split at hr
     · rename_i hko; cases hr
       exact hops he fun g' a' w' h1 h2 h3 h4 => h g' a' w' h1 h2 (h3.keep hko) h4
     · cases hr
   · exact hops hr h
 | draw is ord pans live =>
   intro c hk Q g st a w ex st' kk hn hr h
   cases c <;> try (simp [chkCode] at hk; done)
   rename_i id os dr
   cases dr <;> simp [chkCode] at hk
   simp only [evalC] at hr
   split at hr
   · rename_i s1 he
     split at hr
     · rename_i hko; cases hr
       exact draw_sound hm hc hq hk.1 hk.2 kk hn he (fun g' a' w' h1 h2 h3 h4 => h g' a' w' h1 h2 (h3.keep hko) h4) id
     · cases hr
   · rename_i e1 s1 hne he
     cases hr
     refine draw_sound hm hc hq hk.1 hk.2 kk hn he ?_ id
     cases ex with
     | normal => exact (hne rfl).elim
     | exit i => exact h
     | ret => exact h
     | pan v => exact h
   · cases hr
 | seq x y ihx ihy =>
   intro c hk Q g st a w ex st' kk hn hr h
   cases c <;> simp [chkCode] at hk
   simp only [evalC] at hr
   split at hr
   · rename_i s1 he
     refine wp_seq (ihx hk.1 kk hn he fun g' a' w' h1 h2 h3 h4 => ?_)
     exact ihy hk.2 h3 h1 hr (by rw [h2]; exact h.after h4)
   · rename_i hne
     refine wp_seq (ihx hk.1 kk hn hr (h.mono fun g' a' w' h5 => ?_))
     cases ex with
     | normal => exact absurd hr (by simpa using hne st')
     | exit i => exact h5
     | ret => exact h5
     | pan v => exact h5
 | cond x y z ihy ihz =>
   intro c hk Q g st a w ex st' kk hn hr h
   cases c <;> simp [chkCode] at hk
   simp only [evalC] at hr
   split at hr
   · rename_i t ht
     have hrd := kk.read hk.1.1
     rw [ht] at hrd; simp only [VX,V] at hrd
     refine wp_cond_split (t := t) (by rw [Act.eval_eq]; exact hrd) (fun e => ?_) (fun e => ?_)
     · subst e; simp only [if_true] at hr; exact ihy hk.1.2 kk hn hr h
     · subst e; simp only [Bool.false_eq_true,if_false] at hr; exact ihz hk.2 kk hn hr h
   · cases hr
 | block i x ih =>
   intro c hk Q g st a w ex st' kk hn hr h
   cases c <;> simp [chkCode] at hk
   obtain ⟨rfl,hk⟩ := hk
   simp only [evalC] at hr
   split at hr
   · rename_i j s1 he
     split at hr
     · rename_i hj; subst hj; cases hr
       exact wp_block (ih hk kk hn he fun g' a' w' h1 h2 h3 h4 => by
         show Exit.inBlock j Q (.exit j) a' w'
         simp only [Exit.inBlock,if_true]; exact h g' a' w' h1 h2 h3 h4)
     · rename_i hj; cases hr
       exact wp_block (ih hk kk hn he fun g' a' w' h1 h2 h3 h4 => by
         show Exit.inBlock i Q (.exit j) a' w'
         simp only [Exit.inBlock,if_neg hj]; exact h g' a' w' h1 h2 h3 h4)
   · rename_i hne
     refine wp_block (ih hk kk hn hr (h.mono fun g' a' w' h5 => ?_))
     cases ex with
     | normal => exact h5
     | exit j => exact absurd hr (by simpa using hne j st')
     | ret => exact h5
     | pan v => exact h5
 | loop x ih =>
   intro c hk Q g st a w ex st' kk hn hr h
   cases c <;> simp [chkCode] at hk
   simp only [evalC] at hr
   exact wp_loop_rounds k (hl nt x _ hk Q g st a w ex st' kk hn hr h)
end
end Go.Proofs.YtkofimhnehkdoaaGreatDoor.Rf
end
section
namespace Go.Proofs.YtkofimhnehkdoaaGreatDoor.Rf
def Tag.toOb (s id:Nat) : Tag → Tag
 | .box (.fr t) => if t = s then .obj id else .box (.fr t)
 | .tail (.fr t) i => if t = s then .tail (.ob id) i else .tail (.fr t) i
 | t => t
def Tag.notR (s:Nat) (t:Tag) : Prop := t ≠ .box (.fr s) ∧ ∀ i,t ≠ .tail (.fr s) i
theorem Tag.toOb_notR {s id:Nat} {t:Tag} (h:t.notR s) : t.toOb s id = t := by
 cases t <;> try rfl
 · rename_i r; cases r <;> try rfl
   rename_i t; simp only [Tag.toOb]; rw [if_neg]; intro e; subst e; exact h.1 rfl
 · rename_i r i; cases r <;> try rfl
   rename_i t; simp only [Tag.toOb]; rw [if_neg]; intro e; subst e; exact h.2 _ rfl
def Gh.toOb (g:Gh) (s:Nat) : Gh := { ow := fun b o => (g.ow b o).toOb s g.hb.length,hb := g.hb ++ [g.bx (.fr s)],bx := g.bx }
theorem same_toOb (g:Gh) (w:World) (s:Nat) : Same (Tag.notR s) g w (g.toOb s) w :=
 ⟨fun _ _ _ h => Tag.toOb_notR h,fun _ _ _ _ => rfl,fun _ _ _ _ _ => rfl,fun _ _ _ => rfl,fun _ _ _ h => h,fun _ => ⟨by simp,by simp⟩,fun i b h => by
   show (g.hb ++ _)[i]? = _
   rw [List.getElem?_append_left (List.getElem?_eq_some_iff.1 h).1]; exact h⟩
theorem Rel.toHeap1 {G:Nat → Option (List AV)} {g:Gh} {w:World} {fr fr' : Fr} {hp:List HObj} {tm:Array Value} (k:Rel G g ⟨fr,hp⟩ [] tm w) {s:Nat} {cs:List AV} (hs:fr.get s = .box cs)
   (hfr:∀ t,fr'.get t = .none ∨ (t ≠ s ∧ fr'.get t = fr.get t ∧ ∃ ds,fr.get t = .box ds)) :
   ∃ g1,Rel G g1 ⟨fr',hp ++ [.cells 0 cs]⟩ [] tm w ∧ Stay g w g1 w ∧ g1.hb = g.hb ++ [g.bx (.fr s)] ∧ tm.getD s undef = .pointer (some ⟨g.bx (.fr s),0,none⟩) := by
 have sm := same_toOb g w s
 have hi : Tag.notR s .imm := ⟨by simp,by simp⟩
 have hx : ∀ id,Tag.notR s (.obj id) := fun _ => ⟨by simp,by simp⟩
 have hr : ∀ id i,Tag.notR s (.tail (.ob id) i) := fun _ _ => ⟨by simp,by simp⟩
 have hm : ∀ id i j,Tag.notR s (.tail (.mp id i) j) := fun _ _ _ => ⟨by simp,by simp⟩
 have f := k.fr s
 simp only at f
 rw [hs] at f
 simp only [VF] at f
 obtain ⟨vs,ty,f1,f2,⟨f3,f4⟩,f5,f6⟩ := f
 have hl := k.hp.len
 simp only at hl
 refine ⟨g.toOb s,⟨fun t => ?_,fun j v cv hj => by simp at hj,⟨by show (g.hb ++ _).length = _; simp [hl],fun id o ho hlive => ?_⟩,fun b o hb => by show (g.ow b o).toOb s _ = .out; rw [k.fresh b o hb]; rfl,k.gl.same sm hi ⟨by simp,by simp⟩⟩,stay_of_same sm ⟨by simp,by simp⟩ hi,rfl,f1⟩
 · simp only
   rcases hfr t with h | ⟨h1,h2,ds,h3⟩
   · rw [h]; simp [VF,VX,V,Owns]
   · have ft := k.fr t
     simp only at ft
     have ft2 := VF.same (r := .fr t) sm hi (fun _ _ _ => rfl) (fun i => ⟨by simp,by simp [h1]⟩) ⟨by simp [h1],by simp⟩ rfl ft
     rw [h2]
     rw [h3] at ft2 ⊢
     simp only [VF] at ft2 ⊢
     exact ft2
 · rw [List.getElem?_append] at ho
   split at ho
   · rename_i hlt
     obtain ⟨b,k1,k2,k3⟩ := k.hp.obj id o ho hlive
     have hblt : b < w.heap.size := by
       exact k3.lt
     exact ⟨b,sm.hb _ _ k1,fun i => (sm.ow _ _ hblt (by rw [k2 i]; exact hx id)).trans (k2 i),k3.same sm hi k2 (hx id) (hr id) (hm id)⟩
   · rename_i hge
     have e : id = hp.length := by
       have h2 := (List.getElem?_eq_some_iff.1 ho).1
       simp at h2; omega
     subst e
     simp at ho; subst ho
     refine ⟨g.bx (.fr s),by show (g.hb ++ _)[_]? = _; rw [← hl]; simp,fun i => ?_,?_⟩
     · show (g.ow _ i).toOb s _ = _
       rw [f5 i]; simp [Tag.toOb,hl]
     · simp only [ObjRel]
       refine ⟨vs,[],ty,by rw [List.append_nil]; exact f2,⟨VS.mono (sm.ext hi) _ _ f3,f4⟩,fun i xs sz e cv h1 h2 => ?_,fun h => absurd rfl h⟩
       intro a n c ec
       obtain ⟨t1,t2⟩ := f6 i xs sz e cv h1 h2 a n c ec
       refine ⟨VE.mono (sm.ext hi) _ _ _ _ t1,fun o ho ho' => ?_⟩
       obtain ⟨p,q⟩ := t2 o ho ho'
       exact ⟨by show (g.ow _ _).toOb s _ = _; rw [p]; simp [Tag.toOb,hl],q⟩
theorem Fr.keep_cons_get {fr:Fr} {s:Nat} {r:List Nat} (hn:s ∉ r) (t:Nat) (hall:∀ t,t ∈ r → ∃ ds,fr.get t = .box ds) : (fr.keep r).get t = .none ∨ (t ≠ s ∧ (fr.keep r).get t = (fr.keep (s :: r)).get t ∧ ∃ ds,(fr.keep (s :: r)).get t = .box ds) := by
 rw [Fr.get_keep,Fr.get_keep]
 by_cases ht : t ∈ r
 · right
   have hts : t ≠ s := fun e => hn (e ▸ ht)
   obtain ⟨ds,hd⟩ := hall t ht
   rw [if_pos ht,if_pos (by simp [ht])]
   exact ⟨hts,rfl,ds,hd⟩
 · left; rw [if_neg ht]
theorem toHeap_boxes {fr:Fr} : ∀ {l:List Nat} {hp hp' : List HObj},toHeap fr l hp = some hp' → ∀ t,t ∈ l → ∃ ds,fr.get t = .box ds
 | [],_,_,_,t,ht => by simp at ht
 | s :: r,hp,hp',h,t,ht => by
   simp only [toHeap] at h
   split at h
   · rename_i cs hs
     rcases List.mem_cons.1 ht with rfl | ht
     · exact ⟨cs,hs⟩
     · exact toHeap_boxes h t ht
   · cases h
theorem Rel.toHeapL {G:Nat → Option (List AV)} {w:World} {fr:Fr} {tm:Array Value} : ∀ {l:List Nat} {hp hp' : List HObj} {g:Gh},toHeap fr l hp = some hp' → l.Nodup → Rel G g ⟨fr.keep l,hp⟩ [] tm w →
   ∃ g1,Rel G g1 ⟨[],hp'⟩ [] tm w ∧ Stay g w g1 w ∧ VS g1 w (ptrsFrom hp.length l) (l.map fun s => tm.getD s undef)
 | [],hp,hp',g,h,_,k => by
   simp [toHeap] at h; subst h
   exact ⟨g,k,Stay.refl g w,by simp [ptrsFrom,VS]⟩
 | s :: r,hp,hp',g,h,hn,k => by
   have hall := toHeap_boxes h
   simp only [toHeap] at h
   split at h
   · rename_i cs hs
     have hnd := List.nodup_cons.1 hn
     obtain ⟨g1,k1,s1,hb,hv⟩ := k.toHeap1 (s := s) (cs := cs) (fr' := fr.keep r) (by rw [Fr.get_keep,if_pos (by simp)]; exact hs) (fun t => Fr.keep_cons_get hnd.1 t (fun t ht => hall t (by simp [ht])))
     obtain ⟨g2,k2,s2,v2⟩ := Rel.toHeapL h hnd.2 k1
     refine ⟨g2,k2,s1.trans s2,?_⟩
     simp only [ptrsFrom,List.map_cons,VS,V]
     refine ⟨_,_,rfl,⟨g.bx (.fr s),s2.hb _ _ ?_,hv⟩,by simpa using v2⟩
     rw [hb]
     have hl := k.hp.len
     simp only at hl
     rw [← hl]; simp
   · cases h
theorem keepOk_boxes {fr:Fr} {live:List Nat} : ∀ {l:List Nat},(∀ t,t ∈ l → ∃ ds,fr.get t = .box ds) → fr.keepOk l live = true
 | [],_ => rfl
 | s :: r,h => by
   obtain ⟨ds,hd⟩ := h s (by simp)
   simp only [Fr.keepOk,hd,Bool.true_and]
   exact keepOk_boxes fun t ht => h t (by simp [ht])
theorem Rel.toHeap {G:Nat → Option (List AV)} {w:World} {st:St} {tm:Array Value} {l:List Nat} {hp' : List HObj} {g:Gh} (h:toHeap st.fr l st.hp = some hp') (hn:l.Nodup) (k:Rel G g st [] tm w) :
   ∃ g1,Rel G g1 ⟨[],hp'⟩ [] tm w ∧ Stay g w g1 w ∧ VS g1 w (ptrsFrom st.hp.length l) (l.map fun s => tm.getD s undef) :=
 Rel.toHeapL h hn (k.keep (keepOk_boxes (toHeap_boxes h)))
theorem get_setPtrs : ∀ (l:List Nat) (n s:Nat),(setPtrs n l).get s = .none ∨ ∃ i,l[i]? = some s ∧ (ptrsFrom n l)[i]? = some (.ptr (n + i) 0) ∧ (setPtrs n l).get s = .ptr (n + i) 0
 | [],n,s => .inl rfl
 | t :: r,n,s => by
   simp only [setPtrs,Fr.get,ptrsFrom]
   by_cases h : t = s
   · subst h; right; exact ⟨0,by simp⟩
   · rw [if_neg h]
     rcases get_setPtrs r (n + 1) s with h1 | ⟨i,h1,h2,h3⟩
     · exact .inl h1
     · right; exact ⟨i + 1,by simpa using h1,by simp only [List.getElem?_cons_succ,h2]; congr 2; omega,by rw [h3]; congr 1; omega⟩
def capsOk : List Nat → List Operand → Bool
 | [],[] => true
 | s :: r,.tmp t :: q => decide (s = t) && capsOk r q
 | _,_ => false
theorem capsOk_eq : ∀ {l:List Nat} {os:List Operand},capsOk l os = true → os = l.map Operand.tmp
 | [],[],_ => rfl
 | s :: r,.tmp t :: q,h => by
   simp only [capsOk,Bool.and_eq_true,decide_eq_true_eq] at h
   obtain ⟨rfl,h⟩ := h
   rw [capsOk_eq h]; rfl
 | s :: r,.const _ :: q,h => by simp [capsOk] at h
 | s :: r,.func _ :: q,h => by simp [capsOk] at h
 | s :: r,.global _ :: q,h => by simp [capsOk] at h
 | [],_ :: _,h => by simp [capsOk] at h
 | _ :: _,[],h => by simp [capsOk] at h
def isMk (f:Nat) (caps:List Nat) : Op → Bool
 | .makeFunc fn first cs => (match fn with | .func f' => decide (f' = f) | _ => false) && first.isEmpty && capsOk caps cs.toList
 | _ => false
def isDf (t:Nat) : Op → Bool
 | .defer c => (match c.callee with | .value (.tmp u) => decide (u = t) | _ => false) && c.args.isEmpty
 | _ => false
def chkDfr (n:Nat) (d:DSpec) (os:Array Oper) : Bool :=
 match os.toList with
 | [o1,o2] => decide (o1.dst = some d.t) && o1.guard.isNone && isMk d.f d.caps o1.op && o2.dst.isNone && o2.guard.isNone && isDf d.t o2.op && Nat.blt d.t n && !d.caps.contains d.t && nodupB d.caps
 | _ => false
def chkDef (P:Program) (n:Nat) (d:DSpec) : ICode → Code → Bool
 | .seq x y,.seq a b => chkCode P ⟨n,[]⟩ x a && chkDef P n d y b
 | .skip,.seq (.region _ os false) c => chkDfr n d os && chkCode P ⟨n,d.caps⟩ d.rest c
 | _,_ => false
def isRecover : Op → Bool
 | .call c => (match c.callee with | .builtin .recover => true | _ => false)
 | _ => false
def chkRcv (P:Program) (n s:Nat) (ic:ICode) : Code → Bool
 | .seq (.region _ os false) c => (match os.toList with | [o] => decide (o.dst = some s) && o.guard.isNone && isRecover o.op | _ => false) && chkCode P ⟨n,[]⟩ ic c && Nat.blt s n
 | _ => false
def chkBody (P:Program) (n:Nat) (fn:IFun) (c:Code) : Bool :=
 match fn.rcv,fn.dfr with
 | none,none => chkCode P ⟨n,[]⟩ fn.body c
 | none,some d => chkDef P n d fn.body c
 | some s,none => chkRcv P n s fn.body c
 | some _,some _ => false
def chkFun (P:Program) (f:FuncId) (fn:IFun) : Bool :=
 funOk P f &&
 match P.funcs[f]? with
 | some m =>
   (match m.body with
    | some c => chkBody P m.ntmps fn c
    | none => false) && chkRes P fn.res m.results.toList && nodupB (fn.res.map IRes.slot) && Nat.ble fn.arity m.ntmps
 | none => false
section
variable {P:Program} {G:Nat → Option (List AV)} {call:CallF} {loop:LoopF} {lo k:Nat}
def theD (fid:Nat) (cvs:List Value) : Deferred := { target := .fn (.func fid) cvs.toArray,args := #[] }
def capV (tm:Array Value) (l:List Nat) : List Value := l.map fun s => tm.getD s undef
theorem dfr_sound {n:Nat} {d:DSpec} {os:Array Oper} {id:Nat} (hk:chkDfr n d os = true) {Q:Exit → Act → World → Prop} {g:Gh} {st:St} {a:Act} {w:World} (kk:Rel G g st [] a.tmps w) (hn:a.tmps.size = n) (hl:(st.fr.get d.t).loose = true)
   (h:∀ g' (a' : Act),a'.tmps.size = n → Rel G g' { st with fr := st.fr.set d.t .none } [] a'.tmps w → Stay g w g' w → a'.defers = theD d.f (capV a'.tmps d.caps) :: a.defers → Q .normal a' w) : (Code.region id os false).wp P Q a w := by
 unfold chkDfr at hk
 split at hk
 rotate_left
 · cases hk
 rename_i o1 o2 hos
 simp only [Bool.and_eq_true,decide_eq_true_eq,Option.isNone_iff_eq_none] at hk
 obtain ⟨⟨⟨⟨⟨⟨⟨⟨p1,p2⟩,p3⟩,p4⟩,p5⟩,p6⟩,p7⟩,p8⟩,p9⟩ := hk
 have e : os = #[o1,o2] := by rw [← Array.toList_inj]; simpa using hos
 subst e
 refine wp_region ?_
 have hlr : List.range (#[o1,o2] : Array Oper).size = [0,1] := rfl
 rw [hlr,wpOps_cons,wpOp]
 have h0 : (#[o1,o2] : Array Oper)[0]? = some o1 := rfl
 have h1 : (#[o1,o2] : Array Oper)[1]? = some o2 := rfl
 rw [h0]; simp only
 rw [if_pos (by unfold Region.wanted; rw [p2])]
 refine .inl ?_
 have htn : d.t < a.tmps.size := by rw [hn]; simpa using p7
 have hrun : (execOp a.eval o1).run P w = .ok (.value (.func (.func d.f) #[] (capV a.tmps d.caps).toArray)) w := by
   cases hop : o1.op <;> rw [hop] at p3 <;> (try simp only [isMk] at p3) <;> try (simp at p3; done)
   rename_i fn first cs
   simp only [Bool.and_eq_true] at p3
   obtain ⟨⟨q1,q2⟩,q3⟩ := p3
   cases fn <;> (try simp only [] at q1) <;> try (simp at q1; done)
   rename_i f'
   simp only [decide_eq_true_eq] at q1; subst q1
   have hf : first = #[] := by simpa using q2
   subst hf
   have hcs := capsOk_eq q3
   have e2 : cs.map a.eval = (capV a.tmps d.caps).toArray := by
     rw [← Array.toList_inj]
     simp only [Array.toList_map,hcs,List.map_map,capV]
     refine List.map_congr_left fun s _ => ?_
     simp [Act.eval_eq,Act.opd]
   simp [execOp,hop,Instr.makeFunc,e2]
 rw [Oper.wp,hrun,Oper.upon_value,p1]
 have kp : Rel G g st [(AV.none,Value.func (.func d.f) #[] (capV a.tmps d.caps).toArray)] a.tmps w := by
   have := kk.push (v := AV.none) (cv := Value.func (.func d.f) #[] (capV a.tmps d.caps).toArray) (by simp [VF,VX,V,Owns])
   simpa using this
 obtain ⟨g2,k2,s2,_⟩ := kp.into hl htn
 rw [wpOps_cons,wpOp,h1]; simp only
 rw [if_pos (by unfold Region.wanted; rw [p5])]
 refine .inl ?_
 have hget : (a.tmps.setIfInBounds d.t (Value.func (.func d.f) #[] (capV a.tmps d.caps).toArray)).getD d.t undef = Value.func (.func d.f) #[] (capV a.tmps d.caps).toArray := by
   simp [htn]
 have hcap : capV (a.tmps.setIfInBounds d.t (Value.func (.func d.f) #[] (capV a.tmps d.caps).toArray)) d.caps = capV a.tmps d.caps := by
   unfold capV
   refine List.map_congr_left fun s hs => ?_
   have hne : d.t ≠ s := fun e => by subst e; simp only [Bool.not_eq_true'] at p8; rw [List.contains_iff_mem.2 hs] at p8; cases p8
   simp only [Array.getD_eq_getD_getElem?,Array.getElem?_setIfInBounds,if_neg hne]
 have hrun2 : (execOp (Act.eval (Act.put a (some d.t) (Value.func (.func d.f) #[] (capV a.tmps d.caps).toArray))) o2).run P w = .ok (.defer (theD d.f (capV a.tmps d.caps))) w := by
   cases hop : o2.op <;> rw [hop] at p6 <;> (try simp only [isDf] at p6) <;> try (simp at p6; done)
   rename_i c
   obtain ⟨ce,ca,ct⟩ := c
   simp only [Bool.and_eq_true] at p6
   obtain ⟨q1,q2⟩ := p6
   cases ce <;> (try simp only [] at q1) <;> try (simp at q1; done)
   rename_i v
   cases v <;> (try simp only [] at q1) <;> try (simp at q1; done)
   rename_i t
   simp only [decide_eq_true_eq] at q1; subst q1
   have h5 : ca = #[] := by simpa using q2
   subst h5
   have he : Act.eval (Act.put a (some d.t) (Value.func (.func d.f) #[] (capV a.tmps d.caps).toArray)) (.tmp d.t) = Value.func (.func d.f) #[] (capV a.tmps d.caps).toArray := by
     rw [Act.eval_eq]; exact hget
   simp [execOp,hop,resolve,Deferred.ofValue,he,theD]
 rw [Oper.wp,hrun2,Oper.upon_defer,p4]
 exact h g2 _ (by simp only [Act.put,Array.size_setIfInBounds]; exact hn) k2 s2 (by simp only [Act.put]; rw [hcap])
theorem NT.ok_any {n:Nat} {tm:Array Value} (h:tm.size = n) (t0:Array Value) : NT.ok ⟨⟨n,[]⟩,t0⟩ tm := ⟨h,fun s hs => by simp at hs⟩
theorem def_sound (hm:P.follows .mixedOrders = true) (hc:CallOK P G call) (hq:CallQ call) (hl:LoopOK P G k loop) {n:Nat} {d:DSpec} : ∀ {ic:ICode} {c:Code},chkDef P n d ic c = true → ∀ {Q:Exit → Act → World → Prop} {g:Gh} {st:St} {a:Act} {w:World} {ex:Ex} {st' : St},
   Rel G g st [] a.tmps w → a.tmps.size = n → a.defers = [] → evalC G call loop lo ic st = some (ex,st') →
   (ex ≠ .normal → Goes G ⟨⟨n,[]⟩,#[]⟩ [] g w st' ex Q) →
   (ex = .normal → (st'.fr.get d.t).loose = true ∧ ∃ ex3 s3,evalC G call loop lo d.rest { st' with fr := st'.fr.set d.t .none } = some (ex3,s3) ∧
     ∀ g2 (tm2:Array Value) w2,Stay g w g2 w2 → Goes G ⟨⟨n,d.caps⟩,tm2⟩ [theD d.f (capV tm2 d.caps)] g2 w2 s3 ex3 Q) → nodupB d.caps = true → c.wp P Q a w := by
 intro ic
 induction ic with
 | skip =>
   intro c hk Q g st a w ex st' kk hn hd hr hX hN hdd
   cases c <;> try (simp [chkDef] at hk; done)
   rename_i x y
   cases x <;> try (simp [chkDef] at hk; done)
   rename_i id os dr
   cases dr <;> try (simp [chkDef] at hk; done)
   simp only [chkDef,Bool.and_eq_true] at hk
   simp [evalC] at hr; obtain ⟨rfl,rfl⟩ := hr
   obtain ⟨h1,ex3,s3,h3,h4⟩ := hN rfl
   refine wp_seq (dfr_sound (G := G) hk.1 kk hn h1 fun g' a' q1 q2 q3 q5 => ?_)
   refine code_sound hm hc hq hl hk.2 (nt := ⟨⟨n,d.caps⟩,a'.tmps⟩) q2 ⟨q1,fun s _ => rfl⟩ h3 ?_
   rw [q5,hd]
   exact h4 g' a'.tmps w q3
 | seq x y ihx ihy =>
   intro c hk Q g st a w ex st' kk hn hd hr hX hN hdd
   cases c <;> try (simp [chkDef] at hk; done)
   simp only [chkDef,Bool.and_eq_true] at hk
   simp only [evalC] at hr
   split at hr
   · rename_i s1 he
     refine wp_seq (code_sound hm hc hq hl hk.1 (nt := ⟨⟨n,[]⟩,#[]⟩) kk (NT.ok_any hn _) he fun g' a' w' h1 h2 h3 h4 => ?_)
     refine ihy hk.2 h3 h1.size (by rw [h2,hd]) hr (fun hne => (hX hne).after h4) (fun he2 => ?_) hdd
     obtain ⟨q0,ex3,s3,q3,q4⟩ := hN he2
     exact ⟨q0,ex3,s3,q3,fun g2 tm2 w2 p1 => q4 g2 tm2 w2 (h4.trans p1)⟩
   · rename_i hne
     have hne' : ex ≠ .normal := fun e => by subst e; exact absurd hr (by simpa using hne st')
     refine wp_seq (code_sound hm hc hq hl hk.1 (nt := ⟨⟨n,[]⟩,#[]⟩) kk (NT.ok_any hn _) hr ?_)
     rw [hd]
     refine (hX hne').mono fun g' a' w' h5 => ?_
     cases ex with
     | normal => exact absurd rfl hne'
     | exit i => exact h5
     | ret => exact h5
     | pan v => exact h5
 | _ => intro c hk; cases c <;> simp [chkDef] at hk
theorem chkDef_nodup {n:Nat} {d:DSpec} : ∀ {ic:ICode} {c:Code},chkDef P n d ic c = true → nodupB d.caps = true := by
 intro ic
 induction ic with
 | skip =>
   intro c hk
   cases c <;> try (simp [chkDef] at hk; done)
   rename_i x y
   cases x <;> try (simp [chkDef] at hk; done)
   rename_i id os dr
   cases dr <;> try (simp [chkDef] at hk; done)
   simp only [chkDef,Bool.and_eq_true] at hk
   have h := hk.1
   unfold chkDfr at h
   split at h
   · simp only [Bool.and_eq_true] at h; exact h.2
   · cases h
 | seq x y ihx ihy =>
   intro c hk
   cases c <;> try (simp [chkDef] at hk; done)
   simp only [chkDef,Bool.and_eq_true] at hk
   exact ihy hk.2
 | _ => intro c hk; cases c <;> simp [chkDef] at hk
end
end Go.Proofs.YtkofimhnehkdoaaGreatDoor.Rf
end
section
namespace Go.Proofs.YtkofimhnehkdoaaGreatDoor.Rf
section
variable {P:Program} {G:Nat → Option (List AV)} {call:CallF} {loop:LoopF} {lo k:Nat} {g:Gh} {w:World}
theorem Rel.drop {st:St} {ps:List (AV × Value)} {tm:Array Value} (kk:Rel G g st ps tm w) : Rel G (g.outw []) ⟨[],st.hp⟩ [] #[] w ∧ Stay g w (g.outw []) w := by
 have sm := same_outw g w []
 exact ⟨⟨fun s => by simp [Fr.get,VF,VX,V,Owns],fun j u cu hj => by simp at hj,kk.hp.same sm trivial (fun _ => trivial) (fun _ _ => trivial) (fun _ _ _ => trivial) rfl,fun b o hb => by show (g.ow b o).outw [] = .out; rw [kk.fresh b o hb]; rfl,kk.gl.same sm trivial trivial⟩,
   stay_of_same sm trivial trivial⟩
def Thrown (g:Gh) (w:World) (m:AV) (u:FrameMode) : Prop := (m = .nili ∧ u = .returning) ∨ ∃ cv,V g w m cv ∧ m.plain = true ∧ u = .panicking [{ v := cv,recovered := false }]
theorem Thrown.run {m:AV} {u:FrameMode} (h:Thrown g w m u) : u ≠ .run := by
 rcases h with ⟨_,rfl⟩ | ⟨cv,_,_,rfl⟩ <;> simp
theorem invoke_fn {fid:Nat} (hok:funOk P fid = true) (us:Array Value) : (invoke (.fn (.func fid) us) #[]).run P w = .ok (.enter fid us) w := by
 unfold funOk at hok
 cases hfn : P.funcs[fid]? with
 | none => simp [hfn] at hok
 | some fn =>
   simp [hfn] at hok
   obtain ⟨b1,b2⟩ := hok
   cases hbd : fn.body with
   | none => simp [hbd] at b1
   | some bd => simp [invoke,callFunc,hfn,b2,hbd]
theorem wpS_recover {id:Nat} {os:Array Oper} {c:Code} {s:Nat} {o:Oper} (h1:os.toList = [o]) (h2:o.dst = some s) (h3:o.guard = none) (h4:isRecover o.op = true) {Q:Exit → Act → List Frame → World → Prop} {a:Act} {cs:List Frame}
   {rv:Value} {cs' : List Frame} (hrec:(recoverD cs = none ∧ rv = .nilIface ∧ cs' = cs) ∨ recoverD cs = some (rv,cs')) (h:c.wp P (fun e a' w' => Q e a' cs' w') (a.put (some s) rv) w) : (Code.seq (.region id os false) c).wpS P Q a cs w := by
 have e : os = #[o] := by rw [← Array.toList_inj]; simpa using h1
 subst e
 refine wpS_seq (wpS_region ?_)
 have hl : List.range (#[o] : Array Oper).size = [0] := rfl
 rw [hl]
 simp only [wpOpsS]
 have ho : (#[o] : Array Oper)[0]? = some o := rfl
 rw [ho]; simp only
 have hw : Region.wanted o (yielded #[o] a.tmps) = true := by unfold Region.wanted; rw [h3]
 rw [if_pos hw]
 have hrun : (execOp a.eval o).run P w = .ok .recover w := by
   cases hop : o.op <;> rw [hop] at h4 <;> (try simp only [isRecover] at h4) <;> try (simp at h4; done)
   rename_i cl
   obtain ⟨ce,ca,ct⟩ := cl
   cases ce <;> (try simp only [] at h4) <;> try (simp at h4; done)
   rename_i b
   cases b <;> (try simp only [] at h4) <;> try (simp at h4; done)
   simp [execOp,hop,resolve,invoke,builtin]
 rw [hrun]; simp only
 rcases hrec with ⟨e1,rfl,rfl⟩ | e1
 · rw [e1]; simp only; rw [h2]; exact wpS_of_wp h
 · rw [e1]; simp only; rw [h2]; exact wpS_of_wp h
theorem recv_sound (hm:P.follows .mixedOrders = true) (hc:CallOK P G call) (hq:CallQ call) (hl:LoopOK P G k loop) {IP:IProg} (hIP:∀ f fn,IP f = some fn → chkFun P f fn = true) {fid:Nat} {caps:List AV} {hp hp' : List HObj} {m:AV}
   (h:evalRecv G IP call loop lo fid caps hp m = some hp') (kk:Rel G g ⟨[],hp⟩ [] #[] w) {cvs:List Value} (hV:VS g w caps cvs) (hpl:plains caps = true) {u:FrameMode} (hu:Thrown g w m u) :
   (invoke (.fn (.func fid) cvs.toArray) #[]).run P w = .ok (.enter fid cvs.toArray) w ∧
     CallsD P fid cvs.toArray u w fun e u' w' => ∃ v g',e = .returned v ∧ settle u' = .returning ∧ Rel G g' ⟨[],hp'⟩ [] #[] w' ∧ Stay g w g' w' := by
 unfold evalRecv at h
 cases hfn : IP fid with
 | none => rw [hfn] at h; simp at h
 | some fn =>
 rw [hfn] at h; simp only at h
 have hf := hIP fid fn hfn
 simp only [chkFun,Bool.and_eq_true] at hf
 obtain ⟨hfo,hf⟩ := hf
 refine ⟨invoke_fn hfo _,?_⟩
 cases hmm : P.funcs[fid]? with
 | none => rw [hmm] at hf; simp at hf
 | some mf =>
 rw [hmm] at hf
 simp only [Bool.and_eq_true] at hf
 obtain ⟨⟨⟨hb,hres⟩,hnd⟩,har⟩ := hf
 cases hbd : mf.body with
 | none => rw [hbd] at hb; simp at hb
 | some c =>
 rw [hbd] at hb
 simp only [chkBody] at hb
 cases hrc : fn.rcv with
 | none => rw [hrc] at h; simp at h
 | some s =>
 cases hdf : fn.dfr with
 | some d => rw [hrc,hdf] at h; simp at h
 | none =>
 rw [hrc,hdf] at h hb
 simp only at h hb
 split at h
 · cases h
 rename_i hcnd
 simp only [not_or,Bool.not_eq_false,Nat.not_lt] at hcnd
 obtain ⟨c1,c2,c3⟩ := hcnd
 have hlen : caps.length = fn.arity := Nat.eq_of_beq_eq_true c1
 have hres0 : fn.res = [] := List.isEmpty_iff.1 c2
 have har' : fn.arity ≤ mf.ntmps := Nat.le_of_ble_eq_true har
 cases c <;> try (simp [chkRcv] at hb; done)
 rename_i x y
 cases x <;> try (simp [chkRcv] at hb; done)
 rename_i id os dr
 cases dr <;> try (simp [chkRcv] at hb; done)
 simp only [chkRcv,Bool.and_eq_true] at hb
 obtain ⟨⟨b1,b2⟩,b3⟩ := hb
 have hsn : s < mf.ntmps := by simpa using b3
 split at b1
 rotate_left
 · simp at b1
 rename_i o hos
 simp only [Bool.and_eq_true,decide_eq_true_eq,Option.isNone_iff_eq_none] at b1
 obtain ⟨⟨o1,o2⟩,o3⟩ := b1
 have hcl : cvs.length = caps.length := hV.len
 have hcp : VS g w (caps.map AV.cp) cvs := hV.cpAll
 have hplc : plains (caps.map AV.cp) = true := by
   simp only [plains,List.all_eq_true] at hpl ⊢
   intro c hc; simp only [List.mem_map] at hc; obtain ⟨d,hd,rfl⟩ := hc; exact plain_cp (hpl d hd)
 have kz : Rel G g ⟨[],hp⟩ ((caps.map AV.cp).zip cvs) #[] w := ⟨kk.fr,fun j v cv hj => by
   rw [List.getElem?_zip_eq_some] at hj
   obtain ⟨j1,j2⟩ := hj
   have hv := hcp.get' j1 j2
   rw [List.getElem?_map] at j1
   cases hd : caps[j]? with
   | none => rw [hd] at j1; simp at j1
   | some d =>
     rw [hd] at j1; simp at j1; subst j1
     have hpd : d.plain = true := by
       simp only [plains,List.all_eq_true] at hpl; exact hpl d (List.mem_of_getElem? hd)
     rw [VF_loose (AV.loose_of_plain (plain_cp hpd)),VX_plain (plain_cp hpd)]
     exact ⟨hv,Owns.cp⟩,kk.hp,kk.fresh,kk.gl⟩
 obtain ⟨k1,s1⟩ := kz.enter (by simpa using hcl) hplc (mf.ntmps - cvs.toArray.size)
 have hsize : (cvs.toArray ++ Array.replicate (mf.ntmps - cvs.toArray.size) undef).size = mf.ntmps := by
   simp; omega
 -- what is recovered
 have hrv : ∀ (c₀:Frame) (cs:List Frame),c₀.mode = u → ∃ rv u',((recoverD (c₀ :: cs) = none ∧ rv = .nilIface ∧ ({ c₀ with mode := u' } :: cs : List Frame) = c₀ :: cs) ∨ recoverD (c₀ :: cs) = some (rv,{ c₀ with mode := u' } :: cs)) ∧ settle u' = .returning ∧ V g w m rv ∧ m.plain = true := by
   intro c₀ cs hcu
   rcases hu with ⟨rfl,rfl⟩ | ⟨cv,h1,h2,rfl⟩
   · refine ⟨.nilIface,.returning,.inl ⟨?_,rfl,by rw [← hcu]⟩,rfl,by simp [V],rfl⟩
     simp [recoverD,hcu]
   · refine ⟨cv,.panicking [{ v := cv,recovered := true }],.inr ?_,by simp [settle],h1,h2⟩
     simp [recoverD,hcu]
 refine callsD_of_wpS hmm hbd fun c₀ cs hcu => ?_
 obtain ⟨rv,u',hr1,hr2,hr3,hr4⟩ := hrv c₀ cs hcu
 have kp : Rel G g.inn ⟨Rf.enter 0 (caps.map AV.cp),hp⟩ [(m.cp,rv)] (cvs.toArray ++ Array.replicate (mf.ntmps - cvs.toArray.size) undef) w := by
   have := k1.push (v := m.cp) (cv := rv) (VF_cp (AV.loose_of_plain hr4) (by rw [VX_plain hr4]; exact V.mono (s1.toSame.ext trivial) _ _ hr3))
   simpa using this
 have hloose : ((Rf.enter 0 (caps.map AV.cp)).get s).loose = true := by
   rw [get_enter]; simp only [Nat.zero_le,if_true,Nat.sub_zero]
   have : (caps.map AV.cp)[s]? = none := by rw [List.getElem?_eq_none_iff]; simp; omega
   rw [this]; rfl
 obtain ⟨g2,k2,s2,_⟩ := kp.into hloose (by rw [hsize]; exact hsn)
 refine wpS_recover hos o1 o2 o3 hr1 ?_
 have fin : ∀ {ex:Ex} {st' : St},evalC G call loop lo fn.body ⟨(Rf.enter 0 (caps.map AV.cp)).set s m.cp,hp⟩ = some (ex,st') → (ex = .normal ∨ ex = .ret) → st'.hp = hp' →
     y.wp P (fun e a' w' => bodyPostS P mf c₀ cs (fun e u' w' => ∃ v g',e = .returned v ∧ settle u' = .returning ∧ Rel G g' ⟨[],hp'⟩ [] #[] w' ∧ Stay g w g' w') e a' ({ c₀ with mode := u' } :: cs) w') (Act.put { tmps := cvs.toArray ++ Array.replicate (mf.ntmps - cvs.toArray.size) undef,defers := [] } (some s) rv) w := by
   intro ex st' he hex hh
   refine code_sound hm hc hq hl b2 (nt := ⟨⟨mf.ntmps,[]⟩,#[]⟩) k2 (NT.ok_any (by simp only [Act.put,Array.size_setIfInBounds]; exact hsize) _) he fun g' a' w' h1 h2 h3 h4 => ?_
   obtain ⟨cv,q1,q2,q3⟩ := run_results (fn := mf) (rs := []) (vs := []) h3 (by rw [← hres0]; exact hres) List.nodup_nil rfl
   have fact : a'.defers = [] ∧ ∃ u'',({ c₀ with mode := u' } :: cs : List Frame) = { c₀ with mode := u'' } :: cs ∧ ∃ v,(results mf a'.tmps).run P w' = .ok v w' ∧ ∃ v1 g1,(Ending.returned v) = .returned v1 ∧ settle u'' = .returning ∧ Rel G g1 ⟨[],hp'⟩ [] #[] w' ∧ Stay g w g1 w' :=
     ⟨h2,u',rfl,cv,q1,cv,_,rfl,hr2,by rw [← hh]; exact q2.less,(((s1.trans s2).trans h4).trans q3)⟩
   rcases hex with rfl | rfl
   · exact fact
   · exact fact
 split at h
 · rename_i st' he; cases h; exact fin he (.inl rfl) rfl
 · rename_i st' he; cases h; exact fin he (.inr rfl) rfl
 · cases h
end
end Go.Proofs.YtkofimhnehkdoaaGreatDoor.Rf
end
section
namespace Go.Proofs.YtkofimhnehkdoaaGreatDoor.Rf
section
variable {P:Program} {G:Nat → Option (List AV)} {call:CallF} {loop:LoopF} {lo k:Nat} {g:Gh} {w:World}
def Lv (P:Program) (G:Nat → Option (List AV)) (m:Func) (R:Ending → World → Prop) (g:Gh) (w:World) (s2:St) (ex:Ex) : Prop :=
 ∀ (g' : Gh) (tm' : Array Value) (w' : World),Rel G g' s2 [] tm' w' → Stay g w g' w' →
   match ex with
   | .normal | .ret => ∃ v,(results m tm').run P w' = .ok v w' ∧ R (.returned v) w'
   | .pan v => ∀ cv,V g' w' v cv → v.plain = true → R (.panicked [{ v := cv,recovered := false }]) w'
   | .exit _ => False
theorem leaves_recv (hm:P.follows .mixedOrders = true) (hc:CallOK P G call) (hq:CallQ call) (hl:LoopOK P G k loop) {IP:IProg} (hIP:∀ f fn,IP f = some fn → chkFun P f fn = true) {m:Func} {R:Ending → World → Prop} {s3:St} {d:DSpec} {mm:AV} {ex:Ex} {s4:St}
   (h:evalFin1 G IP call loop lo d s3 mm = some (ex,s4)) (hnd:d.caps.Nodup) {g' : Gh} {w' : World} {tm2 tm' : Array Value} (ht:∀ s,s ∈ d.caps → tm'.getD s undef = tm2.getD s undef) (k3:Rel G g' s3 [] tm' w') {u:FrameMode} (hu:Thrown g' w' mm u) (hst:Stay g w g' w') (hL:Lv P G m R g w s4 ex) :
   Leaves P m tm' R [theD d.f (capV tm2 d.caps)] u w' := by
 simp only [evalFin1] at h
 split at h
 rotate_left
 · cases h
 rename_i hp1 h1
 split at h
 rotate_left
 · cases h
 rename_i hp2 h2
 cases h
 have hcv : capV tm2 d.caps = capV tm' d.caps := List.map_congr_left fun s hs => (ht s hs).symm
 rw [hcv]
 obtain ⟨gh,kh,sh,vh⟩ := k3.toHeap h1 hnd
 obtain ⟨kd,sd⟩ := kh.drop
 have hu2 : Thrown (gh.outw []) w' mm u := by
   rcases hu with h | ⟨cv,h1,h2,h3⟩
   · exact .inl h
   · exact .inr ⟨cv,V.mono ((sh.trans sd).toSame.ext trivial) _ _ h1,h2,h3⟩
 have hpl : plains (ptrsFrom s3.hp.length d.caps) = true := by
   have : ∀ (l:List Nat) (n:Nat),plains (ptrsFrom n l) = true := by
     intro l
     induction l with
     | nil => intro n; rfl
     | cons x r ih => intro n; simp only [ptrsFrom,plains,List.all_cons,Bool.and_eq_true]; exact ⟨rfl,ih _⟩
   exact this _ _
 obtain ⟨r1,r2⟩ := recv_sound hm hc hq hl hIP h2 kd (VS.mono (sd.toSame.ext trivial) _ _ vh) hpl hu2
 refine leaves_cons hu.run r1 (CallsD.mono r2 fun e u' w4 hh => ?_)
 obtain ⟨v,g4,rfl,hs,hrel,hst4⟩ := hh
 simp only [hs]
 have st4 := (sh.trans sd).trans hst4
 have v4 := VS.mono ((sd.trans hst4).toSame.ext trivial) _ _ vh
 have kf : Rel G g4 ⟨setPtrs s3.hp.length d.caps,hp2⟩ [] tm' w4 := by
   refine ⟨fun s => ?_,fun j v cv hj => by simp at hj,hrel.hp,hrel.fresh,hrel.gl⟩
   simp only
   rcases get_setPtrs d.caps s3.hp.length s with h | ⟨i,q1,q2,q3⟩
   · rw [h]; simp [VF,VX,V,Owns]
   · rw [q3]
     have := v4.get' q2 (u := tm'.getD s undef) (by rw [List.getElem?_map,q1]; rfl)
     simp only [VF,VX]
     exact ⟨this,by simp [Owns]⟩
 exact hL g4 tm' w4 kf (hst.trans st4)
theorem body_sound (hm:P.follows .mixedOrders = true) (hc:CallOK P G call) (hq:CallQ call) (hl:LoopOK P G k loop) {IP:IProg} (hIP:∀ f fn,IP f = some fn → chkFun P f fn = true) {fn:IFun} {m:Func} {c:Code} {R:Ending → World → Prop}
   (hr:fn.rcv = none) (hb:chkBody P m.ntmps fn c = true) {st:St} {tm:Array Value} {ex:Ex} {s2:St} (kk:Rel G g st [] tm w) (hn:tm.size = m.ntmps) (he:evalF G IP call loop lo fn st = some (ex,s2)) (hL:Lv P G m R g w s2 ex) : c.wp P (bodyPostD P m R) { tmps := tm,defers := [] } w := by
 have goes : ∀ (nt:NT) {ex:Ex} {s2:St},Lv P G m R g w s2 ex → Goes G nt [] g w s2 ex (bodyPostD P m R) := fun nt ex s2 hL g' a' w' h1 h2 h3 h4 => by
   have := hL g' a'.tmps w' h3 h4
   cases ex with
   | normal => simp only [ExQ,bodyPostD,h2,Leaves]; exact this
   | ret => simp only [ExQ,bodyPostD,h2,Leaves]; exact this
   | pan v => simp only [ExQ,bodyPostD,h2,Leaves]; exact this
   | exit i => exact this.elim
 simp only [chkBody,hr] at hb
 cases hd : fn.dfr with
 | none =>
   rw [hd] at hb
   simp only [evalF,hd] at he
   exact code_sound hm hc hq hl hb (nt := ⟨⟨m.ntmps,[]⟩,#[]⟩) kk (NT.ok_any hn _) he (goes _ hL)
 | some d =>
   rw [hd] at hb
   have hdd := chkDef_nodup hb
   simp only [evalF,hd] at he
   split at he
   · rename_i s1 h1
     split at he
     rotate_left
     · cases he
     rename_i hlo
     cases h4 : evalC G call loop lo d.rest { s1 with fr := s1.fr.set d.t .none } with
     | none => rw [h4] at he; simp [evalFin] at he
     | some x =>
       obtain ⟨ex3,s3⟩ := x
       rw [h4] at he
       refine def_sound hm hc hq hl hb kk hn rfl h1 (fun h => absurd rfl h) (fun _ => ⟨hlo,ex3,s3,h4,fun g2 tm2 w2 p1 => fun g' a' w' q1 q2 q3 q4 => ?_⟩) hdd
       have lv : ∀ {mm:AV},evalFin1 G IP call loop lo d s3 mm = some (ex,s2) → ∀ {u:FrameMode},Thrown g' w' mm u → Leaves P m a'.tmps R [theD d.f (capV tm2 d.caps)] u w' := fun he _ hu =>
         leaves_recv hm hc hq hl hIP he (nodupB_spec hdd) q1.keep q3 hu (p1.trans q4) hL
       cases ex3 with
       | normal => simp only [ExQ,bodyPostD,q2]; exact lv he (.inl ⟨rfl,rfl⟩)
       | ret => simp only [ExQ,bodyPostD,q2]; exact lv he (.inl ⟨rfl,rfl⟩)
       | pan v => simp only [ExQ,bodyPostD,q2]; intro cv hv hp; exact lv he (.inr ⟨cv,hv,hp,rfl⟩)
       | exit i => simp [evalFin] at he
   · rename_i hne
     have hne' : ex ≠ .normal := fun e => by subst e; exact absurd he (by simpa using hne s2)
     exact def_sound hm hc hq hl hb kk hn rfl he (fun _ => goes _ hL) (fun e => absurd e hne') hdd
theorem run_quiet (IP:IProg) : ∀ k,CallQ (run G IP k).1
 | 0 => fun f vs hp lo r h => by simp [run] at h
 | k + 1 => fun f vs hp lo r h => by
   simp only [run,callBody] at h
   split at h
   · cases h
   · rename_i fn hfn
     split at h
     · cases h
     · rename_i hc
       have hs : fn.still = true := by simp at hc; exact hc.1.1
       simp only [hs,if_true] at h
       repeat' split at h
       all_goals first
         | (cases h; done)
         | (cases h; rfl)
theorem run_sound (hm : P.follows .mixedOrders = true) {IP:IProg} (hIP:∀ f fn,IP f = some fn → chkFun P f fn = true) : ∀ k,CallOK P G (run G IP k).1 ∧ ∀ lo,LoopOK P G k ((run G IP k).2 lo)
 | 0 => ⟨fun f vs hp lo q r g w us h => by simp [run] at h,fun lo nt body code _ Q g st a w ex st' _ _ h => by simp [run] at h⟩
 | k + 1 => by
   obtain ⟨hc,hl⟩ := run_sound hm hIP k
   refine ⟨fun f vs hp lo q r g w us h hlen hpl kk => ?_,fun lo nt body code hk Q g st a w ex st' kk hn hr h => ?_⟩
   · simp only [run, callBody] at h
     cases hfn : IP f with
     | none => rw [hfn] at h; simp at h
     | some fn =>
       rw [hfn] at h
       have hf := hIP f fn hfn
       simp only [chkFun,Bool.and_eq_true] at hf
       obtain ⟨hfo,hf⟩ := hf
       refine ⟨hfo,?_⟩
       cases hm' : P.funcs[f]? with
       | none => rw [hm'] at hf; simp at hf
       | some m =>
         rw [hm'] at hf
         simp only [Bool.and_eq_true] at hf
         obtain ⟨⟨⟨hb,hres⟩,hnd⟩,har⟩ := hf
         cases hbd : m.body with
         | none => rw [hbd] at hb; simp at hb
         | some c =>
           rw [hbd] at hb
           simp only at hb h
           split at h
           · cases h
           · rename_i hcnd
             have hq : vs.length = fn.arity := by
               simp at hcnd
               exact hcnd.1.2
             have harity : fn.arity ≤ m.ntmps := Nat.le_of_ble_eq_true har
             obtain ⟨k1,s1⟩ := kk.enter hlen hpl (m.ntmps - us.toArray.size)
             have hsize : (us.toArray ++ Array.replicate (m.ntmps - us.toArray.size) undef).size = m.ntmps := by
               simp; omega
             have hnodup := nodupB_spec hnd
             have hrc : fn.rcv = none := by
               simp at hcnd
               exact hcnd.2
             refine calls_of_wp_defers hm' hbd ?_
             -- what is owed behind the body
             have fin : ∀ {ex:Ex} {s2:St} (lo' : Nat),evalF G IP (run G IP k).1 ((run G IP k).2 lo') lo' fn { fr := Rf.enter 0 vs,hp } = some (ex,s2) →
                 Lv P G m (Ret G g w r) g.inn w s2 ex → c.wp P (bodyPostD P m (Ret G g w r)) { tmps := us.toArray ++ Array.replicate (m.ntmps - us.toArray.size) undef,defers := [] } w := fun lo' he hg =>
               body_sound hm hc (run_quiet IP k) (hl lo') hIP hrc hb k1 hsize he hg
             have fin1 : ∀ {s2 s3:St} {lo' : Nat} {vs' : List AV},frzs lo' fn.frz s2 = some s3 → evalRess s3 fn.res = some vs' → ∀ (g2:Gh) (tm2:Array Value) (w2:World),Rel G g2 s2 [] tm2 w2 → Stay g.inn w g2 w2 →
                 (∀ cv g3,Rel G g3 ⟨[],s3.hp⟩ [(tupOf vs',cv)] #[] w2 → Stay g w g3 w2 → Ret G g w r (.returned cv) w2) → ∃ v,(results m tm2).run P w2 = .ok v w2 ∧ Ret G g w r (.returned v) w2 := fun hfz he g2 tm2 w2 k2 s2 hR => by
               obtain ⟨g4,k4,s4⟩ := k2.frzs hfz
               obtain ⟨cv,q1,q2,q3⟩ := run_results k4 hres hnodup he
               exact ⟨cv,q1,hR cv _ q2 (((s1.trans s2).trans s4).trans q3)⟩
             cases hst : fn.still with
             | false =>
               simp only [hst,Bool.false_eq_true,if_false] at h
               split at h
               · rename_i s2 he
                 split at h
                 · rename_i sz hfz
                   split at h
                   · rename_i vs' hv; cases h
                     refine fin lo he fun g2 tm2 w2 k2 s2 => fin1 hfz hv g2 tm2 w2 k2 s2 fun cv g3 k3 s3 => ?_
                     exact ⟨g3,_,_,rfl,k3,s3⟩
                   · cases h
                 · cases h
               · rename_i s2 he
                 split at h
                 · rename_i sz hfz
                   split at h
                   · rename_i vs' hv; cases h
                     refine fin lo he fun g2 tm2 w2 k2 s2 => fin1 hfz hv g2 tm2 w2 k2 s2 fun cv g3 k3 s3 => ?_
                     exact ⟨g3,_,_,rfl,k3,s3⟩
                   · cases h
                 · cases h
               · rename_i v s2 he; cases h
                 refine fin lo he fun g2 tm2 w2 k2 s2 cv hv hp => ?_
                 have sm := same_outw g2 w2 []
                 exact ⟨g2.outw [],v,_,cv,rfl,rfl,V.mono (sm.ext trivial) _ _ hv,hp,
                   ⟨fun s => by simp [Fr.get,VF,VX,V,Owns],fun j u cu hj => by simp at hj,k2.hp.same sm trivial (fun _ => trivial) (fun _ _ => trivial) (fun _ _ _ => trivial) rfl,fun b o hb => by show (g2.ow b o).outw [] = .out; rw [k2.fresh b o hb]; rfl,k2.gl.same sm trivial trivial⟩,
                   (s1.trans s2).trans (stay_of_same sm trivial trivial)⟩
               · cases h
             | true =>
               simp only [hst,if_true] at h
               have pre : ∀ {ex:Ex} {s2:St},evalF G IP (run G IP k).1 ((run G IP k).2 hp.length) hp.length fn { fr := Rf.enter 0 vs,hp } = some (ex,s2) → s2.hp.take hp.length = hp := fun he => by
                 obtain ⟨p1,p2⟩ := run_pre (G := G) IP k
                 have := (evalF_pre p1 (p2 _) he (Nat.le_refl _)).1
                 simpa using this
               have pre' : ∀ {ex:Ex} {s2 s3:St},evalF G IP (run G IP k).1 ((run G IP k).2 hp.length) hp.length fn { fr := Rf.enter 0 vs,hp } = some (ex,s2) → frzs hp.length fn.frz s2 = some s3 → s3.hp.take hp.length = hp := fun he hfz => by
                 obtain ⟨p1,p2⟩ := run_pre (G := G) IP k
                 have q1 := evalF_pre p1 (p2 _) he (Nat.le_refl _)
                 have q2 := frzs_pre hfz q1.2
                 have := (q1.trans q2).1
                 simpa using this
               have hb0 : g.hb.length ≤ hp.length := Nat.le_of_eq kk.hp.len
               have fin2 : ∀ {s2:St} {vs' : List AV},s2.hp.take hp.length = hp → (tupOf vs').closed hp.length = true → ∀ (w2:World) cv g3,Rel G g3 ⟨[],s2.hp⟩ [(tupOf vs',cv)] #[] w2 → Stay g w g3 w2 → Ret G g w (.ret (tupOf vs') hp) (.returned cv) w2 := fun hpre hcl w2 cv g3 k3 s3 =>
                 ⟨g3.cutb hp.length,_,hp,rfl,k3.cutb hpre kk.hp kk.gl (fun j v cv hj => by
                   cases j with
                   | zero => simp at hj; obtain ⟨rfl,rfl⟩ := hj; exact hcl
                   | succ j => simp at hj),s3.cutb hb0⟩
               split at h
               · rename_i s2 he
                 split at h
                 · rename_i sz hfz
                   split at h
                   · rename_i vs' hv
                     split at h
                     · rename_i hcl; cases h
                       exact fin _ he fun g2 tm2 w2 k2 s2 => fin1 hfz hv g2 tm2 w2 k2 s2 fun cv g3 k3 s3 => fin2 (pre' he hfz) hcl w2 cv g3 k3 s3
                     · cases h
                   · cases h
                 · cases h
               · rename_i s2 he
                 split at h
                 · rename_i sz hfz
                   split at h
                   · rename_i vs' hv
                     split at h
                     · rename_i hcl; cases h
                       exact fin _ he fun g2 tm2 w2 k2 s2 => fin1 hfz hv g2 tm2 w2 k2 s2 fun cv g3 k3 s3 => fin2 (pre' he hfz) hcl w2 cv g3 k3 s3
                     · cases h
                   · cases h
                 · cases h
               · rename_i v s2 he
                 split at h
                 · rename_i hcl; cases h
                   refine fin _ he fun g2 tm2 w2 k2 s2 cv hv hp' => ?_
                   have sm := same_outw g2 w2 []
                   have k3 : Rel G (g2.outw []) ⟨[],_⟩ [] #[] w2 := ⟨fun s => by simp [Fr.get,VF,VX,V,Owns],fun j u cu hj => by simp at hj,k2.hp.same sm trivial (fun _ => trivial) (fun _ _ => trivial) (fun _ _ _ => trivial) rfl,fun b o hb => by show (g2.ow b o).outw [] = .out; rw [k2.fresh b o hb]; rfl,k2.gl.same sm trivial trivial⟩
                   exact ⟨(g2.outw []).cutb hp.length,v,hp,cv,rfl,rfl,V.cutb _ _ hcl (V.mono (sm.ext trivial) _ _ hv),hp',k3.cutb (pre he) kk.hp kk.gl (fun j v cv hj => by simp at hj),
                     ((s1.trans s2).trans (stay_of_same sm trivial trivial)).cutb hb0⟩
                 · cases h
               · cases h
   · simp only [run,loopBody] at hr
     rw [rounds_succ]
     split at hr
     · rename_i s1 he
       refine code_sound hm hc (run_quiet IP k) (hl lo) hk kk hn he fun g' a' w' h1 h2 h3 h4 => ?_
       exact hl lo nt body code hk Q g' s1 a' w' ex st' h3 h1 hr (by rw [h2]; exact h.after h4)
     · rename_i hne
       refine code_sound hm hc (run_quiet IP k) (hl lo) hk kk hn hr (h.mono fun g' a' w' h5 => ?_)
       cases ex with
       | normal => exact absurd hr (by simpa using hne st')
       | exit i => exact h5
       | ret => exact h5
       | pan v => exact h5
end
end Go.Proofs.YtkofimhnehkdoaaGreatDoor.Rf
end
