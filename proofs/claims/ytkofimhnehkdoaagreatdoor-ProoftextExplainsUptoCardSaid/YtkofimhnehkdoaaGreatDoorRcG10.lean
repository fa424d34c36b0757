/- A part of the proof: see the last text. -/
import Derived.Test.YtkofimhnehkdoaaGreatDoorRcG9
import Derived.Orders
import Derived.LoopN
set_option linter.unusedVariables false
set_option linter.unusedSimpArgs false
section
namespace Go.Proofs.YtkofimhnehkdoaaGreatDoor.Rf
structure NK where
 n : Nat
 K : List Nat
structure NT extends NK where
 tm0 : Array Value
structure NT.ok (nt:NT) (tm:Array Value) : Prop where
 size : tm.size = nt.n
 keep : ∀ s,s ∈ nt.K → tm.getD s undef = nt.tm0.getD s undef
def ExQ (g:Gh) (w:World) (a:Act) (Q:Exit → Act → World → Prop) : Ex → Prop
 | .normal => Q .normal a w
 | .exit id => Q (.exit id) a w
 | .ret => Q .ret a w
 | .pan v => ∀ cv,V g w v cv → v.plain = true → Q (.panic [{ v := cv,recovered := false }]) a w
def Goes (G:Nat → Option (List AV)) (nt:NT) (df:List Deferred) (g:Gh) (w:World) (st:St) (ex:Ex) (Q:Exit → Act → World → Prop) : Prop :=
 ∀ g' a' w',nt.ok a'.tmps → a'.defers = df → Rel G g' st [] a'.tmps w' → Stay g w g' w' → ExQ g' w' a' Q ex
theorem Goes.after {G:Nat → Option (List AV)} {nt:NT} {df:List Deferred} {g g1:Gh} {w w1:World} {st:St} {ex:Ex} {Q:Exit → Act → World → Prop} (s:Stay g w g1 w1) (h:Goes G nt df g w st ex Q) : Goes G nt df g1 w1 st ex Q :=
 fun g' a' w' h1 h2 h3 h4 => h g' a' w' h1 h2 h3 (s.trans h4)
section
variable {P:Program} {G:Nat → Option (List AV)} {g g' : Gh} {st:St} {a:Act} {w w' : World} {o:Oper} {tm:Array Value} {call:CallF} {lo:Nat}
theorem VF.like3 {fr fr' : Fr} {tm' : Array Value} {r:Root} {v:AV} {cv:Value} (hb:∀ t o,v = .lref t o → ∀ cs,fr.get t = .box cs → ∃ cs',fr'.get t = .box cs')
   (hp:∀ t,v = .lastr t → ∀ xs sz,fr.get t = .pend xs sz → fr'.get t = .pend xs sz ∧ tm'.getD t undef = tm.getD t undef) (h:VF g w fr tm r v cv) : VF g w fr' tm' r v cv := by
 cases v <;> simp only [VF,VX] at h ⊢ <;> first
   | exact h
   | (obtain ⟨⟨h1,cs,h2⟩,h3⟩ := h; exact ⟨⟨h1,hb _ _ rfl cs h2⟩,h3⟩)
   | (obtain ⟨⟨xs,sz,a,c,h1,h2,h3⟩,h4⟩ := h; obtain ⟨p,q⟩ := hp _ rfl xs sz h1; exact ⟨⟨xs,sz,a,c,p,q.trans h2,h3⟩,h4⟩)
theorem keepOk_get {fr:Fr} {live:List Nat} : ∀ {l:List Nat},fr.keepOk l live = true → ∀ s ∈ l,(∀ t o,fr.get s = .lref t o → t ∈ live) ∧ ∀ t,fr.get s = .lastr t → t ∈ live
 | [],_,s,hs => by simp at hs
 | x :: l,h,s,hs => by
   simp only [Fr.keepOk,Bool.and_eq_true] at h
   rcases List.mem_cons.1 hs with rfl | hs
   · refine ⟨fun t o e => ?_,fun t e => ?_⟩
     · have := h.1; rw [e] at this; simpa using this
     · have := h.1; rw [e] at this; simpa using this
   · exact keepOk_get h.2 s hs
theorem Rel.keep (k:Rel G g st [] tm w) {live:List Nat} (h:st.fr.keepOk live live = true) : Rel G g { st with fr := st.fr.keep live } [] tm w := by
 refine ⟨fun s => ?_,fun j v cv hj => by simp at hj,k.hp,k.fresh,k.gl⟩
 simp only
 rw [Fr.get_keep]
 split
 · rename_i hs
   obtain ⟨h1,h2⟩ := keepOk_get h s hs
   refine VF.like3 (fun t o e cs hc => ⟨cs,?_⟩) (fun t e xs sz hc => ⟨?_,rfl⟩) (k.fr s)
   · rw [Fr.get_keep,if_pos (h1 t o e)]; exact hc
   · rw [Fr.get_keep,if_pos (h2 t e)]; exact hc
 · simp [VF,VX,V,Owns]
def chkGuard (nt:NK) (ops:Array Oper) : Option (Nat × Bool) → Option (Nat × Bool) → Bool
 | none,none => true
 | some (s,b),some (j,b') => decide (b = b') && decide (s < nt.n) && (match ops[j]? with | some q => decide (q.dst = some s) | none => false)
 | _,_ => false
def dstOk (nt:NK) : Option Nat → Bool
 | some d => decide (d < nt.n) && !nt.K.contains d
 | none => true
def chkOper (P:Program) (nt:NK) (ops:Array Oper) (i:IOper) (o:Oper) : Bool := decide (i.dst = o.dst) && dstOk nt i.dst && chkGuard nt ops i.guard o.guard && chkOp P i.op o.op
theorem wanted_ok {nt:NT} {ops:Array Oper} {ig:Option (Nat × Bool)} (hg:chkGuard nt.toNK ops ig o.guard = true) (k:Rel G g st [] a.tmps w) (hn:nt.ok a.tmps) {t:Bool} (h:wanted st.fr ig = some t) : Region.wanted o (yielded ops a.tmps) = t := by
 unfold Region.wanted
 cases ig with
 | none =>
   cases ho : o.guard with
   | none => simp [wanted] at h; simp [h]
   | some x => rw [ho] at hg; simp [chkGuard] at hg
 | some x =>
   obtain ⟨s,b⟩ := x
   cases ho : o.guard with
   | none => rw [ho] at hg; simp [chkGuard] at hg
   | some y =>
     obtain ⟨j,b'⟩ := y
     rw [ho] at hg
     simp only [chkGuard,Bool.and_eq_true,decide_eq_true_eq] at hg
     obtain ⟨⟨rfl,h2⟩,h3⟩ := hg
     cases hq : ops[j]? with
     | none => rw [hq] at h3; simp at h3
     | some q =>
       rw [hq] at h3; simp only [decide_eq_true_eq] at h3
       have f := k.fr s
       have hlt : s < a.tmps.size := by rw [hn.size]; exact h2
       have hget : a.tmps[s]? = some (a.tmps.getD s undef) := by simp [hlt]
       have hy : yielded ops a.tmps j = match a.tmps.getD s undef with | .bool b => some b | _ => none := by
         unfold yielded
         rw [hq]; simp only [Option.bind_some,h3,hget]
         cases a.tmps.getD s undef <;> rfl
       simp only [wanted] at h
       simp only [hy]
       cases hv : st.fr.get s <;> rw [hv] at h f <;> try (simp at h; done)
       case bool t' =>
         simp at h
         simp only [VF,VX,V] at f
         rw [f.1]; subst h; simp
       case tup vs =>
         cases vs with
         | nil =>
           simp at h; subst h
           simp only [VF,VX,V] at f
           obtain ⟨⟨us,e,h5⟩,_⟩ := f
           rw [e]; simp
         | cons x xs => simp at h
theorem St.put_ok {v:AV} {cv:Value} {d:Option Nat} {st' : St} {nt:NT} (k:Rel G g st [(v,cv)] a.tmps w) (hn:nt.ok a.tmps) (hd:dstOk nt.toNK d = true) (h:st.put d v = some st') :
   ∃ g',Rel G g' st' [] (a.put d cv).tmps w ∧ Stay g w g' w ∧ nt.ok (a.put d cv).tmps ∧ (a.put d cv).defers = a.defers := by
 cases d with
 | none => simp [St.put] at h; subst h; exact ⟨g,k.less,Stay.refl g w,hn,rfl⟩
 | some d =>
   simp only [St.put] at h
   split at h
   · rename_i hl; cases h
     simp only [dstOk,Bool.and_eq_true,decide_eq_true_eq,Bool.not_eq_true'] at hd
     obtain ⟨g',k',s,_⟩ := k.into hl (by rw [hn.size]; exact hd.1)
     refine ⟨g',k',s,⟨by simp [Act.put,hn.size],fun t ht => ?_⟩,rfl⟩
     have hne : d ≠ t := fun e => by
       have := hd.2; rw [e,List.contains_iff_mem.2 ht] at this; cases this
     rw [← hn.keep t ht]
     simp only [Act.put,Array.getD_eq_getD_getElem?,Array.getElem?_setIfInBounds]
     rw [if_neg hne]
   · cases h
theorem evalOps_cons {x:IOper} {r:List IOper} : evalOps G call lo (x :: r) st = match evalOps G call lo [x] st with | some (.normal,st') => evalOps G call lo r st' | e => e := by
 simp only [evalOps]
 cases wanted st.fr x.guard with
 | none => rfl
 | some t =>
   cases t
   · simp only []
     cases st.put x.dst (.tup []) <;> rfl
   · simp only []
     cases evalOp G call lo x.op st with
     | none => rfl
     | some e =>
       cases e with
       | val v st' => simp only []; cases st'.put x.dst v <;> rfl
       | pan v st' => rfl
theorem op1 (hc:CallOK P G call) {nt:NT} {ops:Array Oper} {i:Nat} {io:IOper} (hi:ops[i]? = some o) (hk:chkOper P nt.toNK ops io o = true) (k:Rel G g st [] a.tmps w) (hn:nt.ok a.tmps) {ex:Ex} {st' : St}
   (hr:evalOps G call lo [io] st = some (ex,st')) {K:Act → World → Prop} {Q:Exit → Act → World → Prop} (h:Goes G nt a.defers g w st' ex (fun e a w => match e with | .normal => K a w | e => Q e a w)) : wpOp P ops Q i K a w := by
 simp only [chkOper,Bool.and_eq_true,decide_eq_true_eq] at hk
 obtain ⟨⟨⟨h1,h2⟩,h3⟩,h4⟩ := hk
 unfold wpOp
 rw [hi]; simp only
 simp only [evalOps] at hr
 cases hw : wanted st.fr io.guard with
 | none => rw [hw] at hr; simp at hr
 | some t =>
   rw [wanted_ok h3 k hn hw]
   rw [hw] at hr
   cases t with
   | false =>
     simp only at hr
     cases hp : st.put io.dst (.tup []) with
     | none => rw [hp] at hr; simp at hr
     | some s2 =>
       rw [hp] at hr; simp at hr; obtain ⟨rfl,rfl⟩ := hr
       obtain ⟨g2,k2,s3,e1,e2⟩ := St.put_ok (k.push0 (v := .tup []) (cv := undef) VF_undef) hn h2 hp
       simp only [Bool.false_eq_true,if_false]
       rw [← h1]
       exact h g2 _ w e1 e2 k2 s3
   | true =>
     simp only at hr
     simp only [if_true]
     refine .inl ?_
     cases he : evalOp G call lo io.op st with
     | none => rw [he] at hr; simp at hr
     | some e =>
       rw [he] at hr
       refine op_sound hc k h4 he _ _ (fun g1 w1 v s1 cv e1 k1 t1 => ?_) (fun g1 w1 v s1 cv e1 hv hp k1 t1 => ?_)
       · subst e1
         simp only at hr
         cases hp : s1.put io.dst v with
         | none => rw [hp] at hr; simp at hr
         | some s2 =>
           rw [hp] at hr; simp at hr; obtain ⟨rfl,rfl⟩ := hr
           obtain ⟨g2,k2,s3,e1,e2⟩ := St.put_ok k1 hn h2 hp
           rw [← h1]
           exact h g2 _ w1 e1 e2 k2 (t1.trans s3)
       · subst e1
         simp at hr; obtain ⟨rfl,rfl⟩ := hr
         exact h g1 a w1 hn rfl k1 t1 cv hv hp
def chkOpers (P:Program) (nt:NK) (ops:Array Oper) : List IOper → List Oper → Bool
 | [],[] => true
 | i :: is,o :: os => chkOper P nt ops i o && chkOpers P nt ops is os
 | _,_ => false
theorem chkOpers_get {nt:NK} {ops:Array Oper} : ∀ {is:List IOper} {os:List Oper},chkOpers P nt ops is os = true → is.length = os.length ∧ ∀ (j:Nat) i o,is[j]? = some i → os[j]? = some o → chkOper P nt ops i o = true
 | [],[],_ => ⟨rfl,fun j i o h => by simp at h⟩
 | i :: is,o :: os,h => by
   simp only [chkOpers,Bool.and_eq_true] at h
   obtain ⟨h1,h2⟩ := chkOpers_get h.2
   refine ⟨by simp [h1],fun j x y hx hy => ?_⟩
   cases j with
   | zero => simp at hx hy; subst hx; subst hy; exact h.1
   | succ j => exact h2 j x y (by simpa using hx) (by simpa using hy)
 | [],_ :: _,h => by simp [chkOpers] at h
 | _ :: _,[],h => by simp [chkOpers] at h
theorem ops_sound (hc:CallOK P G call) {nt:NT} {ops:Array Oper} {Q:Exit → Act → World → Prop} : ∀ (l:List Nat) (is:List IOper),is.length = l.length → (∀ (j:Nat) i x,is[j]? = some i → l[j]? = some x → ∃ o,ops[x]? = some o ∧ chkOper P nt.toNK ops i o = true) →
   ∀ {g:Gh} {st:St} {a:Act} {w:World},Rel G g st [] a.tmps w → nt.ok a.tmps → ∀ {ex:Ex} {st' : St},evalOps G call lo is st = some (ex,st') → Goes G nt a.defers g w st' ex Q → wpOps P ops Q l a w
 | [],[],_,_,g,st,a,w,k,hn,ex,st',hr,h => by
   simp [evalOps] at hr; obtain ⟨rfl,rfl⟩ := hr
   exact h g a w hn rfl k (Stay.refl g w)
 | x :: l,i :: is,hl,hall,g,st,a,w,k,hn,ex,st',hr,h => by
   obtain ⟨o,ho,hko⟩ := hall 0 i x rfl rfl
   rw [wpOps_cons]
   rw [evalOps_cons] at hr
   cases h1 : evalOps G call lo [i] st with
   | none => rw [h1] at hr; simp at hr
   | some e =>
     obtain ⟨ex1,st1⟩ := e
     rw [h1] at hr
     refine op1 hc ho hko k hn h1 fun g1 a1 w1 e1 e2 k1 s1 => ?_
     cases ex1 with
     | normal =>
       simp only at hr
       exact ops_sound hc l is (by simpa using hl) (fun j i x a b => hall (j + 1) i x (by simpa using a) (by simpa using b)) k1 e1 hr (by rw [e2]; exact h.after s1)
     | pan v =>
       simp at hr; obtain ⟨rfl,rfl⟩ := hr
       exact h g1 a1 w1 e1 e2 k1 s1
     | exit id => simp at hr; obtain ⟨rfl,rfl⟩ := hr; exact h g1 a1 w1 e1 e2 k1 s1
     | ret => simp at hr; obtain ⟨rfl,rfl⟩ := hr; exact h g1 a1 w1 e1 e2 k1 s1
 | [],_ :: _,hl,_,_,_,_,_,_,_,_,_,_,_ => by simp at hl
 | _ :: _,[],hl,_,_,_,_,_,_,_,_,_,_,_ => by simp at hl
end
end Go.Proofs.YtkofimhnehkdoaaGreatDoor.Rf
end
section
namespace Go.Proofs.YtkofimhnehkdoaaGreatDoor.Rf
section
variable {P:Program} {G:Nat → Option (List AV)} {g g' : Gh} {st:St} {a:Act} {w w' : World} {o:Oper} {tm:Array Value} {call:CallF} {lo:Nat}
def Tag.inn : Tag → Tag
 | .box (.fr _) => .out
 | .tail (.fr _) _ => .out
 | .box (.arg j) => .box (.fr j)
 | .tail (.arg j) i => .tail (.fr j) i
 | t => t
def Gh.inn (g:Gh) : Gh := { g with ow := fun b o => (g.ow b o).inn }
def Tag.noroot : Tag → Prop
 | .box (.fr _) | .tail (.fr _) _ | .box (.arg _) | .tail (.arg _) _ => False
 | _ => True
theorem Tag.inn_noroot {t:Tag} (h:t.noroot) : t.inn = t := by
 cases t <;> try rfl
 case box r => cases r <;> first | rfl | exact h.elim
 case tail r i => cases r <;> first | rfl | exact h.elim
theorem same_inn (g:Gh) (w:World) : Same Tag.noroot g w g.inn w :=
 ⟨fun _ _ _ h => Tag.inn_noroot h,fun _ _ _ _ => rfl,fun _ _ _ _ _ => rfl,fun _ _ _ => rfl,fun _ _ _ h => h,fun _ => trivial,fun _ _ h => h⟩
theorem stay_of_same {T:Tag → Prop} (h:Same T g w g' w) (ho:T .out) (hi:T .imm) : Stay g w g' w :=
 { ow := fun b o hl ht => h.ow b o hl (by have he := h.te hi; revert ht; cases g.ow b o <;> simp [Tag.kept] <;> assumption)
   cell := fun _ _ _ _ => rfl,frz := fun _ _ _ _ _ => rfl,blk := fun _ _ _ => rfl,row := fun _ _ _ h => h,te := fun _ => trivial,hb := h.hb,os := rfl,tape := rfl,output := rfl,size := Nat.le_refl _ }
theorem get_enter : ∀ (k:Nat) (vs:List AV) (s:Nat),(enter k vs).get s = if k ≤ s then (vs[s - k]?).getD .none else .none
 | k,[],s => by simp [enter,Fr.get]
 | k, v :: r,s => by
   simp only [enter,Fr.get]
   by_cases h : k = s
   · subst h; simp
   · rw [if_neg h,get_enter (k + 1) r s]
     by_cases h2 : k ≤ s
     · rw [if_pos h2,if_pos (by omega),show s - k = (s - (k + 1)) + 1 by omega]; simp
     · rw [if_neg h2,if_neg (by omega)]
theorem Rel.enter {vs:List AV} {us:List Value} {hp:List HObj} (k:Rel G g ⟨[],hp⟩ (vs.zip us) #[] w) (hl:us.length = vs.length) (hpl:plains vs = true) (n:Nat) :
   Rel G g.inn ⟨Rf.enter 0 vs,hp⟩ [] (us.toArray ++ Array.replicate n undef) w ∧ Stay g w g.inn w := by
 have sm := same_inn g w
 refine ⟨⟨fun s => ?_,fun j v cv hj => by simp at hj,k.hp.same sm trivial (fun _ => trivial) (fun _ _ => trivial) (fun _ _ _ => trivial) rfl,fun b o hb => by show (g.ow b o).inn = _; rw [k.fresh b o hb]; rfl,k.gl.same sm trivial trivial⟩,stay_of_same sm trivial trivial⟩
 simp only
 rw [get_enter]
 simp only [Nat.zero_le,if_true,Nat.sub_zero]
 cases hv : vs[s]? with
 | none => simp [VF,VX,V,Owns]
 | some v =>
   have hs := (List.getElem?_eq_some_iff.1 hv).1
   have hu : us[s]? = some us[s] := List.getElem?_eq_getElem (by omega)
   have hpv : v.plain = true := by
     simp only [plains,List.all_eq_true] at hpl; exact hpl v (List.mem_of_getElem? hv)
   have f := k.ps s v us[s] (by rw [List.getElem?_zip_eq_some]; exact ⟨hv,hu⟩)
   rw [VF_loose (AV.loose_of_plain hpv),VX_plain hpv] at f
   have htm : (us.toArray ++ Array.replicate n undef).getD s undef = us[s] := by
     have : s < us.length := by omega
     simp [Array.getElem?_append,this]
   simp only [Option.getD_some]
   rw [htm,VF_loose (AV.loose_of_plain hpv),VX_plain hpv]
   refine ⟨V.mono (sm.ext trivial) _ _ f.1,?_⟩
   have tl : ∀ i xs sz cv,Tail g w (.arg s) i xs sz cv → Tail g.inn w (.fr s) i xs sz cv := fun i xs sz cv h a n c e => by
     obtain ⟨h1,h2⟩ := h a n c e
     refine ⟨VE.mono (sm.ext trivial) _ _ _ _ h1,fun o ho ho' => ?_⟩
     obtain ⟨p,q⟩ := h2 o ho ho'
     exact ⟨by show (g.ow _ _).inn = _; rw [p]; rfl,q⟩
   have fo := f.2
   unfold Owns at *
   split
   · exact tl _ _ _ _ fo
   · rename_i vs' 
     exact fun us e => fun i xs sz e0 cv h1 h2 => tl _ _ _ _ (fo us e i xs sz e0 cv h1 h2)
   · trivial
def IRes.slot : IRes → Nat
 | .tmp s => s
 | .cell s _ _ => s
def find (s:Nat) : List Nat → Nat → Option Nat
 | [],_ => none
 | x :: r,i => if x = s then some i else find s r (i + 1)
theorem find_get {s:Nat} : ∀ {l:List Nat} {i k:Nat},l.Nodup → l[i]? = some s → find s l k = some (k + i)
 | [],_,_,_,h => by simp at h
 | x :: r,0,k,_,h => by simp at h; subst h; simp [find]
 | x :: r,i + 1,k,hn,h => by
   simp at h
   have hx : x ≠ s := fun e => by subst e; exact (List.nodup_cons.1 hn).1 (List.mem_of_getElem? h)
   simp only [find,if_neg hx]
   rw [find_get (List.nodup_cons.1 hn).2 h]; congr 1; omega
def Tag.outw (l:List Nat) : Tag → Tag
 | .box (.fr _) => .out
 | .tail (.fr s) i => if i = 0 then (match find s l 0 with | some j => .tail (.arg 0) j | none => .out) else .out
 | .box (.arg _) => .out
 | .tail (.arg _) _ => .out
 | t => t
def Gh.outw (g:Gh) (l:List Nat) : Gh := { g with ow := fun b o => (g.ow b o).outw l }
theorem Tag.outw_noroot {l:List Nat} {t:Tag} (h:t.noroot) : t.outw l = t := by
 cases t <;> try rfl
 case box r => cases r <;> first | rfl | exact h.elim
 case tail r i => cases r <;> first | rfl | exact h.elim
theorem same_outw (g:Gh) (w:World) (l:List Nat) : Same Tag.noroot g w (g.outw l) w :=
 ⟨fun _ _ _ h => Tag.outw_noroot h,fun _ _ _ _ => rfl,fun _ _ _ _ _ => rfl,fun _ _ _ => rfl,fun _ _ _ h => h,fun _ => trivial,fun _ _ h => h⟩
theorem Tail.outw {l:List Nat} (hn:l.Nodup) {s i:Nat} (hi:l[i]? = some s) {xs:List AV} {sz:Nat} {cv:Value} (h:Tail g w (.fr s) 0 xs sz cv) : Tail (g.outw l) w (.arg 0) i xs sz cv := by
 intro a n c e
 obtain ⟨h1,h2⟩ := h a n c e
 refine ⟨VE.mono ((same_outw g w l).ext trivial) _ _ _ _ h1,fun o ho ho' => ?_⟩
 obtain ⟨p,q⟩ := h2 o ho ho'
 exact ⟨by show (g.ow _ _).outw l = _; rw [p]; simp [Tag.outw,find_get hn hi],q⟩
def chkRes (P:Program) : List IRes → List ResultVar → Bool
 | [],[] => true
 | .tmp s :: r,.tmp t :: q => decide (s = t) && chkRes P r q
 | .cell s n agg :: r,.cell t ty :: q => decide (s = t) && tyOk P ty n agg && chkRes P r q
 | _,_ => false
def resSem (tm:Array Value) : ResultVar → Sem Value
 | .tmp t => pure (tm.getD t undef)
 | .cell a t => do loadVar t (← asAddr (tm.getD a undef))
def ResOk (g:Gh) (w:World) (s:Nat) (v:AV) (cv:Value) : Prop :=
 V g w v cv ∧ v.plain = true ∧ ∀ xs sz e,v = .list xs (.own sz e) → Tail g w (.fr s) 0 xs sz cv
theorem tyOk_one {t:TypeId} {n:Nat} (h:tyOk P t n false = true) : n = 1 := by
 unfold tyOk at h
 cases hi : P.info? t <;> cases hu : P.underlying t <;> simp [hi,hu] at h
 rename_i i d; cases d <;> simp_all
theorem ofCells_plain {agg:Bool} {l:List AV} {us:List Value} (hv:VS g w l us) (h1:Ones us) (hn:agg = false → us.length = 1) : V g w (ofCells agg l) (if agg then .agg us.toArray else us.headD undef) := by
 cases agg with
 | true => simp only [ofCells,if_true,V]; exact ⟨us,rfl,hv,h1⟩
 | false =>
   have hu := hn rfl
   match us,hu with
   | [u],_ =>
     match l,hv.len with
     | [c],_ =>
       simp only [VS] at hv; obtain ⟨u',r',e,hv,_⟩ := hv; cases e
       simpa [ofCells] using hv
theorem run_res (k:Rel G g st [] tm w) {r:IRes} {q:ResultVar} (hc:chkRes P [r] [q] = true) {v:AV} (h:evalRes1 st r = some v) : ∃ cv,(resSem tm q).run P w = .ok cv w ∧ ResOk g w r.slot v cv := by
 cases r with
 | tmp s =>
   cases q <;> simp [chkRes] at hc
   subst hc
   simp only [evalRes1] at h
   split at h
   · rename_i hp; cases h
     have f := k.fr s
     rw [VF_loose (AV.loose_of_plain hp),VX_plain hp] at f
     refine ⟨_,rfl,f.1,hp,fun xs sz e0 e => ?_⟩
     have f2 := f.2; rw [e] at f2; exact f2
   · cases h
 | cell s n agg =>
   cases q <;> simp [chkRes] at hc
   rename_i t ty
   obtain ⟨rfl,ht⟩ := hc
   simp only [evalRes1] at h
   split at h
   · rename_i cs hs
     split at h
     · rename_i hn; cases h
       have f := k.fr s
       rw [hs] at f
       simp only [VF] at f
       obtain ⟨vs,ty',f1,f2,f3,f4,f5⟩ := f
       have hl : vs.length = n := by rw [f3.1.len]; exact hn.1
       refine ⟨_,?_,ofCells_plain f3.1 f3.2 (fun e => by subst e; rw [hl]; exact tyOk_one ht),?_,fun xs sz e0 e => ?_⟩
       · simp only [resSem,f1,asAddr,Sem.run_bind,Sem.run_pure,Result.andThen_ok]
         exact run_loadVar_at ht hl (fun i u hu => by simp [World.cell?,f2,hu])
       · exact hn.2
       · cases agg with
         | true => simp [ofCells] at e
         | false =>
           have hn1 := tyOk_one ht
           subst hn1
           match cs,hn.1 with
           | [c],_ =>
             match vs,hl with
             | [u],_ =>
               simp only [ofCells,Bool.false_eq_true,if_false,List.headD] at e
               subst e
               exact f5 0 xs sz _ u rfl rfl
     · cases h
   · rename_i id o' hs
     split at h
     · rename_i cs ho
       split at h
       · rename_i l hl
         split at h
         case isFalse => cases h
         rename_i hpl
         cases h
         have f := k.fr s
         rw [hs,VF_loose rfl] at f
         obtain ⟨b,q,e1,us,e2,e3,e4,e5⟩ := k.cutAt (p := .ptr id o') f.1 (cs := cs) (off := o') (by simp only [Rf.behind,ho]) hl
         refine ⟨_,?_,ofCells_plain e4.cp1 e5 (fun e => by subst e; rw [e2]; exact tyOk_one ht),?_,fun xs sz e0 e => ?_⟩
         · simp only [resSem,e1,asAddr,Sem.run_bind,Sem.run_pure,Result.andThen_ok]
           exact run_loadVar_at ht e2 e3
         · exact hpl
         · cases agg with
           | true => simp [ofCells] at e
           | false =>
             cases l with
             | nil => simp [ofCells] at e
             | cons c r => simp [ofCells] at e; exact absurd e (AV.cp1_not_own _ _ _ _)
       · cases h
     · cases h
   · cases h
end
end Go.Proofs.YtkofimhnehkdoaaGreatDoor.Rf
end
section
namespace Go.Proofs.YtkofimhnehkdoaaGreatDoor.Rf
section
variable {P:Program} {G:Nat → Option (List AV)} {g g' : Gh} {st:St} {a:Act} {w w' : World} {o:Oper} {tm:Array Value} {call:CallF} {lo:Nat}
theorem chkRes_cons {r:IRes} {rs:List IRes} {q:ResultVar} {qs:List ResultVar} (h:chkRes P (r :: rs) (q :: qs) = true) : chkRes P [r] [q] = true ∧ chkRes P rs qs = true := by
 cases r <;> cases q <;> simp [chkRes] at h ⊢
 · exact h
 · exact ⟨⟨h.1.1,h.1.2⟩,h.2⟩
theorem run_ress (k:Rel G g st [] tm w) : ∀ {rs:List IRes} {qs:List ResultVar} {vs:List AV},chkRes P rs qs = true → evalRess st rs = some vs →
   ∃ cvs : List Value,(qs.mapM (resSem tm)).run P w = .ok cvs w ∧ cvs.length = vs.length ∧ rs.length = vs.length ∧ ∀ (i:Nat) v cv r,vs[i]? = some v → cvs[i]? = some cv → rs[i]? = some r → ResOk g w r.slot v cv
 | [],[],vs,_,h => by simp [evalRess] at h; subst h; exact ⟨[],by simp,rfl,rfl,fun i v cv r h => by simp at h⟩
 | r :: rs,q :: qs,vs,hc,h => by
   obtain ⟨c1,c2⟩ := chkRes_cons hc
   simp only [evalRess] at h
   cases h1 : evalRes1 st r with
   | none => simp [h1] at h
   | some v =>
     cases h2 : evalRess st rs with
     | none => simp [h1,h2] at h
     | some vs' =>
       simp [h1,h2] at h; subst h
       obtain ⟨cv,e1,e2⟩ := run_res k c1 h1
       obtain ⟨cvs,f1,f2,f3,f4⟩ := run_ress k c2 h2
       refine ⟨cv :: cvs,?_,by simp [f2],by simp [f3],fun i v' cv' r' a b c => ?_⟩
       · simp only [List.mapM_cons,Sem.run_bind,e1,Result.andThen_ok,f1,Sem.run_pure]
       · cases i with
         | zero => simp at a b c; subst a; subst b; subst c; exact e2
         | succ i => exact f4 i v' cv' r' (by simpa using a) (by simpa using b) (by simpa using c)
 | [],_ :: _,_,hc,_ => by simp [chkRes] at hc
 | r :: _,[],_,hc,_ => by cases r <;> simp [chkRes] at hc
theorem run_results (k:Rel G g st [] tm w) {fn:Func} {rs:List IRes} (hc:chkRes P rs fn.results.toList = true) (hn:(rs.map IRes.slot).Nodup) {vs:List AV} (h:evalRess st rs = some vs) :
   ∃ cv,(results fn tm).run P w = .ok cv w ∧ Rel G (g.outw (rs.map IRes.slot)) ⟨[],st.hp⟩ [(tupOf vs,cv)] #[] w ∧ Stay g w (g.outw (rs.map IRes.slot)) w := by
 obtain ⟨cvs,e1,e2,e3,e4⟩ := run_ress k hc h
 have sm := same_outw g w (rs.map IRes.slot)
 have hV : ∀ (i:Nat) v cv,vs[i]? = some v → cvs[i]? = some cv → V (g.outw (rs.map IRes.slot)) w v cv ∧ v.plain = true ∧ ∀ xs sz e,v = .list xs (.own sz e) → Tail (g.outw (rs.map IRes.slot)) w (.arg 0) i xs sz cv := by
   intro i v cv h1 h2
   have hi := (List.getElem?_eq_some_iff.1 h1).1
   have hr : rs[i]? = some rs[i] := List.getElem?_eq_getElem (by omega)
   obtain ⟨p1,p2,p3⟩ := e4 i v cv _ h1 h2 hr
   exact ⟨V.mono (sm.ext trivial) _ _ p1,p2,fun xs sz e0 e => Tail.outw hn (by rw [List.getElem?_map,hr]; rfl) (p3 xs sz e0 e)⟩
 have hrel : ∀ v cv,VF (g.outw (rs.map IRes.slot)) w [] #[] (.arg 0) v cv → Rel G (g.outw (rs.map IRes.slot)) ⟨[],st.hp⟩ [(v,cv)] #[] w := fun v cv hf =>
   ⟨fun s => by simp [Fr.get,VF,VX,V,Owns],fun j u cu hj => by
     cases j with
     | zero => simp at hj; obtain ⟨rfl,rfl⟩ := hj; exact hf
     | succ j => simp at hj,k.hp.same sm trivial (fun _ => trivial) (fun _ _ => trivial) (fun _ _ _ => trivial) rfl,fun b o hb => by show (g.ow b o).outw _ = _; rw [k.fresh b o hb]; rfl,k.gl.same sm trivial trivial⟩
 have hrun : ∀ cv,(if h:cvs.toArray.size = 1 then cvs.toArray[0] else Value.tuple cvs.toArray) = cv → (results fn tm).run P w = .ok cv w := fun cv hcv => by
   have hres : results fn tm = (fn.results.mapM (resSem tm) >>= fun vs => pure (if h:vs.size = 1 then vs[0] else .tuple vs)) := rfl
   have e5 : (fn.results.mapM (resSem tm)).run P w = .ok cvs.toArray w := by
     rw [Array.mapM_eq_mapM_toList]
     simp only [Sem.run_map,e1,Result.andThen_ok]
   rw [hres,Sem.run_bind,e5]
   simp only [Result.andThen_ok,Sem.run_pure,hcv]
 match vs,cvs,e2,hV,hrun with
 | [v],[cv],_,hV,hrun =>
   obtain ⟨p1,p2,p3⟩ := hV 0 v cv rfl rfl
   refine ⟨cv,hrun cv (by simp),hrel _ _ ?_,stay_of_same sm trivial trivial⟩
   simp only [tupOf]
   rw [VF_loose (AV.loose_of_plain p2),VX_plain p2]
   refine ⟨p1,?_⟩
   unfold Owns
   split
   · exact p3 _ _ _ rfl
   · simp [AV.plain] at p2
   · trivial
 | [],[],_,hV,hrun =>
   refine ⟨.tuple #[],hrun _ (by simp),hrel _ _ ?_,stay_of_same sm trivial trivial⟩
   simp only [tupOf]
   rw [VF_loose rfl]
   exact ⟨by simp only [VX,V]; exact ⟨[],rfl,by simp [VS]⟩,fun us e => OwnsL.none (by simp)⟩
 | v :: v2 :: vs,cv :: cv2 :: cvs,hl,hV,hrun =>
   refine ⟨.tuple (cv :: cv2 :: cvs).toArray,hrun _ (by simp),hrel _ _ ?_,stay_of_same sm trivial trivial⟩
   simp only [tupOf]
   rw [VF_loose rfl]
   refine ⟨?_,fun us e => ?_⟩
   · simp only [VX,V]
     exact ⟨cv :: cv2 :: cvs,rfl,VS.mk hl fun i x y hx hy => (hV i x y hx hy).1⟩
   · injection e with e
     have e' : us = cv :: cv2 :: cvs := by
       have := congrArg Array.toList e; simpa using this.symm
     subst e'
     exact fun i xs sz e c h1 h2 => (hV i _ c h1 h2).2.2 xs sz e rfl
mutual
theorem V.closed {n:Nat} (hn:g.hb.length ≤ n) : ∀ (v:AV) (cv:Value),V g w v cv → v.closed n = true
 | .none,_ => fun _ => by simp [AV.closed]
 | .bool _,_ => fun _ => by simp [AV.closed]
 | .int _ _,_ => fun _ => by simp [AV.closed]
 | .str _,_ => fun _ => by simp [AV.closed]
 | .agg cs,_ => by simp only [V,AV.closed]; rintro ⟨vs,_,k,_⟩; exact VS.closed hn cs vs k
 | .list xs o,_ => by
   simp only [V,AV.closed]; rintro ⟨A,c,_,h2,_,_,h5,h6⟩
   cases A with
   | none =>
     have : xs = [] := by have := h5 rfl; subst this; exact List.length_eq_zero_iff.1 (by omega)
     subst this; simp [AV.closedL]
   | some a =>
     obtain ⟨_,_,sz,hv⟩ := h6 a rfl
     exact VE.closed hn sz xs _ _ hv
 | .ptr id _,_ => by
   simp only [V,AV.closed]; rintro ⟨b,h,_⟩
   have := (List.getElem?_eq_some_iff.1 h).1
   simp; omega
 | .sref id _ _ _,_ => by
   simp only [V,AV.closed]; rintro ⟨b,o,c,⟨h,_⟩,_⟩
   have := (List.getElem?_eq_some_iff.1 h).1
   simp; omega
 | .nilp,_ => fun _ => by simp [AV.closed]
 | .map id,_ => by
   simp only [V,AV.closed]; rintro ⟨b,h,_⟩
   have := (List.getElem?_eq_some_iff.1 h).1
   simp; omega
 | .nilm,_ => fun _ => by simp [AV.closed]
 | .func _ cs,_ => by simp only [V,AV.closed]; rintro ⟨vs,_,k⟩; exact VS.closed hn cs vs k
 | .nilf,_ => fun _ => by simp [AV.closed]
 | .iface _ v,_ => by simp only [V,AV.closed]; rintro ⟨u,_,k⟩; exact V.closed hn v u k
 | .nili,_ => fun _ => by simp [AV.closed]
 | .tup cs,_ => by simp only [V,AV.closed]; rintro ⟨vs,_,k⟩; exact VS.closed hn cs vs k
 | .glob _ _,_ => fun _ => by simp [AV.closed]
 | .pend _ _,_ => fun h => by simp [V] at h
 | .room _ _,_ => fun h => by simp [V] at h
 | .lref _ _,_ => fun h => by simp [V] at h
 | .box _,_ => fun h => by simp [V] at h
 | .eref _ _,_ => fun h => by simp [V] at h
 | .data _ _,_ => fun h => by simp [V] at h
 | .lastr _,_ => fun h => by simp [V] at h
theorem VS.closed {n:Nat} (hn:g.hb.length ≤ n) : ∀ (vs:List AV) (us:List Value),VS g w vs us → AV.closedL n vs = true
 | [],_ => fun _ => by simp [AV.closedL]
 | v :: vs,_ => by simp only [VS,AV.closedL,Bool.and_eq_true]; rintro ⟨u,r,_,k,l⟩; exact ⟨V.closed hn v u k,VS.closed hn vs r l⟩
theorem VC.closed {n:Nat} (hn:g.hb.length ≤ n) : ∀ (vs:List AV) (b off:Nat),VC g w vs b off → AV.closedL n vs = true
 | [],_,_ => fun _ => by simp [AV.closedL]
 | v :: vs,b,off => by
   simp only [VC,AV.closedL,Bool.and_eq_true]; rintro ⟨⟨_,cv,_,_,l⟩,m⟩
   exact ⟨V.closed hn v cv l,VC.closed hn vs _ _ m⟩
theorem VE.closed {n:Nat} (hn:g.hb.length ≤ n) (sz:Nat) : ∀ (vs:List AV) (b off:Nat),VE g w sz vs b off → AV.closedL n vs = true
 | [],_,_ => fun _ => by simp [AV.closedL]
 | .agg cs :: vs,b,off => by
   simp only [VE,AV.closedL,Bool.and_eq_true]; rintro ⟨⟨_,k⟩,m⟩
   exact ⟨by simp only [AV.closed]; exact VC.closed hn cs _ _ k,VE.closed hn sz vs _ _ m⟩
 | v :: vs,b,off => by
   intro h
   have hv := V.closed hn v
   have hm := VE.closed hn sz vs b (off + sz)
   cases v <;> simp only [VE] at h <;> simp only [AV.closedL,Bool.and_eq_true] <;> first
     | (obtain ⟨⟨_,_,cv,_,_,h4⟩,m⟩ := h; exact ⟨hv cv h4,hm m⟩)
     | (obtain ⟨⟨_,h2⟩,m⟩ := h; exact ⟨by simp only [AV.closed]; exact VC.closed hn _ _ _ h2,hm m⟩)
end
def Tag.cutb (n:Nat) : Tag → Tag
 | .obj id => if id < n then .obj id else .out
 | .tail (.ob id) i => if id < n then .tail (.ob id) i else .out
 | .tail (.mp id k) i => if id < n then .tail (.mp id k) i else .out
 | t => t
def Gh.cutb (g:Gh) (n:Nat) : Gh := { ow := fun b o => (g.ow b o).cutb n,hb := g.hb.take n,bx := g.bx }
theorem cutb_imm {n:Nat} {b o:Nat} (h:(g.ow b o).ro) : ((g.cutb n).ow b o).ro := by
 show ((g.ow b o).cutb n).ro
 revert h; cases g.ow b o <;> intro h <;> first | trivial | exact h.elim
theorem View.cutb {n m e:Nat} {a:Addr} (h:View g w m e a) : View (g.cutb n) w m e a := by
 obtain ⟨h1,h2,h3,h4⟩ := h
 exact ⟨h1,h2,h3,fun o ho => by show (g.ow _ _).cutb n = _; rw [h4 o ho]; rfl⟩
mutual
theorem V.cutb {n:Nat} : ∀ (v:AV) (cv:Value),v.closed n = true → V g w v cv → V (g.cutb n) w v cv
 | .none,_ => fun _ _ => by simp [V]
 | .bool _,_ => fun _ => by simp only [V]; exact id
 | .int _ _,_ => fun _ => by simp only [V]; exact id
 | .str _,_ => fun _ => by simp only [V]; exact id
 | .agg cs,_ => by simp only [V,AV.closed]; rintro hc ⟨vs,h,k,l⟩; exact ⟨vs,h,VS.cutb cs vs hc k,l⟩
 | .list xs o,_ => by
   simp only [V,AV.closed]; rintro hc ⟨A,c,h1,h2,h3,h4,h5,h6⟩
   refine ⟨A,c,h1,h2,h3,h4,h5,fun a ha => ?_⟩
   obtain ⟨hs,hw,sz,hv⟩ := h6 a ha
   exact ⟨hs,fun hn => (hw hn).cutb,sz,VE.cutb sz xs _ _ hc hv⟩
 | .ptr id _,_ => by simp only [V,AV.closed]; rintro hc ⟨b,h,k⟩; exact ⟨b,by simp at hc; simp only [Gh.cutb]; rw [List.getElem?_take,if_pos hc]; exact h,k⟩
 | .sref id _ _ _,_ => by simp only [V,AV.closed]; rintro hc ⟨b,o,c,⟨h,h2⟩,k⟩; exact ⟨b,o,c,⟨by simp at hc; simp only [Gh.cutb]; rw [List.getElem?_take,if_pos hc]; exact h,h2⟩,k⟩
 | .nilp,_ => fun _ => by simp only [V]; exact id
 | .map id,_ => by simp only [V,AV.closed]; rintro hc ⟨b,h,k⟩; exact ⟨b,by simp at hc; simp only [Gh.cutb]; rw [List.getElem?_take,if_pos hc]; exact h,k⟩
 | .nilm,_ => fun _ => by simp only [V]; exact id
 | .func _ cs,_ => by simp only [V,AV.closed]; rintro hc ⟨vs,h,k⟩; exact ⟨vs,h,VS.cutb cs vs hc k⟩
 | .nilf,_ => fun _ => by simp only [V]; exact id
 | .iface _ v,_ => by simp only [V,AV.closed]; rintro hc ⟨u,h,k⟩; exact ⟨u,h,V.cutb v u hc k⟩
 | .nili,_ => fun _ => by simp only [V]; exact id
 | .tup cs,_ => by simp only [V,AV.closed]; rintro hc ⟨vs,h,k⟩; exact ⟨vs,h,VS.cutb cs vs hc k⟩
 | .glob _ _,_ => fun _ => by simp only [V]; exact id
 | .pend _ _,_ => fun h => by simp [AV.closed] at h
 | .room _ _,_ => fun h => by simp [AV.closed] at h
 | .lref _ _,_ => fun h => by simp [AV.closed] at h
 | .box _,_ => fun h => by simp [AV.closed] at h
 | .eref _ _,_ => fun h => by simp [AV.closed] at h
 | .data _ _,_ => fun h => by simp [AV.closed] at h
 | .lastr _,_ => fun h => by simp [AV.closed] at h
theorem VS.cutb {n:Nat} : ∀ (vs:List AV) (us:List Value),AV.closedL n vs = true → VS g w vs us → VS (g.cutb n) w vs us
 | [],_ => fun _ => by simp only [VS]; exact id
 | v :: vs,_ => by
   simp only [VS,AV.closedL,Bool.and_eq_true]; rintro hc ⟨u,r,h,k,l⟩
   exact ⟨u,r,h,V.cutb v u hc.1 k,VS.cutb vs r hc.2 l⟩
theorem VC.cutb {n:Nat} : ∀ (vs:List AV) (b off:Nat),AV.closedL n vs = true → VC g w vs b off → VC (g.cutb n) w vs b off
 | [],_,_ => fun _ => by simp only [VC]; exact id
 | v :: vs,b,off => by
   simp only [VC,AV.closedL,Bool.and_eq_true]; rintro hc ⟨⟨h,cv,k,l0,l⟩,m⟩
   exact ⟨⟨cutb_imm h,cv,k,l0,V.cutb v cv hc.1 l⟩,VC.cutb vs _ _ hc.2 m⟩
theorem VE.cutb {n:Nat} (sz:Nat) : ∀ (vs:List AV) (b off:Nat),AV.closedL n vs = true → VE g w sz vs b off → VE (g.cutb n) w sz vs b off
 | [],_,_ => fun _ => by simp only [VE]; exact id
 | .agg cs :: vs,b,off => by
   simp only [VE,AV.closedL,Bool.and_eq_true,AV.closed]; rintro hc ⟨⟨h,k⟩,m⟩
   exact ⟨⟨h,VC.cutb cs _ _ hc.1 k⟩,VE.cutb sz vs _ _ hc.2 m⟩
 | v :: vs,b,off => by
   intro hc h
   simp only [AV.closedL,Bool.and_eq_true] at hc
   have hv := V.cutb (n := n) v
   have hm := VE.cutb sz vs b (off + sz) hc.2
   cases v <;> simp only [VE] at h ⊢ <;> first
     | (obtain ⟨⟨h1,h2,cv,h3,h0,h4⟩,m⟩ := h; exact ⟨⟨h1,cutb_imm h2,cv,h3,h0,hv cv hc.1 h4⟩,hm m⟩)
     | (obtain ⟨⟨h1,h2⟩,m⟩ := h; exact ⟨⟨h1,VC.cutb _ _ _ (by simpa only [AV.closed] using hc.1) h2⟩,hm m⟩)
end
end
end Go.Proofs.YtkofimhnehkdoaaGreatDoor.Rf
end
section
namespace Go.Proofs.YtkofimhnehkdoaaGreatDoor.Rf
def HObj.closed (n:Nat) : HObj → Prop
 | .dead => True
 | .cells _ cs => AV.closedL n cs = true
 | .map es => ∀ (i:Nat) k v,es[i]? = some (k,v) → k.closed n = true ∧ v.closed n = true
def OpR.stt : OpR → St
 | .val _ s => s
 | .pan _ s => s
def COut.hp : COut → List HObj
 | .ret _ h => h
 | .pan _ h => h
section
variable {P:Program} {G:Nat → Option (List AV)} {g g' : Gh} {st:St} {a:Act} {w w' : World} {o:Oper} {tm:Array Value} {call:CallF} {lo:Nat}
theorem HeapRel.closed {hp:List HObj} (k:HeapRel g w hp) {id:Nat} {o:HObj} (h:hp[id]? = some o) : o.closed hp.length := by
 have hn : g.hb.length ≤ hp.length := Nat.le_of_eq k.len
 have ko := k.obj id o h
 cases o with
 | dead => trivial
 | cells t cs =>
   obtain ⟨b,_,_,k3⟩ := ko rfl
   simp only [ObjRel] at k3; obtain ⟨vs,sp,ty,_,⟨h1,_⟩,_⟩ := k3
   exact VS.closed hn cs vs h1
 | map es =>
   obtain ⟨b,_,_,k3⟩ := ko rfl
   simp only [ObjRel] at k3; obtain ⟨ents,clock,_,_,h1⟩ := k3
   intro i kk v he
   obtain ⟨e,_,e2,e3,_⟩ := h1 i kk v he
   exact ⟨V.closed hn _ _ e2,V.closed hn _ _ e3⟩
theorem Tail.cutb {n:Nat} {r:Root} (hr:∀ i,(Tag.tail r i).cutb n = .tail r i) {i:Nat} {xs:List AV} {sz:Nat} {cv:Value} (hc:AV.closedL n xs = true) (h:Tail g w r i xs sz cv) : Tail (g.cutb n) w r i xs sz cv := by
 intro a m c e
 obtain ⟨h1,h2⟩ := h a m c e
 refine ⟨VE.cutb _ _ _ _ hc h1,fun o ho ho' => ?_⟩
 obtain ⟨p,q⟩ := h2 o ho ho'
 exact ⟨by show (g.ow _ _).cutb n = _; rw [p]; exact hr i,q⟩
theorem closedL_get {n:Nat} : ∀ {cs:List AV} {i:Nat} {v:AV},AV.closedL n cs = true → cs[i]? = some v → v.closed n = true
 | [],_,_,_,h => by simp at h
 | c :: cs,0,v,h,hv => by simp only [AV.closedL,Bool.and_eq_true] at h; simp at hv; subst hv; exact h.1
 | c :: cs,i + 1,v,h,hv => by simp only [AV.closedL,Bool.and_eq_true] at h; exact closedL_get h.2 (by simpa using hv)
theorem OwnsL.cutb {n:Nat} {r:Root} (hr:∀ i,(Tag.tail r i).cutb n = .tail r i) {cs:List AV} {vs:List Value} (hc:AV.closedL n cs = true) (h:OwnsL g w r cs vs) : OwnsL (g.cutb n) w r cs vs := fun i xs sz e cv h1 h2 =>
 Tail.cutb hr (by have := closedL_get hc h1; simpa only [AV.closed] using this) (h i xs sz e cv h1 h2)
theorem Owns.cutb {n:Nat} {r:Root} (hr:∀ i,(Tag.tail r i).cutb n = .tail r i) {v:AV} {cv:Value} (hc:v.closed n = true) (h:Owns g w r v cv) : Owns (g.cutb n) w r v cv := by
 unfold Owns at *
 split
 · exact Tail.cutb hr (by simpa only [AV.closed] using hc) h
 · exact fun us e => OwnsL.cutb hr (by simpa only [AV.closed] using hc) (h us e)
 · trivial
theorem take_get {α:Type} {l m:List α} (h:m.take l.length = l) {i:Nat} {x:α} (hx:l[i]? = some x) : m[i]? = some x := by
 rw [← h,List.getElem?_take] at hx
 split at hx
 · exact hx
 · cases hx
theorem Rel.cutb {hp hp' : List HObj} {qs:List (AV × Value)} (k:Rel G g ⟨[],hp'⟩ qs #[] w) (hpre:hp'.take hp.length = hp) {g0:Gh} {w0:World} (k0:HeapRel g0 w0 hp) (gl0:GlobRel G g0 w0)
   (hq:∀ (j:Nat) v cv,qs[j]? = some (v,cv) → v.closed hp.length = true) : Rel G (g.cutb hp.length) ⟨[],hp⟩ qs #[] w := by
 refine ⟨fun s => by simp [Fr.get,VF,VX,V,Owns],fun j v cv hj => ?_,⟨?_,fun id o ho hlive => ?_⟩,fun b o hb => by show (g.ow b o).cutb _ = _; rw [k.fresh b o hb]; rfl,fun b cs hG => ?_⟩
 · have hc := hq j v cv hj
   have f := k.ps j v cv hj
   have hl : v.loose = true := by cases v <;> first | rfl | simp [AV.closed] at hc
   rw [VF_loose hl] at f ⊢
   refine ⟨?_,Owns.cutb (fun _ => rfl) hc f.2⟩
   have f1 := f.1
   cases v <;> simp only [VX] at f1 ⊢ <;> first | exact V.cutb _ _ hc f1 | (simp [AV.closed] at hc; done)
 · simp only [Gh.cutb,List.length_take]
   have h1 := k.hp.len
   simp only at h1
   have h2 : (hp'.take hp.length).length = hp.length := by rw [hpre]
   rw [List.length_take] at h2
   omega
 · have hid := (List.getElem?_eq_some_iff.1 ho).1
   obtain ⟨b,k1,k2,k3⟩ := k.hp.obj id o (take_get hpre ho) hlive
   have hc := k0.closed ho
   refine ⟨b,by simp only [Gh.cutb]; rw [List.getElem?_take,if_pos hid]; exact k1,fun i => by show (g.ow b i).cutb _ = _; rw [k2 i]; simp [Tag.cutb,hid],?_⟩
   cases o with
   | dead => cases hlive
   | cells t cs =>
     simp only [ObjRel] at k3 ⊢
     obtain ⟨vs,sp,ty,h1,⟨h2,h3⟩,h4,h5⟩ := k3
     exact ⟨vs,sp,ty,h1,⟨VS.cutb _ _ hc h2,h3⟩,OwnsL.cutb (fun _ => by simp [Tag.cutb,hid]) hc h4,h5⟩
   | map es =>
     simp only [ObjRel] at k3 ⊢
     obtain ⟨ents,clock,h1,h2,h3⟩ := k3
     refine ⟨ents,clock,h1,h2,fun i kk v he => ?_⟩
     obtain ⟨e,e1,e2,e3,e4⟩ := h3 i kk v he
     obtain ⟨c1,c2⟩ := hc i kk v he
     exact ⟨e,e1,V.cutb _ _ c1 e2,V.cutb _ _ c2 e3,Owns.cutb (fun _ => by simp [Tag.cutb,hid]) c2 e4⟩
 · obtain ⟨vs0,_,_,⟨h0,_⟩,_⟩ := gl0 b cs hG
   obtain ⟨vs,ty,h1,⟨h2,h3⟩,h4⟩ := k.gl b cs hG
   exact ⟨vs,ty,h1,⟨VS.cutb _ _ (VS.closed (Nat.le_of_eq k0.len) _ _ h0) h2,h3⟩,fun o => by show (g.ow b o).cutb _ = _; rw [h4 o]; rfl⟩
theorem Stay.cutb {g0:Gh} {w0:World} (s:Stay g0 w0 g w) {n:Nat} (hn:g0.hb.length ≤ n) : Stay g0 w0 (g.cutb n) w :=
 { ow := fun b o hl ht => by
     show (g.ow b o).cutb n = _
     rw [s.ow b o hl ht]; revert ht; cases g0.ow b o <;> simp [Tag.kept,Tag.cutb]
   cell := s.cell,frz := s.frz,blk := s.blk,row := s.row,te := fun _ => trivial
   hb := fun i b h => by
     have := (List.getElem?_eq_some_iff.1 h).1
     simp only [Gh.cutb]; rw [List.getElem?_take,if_pos (by omega)]; exact s.hb i b h
   os := s.os,tape := s.tape,output := s.output,size := s.size }
def Pre (lo:Nat) (hp hp' : List HObj) : Prop := hp'.take lo = hp.take lo ∧ lo ≤ hp'.length
theorem Pre.refl {hp:List HObj} (h:lo ≤ hp.length) : Pre lo hp hp := ⟨rfl,h⟩
theorem Pre.trans {a b c:List HObj} (h:Pre lo a b) (k:Pre lo b c) : Pre lo a c := ⟨k.1.trans h.1,k.2⟩
theorem Pre.app {hp x:List HObj} (h:lo ≤ hp.length) : Pre lo hp (hp ++ x) := ⟨by rw [List.take_append_of_le_length h],by simp; omega⟩
theorem Pre.set {hp:List HObj} (h:lo ≤ hp.length) {id:Nat} (hi:lo ≤ id) (x:HObj) : Pre lo hp (hp.set id x) := ⟨by rw [List.take_set_of_le hi],by simpa using h⟩
def CallPre (call:CallF) : Prop := ∀ f vs hp lo q r,call f vs hp lo q = some r → lo ≤ hp.length → Pre lo hp r.hp
theorem behindPut_pre {s s' : St} {cs:List AV} {p:AV} (h:behindPut lo s cs p = some s') (hl:lo ≤ s.hp.length) : Pre lo s.hp s'.hp := by
 cases p <;> simp only [behindPut] at h <;> try (cases h; done)
 · split at h
   · split at h
     · cases h; exact Pre.set hl (by assumption) _
     · cases h
   · cases h
 · cases h; exact Pre.refl hl
theorem evalOp_pre (hc:CallPre call) {i:IOp} {r:OpR} (h:evalOp G call lo i st = some r) (hl:lo ≤ st.hp.length) : Pre lo st.hp r.stt.hp := by
 have done : ∀ {v:AV} {s:St},ret1 v s = some r → s.hp = st.hp → Pre lo st.hp r.stt.hp := fun h1 h2 => by
   cases ret1_some h1; simp only [OpR.stt]; rw [h2]; exact Pre.refl hl
 cases i
 case alloc heap ty cs =>
   simp only [evalOp] at h; split at h <;> cases ret1_some h
   · exact Pre.app hl
   · exact Pre.refl hl
 case box heap x =>
   simp only [evalOp] at h
   split at h
   · cases h
   · split at h <;> cases ret1_some h
     · exact Pre.app hl
     · exact Pre.refl hl
 case mkmap => simp only [evalOp] at h; cases ret1_some h; exact Pre.app hl
 case load x m n agg tk =>
   simp only [evalOp] at h
   repeat' split at h
   all_goals first
     | (cases h; done)
     | exact done h rfl
     | (cases ret1_some h; rename_i hb; exact behindPut_pre hb hl)
 case store x m v n =>
   simp only [evalOp] at h
   repeat' split at h
   all_goals first
     | (cases h; done)
     | exact done h rfl
     | (cases ret1_some h; rename_i hb; have := behindPut_pre hb hl; exact this)
 case lookup kd m k z ok tk =>
   simp only [evalOp] at h
   repeat' split at h
   all_goals first
     | (cases h; done)
     | exact done h rfl
     | (rename_i hb _; cases ret1_some h; exact Pre.set hl hb.1 _)
     | (cases ret1_some h; rename_i hb; exact Pre.set hl hb.1 _)
 case mapset kd m k v z =>
   simp only [evalOp] at h
   repeat' split at h
   all_goals first
     | (cases h; done)
     | exact done h rfl
     | (cases ret1_some h; exact Pre.set hl (by assumption) _)
 case ustr p n e =>
   simp only [evalOp] at h
   repeat' split at h
   all_goals first
     | (cases h; done)
     | (cases ret1_some h; refine Pre.set hl ?_ _; omega)
     | exact done h rfl
 case copyS x y =>
   simp only [evalOp] at h
   repeat' split at h
   all_goals first
     | (cases h; done)
     | (cases ret1_some h; refine Pre.set hl ?_ _; omega)
 case appR x y sz b =>
   simp only [evalOp] at h
   repeat' split at h
   all_goals first
     | (cases h; done)
     | (cases ret1_some h; exact Pre.app hl)
     | (cases ret1_some h; exact (Pre.set hl (by omega) _).trans (Pre.app (by simpa using hl)))
 case call f xs q =>
   simp only [evalOp] at h
   repeat' split at h
   all_goals first
     | (cases h; done)
     | (rename_i hcall; cases ret1_some h; exact hc _ _ _ _ _ _ hcall hl)
     | (rename_i hcall; cases h; exact hc _ _ _ _ _ _ hcall hl)
 all_goals
   simp only [evalOp] at h
   repeat' split at h
   all_goals first
     | (cases h; done)
     | exact done h rfl
     | (cases h; first | exact Pre.app hl | exact Pre.refl hl)
theorem St.put_hp {s s' : St} {d:Option Nat} {v:AV} (h:s.put d v = some s') : s'.hp = s.hp := by
 cases d <;> simp only [St.put] at h
 · cases h; rfl
 · split at h
   · cases h; rfl
   · cases h
theorem evalOps_pre (hc:CallPre call) : ∀ {is:List IOper} {st:St} {ex:Ex} {st' : St},evalOps G call lo is st = some (ex,st') → lo ≤ st.hp.length → Pre lo st.hp st'.hp
 | [],st,ex,st',h,hl => by simp [evalOps] at h; obtain ⟨rfl,rfl⟩ := h; exact Pre.refl hl
 | x :: r,st,ex,st',h,hl => by
   simp only [evalOps] at h
   split at h
   · split at h
     · rename_i v s1 he
       have h1 := evalOp_pre hc he hl
       split at h
       · rename_i s2 hp
         have h2 := St.put_hp hp
         simp only [OpR.stt] at h1
         exact h1.trans (by rw [← h2]; exact evalOps_pre hc h (by rw [h2]; exact h1.2))
       · cases h
     · rename_i v s1 he; cases h; exact evalOp_pre hc he hl
     · cases h
   · split at h
     · rename_i s2 hp
       have h2 := St.put_hp hp
       rw [← h2]; exact evalOps_pre hc h (by rw [h2]; exact hl)
     · cases h
   · cases h
theorem evalDraw_pre (hc:CallPre call) {ops:List IOper} {pans:List Nat} : ∀ {ord:List Nat} {st:St} {ex:Ex} {st' : St},evalDraw G call lo ops pans ord st = some (ex,st') → lo ≤ st.hp.length → Pre lo st.hp st'.hp
 | [],st,ex,st',h,hl => by simp [evalDraw] at h; obtain ⟨rfl,rfl⟩ := h; exact Pre.refl hl
 | x :: r,st,ex,st',h,hl => by
   simp only [evalDraw] at h
   split at h
   · cases h
   · split at h
     · rename_i s1 he
       have h1 := evalOps_pre hc he hl
       exact h1.trans (evalDraw_pre hc h h1.2)
     · rename_i v s1 he
       split at h
       · cases h; exact (evalOps_pre hc he hl:Pre lo st.hp s1.hp)
       · cases h
     · cases h
def LoopPre (lo:Nat) (loop:LoopF) : Prop := ∀ b st ex st',loop b st = some (ex,st') → lo ≤ st.hp.length → Pre lo st.hp st'.hp
theorem evalC_pre (hc:CallPre call) {loop:LoopF} (hlp:LoopPre lo loop) : ∀ {c:ICode} {st:St} {ex:Ex} {st' : St},evalC G call loop lo c st = some (ex,st') → lo ≤ st.hp.length → Pre lo st.hp st'.hp := by
 intro c
 induction c with
 | skip => intro st ex st' h hl; simp [evalC] at h; obtain ⟨rfl,rfl⟩ := h; exact Pre.refl hl
 | region ops live =>
   intro st ex st' h hl
   simp only [evalC] at h
   split at h
   · rename_i s1 he
     split at h
     · cases h; exact (evalOps_pre hc he hl:Pre lo st.hp s1.hp)
     · cases h
   · exact evalOps_pre hc h hl
 | draw ops ord pans live =>
   intro st ex st' h hl
   simp only [evalC] at h
   split at h
   · rename_i s1 he
     split at h
     · cases h; exact (evalDraw_pre hc he hl:Pre lo st.hp s1.hp)
     · cases h
   · rename_i e1 s1 _ he
     cases h; exact (evalDraw_pre hc he hl:Pre lo st.hp s1.hp)
   · cases h
 | seq a b iha ihb =>
   intro st ex st' h hl
   simp only [evalC] at h
   split at h
   · rename_i s1 he
     have h1 := iha he hl
     exact h1.trans (ihb h h1.2)
   · exact iha h hl
 | cond c a b iha ihb =>
   intro st ex st' h hl
   simp only [evalC] at h
   split at h
   · split at h
     · exact iha h hl
     · exact ihb h hl
   · cases h
 | block id b ih =>
   intro st ex st' h hl
   simp only [evalC] at h
   split at h
   · rename_i i s1 he
     split at h <;> (cases h; exact ih he hl)
   · exact ih h hl
 | loop b ih => intro st ex st' h hl; exact hlp _ _ _ _ h hl
 | exit id => intro st ex st' h hl; simp [evalC] at h; obtain ⟨rfl,rfl⟩ := h; exact Pre.refl hl
 | ret => intro st ex st' h hl; simp [evalC] at h; obtain ⟨rfl,rfl⟩ := h; exact Pre.refl hl
 | stuck => intro st ex st' h hl; simp [evalC] at h
theorem evalRecv_pre (hc:CallPre call) {loop:LoopF} (hlp:LoopPre lo loop) {IP:IProg} {f:Nat} {caps:List AV} {hp hp' : List HObj} {m:AV} (h:evalRecv G IP call loop lo f caps hp m = some hp') (hl:lo ≤ hp.length) : Pre lo hp hp' := by
 simp only [evalRecv] at h
 split at h
 · cases h
 · split at h
   · split at h
     · cases h
     · split at h
       · rename_i he; cases h; exact evalC_pre hc hlp he hl
       · rename_i he; cases h; exact evalC_pre hc hlp he hl
       · cases h
   · cases h
theorem toHeap_pre {fr:Fr} : ∀ {l:List Nat} {hp hp' : List HObj},toHeap fr l hp = some hp' → lo ≤ hp.length → Pre lo hp hp'
 | [],hp,hp',h,hl => by simp [toHeap] at h; subst h; exact Pre.refl hl
 | s :: r,hp,hp',h,hl => by
   simp only [toHeap] at h
   split at h
   · rename_i cs _
     have p : Pre lo hp (hp ++ [.cells 0 cs]) := ⟨by rw [List.take_append_of_le_length hl],by simp; omega⟩
     exact p.trans (toHeap_pre h p.2)
   · cases h
theorem evalFin1_pre (hc:CallPre call) {loop:LoopF} (hlp:LoopPre lo loop) {IP:IProg} {d:DSpec} {s3:St} {m:AV} {ex:Ex} {st' : St} (h:evalFin1 G IP call loop lo d s3 m = some (ex,st')) (hl:lo ≤ s3.hp.length) : Pre lo s3.hp st'.hp := by
 simp only [evalFin1] at h
 split at h
 · rename_i hp1 h1
   have p1 := toHeap_pre h1 hl
   split at h
   · rename_i hp2 h2
     cases h
     exact p1.trans (evalRecv_pre hc hlp h2 p1.2)
   · cases h
 · cases h
theorem evalFin_pre (hc:CallPre call) {loop:LoopF} (hlp:LoopPre lo loop) {IP:IProg} {d:DSpec} {b:ICode} {st:St} {ex:Ex} {st' : St} (h:evalFin G IP call loop lo d (evalC G call loop lo b st) = some (ex,st')) (hl:lo ≤ st.hp.length) : Pre lo st.hp st'.hp := by
 cases hb : evalC G call loop lo b st with
 | none => rw [hb] at h; simp [evalFin] at h
 | some x =>
   rw [hb] at h
   obtain ⟨ex3,s3⟩ := x
   have p3 := evalC_pre hc hlp hb hl
   cases ex3 with
   | normal => exact p3.trans (evalFin1_pre hc hlp h p3.2)
   | ret => exact p3.trans (evalFin1_pre hc hlp h p3.2)
   | pan v => exact p3.trans (evalFin1_pre hc hlp h p3.2)
   | exit i => simp [evalFin] at h
theorem evalF_pre (hc:CallPre call) {loop:LoopF} (hlp:LoopPre lo loop) {IP:IProg} {fn:IFun} {st:St} {ex:Ex} {st' : St} (h:evalF G IP call loop lo fn st = some (ex,st')) (hl:lo ≤ st.hp.length) : Pre lo st.hp st'.hp := by
 simp only [evalF] at h
 split at h
 · exact evalC_pre hc hlp h hl
 · split at h
   · rename_i s1 h1
     have p1 := evalC_pre hc hlp h1 hl
     split at h
     · have p := evalFin_pre hc hlp h (show lo ≤ s1.hp.length from p1.2)
       exact p1.trans p
     · cases h
   · exact evalC_pre hc hlp h hl
theorem frz1_pre {s i sz:Nat} {agg:Bool} {st st' : St} (h:frz1 lo st s i sz agg = some st') (hl:lo ≤ st.hp.length) : Pre lo st.hp st'.hp := by
 unfold frz1 at h
 repeat' split at h
 all_goals first
   | (cases h; done)
   | (cases h; exact Pre.refl hl)
   | (cases h; refine Pre.set hl ?_ _; omega)
theorem frzs_pre : ∀ {l:List (Nat × Nat × Nat × Bool)} {st st' : St},frzs lo l st = some st' → lo ≤ st.hp.length → Pre lo st.hp st'.hp
 | [],st,st',h,hl => by simp [frzs] at h; subst h; exact Pre.refl hl
 | (s,i,sz,agg) :: r,st,st',h,hl => by
   simp only [frzs] at h
   split at h
   · rename_i s1 h1
     have p1 := frz1_pre h1 hl
     exact p1.trans (frzs_pre h p1.2)
   · cases h
theorem run_pre (IP:IProg) : ∀ k,CallPre (run G IP k).1 ∧ ∀ lo,LoopPre lo ((run G IP k).2 lo)
 | 0 => ⟨fun f vs hp lo q r h => by simp [run] at h,fun lo b st ex st' h => by simp [run] at h⟩
 | k + 1 => by
   obtain ⟨h1,h2⟩ := run_pre IP k
   refine ⟨fun f vs hp lo q r h hl => ?_,fun lo b st ex st' h hl => ?_⟩
   · simp only [run,callBody] at h
     split at h
     · cases h
     · rename_i fn hfn
       split at h
       · cases h
       · cases hs : fn.still with
         | true =>
           simp only [hs,if_true] at h
           repeat' split at h
           all_goals first
             | (cases h; done)
             | (cases h; exact Pre.refl hl)
         | false =>
           simp only [hs,Bool.false_eq_true,if_false] at h
           split at h
           · rename_i s1 he
             split at h
             · rename_i s2 hf
               have p1 := evalF_pre h1 (h2 lo) he hl
               split at h
               · cases h; exact p1.trans (frzs_pre hf p1.2)
               · cases h
             · cases h
           · rename_i s1 he
             split at h
             · rename_i s2 hf
               have p1 := evalF_pre h1 (h2 lo) he hl
               split at h
               · cases h; exact p1.trans (frzs_pre hf p1.2)
               · cases h
             · cases h
           · rename_i v s1 he; cases h; exact evalF_pre h1 (h2 lo) he hl
           · cases h
   · simp only [run,loopBody] at h
     split at h
     · rename_i s1 he
       have h3 := evalC_pre h1 (h2 lo) he hl
       exact h3.trans (h2 lo _ _ _ _ h h3.2)
     · exact evalC_pre h1 (h2 lo) h hl
end
end Go.Proofs.YtkofimhnehkdoaaGreatDoor.Rf
end
