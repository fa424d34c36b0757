/- A part of the proof: see the last text. -/
import Derived.Test.YtkofimhnehkdoaaGreatDoorRcG13
import Derived.Defers
import Derived.Recover
import Derived.ChangeArms
import Derived.OpenShut
import Derived.Below
set_option linter.unusedVariables false
set_option linter.unusedSimpArgs false
section
namespace Go.Proofs.YtkofimhnehkdoaaGreatDoor.Rf
def Tag.toOb (s id:Nat) : Tag → Tag
 | .box (.fr t) => if t = s then .obj id else .box (.fr t)
 | .tail (.fr t) i => if t = s then .tail (.ob id) i else .tail (.fr t) i
 | t => t
def Tag.notR (s:Nat) (t:Tag) : Prop := t ≠ .box (.fr s) ∧ ∀ i,t ≠ .tail (.fr s) i
theorem Tag.toOb_notR {s id:Nat} {t:Tag} (h:t.notR s) : t.toOb s id = t := by
 cases t <;> try rfl
 · rename_i r; cases r <;> try rfl
   rename_i t; simp only [Tag.toOb]; rw [if_neg]; intro e; subst e; exact h.1 rfl
 · rename_i r i; cases r <;> try rfl
   rename_i t; simp only [Tag.toOb]; rw [if_neg]; intro e; subst e; exact h.2 _ rfl
def Gh.toOb (g:Gh) (s:Nat) : Gh := { ow := fun b o => (g.ow b o).toOb s g.hb.length,hb := g.hb ++ [g.bx (.fr s)],bx := g.bx }
theorem same_toOb (g:Gh) (w:World) (s:Nat) : Same (Tag.notR s) g w (g.toOb s) w :=
 ⟨fun _ _ _ h => Tag.toOb_notR h,fun _ _ _ _ => rfl,fun _ _ _ _ _ => rfl,fun _ _ _ => rfl,fun _ _ _ h => h,fun _ => ⟨by simp,by simp⟩,fun i b h => by
   show (g.hb ++ _)[i]? = _
   rw [List.getElem?_append_left (List.getElem?_eq_some_iff.1 h).1]; exact h⟩
theorem Rel.toHeap1 {G:Nat → Option (List AV)} {g:Gh} {w:World} {fr fr' : Fr} {hp:List HObj} {tm:Array Value} (k:Rel G g ⟨fr,hp⟩ [] tm w) {s:Nat} {cs:List AV} (hs:fr.get s = .box cs)
   (hfr:∀ t,fr'.get t = .none ∨ (t ≠ s ∧ fr'.get t = fr.get t ∧ ∃ ds,fr.get t = .box ds)) :
   ∃ g1,Rel G g1 ⟨fr',hp ++ [.cells 0 cs]⟩ [] tm w ∧ Stay g w g1 w ∧ g1.hb = g.hb ++ [g.bx (.fr s)] ∧ tm.getD s undef = .pointer (some ⟨g.bx (.fr s),0,none⟩) := by
 have sm := same_toOb g w s
 have hi : Tag.notR s .imm := ⟨by simp,by simp⟩
 have hx : ∀ id,Tag.notR s (.obj id) := fun _ => ⟨by simp,by simp⟩
 have hr : ∀ id i,Tag.notR s (.tail (.ob id) i) := fun _ _ => ⟨by simp,by simp⟩
 have hm : ∀ id i j,Tag.notR s (.tail (.mp id i) j) := fun _ _ _ => ⟨by simp,by simp⟩
 have f := k.fr s
 simp only at f
 rw [hs] at f
 simp only [VF] at f
 obtain ⟨vs,ty,f1,f2,⟨f3,f4⟩,f5,f6⟩ := f
 have hl := k.hp.len
 simp only at hl
 refine ⟨g.toOb s,⟨fun t => ?_,fun j v cv hj => by simp at hj,⟨by show (g.hb ++ _).length = _; simp [hl],fun id o ho hlive => ?_⟩,fun b o hb => by show (g.ow b o).toOb s _ = .out; rw [k.fresh b o hb]; rfl,k.gl.same sm hi ⟨by simp,by simp⟩⟩,stay_of_same sm ⟨by simp,by simp⟩ hi,rfl,f1⟩
 · simp only
   rcases hfr t with h | ⟨h1,h2,ds,h3⟩
   · rw [h]; simp [VF,VX,V,Owns]
   · have ft := k.fr t
     simp only at ft
     have ft2 := VF.same (r := .fr t) sm hi (fun _ _ _ => rfl) (fun i => ⟨by simp,by simp [h1]⟩) ⟨by simp [h1],by simp⟩ rfl ft
     rw [h2]
     rw [h3] at ft2 ⊢
     simp only [VF] at ft2 ⊢
     exact ft2
 · rw [List.getElem?_append] at ho
   split at ho
   · rename_i hlt
     obtain ⟨b,k1,k2,k3⟩ := k.hp.obj id o ho hlive
     have hblt : b < w.heap.size := by
       exact k3.lt
     exact ⟨b,sm.hb _ _ k1,fun i => (sm.ow _ _ hblt (by rw [k2 i]; exact hx id)).trans (k2 i),k3.same sm hi k2 (hx id) (hr id) (hm id)⟩
   · rename_i hge
     have e : id = hp.length := by
       have h2 := (List.getElem?_eq_some_iff.1 ho).1
       simp at h2; omega
     subst e
     simp at ho; subst ho
     refine ⟨g.bx (.fr s),by show (g.hb ++ _)[_]? = _; rw [← hl]; simp,fun i => ?_,?_⟩
     · show (g.ow _ i).toOb s _ = _
       rw [f5 i]; simp [Tag.toOb,hl]
     · simp only [ObjRel]
       refine ⟨vs,[],ty,by rw [List.append_nil]; exact f2,⟨VS.mono (sm.ext hi) _ _ f3,f4⟩,fun i xs sz e cv h1 h2 => ?_,fun h => absurd rfl h⟩
       intro a n c ec
       obtain ⟨t1,t2⟩ := f6 i xs sz e cv h1 h2 a n c ec
       refine ⟨VE.mono (sm.ext hi) _ _ _ _ t1,fun o ho ho' => ?_⟩
       obtain ⟨p,q⟩ := t2 o ho ho'
       exact ⟨by show (g.ow _ _).toOb s _ = _; rw [p]; simp [Tag.toOb,hl],q⟩
theorem Fr.keep_cons_get {fr:Fr} {s:Nat} {r:List Nat} (hn:s ∉ r) (t:Nat) (hall:∀ t,t ∈ r → ∃ ds,fr.get t = .box ds) : (fr.keep r).get t = .none ∨ (t ≠ s ∧ (fr.keep r).get t = (fr.keep (s :: r)).get t ∧ ∃ ds,(fr.keep (s :: r)).get t = .box ds) := by
 rw [Fr.get_keep,Fr.get_keep]
 by_cases ht : t ∈ r
 · right
   have hts : t ≠ s := fun e => hn (e ▸ ht)
   obtain ⟨ds,hd⟩ := hall t ht
   rw [if_pos ht,if_pos (by simp [ht])]
   exact ⟨hts,rfl,ds,hd⟩
 · left; rw [if_neg ht]
theorem toHeap_boxes {fr:Fr} : ∀ {l:List Nat} {hp hp' : List HObj},toHeap fr l hp = some hp' → ∀ t,t ∈ l → ∃ ds,fr.get t = .box ds
 | [],_,_,_,t,ht => by simp at ht
 | s :: r,hp,hp',h,t,ht => by
   simp only [toHeap] at h
   split at h
   · rename_i cs hs
     rcases List.mem_cons.1 ht with rfl | ht
     · exact ⟨cs,hs⟩
     · exact toHeap_boxes h t ht
   · cases h
theorem Rel.toHeapL {G:Nat → Option (List AV)} {w:World} {fr:Fr} {tm:Array Value} : ∀ {l:List Nat} {hp hp' : List HObj} {g:Gh},toHeap fr l hp = some hp' → l.Nodup → Rel G g ⟨fr.keep l,hp⟩ [] tm w →
   ∃ g1,Rel G g1 ⟨[],hp'⟩ [] tm w ∧ Stay g w g1 w ∧ VS g1 w (ptrsFrom hp.length l) (l.map fun s => tm.getD s undef)
 | [],hp,hp',g,h,_,k => by
   simp [toHeap] at h; subst h
   exact ⟨g,k,Stay.refl g w,by simp [ptrsFrom,VS]⟩
 | s :: r,hp,hp',g,h,hn,k => by
   have hall := toHeap_boxes h
   simp only [toHeap] at h
   split at h
   · rename_i cs hs
     have hnd := List.nodup_cons.1 hn
     obtain ⟨g1,k1,s1,hb,hv⟩ := k.toHeap1 (s := s) (cs := cs) (fr' := fr.keep r) (by rw [Fr.get_keep,if_pos (by simp)]; exact hs) (fun t => Fr.keep_cons_get hnd.1 t (fun t ht => hall t (by simp [ht])))
     obtain ⟨g2,k2,s2,v2⟩ := Rel.toHeapL h hnd.2 k1
     refine ⟨g2,k2,s1.trans s2,?_⟩
     simp only [ptrsFrom,List.map_cons,VS,V]
     refine ⟨_,_,rfl,⟨g.bx (.fr s),s2.hb _ _ ?_,hv⟩,by simpa using v2⟩
     rw [hb]
     have hl := k.hp.len
     simp only at hl
     rw [← hl]; simp
   · cases h
theorem keepOk_boxes {fr:Fr} {live:List Nat} : ∀ {l:List Nat},(∀ t,t ∈ l → ∃ ds,fr.get t = .box ds) → fr.keepOk l live = true
 | [],_ => rfl
 | s :: r,h => by
   obtain ⟨ds,hd⟩ := h s (by simp)
   simp only [Fr.keepOk,hd,Bool.true_and]
   exact keepOk_boxes fun t ht => h t (by simp [ht])
theorem Rel.toHeap {G:Nat → Option (List AV)} {w:World} {st:St} {tm:Array Value} {l:List Nat} {hp' : List HObj} {g:Gh} (h:toHeap st.fr l st.hp = some hp') (hn:l.Nodup) (k:Rel G g st [] tm w) :
   ∃ g1,Rel G g1 ⟨[],hp'⟩ [] tm w ∧ Stay g w g1 w ∧ VS g1 w (ptrsFrom st.hp.length l) (l.map fun s => tm.getD s undef) :=
 Rel.toHeapL h hn (k.keep (keepOk_boxes (toHeap_boxes h)))
theorem get_setPtrs : ∀ (l:List Nat) (n s:Nat),(setPtrs n l).get s = .none ∨ ∃ i,l[i]? = some s ∧ (ptrsFrom n l)[i]? = some (.ptr (n + i) 0) ∧ (setPtrs n l).get s = .ptr (n + i) 0
 | [],n,s => .inl rfl
 | t :: r,n,s => by
   simp only [setPtrs,Fr.get,ptrsFrom]
   by_cases h : t = s
   · subst h; right; exact ⟨0,by simp⟩
   · rw [if_neg h]
     rcases get_setPtrs r (n + 1) s with h1 | ⟨i,h1,h2,h3⟩
     · exact .inl h1
     · right; exact ⟨i + 1,by simpa using h1,by simp only [List.getElem?_cons_succ,h2]; congr 2; omega,by rw [h3]; congr 1; omega⟩
def capsOk : List Nat → List Operand → Bool
 | [],[] => true
 | s :: r,.tmp t :: q => decide (s = t) && capsOk r q
 | _,_ => false
theorem capsOk_eq : ∀ {l:List Nat} {os:List Operand},capsOk l os = true → os = l.map Operand.tmp
 | [],[],_ => rfl
 | s :: r,.tmp t :: q,h => by
   simp only [capsOk,Bool.and_eq_true,decide_eq_true_eq] at h
   obtain ⟨rfl,h⟩ := h
   rw [capsOk_eq h]; rfl
 | s :: r,.const _ :: q,h => by simp [capsOk] at h
 | s :: r,.func _ :: q,h => by simp [capsOk] at h
 | s :: r,.global _ :: q,h => by simp [capsOk] at h
 | [],_ :: _,h => by simp [capsOk] at h
 | _ :: _,[],h => by simp [capsOk] at h
def isMk (f:Nat) (caps:List Nat) : Op → Bool
 | .makeFunc fn first cs => (match fn with | .func f' => decide (f' = f) | _ => false) && first.isEmpty && capsOk caps cs.toList
 | _ => false
def isDf (t:Nat) : Op → Bool
 | .defer c => (match c.callee with | .value (.tmp u) => decide (u = t) | _ => false) && c.args.isEmpty
 | _ => false
def chkDfr (n:Nat) (d:DSpec) (os:Array Oper) : Bool :=
 match os.toList with
 | [o1,o2] => decide (o1.dst = some d.t) && o1.guard.isNone && isMk d.f d.caps o1.op && o2.dst.isNone && o2.guard.isNone && isDf d.t o2.op && Nat.blt d.t n && !d.caps.contains d.t && nodupB d.caps
 | _ => false
def chkDef (P:Program) (n:Nat) (d:DSpec) : ICode → Code → Bool
 | .seq x y,.seq a b => chkCode P ⟨n,[]⟩ x a && chkDef P n d y b
 | .skip,.seq (.region _ os false) c => chkDfr n d os && chkCode P ⟨n,d.caps⟩ d.rest c
 | _,_ => false
def isRecover : Op → Bool
 | .call c => (match c.callee with | .builtin .recover => true | _ => false)
 | _ => false
def chkRcv (P:Program) (n s:Nat) (ic:ICode) : Code → Bool
 | .seq (.region _ os false) c => (match os.toList with | [o] => decide (o.dst = some s) && o.guard.isNone && isRecover o.op | _ => false) && chkCode P ⟨n,[]⟩ ic c && Nat.blt s n
 | _ => false
def chkBody (P:Program) (n:Nat) (fn:IFun) (c:Code) : Bool :=
 match fn.rcv,fn.dfr with
 | none,none => chkCode P ⟨n,[]⟩ fn.body c
 | none,some d => chkDef P n d fn.body c
 | some s,none => chkRcv P n s fn.body c
 | some _,some _ => false
def chkFun (P:Program) (f:FuncId) (fn:IFun) : Bool :=
 funOk P f &&
 match P.funcs[f]? with
 | some m =>
   (match m.body with
    | some c => chkBody P m.ntmps fn c
    | none => false) && chkRes P fn.res m.results.toList && nodupB (fn.res.map IRes.slot) && Nat.ble fn.arity m.ntmps
 | none => false
section
variable {P:Program} {G:Nat → Option (List AV)} {call:CallF} {loop:LoopF} {lo k:Nat}
def theD (fid:Nat) (cvs:List Value) : Deferred := { target := .fn (.func fid) cvs.toArray,args := #[] }
def capV (tm:Array Value) (l:List Nat) : List Value := l.map fun s => tm.getD s undef
theorem dfr_sound {n:Nat} {d:DSpec} {os:Array Oper} {id:Nat} (hk:chkDfr n d os = true) {Q:Exit → Act → World → Prop} {g:Gh} {st:St} {a:Act} {w:World} (kk:Rel G g st [] a.tmps w) (hn:a.tmps.size = n) (hl:(st.fr.get d.t).loose = true)
   (h:∀ g' (a' : Act),a'.tmps.size = n → Rel G g' { st with fr := st.fr.set d.t .none } [] a'.tmps w → Stay g w g' w → a'.defers = theD d.f (capV a'.tmps d.caps) :: a.defers → Q .normal a' w) : (Code.region id os false).wp P Q a w := by
 unfold chkDfr at hk
 split at hk
 rotate_left
 · cases hk
 rename_i o1 o2 hos
 simp only [Bool.and_eq_true,decide_eq_true_eq,Option.isNone_iff_eq_none] at hk
 obtain ⟨⟨⟨⟨⟨⟨⟨⟨p1,p2⟩,p3⟩,p4⟩,p5⟩,p6⟩,p7⟩,p8⟩,p9⟩ := hk
 have e : os = #[o1,o2] := by rw [← Array.toList_inj]; simpa using hos
 subst e
 refine wp_region ?_
 have hlr : List.range (#[o1,o2] : Array Oper).size = [0,1] := rfl
 rw [hlr,wpOps_cons,wpOp]
 have h0 : (#[o1,o2] : Array Oper)[0]? = some o1 := rfl
 have h1 : (#[o1,o2] : Array Oper)[1]? = some o2 := rfl
 rw [h0]; simp only
 rw [if_pos (by unfold Region.wanted; rw [p2])]
 refine .inl ?_
 have htn : d.t < a.tmps.size := by rw [hn]; simpa using p7
 have hrun : (execOp a.eval o1).run P w = .ok (.value (.func (.func d.f) #[] (capV a.tmps d.caps).toArray)) w := by
   cases hop : o1.op <;> rw [hop] at p3 <;> (try simp only [isMk] at p3) <;> try (simp at p3; done)
   rename_i fn first cs
   simp only [Bool.and_eq_true] at p3
   obtain ⟨⟨q1,q2⟩,q3⟩ := p3
   cases fn <;> (try simp only [] at q1) <;> try (simp at q1; done)
   rename_i f'
   simp only [decide_eq_true_eq] at q1; subst q1
   have hf : first = #[] := by simpa using q2
   subst hf
   have hcs := capsOk_eq q3
   have e2 : cs.map a.eval = (capV a.tmps d.caps).toArray := by
     rw [← Array.toList_inj]
     simp only [Array.toList_map,hcs,List.map_map,capV]
     refine List.map_congr_left fun s _ => ?_
     simp [Act.eval_eq,Act.opd]
   simp [execOp,hop,Instr.makeFunc,e2]
 rw [Oper.wp,hrun,Oper.upon_value,p1]
 have kp : Rel G g st [(AV.none,Value.func (.func d.f) #[] (capV a.tmps d.caps).toArray)] a.tmps w := by
   have := kk.push (v := AV.none) (cv := Value.func (.func d.f) #[] (capV a.tmps d.caps).toArray) (by simp [VF,VX,V,Owns])
   simpa using this
 obtain ⟨g2,k2,s2,_⟩ := kp.into hl htn
 rw [wpOps_cons,wpOp,h1]; simp only
 rw [if_pos (by unfold Region.wanted; rw [p5])]
 refine .inl ?_
 have hget : (a.tmps.setIfInBounds d.t (Value.func (.func d.f) #[] (capV a.tmps d.caps).toArray)).getD d.t undef = Value.func (.func d.f) #[] (capV a.tmps d.caps).toArray := by
   simp [htn]
 have hcap : capV (a.tmps.setIfInBounds d.t (Value.func (.func d.f) #[] (capV a.tmps d.caps).toArray)) d.caps = capV a.tmps d.caps := by
   unfold capV
   refine List.map_congr_left fun s hs => ?_
   have hne : d.t ≠ s := fun e => by subst e; simp only [Bool.not_eq_true'] at p8; rw [List.contains_iff_mem.2 hs] at p8; cases p8
   simp only [Array.getD_eq_getD_getElem?,Array.getElem?_setIfInBounds,if_neg hne]
 have hrun2 : (execOp (Act.eval (Act.put a (some d.t) (Value.func (.func d.f) #[] (capV a.tmps d.caps).toArray))) o2).run P w = .ok (.defer (theD d.f (capV a.tmps d.caps))) w := by
   cases hop : o2.op <;> rw [hop] at p6 <;> (try simp only [isDf] at p6) <;> try (simp at p6; done)
   rename_i c
   obtain ⟨ce,ca,ct⟩ := c
   simp only [Bool.and_eq_true] at p6
   obtain ⟨q1,q2⟩ := p6
   cases ce <;> (try simp only [] at q1) <;> try (simp at q1; done)
   rename_i v
   cases v <;> (try simp only [] at q1) <;> try (simp at q1; done)
   rename_i t
   simp only [decide_eq_true_eq] at q1; subst q1
   have h5 : ca = #[] := by simpa using q2
   subst h5
   have he : Act.eval (Act.put a (some d.t) (Value.func (.func d.f) #[] (capV a.tmps d.caps).toArray)) (.tmp d.t) = Value.func (.func d.f) #[] (capV a.tmps d.caps).toArray := by
     rw [Act.eval_eq]; exact hget
   simp [execOp,hop,resolve,Deferred.ofValue,he,theD]
 rw [Oper.wp,hrun2,Oper.upon_defer,p4]
 exact h g2 _ (by simp only [Act.put,Array.size_setIfInBounds]; exact hn) k2 s2 (by simp only [Act.put]; rw [hcap])
theorem NT.ok_any {n:Nat} {tm:Array Value} (h:tm.size = n) (t0:Array Value) : NT.ok ⟨⟨n,[]⟩,t0⟩ tm := ⟨h,fun s hs => by simp at hs⟩
theorem def_sound (hm:P.follows .mixedOrders = true) (hc:CallOK P G call) (hq:CallQ call) (hl:LoopOK P G k loop) {n:Nat} {d:DSpec} : ∀ {ic:ICode} {c:Code},chkDef P n d ic c = true → ∀ {Q:Exit → Act → World → Prop} {g:Gh} {st:St} {a:Act} {w:World} {ex:Ex} {st' : St},
   Rel G g st [] a.tmps w → a.tmps.size = n → a.defers = [] → evalC G call loop lo ic st = some (ex,st') →
   (ex ≠ .normal → Goes G ⟨⟨n,[]⟩,#[]⟩ [] g w st' ex Q) →
   (ex = .normal → (st'.fr.get d.t).loose = true ∧ ∃ ex3 s3,evalC G call loop lo d.rest { st' with fr := st'.fr.set d.t .none } = some (ex3,s3) ∧
     ∀ g2 (tm2:Array Value) w2,Stay g w g2 w2 → Goes G ⟨⟨n,d.caps⟩,tm2⟩ [theD d.f (capV tm2 d.caps)] g2 w2 s3 ex3 Q) → nodupB d.caps = true → c.wp P Q a w := by
 intro ic
 induction ic with
 | skip =>
   intro c hk Q g st a w ex st' kk hn hd hr hX hN hdd
   cases c <;> try (simp [chkDef] at hk; done)
   rename_i x y
   cases x <;> try (simp [chkDef] at hk; done)
   rename_i id os dr
   cases dr <;> try (simp [chkDef] at hk; done)
   simp only [chkDef,Bool.and_eq_true] at hk
   simp [evalC] at hr; obtain ⟨rfl,rfl⟩ := hr
   obtain ⟨h1,ex3,s3,h3,h4⟩ := hN rfl
   refine wp_seq (dfr_sound (G := G) hk.1 kk hn h1 fun g' a' q1 q2 q3 q5 => ?_)
   refine code_sound hm hc hq hl hk.2 (nt := ⟨⟨n,d.caps⟩,a'.tmps⟩) q2 ⟨q1,fun s _ => rfl⟩ h3 ?_
   rw [q5,hd]
   exact h4 g' a'.tmps w q3
 | seq x y ihx ihy =>
   intro c hk Q g st a w ex st' kk hn hd hr hX hN hdd
   cases c <;> try (simp [chkDef] at hk; done)
   simp only [chkDef,Bool.and_eq_true] at hk
   simp only [evalC] at hr
   split at hr
   · rename_i s1 he
     refine wp_seq (code_sound hm hc hq hl hk.1 (nt := ⟨⟨n,[]⟩,#[]⟩) kk (NT.ok_any hn _) he fun g' a' w' h1 h2 h3 h4 => ?_)
     refine ihy hk.2 h3 h1.size (by rw [h2,hd]) hr (fun hne => (hX hne).after h4) (fun he2 => ?_) hdd
     obtain ⟨q0,ex3,s3,q3,q4⟩ := hN he2
     exact ⟨q0,ex3,s3,q3,fun g2 tm2 w2 p1 => q4 g2 tm2 w2 (h4.trans p1)⟩
   · rename_i hne
     have hne' : ex ≠ .normal := fun e => by subst e; exact absurd hr (by simpa using hne st')
     refine wp_seq (code_sound hm hc hq hl hk.1 (nt := ⟨⟨n,[]⟩,#[]⟩) kk (NT.ok_any hn _) hr ?_)
     rw [hd]
     refine (hX hne').mono fun g' a' w' h5 => ?_
     cases ex with
     | normal => exact absurd rfl hne'
     | exit i => exact h5
     | ret => exact h5
     | pan v => exact h5
 | _ => intro c hk; cases c <;> simp [chkDef] at hk
theorem chkDef_nodup {n:Nat} {d:DSpec} : ∀ {ic:ICode} {c:Code},chkDef P n d ic c = true → nodupB d.caps = true := by
 intro ic
 induction ic with
 | skip =>
   intro c hk
   cases c <;> try (simp [chkDef] at hk; done)
   rename_i x y
   cases x <;> try (simp [chkDef] at hk; done)
   rename_i id os dr
   cases dr <;> try (simp [chkDef] at hk; done)
   simp only [chkDef,Bool.and_eq_true] at hk
   have h := hk.1
   unfold chkDfr at h
   split at h
   · simp only [Bool.and_eq_true] at h; exact h.2
   · cases h
 | seq x y ihx ihy =>
   intro c hk
   cases c <;> try (simp [chkDef] at hk; done)
   simp only [chkDef,Bool.and_eq_true] at hk
   exact ihy hk.2
 | _ => intro c hk; cases c <;> simp [chkDef] at hk
end
end Go.Proofs.YtkofimhnehkdoaaGreatDoor.Rf
end
section
namespace Go.Proofs.YtkofimhnehkdoaaGreatDoor.Rf
section
variable {P:Program} {G:Nat → Option (List AV)} {call:CallF} {loop:LoopF} {lo k:Nat} {g:Gh} {w:World}
theorem Rel.drop {st:St} {ps:List (AV × Value)} {tm:Array Value} (kk:Rel G g st ps tm w) : Rel G (g.outw []) ⟨[],st.hp⟩ [] #[] w ∧ Stay g w (g.outw []) w := by
 have sm := same_outw g w []
 exact ⟨⟨fun s => by simp [Fr.get,VF,VX,V,Owns],fun j u cu hj => by simp at hj,kk.hp.same sm trivial (fun _ => trivial) (fun _ _ => trivial) (fun _ _ _ => trivial) rfl,fun b o hb => by show (g.ow b o).outw [] = .out; rw [kk.fresh b o hb]; rfl,kk.gl.same sm trivial trivial⟩,
   stay_of_same sm trivial trivial⟩
def Thrown (g:Gh) (w:World) (m:AV) (u:FrameMode) : Prop := (m = .nili ∧ u = .returning) ∨ ∃ cv,V g w m cv ∧ m.plain = true ∧ u = .panicking [{ v := cv,recovered := false }]
theorem Thrown.run {m:AV} {u:FrameMode} (h:Thrown g w m u) : u ≠ .run := by
 rcases h with ⟨_,rfl⟩ | ⟨cv,_,_,rfl⟩ <;> simp
theorem invoke_fn {fid:Nat} (hok:funOk P fid = true) (us:Array Value) : (invoke (.fn (.func fid) us) #[]).run P w = .ok (.enter fid us) w := by
 unfold funOk at hok
 cases hfn : P.funcs[fid]? with
 | none => simp [hfn] at hok
 | some fn =>
   simp [hfn] at hok
   obtain ⟨b1,b2⟩ := hok
   cases hbd : fn.body with
   | none => simp [hbd] at b1
   | some bd => simp [invoke,callFunc,hfn,b2,hbd]
theorem wpS_recover {id:Nat} {os:Array Oper} {c:Code} {s:Nat} {o:Oper} (h1:os.toList = [o]) (h2:o.dst = some s) (h3:o.guard = none) (h4:isRecover o.op = true) {Q:Exit → Act → List Frame → World → Prop} {a:Act} {cs:List Frame}
   {rv:Value} {cs' : List Frame} (hrec:(recoverD cs = none ∧ rv = .nilIface ∧ cs' = cs) ∨ recoverD cs = some (rv,cs')) (h:c.wp P (fun e a' w' => Q e a' cs' w') (a.put (some s) rv) w) : (Code.seq (.region id os false) c).wpS P Q a cs w := by
 have e : os = #[o] := by rw [← Array.toList_inj]; simpa using h1
 subst e
 refine wpS_seq (wpS_region ?_)
 have hl : List.range (#[o] : Array Oper).size = [0] := rfl
 rw [hl]
 simp only [wpOpsS]
 have ho : (#[o] : Array Oper)[0]? = some o := rfl
 rw [ho]; simp only
 have hw : Region.wanted o (yielded #[o] a.tmps) = true := by unfold Region.wanted; rw [h3]
 rw [if_pos hw]
 have hrun : (execOp a.eval o).run P w = .ok .recover w := by
   cases hop : o.op <;> rw [hop] at h4 <;> (try simp only [isRecover] at h4) <;> try (simp at h4; done)
   rename_i cl
   obtain ⟨ce,ca,ct⟩ := cl
   cases ce <;> (try simp only [] at h4) <;> try (simp at h4; done)
   rename_i b
   cases b <;> (try simp only [] at h4) <;> try (simp at h4; done)
   simp [execOp,hop,resolve,invoke,builtin]
 rw [hrun]; simp only
 rcases hrec with ⟨e1,rfl,rfl⟩ | e1
 · rw [e1]; simp only; rw [h2]; exact wpS_of_wp h
 · rw [e1]; simp only; rw [h2]; exact wpS_of_wp h
theorem recv_sound (hm:P.follows .mixedOrders = true) (hc:CallOK P G call) (hq:CallQ call) (hl:LoopOK P G k loop) {IP:IProg} (hIP:∀ f fn,IP f = some fn → chkFun P f fn = true) {fid:Nat} {caps:List AV} {hp hp' : List HObj} {m:AV}
   (h:evalRecv G IP call loop lo fid caps hp m = some hp') (kk:Rel G g ⟨[],hp⟩ [] #[] w) {cvs:List Value} (hV:VS g w caps cvs) (hpl:plains caps = true) {u:FrameMode} (hu:Thrown g w m u) :
   (invoke (.fn (.func fid) cvs.toArray) #[]).run P w = .ok (.enter fid cvs.toArray) w ∧
     CallsD P fid cvs.toArray u w fun e u' w' => ∃ v g',e = .returned v ∧ settle u' = .returning ∧ Rel G g' ⟨[],hp'⟩ [] #[] w' ∧ Stay g w g' w' := by
 unfold evalRecv at h
 cases hfn : IP fid with
 | none => rw [hfn] at h; simp at h
 | some fn =>
 rw [hfn] at h; simp only at h
 have hf := hIP fid fn hfn
 simp only [chkFun,Bool.and_eq_true] at hf
 obtain ⟨hfo,hf⟩ := hf
 refine ⟨invoke_fn hfo _,?_⟩
 cases hmm : P.funcs[fid]? with
 | none => rw [hmm] at hf; simp at hf
 | some mf =>
 rw [hmm] at hf
 simp only [Bool.and_eq_true] at hf
 obtain ⟨⟨⟨hb,hres⟩,hnd⟩,har⟩ := hf
 cases hbd : mf.body with
 | none => rw [hbd] at hb; simp at hb
 | some c =>
 rw [hbd] at hb
 simp only [chkBody] at hb
 cases hrc : fn.rcv with
 | none => rw [hrc] at h; simp at h
 | some s =>
 cases hdf : fn.dfr with
 | some d => rw [hrc,hdf] at h; simp at h
 | none =>
 rw [hrc,hdf] at h hb
 simp only at h hb
 split at h
 · cases h
 rename_i hcnd
 simp only [not_or,Bool.not_eq_false,Nat.not_lt] at hcnd
 obtain ⟨c1,c2,c3⟩ := hcnd
 have hlen : caps.length = fn.arity := Nat.eq_of_beq_eq_true c1
 have hres0 : fn.res = [] := List.isEmpty_iff.1 c2
 have har' : fn.arity ≤ mf.ntmps := Nat.le_of_ble_eq_true har
 cases c <;> try (simp [chkRcv] at hb; done)
 rename_i x y
 cases x <;> try (simp [chkRcv] at hb; done)
 rename_i id os dr
 cases dr <;> try (simp [chkRcv] at hb; done)
 simp only [chkRcv,Bool.and_eq_true] at hb
 obtain ⟨⟨b1,b2⟩,b3⟩ := hb
 have hsn : s < mf.ntmps := by simpa using b3
 split at b1
 rotate_left
 · simp at b1
 rename_i o hos
 simp only [Bool.and_eq_true,decide_eq_true_eq,Option.isNone_iff_eq_none] at b1
 obtain ⟨⟨o1,o2⟩,o3⟩ := b1
 have hcl : cvs.length = caps.length := hV.len
 have hcp : VS g w (caps.map AV.cp) cvs := hV.cpAll
 have hplc : plains (caps.map AV.cp) = true := by
   simp only [plains,List.all_eq_true] at hpl ⊢
   intro c hc; simp only [List.mem_map] at hc; obtain ⟨d,hd,rfl⟩ := hc; exact plain_cp (hpl d hd)
 have kz : Rel G g ⟨[],hp⟩ ((caps.map AV.cp).zip cvs) #[] w := ⟨kk.fr,fun j v cv hj => by
   rw [List.getElem?_zip_eq_some] at hj
   obtain ⟨j1,j2⟩ := hj
   have hv := hcp.get' j1 j2
   rw [List.getElem?_map] at j1
   cases hd : caps[j]? with
   | none => rw [hd] at j1; simp at j1
   | some d =>
     rw [hd] at j1; simp at j1; subst j1
     have hpd : d.plain = true := by
       simp only [plains,List.all_eq_true] at hpl; exact hpl d (List.mem_of_getElem? hd)
     rw [VF_loose (AV.loose_of_plain (plain_cp hpd)),VX_plain (plain_cp hpd)]
     exact ⟨hv,Owns.cp⟩,kk.hp,kk.fresh,kk.gl⟩
 obtain ⟨k1,s1⟩ := kz.enter (by simpa using hcl) hplc (mf.ntmps - cvs.toArray.size)
 have hsize : (cvs.toArray ++ Array.replicate (mf.ntmps - cvs.toArray.size) undef).size = mf.ntmps := by
   simp; omega
 -- what is recovered
 have hrv : ∀ (c₀:Frame) (cs:List Frame),c₀.mode = u → ∃ rv u',((recoverD (c₀ :: cs) = none ∧ rv = .nilIface ∧ ({ c₀ with mode := u' } :: cs : List Frame) = c₀ :: cs) ∨ recoverD (c₀ :: cs) = some (rv,{ c₀ with mode := u' } :: cs)) ∧ settle u' = .returning ∧ V g w m rv ∧ m.plain = true := by
   intro c₀ cs hcu
   rcases hu with ⟨rfl,rfl⟩ | ⟨cv,h1,h2,rfl⟩
   · refine ⟨.nilIface,.returning,.inl ⟨?_,rfl,by rw [← hcu]⟩,rfl,by simp [V],rfl⟩
     simp [recoverD,hcu]
   · refine ⟨cv,.panicking [{ v := cv,recovered := true }],.inr ?_,by simp [settle],h1,h2⟩
     simp [recoverD,hcu]
 refine callsD_of_wpS hmm hbd fun c₀ cs hcu => ?_
 obtain ⟨rv,u',hr1,hr2,hr3,hr4⟩ := hrv c₀ cs hcu
 have kp : Rel G g.inn ⟨Rf.enter 0 (caps.map AV.cp),hp⟩ [(m.cp,rv)] (cvs.toArray ++ Array.replicate (mf.ntmps - cvs.toArray.size) undef) w := by
   have := k1.push (v := m.cp) (cv := rv) (VF_cp (AV.loose_of_plain hr4) (by rw [VX_plain hr4]; exact V.mono (s1.toSame.ext trivial) _ _ hr3))
   simpa using this
 have hloose : ((Rf.enter 0 (caps.map AV.cp)).get s).loose = true := by
   rw [get_enter]; simp only [Nat.zero_le,if_true,Nat.sub_zero]
   have : (caps.map AV.cp)[s]? = none := by rw [List.getElem?_eq_none_iff]; simp; omega
   rw [this]; rfl
 obtain ⟨g2,k2,s2,_⟩ := kp.into hloose (by rw [hsize]; exact hsn)
 refine wpS_recover hos o1 o2 o3 hr1 ?_
 have fin : ∀ {ex:Ex} {st' : St},evalC G call loop lo fn.body ⟨(Rf.enter 0 (caps.map AV.cp)).set s m.cp,hp⟩ = some (ex,st') → (ex = .normal ∨ ex = .ret) → st'.hp = hp' →
     y.wp P (fun e a' w' => bodyPostS P mf c₀ cs (fun e u' w' => ∃ v g',e = .returned v ∧ settle u' = .returning ∧ Rel G g' ⟨[],hp'⟩ [] #[] w' ∧ Stay g w g' w') e a' ({ c₀ with mode := u' } :: cs) w') (Act.put { tmps := cvs.toArray ++ Array.replicate (mf.ntmps - cvs.toArray.size) undef,defers := [] } (some s) rv) w := by
   intro ex st' he hex hh
   refine code_sound hm hc hq hl b2 (nt := ⟨⟨mf.ntmps,[]⟩,#[]⟩) k2 (NT.ok_any (by simp only [Act.put,Array.size_setIfInBounds]; exact hsize) _) he fun g' a' w' h1 h2 h3 h4 => ?_
   obtain ⟨cv,q1,q2,q3⟩ := run_results (fn := mf) (rs := []) (vs := []) h3 (by rw [← hres0]; exact hres) List.nodup_nil rfl
   have fact : a'.defers = [] ∧ ∃ u'',({ c₀ with mode := u' } :: cs : List Frame) = { c₀ with mode := u'' } :: cs ∧ ∃ v,(results mf a'.tmps).run P w' = .ok v w' ∧ ∃ v1 g1,(Ending.returned v) = .returned v1 ∧ settle u'' = .returning ∧ Rel G g1 ⟨[],hp'⟩ [] #[] w' ∧ Stay g w g1 w' :=
     ⟨h2,u',rfl,cv,q1,cv,_,rfl,hr2,by rw [← hh]; exact q2.less,(((s1.trans s2).trans h4).trans q3)⟩
   rcases hex with rfl | rfl
   · exact fact
   · exact fact
 split at h
 · rename_i st' he; cases h; exact fin he (.inl rfl) rfl
 · rename_i st' he; cases h; exact fin he (.inr rfl) rfl
 · cases h
end
end Go.Proofs.YtkofimhnehkdoaaGreatDoor.Rf
end
section
namespace Go.Proofs.YtkofimhnehkdoaaGreatDoor.Rf
section
variable {P:Program} {G:Nat → Option (List AV)} {call:CallF} {loop:LoopF} {lo k:Nat} {g:Gh} {w:World}
def Lv (P:Program) (G:Nat → Option (List AV)) (m:Func) (R:Ending → World → Prop) (g:Gh) (w:World) (s2:St) (ex:Ex) : Prop :=
 ∀ (g' : Gh) (tm' : Array Value) (w' : World),Rel G g' s2 [] tm' w' → Stay g w g' w' →
   match ex with
   | .normal | .ret => ∃ v,(results m tm').run P w' = .ok v w' ∧ R (.returned v) w'
   | .pan v => ∀ cv,V g' w' v cv → v.plain = true → R (.panicked [{ v := cv,recovered := false }]) w'
   | .exit _ => False
theorem leaves_recv (hm:P.follows .mixedOrders = true) (hc:CallOK P G call) (hq:CallQ call) (hl:LoopOK P G k loop) {IP:IProg} (hIP:∀ f fn,IP f = some fn → chkFun P f fn = true) {m:Func} {R:Ending → World → Prop} {s3:St} {d:DSpec} {mm:AV} {ex:Ex} {s4:St}
   (h:evalFin1 G IP call loop lo d s3 mm = some (ex,s4)) (hnd:d.caps.Nodup) {g' : Gh} {w' : World} {tm2 tm' : Array Value} (ht:∀ s,s ∈ d.caps → tm'.getD s undef = tm2.getD s undef) (k3:Rel G g' s3 [] tm' w') {u:FrameMode} (hu:Thrown g' w' mm u) (hst:Stay g w g' w') (hL:Lv P G m R g w s4 ex) :
   Leaves P m tm' R [theD d.f (capV tm2 d.caps)] u w' := by
 simp only [evalFin1] at h
 split at h
 rotate_left
 · cases h
 rename_i hp1 h1
 split at h
 rotate_left
 · cases h
 rename_i hp2 h2
 cases h
 have hcv : capV tm2 d.caps = capV tm' d.caps := List.map_congr_left fun s hs => (ht s hs).symm
 rw [hcv]
 obtain ⟨gh,kh,sh,vh⟩ := k3.toHeap h1 hnd
 obtain ⟨kd,sd⟩ := kh.drop
 have hu2 : Thrown (gh.outw []) w' mm u := by
   rcases hu with h | ⟨cv,h1,h2,h3⟩
   · exact .inl h
   · exact .inr ⟨cv,V.mono ((sh.trans sd).toSame.ext trivial) _ _ h1,h2,h3⟩
 have hpl : plains (ptrsFrom s3.hp.length d.caps) = true := by
   have : ∀ (l:List Nat) (n:Nat),plains (ptrsFrom n l) = true := by
     intro l
     induction l with
     | nil => intro n; rfl
     | cons x r ih => intro n; simp only [ptrsFrom,plains,List.all_cons,Bool.and_eq_true]; exact ⟨rfl,ih _⟩
   exact this _ _
 obtain ⟨r1,r2⟩ := recv_sound hm hc hq hl hIP h2 kd (VS.mono (sd.toSame.ext trivial) _ _ vh) hpl hu2
 refine leaves_cons hu.run r1 (CallsD.mono r2 fun e u' w4 hh => ?_)
 obtain ⟨v,g4,rfl,hs,hrel,hst4⟩ := hh
 simp only [hs]
 have st4 := (sh.trans sd).trans hst4
 have v4 := VS.mono ((sd.trans hst4).toSame.ext trivial) _ _ vh
 have kf : Rel G g4 ⟨setPtrs s3.hp.length d.caps,hp2⟩ [] tm' w4 := by
   refine ⟨fun s => ?_,fun j v cv hj => by simp at hj,hrel.hp,hrel.fresh,hrel.gl⟩
   simp only
   rcases get_setPtrs d.caps s3.hp.length s with h | ⟨i,q1,q2,q3⟩
   · rw [h]; simp [VF,VX,V,Owns]
   · rw [q3]
     have := v4.get' q2 (u := tm'.getD s undef) (by rw [List.getElem?_map,q1]; rfl)
     simp only [VF,VX]
     exact ⟨this,by simp [Owns]⟩
 exact hL g4 tm' w4 kf (hst.trans st4)
theorem body_sound (hm:P.follows .mixedOrders = true) (hc:CallOK P G call) (hq:CallQ call) (hl:LoopOK P G k loop) {IP:IProg} (hIP:∀ f fn,IP f = some fn → chkFun P f fn = true) {fn:IFun} {m:Func} {c:Code} {R:Ending → World → Prop}
   (hr:fn.rcv = none) (hb:chkBody P m.ntmps fn c = true) {st:St} {tm:Array Value} {ex:Ex} {s2:St} (kk:Rel G g st [] tm w) (hn:tm.size = m.ntmps) (he:evalF G IP call loop lo fn st = some (ex,s2)) (hL:Lv P G m R g w s2 ex) : c.wp P (bodyPostD P m R) { tmps := tm,defers := [] } w := by
 have goes : ∀ (nt:NT) {ex:Ex} {s2:St},Lv P G m R g w s2 ex → Goes G nt [] g w s2 ex (bodyPostD P m R) := fun nt ex s2 hL g' a' w' h1 h2 h3 h4 => by
   have := hL g' a'.tmps w' h3 h4
   cases ex with
   | normal => simp only [ExQ,bodyPostD,h2,Leaves]; exact this
   | ret => simp only [ExQ,bodyPostD,h2,Leaves]; exact this
   | pan v => simp only [ExQ,bodyPostD,h2,Leaves]; exact this
   | exit i => exact this.elim
 simp only [chkBody,hr] at hb
 cases hd : fn.dfr with
 | none =>
   rw [hd] at hb
   simp only [evalF,hd] at he
   exact code_sound hm hc hq hl hb (nt := ⟨⟨m.ntmps,[]⟩,#[]⟩) kk (NT.ok_any hn _) he (goes _ hL)
 | some d =>
   rw [hd] at hb
   have hdd := chkDef_nodup hb
   simp only [evalF,hd] at he
   split at he
   · rename_i s1 h1
     split at he
     rotate_left
     · cases he
     rename_i hlo
     cases h4 : evalC G call loop lo d.rest { s1 with fr := s1.fr.set d.t .none } with
     | none => rw [h4] at he; simp [evalFin] at he
     | some x =>
       obtain ⟨ex3,s3⟩ := x
       rw [h4] at he
       refine def_sound hm hc hq hl hb kk hn rfl h1 (fun h => absurd rfl h) (fun _ => ⟨hlo,ex3,s3,h4,fun g2 tm2 w2 p1 => fun g' a' w' q1 q2 q3 q4 => ?_⟩) hdd
       have lv : ∀ {mm:AV},evalFin1 G IP call loop lo d s3 mm = some (ex,s2) → ∀ {u:FrameMode},Thrown g' w' mm u → Leaves P m a'.tmps R [theD d.f (capV tm2 d.caps)] u w' := fun he _ hu =>
         leaves_recv hm hc hq hl hIP he (nodupB_spec hdd) q1.keep q3 hu (p1.trans q4) hL
       cases ex3 with
       | normal => simp only [ExQ,bodyPostD,q2]; exact lv he (.inl ⟨rfl,rfl⟩)
       | ret => simp only [ExQ,bodyPostD,q2]; exact lv he (.inl ⟨rfl,rfl⟩)
       | pan v => simp only [ExQ,bodyPostD,q2]; intro cv hv hp; exact lv he (.inr ⟨cv,hv,hp,rfl⟩)
       | exit i => simp [evalFin] at he
   · rename_i hne
     have hne' : ex ≠ .normal := fun e => by subst e; exact absurd he (by simpa using hne s2)
     exact def_sound hm hc hq hl hb kk hn rfl he (fun _ => goes _ hL) (fun e => absurd e hne') hdd
theorem run_quiet (IP:IProg) : ∀ k,CallQ (run G IP k).1
 | 0 => fun f vs hp lo r h => by simp [run] at h
 | k + 1 => fun f vs hp lo r h => by
   simp only [run,callBody] at h
   split at h
   · cases h
   · rename_i fn hfn
     split at h
     · cases h
     · rename_i hc
       have hs : fn.still = true := by simp at hc; exact hc.1.1
       simp only [hs,if_true] at h
       repeat' split at h
       all_goals first
         | (cases h; done)
         | (cases h; rfl)
theorem run_sound (hm : P.follows .mixedOrders = true) {IP:IProg} (hIP:∀ f fn,IP f = some fn → chkFun P f fn = true) : ∀ k,CallOK P G (run G IP k).1 ∧ ∀ lo,LoopOK P G k ((run G IP k).2 lo)
 | 0 => ⟨fun f vs hp lo q r g w us h => by simp [run] at h,fun lo nt body code _ Q g st a w ex st' _ _ h => by simp [run] at h⟩
 | k + 1 => by
   obtain ⟨hc,hl⟩ := run_sound hm hIP k
   refine ⟨fun f vs hp lo q r g w us h hlen hpl kk => ?_,fun lo nt body code hk Q g st a w ex st' kk hn hr h => ?_⟩
   · simp only [run, callBody] at h
     cases hfn : IP f with
     | none => rw [hfn] at h; simp at h
     | some fn =>
       rw [hfn] at h
       have hf := hIP f fn hfn
       simp only [chkFun,Bool.and_eq_true] at hf
       obtain ⟨hfo,hf⟩ := hf
       refine ⟨hfo,?_⟩
       cases hm' : P.funcs[f]? with
       | none => rw [hm'] at hf; simp at hf
       | some m =>
         rw [hm'] at hf
         simp only [Bool.and_eq_true] at hf
         obtain ⟨⟨⟨hb,hres⟩,hnd⟩,har⟩ := hf
         cases hbd : m.body with
         | none => rw [hbd] at hb; simp at hb
         | some c =>
           rw [hbd] at hb
           simp only at hb h
           split at h
           · cases h
           · rename_i hcnd
             have hq : vs.length = fn.arity := by
               simp at hcnd
               exact hcnd.1.2
             have harity : fn.arity ≤ m.ntmps := Nat.le_of_ble_eq_true har
             obtain ⟨k1,s1⟩ := kk.enter hlen hpl (m.ntmps - us.toArray.size)
             have hsize : (us.toArray ++ Array.replicate (m.ntmps - us.toArray.size) undef).size = m.ntmps := by
               simp; omega
             have hnodup := nodupB_spec hnd
             have hrc : fn.rcv = none := by
               simp at hcnd
               exact hcnd.2
             refine calls_of_wp_defers hm' hbd ?_
             -- what is owed behind the body
             have fin : ∀ {ex:Ex} {s2:St} (lo' : Nat),evalF G IP (run G IP k).1 ((run G IP k).2 lo') lo' fn { fr := Rf.enter 0 vs,hp } = some (ex,s2) →
                 Lv P G m (Ret G g w r) g.inn w s2 ex → c.wp P (bodyPostD P m (Ret G g w r)) { tmps := us.toArray ++ Array.replicate (m.ntmps - us.toArray.size) undef,defers := [] } w := fun lo' he hg =>
               body_sound hm hc (run_quiet IP k) (hl lo') hIP hrc hb k1 hsize he hg
             have fin1 : ∀ {s2 s3:St} {lo' : Nat} {vs' : List AV},frzs lo' fn.frz s2 = some s3 → evalRess s3 fn.res = some vs' → ∀ (g2:Gh) (tm2:Array Value) (w2:World),Rel G g2 s2 [] tm2 w2 → Stay g.inn w g2 w2 →
                 (∀ cv g3,Rel G g3 ⟨[],s3.hp⟩ [(tupOf vs',cv)] #[] w2 → Stay g w g3 w2 → Ret G g w r (.returned cv) w2) → ∃ v,(results m tm2).run P w2 = .ok v w2 ∧ Ret G g w r (.returned v) w2 := fun hfz he g2 tm2 w2 k2 s2 hR => by
               obtain ⟨g4,k4,s4⟩ := k2.frzs hfz
               obtain ⟨cv,q1,q2,q3⟩ := run_results k4 hres hnodup he
               exact ⟨cv,q1,hR cv _ q2 (((s1.trans s2).trans s4).trans q3)⟩
             cases hst : fn.still with
             | false =>
               simp only [hst,Bool.false_eq_true,if_false] at h
               split at h
               · rename_i s2 he
                 split at h
                 · rename_i sz hfz
                   split at h
                   · rename_i vs' hv; cases h
                     refine fin lo he fun g2 tm2 w2 k2 s2 => fin1 hfz hv g2 tm2 w2 k2 s2 fun cv g3 k3 s3 => ?_
                     exact ⟨g3,_,_,rfl,k3,s3⟩
                   · cases h
                 · cases h
               · rename_i s2 he
                 split at h
                 · rename_i sz hfz
                   split at h
                   · rename_i vs' hv; cases h
                     refine fin lo he fun g2 tm2 w2 k2 s2 => fin1 hfz hv g2 tm2 w2 k2 s2 fun cv g3 k3 s3 => ?_
                     exact ⟨g3,_,_,rfl,k3,s3⟩
                   · cases h
                 · cases h
               · rename_i v s2 he; cases h
                 refine fin lo he fun g2 tm2 w2 k2 s2 cv hv hp => ?_
                 have sm := same_outw g2 w2 []
                 exact ⟨g2.outw [],v,_,cv,rfl,rfl,V.mono (sm.ext trivial) _ _ hv,hp,
                   ⟨fun s => by simp [Fr.get,VF,VX,V,Owns],fun j u cu hj => by simp at hj,k2.hp.same sm trivial (fun _ => trivial) (fun _ _ => trivial) (fun _ _ _ => trivial) rfl,fun b o hb => by show (g2.ow b o).outw [] = .out; rw [k2.fresh b o hb]; rfl,k2.gl.same sm trivial trivial⟩,
                   (s1.trans s2).trans (stay_of_same sm trivial trivial)⟩
               · cases h
             | true =>
               simp only [hst,if_true] at h
               have pre : ∀ {ex:Ex} {s2:St},evalF G IP (run G IP k).1 ((run G IP k).2 hp.length) hp.length fn { fr := Rf.enter 0 vs,hp } = some (ex,s2) → s2.hp.take hp.length = hp := fun he => by
                 obtain ⟨p1,p2⟩ := run_pre (G := G) IP k
                 have := (evalF_pre p1 (p2 _) he (Nat.le_refl _)).1
                 simpa using this
               have pre' : ∀ {ex:Ex} {s2 s3:St},evalF G IP (run G IP k).1 ((run G IP k).2 hp.length) hp.length fn { fr := Rf.enter 0 vs,hp } = some (ex,s2) → frzs hp.length fn.frz s2 = some s3 → s3.hp.take hp.length = hp := fun he hfz => by
                 obtain ⟨p1,p2⟩ := run_pre (G := G) IP k
                 have q1 := evalF_pre p1 (p2 _) he (Nat.le_refl _)
                 have q2 := frzs_pre hfz q1.2
                 have := (q1.trans q2).1
                 simpa using this
               have hb0 : g.hb.length ≤ hp.length := Nat.le_of_eq kk.hp.len
               have fin2 : ∀ {s2:St} {vs' : List AV},s2.hp.take hp.length = hp → (tupOf vs').closed hp.length = true → ∀ (w2:World) cv g3,Rel G g3 ⟨[],s2.hp⟩ [(tupOf vs',cv)] #[] w2 → Stay g w g3 w2 → Ret G g w (.ret (tupOf vs') hp) (.returned cv) w2 := fun hpre hcl w2 cv g3 k3 s3 =>
                 ⟨g3.cutb hp.length,_,hp,rfl,k3.cutb hpre kk.hp kk.gl (fun j v cv hj => by
                   cases j with
                   | zero => simp at hj; obtain ⟨rfl,rfl⟩ := hj; exact hcl
                   | succ j => simp at hj),s3.cutb hb0⟩
               split at h
               · rename_i s2 he
                 split at h
                 · rename_i sz hfz
                   split at h
                   · rename_i vs' hv
                     split at h
                     · rename_i hcl; cases h
                       exact fin _ he fun g2 tm2 w2 k2 s2 => fin1 hfz hv g2 tm2 w2 k2 s2 fun cv g3 k3 s3 => fin2 (pre' he hfz) hcl w2 cv g3 k3 s3
                     · cases h
                   · cases h
                 · cases h
               · rename_i s2 he
                 split at h
                 · rename_i sz hfz
                   split at h
                   · rename_i vs' hv
                     split at h
                     · rename_i hcl; cases h
                       exact fin _ he fun g2 tm2 w2 k2 s2 => fin1 hfz hv g2 tm2 w2 k2 s2 fun cv g3 k3 s3 => fin2 (pre' he hfz) hcl w2 cv g3 k3 s3
                     · cases h
                   · cases h
                 · cases h
               · rename_i v s2 he
                 split at h
                 · rename_i hcl; cases h
                   refine fin _ he fun g2 tm2 w2 k2 s2 cv hv hp' => ?_
                   have sm := same_outw g2 w2 []
                   have k3 : Rel G (g2.outw []) ⟨[],_⟩ [] #[] w2 := ⟨fun s => by simp [Fr.get,VF,VX,V,Owns],fun j u cu hj => by simp at hj,k2.hp.same sm trivial (fun _ => trivial) (fun _ _ => trivial) (fun _ _ _ => trivial) rfl,fun b o hb => by show (g2.ow b o).outw [] = .out; rw [k2.fresh b o hb]; rfl,k2.gl.same sm trivial trivial⟩
                   exact ⟨(g2.outw []).cutb hp.length,v,hp,cv,rfl,rfl,V.cutb _ _ hcl (V.mono (sm.ext trivial) _ _ hv),hp',k3.cutb (pre he) kk.hp kk.gl (fun j v cv hj => by simp at hj),
                     ((s1.trans s2).trans (stay_of_same sm trivial trivial)).cutb hb0⟩
                 · cases h
               · cases h
   · simp only [run,loopBody] at hr
     rw [rounds_succ]
     split at hr
     · rename_i s1 he
       refine code_sound hm hc (run_quiet IP k) (hl lo) hk kk hn he fun g' a' w' h1 h2 h3 h4 => ?_
       exact hl lo nt body code hk Q g' s1 a' w' ex st' h3 h1 hr (by rw [h2]; exact h.after h4)
     · rename_i hne
       refine code_sound hm hc (run_quiet IP k) (hl lo) hk kk hn hr (h.mono fun g' a' w' h5 => ?_)
       cases ex with
       | normal => exact absurd hr (by simpa using hne st')
       | exit i => exact h5
       | ret => exact h5
       | pan v => exact h5
end
end Go.Proofs.YtkofimhnehkdoaaGreatDoor.Rf
end
section
namespace Go.Proofs.YtkofimhnehkdoaaGreatDoor.Rf
def aggTy (P:Program) (t:TypeId) : Bool :=
 match P.underlying t with
 | some (.struct _) | some (.array _ _) => true
 | _ => false
def elemAV (P:Program) (t:TypeId) (cs:List AV) : AV := if aggTy P t then .agg cs else cs.headD .none
def HasTy {H:Type} (P:Program) : Nat → TypeId → List AV → DataW H → Prop
 | 0,_,_,_ => False
 | n + 1,t,cs,d =>
   match P.underlying t with
   | some .bool => ∃ b,cs = [.bool b] ∧ d = .lit (.bool b)
   | some (.int k) => ∃ m,cs = [.int k m] ∧ (Lit.int k m).wf = true ∧ d = .lit (.int k m)
   | some .string => ∃ s : List UInt8,cs = [.str s] ∧ s.length ≤ maxLen ∧ d = .lit (.string s)
   | some (.slice e) => (cs = [.list [] .nil] ∧ d = .nil) ∨ ∃ xs els rest,cs = [.list xs .no] ∧ d = .slice els rest ∧ xs.length = els.length ∧ xs.length ≤ maxLen ∧ ∀ (i:Nat) x d',xs[i]? = some x → els[i]? = some d' → ∃ ds,x = elemAV P e ds ∧ HasTy P n e ds d'
   | some (.struct fs) => ∃ (parts:List (List AV)) (els:List (DataW H)),cs = parts.flatten ∧ d = .agg els ∧ parts.length = fs.size ∧ els.length = fs.size ∧ ∀ (i:Nat) f ds d',fs[i]? = some f → parts[i]? = some ds → els[i]? = some d' → HasTy P n f.type ds d'
   | some (.array m e) => ∃ (parts:List (List AV)) (els:List (DataW H)),cs = parts.flatten ∧ d = .agg els ∧ parts.length = m ∧ els.length = m ∧ ∀ (i:Nat) ds d',parts[i]? = some ds → els[i]? = some d' → HasTy P n e ds d'
   | _ => False
def tileOk (P:Program) : List Field → Nat → Nat → Bool
 | [],k,n => Nat.beq k n
 | f :: r,k,n => Nat.beq f.offset k && tileOk P r (k + P.cellsOf f.type) n
def covT (P:Program) (S:List TypeId) (t:TypeId) : Bool :=
 match P.underlying t with
 | some .bool | some (.int _) | some .string => Nat.beq (P.cellsOf t) 1
 | some (.slice e) => S.contains e && Nat.blt 0 (P.cellsOf e) && Nat.beq (P.cellsOf t) 1
 | some (.struct fs) => fs.toList.all (fun f => S.contains f.type) && tileOk P fs.toList 0 (P.cellsOf t)
 | some (.array n e) => S.contains e && Nat.beq (n * P.cellsOf e) (P.cellsOf t)
 | _ => false
def covS (P:Program) (S:List TypeId) : Bool := S.all (covT P S)
section
variable {H:Type} {enc:TypeId × Value → H} {P:Program} {g:Gh} {W:World} {base:Nat} {held:Bool}
theorem pick_all {α:Type} {Q:Nat → α → Prop} : ∀ (n:Nat),(∀ i,i < n → ∃ x,Q i x) → ∃ xs : List α,xs.length = n ∧ ∀ (i:Nat) x,xs[i]? = some x → Q i x
 | 0,_ => ⟨[],rfl,fun i x h => by simp at h⟩
 | n + 1,h => by
   obtain ⟨xs,h1,h2⟩ := pick_all n fun i hi => h i (by omega)
   obtain ⟨x,hx⟩ := h n (by omega)
   refine ⟨xs ++ [x],by simp [h1],fun i y hy => ?_⟩
   rw [List.getElem?_append] at hy
   split at hy
   · exact h2 i y hy
   · rename_i hlt
     have : i = n := by
       have := (List.getElem?_eq_some_iff.1 hy).1; simp at this; omega
     subst this; simp [h1] at hy; subst hy; exact hx
theorem VE.of_get {w:World} {sz:Nat} : ∀ {xs:List AV} {b off:Nat},(∀ (i:Nat) x,xs[i]? = some x → x.cells.length = sz ∧ VC g w x.cells b (off + i * sz)) → VE g w sz xs b off
 | [],_,_,_ => by simp [VE]
 | x :: xs,b,off,h => by
   have h0 := h 0 x rfl
   rw [Nat.zero_mul,Nat.add_zero] at h0
   refine VE.cons_mk h0.1 h0.2 (VE.of_get fun i y hy => ?_)
   have := h (i + 1) y (by simpa using hy)
   rwa [show off + (i + 1) * sz = off + sz + i * sz by rw [Nat.succ_mul]; omega] at this
theorem VC.of_get {w:World} : ∀ {cs:List AV} {b off:Nat},(∀ (i:Nat) c,cs[i]? = some c → g.ow b (off + i) = .imm ∧ ∃ cv,w.cell? ⟨b,off + i,none⟩ = some cv ∧ cv.oneCell' = true ∧ V g w c cv) → VC g w cs b off
 | [],_,_,_ => by simp [VC]
 | c :: cs,b,off,h => by
   simp only [VC]
   have h0 := h 0 c rfl
   rw [Nat.add_zero] at h0
   refine ⟨⟨by rw [h0.1]; trivial,h0.2⟩,VC.of_get fun i y hy => ?_⟩
   have := h (i + 1) y (by simpa using hy)
   rwa [show off + (i + 1) = off + 1 + i by omega] at this
theorem VS.tiles {cells:List Value} {n:Nat} (hn:cells.length = n) : ∀ (sizes:List Nat) (k:Nat) (parts:List (List AV)),parts.length = sizes.length → k + sizes.sum = n →
   (∀ (i:Nat) ds sz,parts[i]? = some ds → sizes[i]? = some sz → VS g W ds ((cells.drop (k + (sizes.take i).sum)).take sz) ∧ Ones ((cells.drop (k + (sizes.take i).sum)).take sz)) → VS g W parts.flatten (cells.drop k) ∧ Ones (cells.drop k)
 | [],k,parts,hp,hk,_ => by
   have : parts = [] := List.length_eq_zero_iff.1 (by simpa using hp)
   subst this
   have e : cells.drop k = [] := List.drop_eq_nil_of_le (by simp at hk; omega)
   rw [e]; exact ⟨by simp [VS],fun u hu => by simp at hu⟩
 | sz :: sizes,k,[],hp,_,_ => by simp at hp
 | sz :: sizes,k,ds :: parts,hp,hk,h => by
   have h0 := h 0 ds sz rfl rfl
   simp at h0
   have ih := VS.tiles hn sizes (k + sz) parts (by simpa using hp) (by simp at hk; omega) (fun i ds' sz' a b => by
     have := h (i + 1) ds' sz' (by simpa using a) (by simpa using b)
     simpa [Nat.add_assoc] using this)
   have e : cells.drop k = (cells.drop k).take sz ++ cells.drop (k + sz) := by
     rw [← List.drop_drop,List.take_append_drop]
   rw [e,List.flatten_cons]
   refine ⟨h0.1.append ih.1,fun u hu => ?_⟩
   rcases List.mem_append.1 hu with hu | hu
   · exact h0.2 u hu
   · exact ih.2 u hu
theorem tile_sum : ∀ {fs:List Field} {k n:Nat},tileOk P fs k n = true → k + (fs.map fun f => P.cellsOf f.type).sum = n ∧ ∀ (i:Nat) f,fs[i]? = some f → f.offset = k + ((fs.map fun f => P.cellsOf f.type).take i).sum
 | [],k,n,h => by simp [tileOk] at h; exact ⟨by simp [h],fun i f hf => by simp at hf⟩
 | f :: r,k,n,h => by
   simp only [tileOk,Bool.and_eq_true] at h
   obtain ⟨h1,h2⟩ := tile_sum h.2
   have h0 := Nat.eq_of_beq_eq_true h.1
   refine ⟨by simp; omega,fun i f' hf => ?_⟩
   cases i with
   | zero => simp at hf; subst hf; simpa using h0
   | succ i => have := h2 i f' (by simpa using hf); simp; omega
theorem cell_spot {w:World} {a:Addr} {v:Value} (h:w.cell? a = some v) : a.spot = none := by
 unfold World.cell? at h
 split at h
 · split at h
   · cases h
   · rename_i hs; simpa using hs
 · cases h
theorem trod_V {S : List TypeId} (hS:covS P S = true) (hg:∀ b o,b < W.heap.size → g.ow b o = .imm) : ∀ (fuel:Nat) (t:TypeId) (cs:List Value) (x:DataW H × List MemPlace),t ∈ S → DataW.trod enc P W base (fun _ => true) held fuel t cs = some x →
   ∃ avs,VS g W avs cs ∧ Ones cs ∧ HasTy P fuel t avs x.1 ∧ cs.length = P.cellsOf t := by
 intro fuel
 induction fuel with
 | zero => intro t cs x _ h; simp [DataW.trod] at h
 | succ fuel ih =>
   intro t cs x ht h
   have hc : covT P S t = true := by simp only [covS,List.all_eq_true] at hS; exact hS t ht
   unfold covT at hc
   cases hu : P.underlying t with
   | none => simp [hu] at hc
   | some d =>
     cases d <;> simp [hu] at hc
     case bool =>
       obtain ⟨b,rfl,rfl⟩ := DataW.trod_bool hu h
       exact ⟨[.bool b],by simp [VS,V],by simp [Ones,Value.oneCell'],by simp only [HasTy,hu]; exact ⟨b,rfl,rfl⟩,by simp [hc]⟩
     case int k =>
       obtain ⟨n,rfl,rfl,hw⟩ := DataW.trod_int hu h
       exact ⟨[.int k n],by simp [VS,V],by simp [Ones,Value.oneCell'],by simp only [HasTy,hu]; exact ⟨n,rfl,hw,rfl⟩,by simp [hc]⟩
     case string =>
       obtain ⟨s,rfl,rfl,hw⟩ := DataW.trod_string hu h
       refine ⟨[.str s.data.toList],?_,by simp [Ones,Value.oneCell'],by simp only [HasTy,hu]; exact ⟨_,rfl,(by rw [Array.length_toList]; exact hw),rfl⟩,by simp [hc]⟩
       simp only [VS,V]
       exact ⟨_,[],rfl,by simp,rfl⟩
     case slice e =>
       obtain ⟨⟨he,hpos⟩,h1⟩ := hc
       rcases DataW.trod_slice hu h with ⟨rfl,rfl⟩ | ⟨a,len,cap,elems,rest,n,hn,rfl,rfl,hb,hl,hcap,hel,hget,hsp,_⟩
       · refine ⟨[.list [] .nil],?_,by simp [Ones,Value.oneCell'],by simp only [HasTy,hu]; exact .inl (by simp),by simp [h1]⟩
         simp only [VS,V]
         exact ⟨_,[],rfl,⟨none,0,rfl,by simp,by decide,⟨fun _ => rfl,fun _ => rfl⟩,fun _ => rfl,fun a e => by cases e⟩,rfl⟩
       · cases hn
         -- the address is a plain one
         have first : 0 < cap → a.spot = none := fun hc0 => by
           have key : ∀ {y:Option (DataW H × List MemPlace)},(W.cells? base (a.add 0) (P.cellsOf e)).bind (DataW.trod enc P W base (fun _ => true) held fuel e) = y → y ≠ none → a.spot = none := fun {y} hy hne => by
             cases hcs : W.cells? base (a.add 0) (P.cellsOf e) with
             | none => rw [hcs] at hy; simp at hy; exact absurd hy.symm hne
             | some l =>
               obtain ⟨_,q2,q3⟩ := World.cells?_some hcs
               have := q3 0 hpos
               have h0 : l[0]? = some l[0] := List.getElem?_eq_getElem (by omega)
               rw [h0] at this
               have e0 : (a.add 0).add 0 = a := by simp [Addr.add]
               rw [e0] at this
               exact cell_spot this
           by_cases h0 : 0 < len
           · have := hget 0 h0
             rw [Nat.zero_mul] at this
             exact key this (by rw [List.getElem?_eq_getElem (by omega)]; simp)
           · have h00 : len = 0 := by omega
             obtain ⟨r1,r2⟩ := hsp rfl
             have := r2 0 (by omega)
             rw [h00,Nat.zero_add,Nat.zero_mul] at this
             exact key this (by rw [List.getElem?_eq_getElem (by omega)]; simp)
         have one : ∀ i,i < len → ∃ y,(y.cells.length = P.cellsOf e ∧ VC g W y.cells a.block (a.off + i * P.cellsOf e)) ∧ ∃ ds d',y = elemAV P e ds ∧ elems[i]? = some d' ∧ HasTy P fuel e ds d'.1 := fun i hi => by
           have hgi := hget i hi
           have hei : elems[i]? = some elems[i] := List.getElem?_eq_getElem (by omega)
           rw [hei] at hgi
           cases hcs : W.cells? base (a.add (i * P.cellsOf e)) (P.cellsOf e) with
           | none => rw [hcs] at hgi; simp at hgi
           | some l =>
             rw [hcs] at hgi
             simp only [Option.bind_some] at hgi
             obtain ⟨avs,v1,v2,v3,v4⟩ := ih e l _ (by simpa using he) hgi
             obtain ⟨_,q2,q3⟩ := World.cells?_some hcs
             have hs := first (by omega)
             have ha : a.add (i * P.cellsOf e) = ⟨a.block,a.off + i * P.cellsOf e,none⟩ := by
               obtain ⟨b,q,sp⟩ := a
               simp only at hs; subst hs
               exact Addr.add_lit b q _
             have hvc : VC g W avs a.block (a.off + i * P.cellsOf e) := VC.of_get fun j c hj => by
               obtain ⟨u,u1,u2⟩ := v1.get hj
               have hjl := (List.getElem?_eq_some_iff.1 u1).1
               have := q3 j (by omega)
               rw [u1,ha,Addr.add_lit] at this
               exact ⟨hg _ _ (World.block_lt_of_cell? W ⟨a.block,a.off + i * P.cellsOf e + j,none⟩ this),u,this,v2 u (List.mem_of_getElem? u1),u2⟩
             have hlen : avs.length = P.cellsOf e := by rw [← v1.len]; exact v4
             refine ⟨elemAV P e avs,?_,avs,elems[i],rfl,hei,v3⟩
             unfold elemAV
             by_cases hag : aggTy P e = true
             · rw [if_pos hag]; exact ⟨hlen,hvc⟩
             · rw [if_neg hag]
               have hce : covT P S e = true := by simp only [covS,List.all_eq_true] at hS; exact hS e (by simpa using he)
               have h3 := v3
               cases fuel with
               | zero => exact h3.elim
               | succ m =>
                 unfold aggTy at hag
                 unfold covT at hce
                 simp only [HasTy] at h3
                 cases hue : P.underlying e with
                 | none => simp [hue] at hce
                 | some de =>
                   rw [hue] at h3 hag hce
                   cases de <;> simp at hag hce
                   case bool => obtain ⟨b,rfl,_⟩ := h3; exact ⟨hlen,hvc⟩
                   case int k => obtain ⟨b,rfl,_⟩ := h3; exact ⟨hlen,hvc⟩
                   case string => obtain ⟨b,rfl,_⟩ := h3; exact ⟨hlen,hvc⟩
                   case slice e2 =>
                     rcases h3 with ⟨rfl,_⟩ | ⟨xs,_,_,rfl,_⟩ <;> exact ⟨hlen,hvc⟩
         obtain ⟨xs,hxl,hx⟩ := pick_all len one
         refine ⟨[.list xs .no],?_,by simp [Ones,Value.oneCell'],?_,by simp [h1]⟩
         · simp only [VS,V]
           refine ⟨_,[],rfl,⟨some a,cap,by rw [hxl],by omega,by simpa [maxLen] using hcap,⟨fun e => (by cases e),fun e => (by cases e)⟩,(fun e => by cases e),fun ad ha => ?_⟩,rfl⟩
           cases ha
           exact ⟨fun hc => first (hc.resolve_left (by simp)),(fun hn => absurd rfl hn),P.cellsOf e,VE.of_get fun i y hy => (hx i y hy).1⟩
         · simp only [HasTy,hu]
           refine .inr ⟨xs,elems.map (·.1),rest.map (·.1),rfl,rfl,by simp [hxl,hel],by omega,fun i y d' hy hd => ?_⟩
           obtain ⟨_,ds,d'',e1,e2,e3⟩ := hx i y hy
           rw [List.getElem?_map,e2] at hd
           simp at hd; subst hd
           exact ⟨ds,e1,e3⟩
     case struct fs =>
       obtain ⟨hall,htile⟩ := hc
       obtain ⟨xs,n,hn,rfl,hlen,hxl,hget⟩ := DataW.trod_struct hu h
       cases hn
       obtain ⟨ts1,ts2⟩ := tile_sum htile
       have one : ∀ i,i < fs.size → ∃ ds,(∃ f d',fs[i]? = some f ∧ xs[i]? = some d' ∧ HasTy P fuel f.type ds d'.1 ∧ VS g W ds ((cs.drop f.offset).take (P.cellsOf f.type)) ∧ Ones ((cs.drop f.offset).take (P.cellsOf f.type))) := fun i hi => by
         have hf : fs[i]? = some fs[i] := Array.getElem?_eq_getElem hi
         have hxi : xs[i]? = some xs[i] := List.getElem?_eq_getElem (by omega)
         have := hget i _ hf
         rw [hxi] at this
         obtain ⟨avs,v1,v2,v3,_⟩ := ih _ _ _ (by
           have := hall i hi
           simpa using this) this
         exact ⟨avs,_,_,hf,hxi,v3,v1,v2⟩
       obtain ⟨parts,hpl,hp⟩ := pick_all fs.size one
       have tl := VS.tiles (g := g) (W := W) hlen (fs.toList.map fun f => P.cellsOf f.type) 0 parts (by simp [hpl]) (by simpa using ts1) (fun i ds sz a b => by
         obtain ⟨f,d',q1,_,_,q4,q5⟩ := hp i ds a
         have hfl : fs.toList[i]? = some f := by rw [Array.getElem?_toList]; exact q1
         rw [List.getElem?_map,hfl] at b
         simp at b; subst b
         have := ts2 i f hfl
         rw [← this]; exact ⟨q4,q5⟩)
       simp only [List.drop_zero] at tl
       refine ⟨parts.flatten,tl.1,tl.2,?_,hlen⟩
       simp only [HasTy,hu]
       refine ⟨parts,xs.map (·.1),rfl,rfl,hpl,by simp [hxl],fun i f ds d' a b c => ?_⟩
       obtain ⟨f',d'',q1,q2,q3,_⟩ := hp i ds b
       rw [a] at q1; cases q1
       rw [List.getElem?_map,q2] at c
       simp at c; subst c; exact q3
     case array m e =>
       obtain ⟨he,hsz⟩ := hc
       obtain ⟨xs,n,hn,rfl,hlen,hxl,hget⟩ := DataW.trod_array hu h
       cases hn
       have one : ∀ i,i < m → ∃ ds,(∃ d',xs[i]? = some d' ∧ HasTy P fuel e ds d'.1 ∧ VS g W ds ((cs.drop (i * P.cellsOf e)).take (P.cellsOf e)) ∧ Ones ((cs.drop (i * P.cellsOf e)).take (P.cellsOf e))) := fun i hi => by
         have hxi : xs[i]? = some xs[i] := List.getElem?_eq_getElem (by omega)
         have := hget i hi
         rw [hxi] at this
         obtain ⟨avs,v1,v2,v3,_⟩ := ih _ _ _ (by simpa using he) this
         exact ⟨avs,_,hxi,v3,v1,v2⟩
       obtain ⟨parts,hpl,hp⟩ := pick_all m one
       have tl := VS.tiles (g := g) (W := W) hlen (List.replicate m (P.cellsOf e)) 0 parts (by simp [hpl]) (by simp; exact hsz) (fun i ds sz a b => by
         obtain ⟨d',_,_,q4,q5⟩ := hp i ds a
         have hi := (List.getElem?_eq_some_iff.1 a).1
         have hsz' : sz = P.cellsOf e := by
           obtain ⟨h1,h2⟩ := List.getElem?_eq_some_iff.1 b; simp at h2; exact h2.symm
         subst hsz'
         have hm : min i m = i := by omega
         simp [List.take_replicate,hm]
         exact ⟨q4,q5⟩)
       simp only [List.drop_zero] at tl
       refine ⟨parts.flatten,tl.1,tl.2,?_,hlen⟩
       simp only [HasTy,hu]
       refine ⟨parts,xs.map (·.1),rfl,rfl,hpl,by simp [hxl],fun i ds d' b c => ?_⟩
       obtain ⟨d'',q2,q3,_⟩ := hp i ds b
       rw [List.getElem?_map,q2] at c
       simp at c; subst c; exact q3
end
end Go.Proofs.YtkofimhnehkdoaaGreatDoor.Rf
end
