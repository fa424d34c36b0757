/- A part of the proof: see the last text. -/
import Derived.Test.YtkofimhnehkdoaaGreatDoorRcG2
import Derived.Laws.CopyRow
import Derived.Laws.Strings
import Derived.Laws.Entries
set_option linter.unusedVariables false
set_option linter.unusedSimpArgs false
section
namespace Go.Proofs.YtkofimhnehkdoaaGreatDoor.Rf
section
variable {P:Program} {G:Nat → Option (List AV)} {g:Gh} {st:St} {a:Act} {w:World} {o:Oper} {tm:Array Value} {ps:List (AV × Value)}
theorem VC.get : ∀ {cs:List AV} {b off:Nat},VC g w cs b off → ∀ {i:Nat} {c:AV},cs[i]? = some c → (g.ow b (off + i)).ro ∧ ∃ cv,w.cell? ⟨b,off + i,none⟩ = some cv ∧ cv.oneCell' = true ∧ V g w c cv
 | [],_,_,_,_,_,h => by simp at h
 | c :: cs,b,off,h,0,d,hd => by simp only [VC] at h; simp at hd; subst hd; exact h.1
 | c :: cs,b,off,h,i + 1,d,hd => by
   simp only [VC] at h
   have := VC.get h.2 (i := i) (by simpa using hd)
   rwa [show off + 1 + i = off + (i + 1) by omega] at this
theorem V.loose {v:AV} {cv:Value} (h:V g w v cv) : v.loose = true := by
 cases v <;> first | rfl | (simp only [V] at h)
theorem Rel.behind (k:Rel G g st ps tm w) {p:AV} {cv:Value} (hp:VX g w st.fr tm p cv) {cs:List AV} {off:Nat} (h:behind G st p = some (cs,off)) :
   ∃ b o0,cv = .pointer (some ⟨b,o0 + off,none⟩) ∧ ∀ (i:Nat) c,cs[i]? = some c → ∃ u,w.cell? ⟨b,o0 + i,none⟩ = some u ∧ u.oneCell' = true ∧ V g w c u := by
 have rows : ∀ {b:Nat} {vs:List Value} {ty:TypeId},w.heap[b]? = some (.cells vs.toArray ty (0,0)) → (VS g w cs vs ∧ Ones vs) → ∀ (i:Nat) c,cs[i]? = some c → ∃ u,w.cell? ⟨b,0 + i,none⟩ = some u ∧ u.oneCell' = true ∧ V g w c u := by
   intro b vs ty hb hv i c hc
   obtain ⟨u,hu,hv'⟩ := hv.1.get hc
   exact ⟨u,by rw [Nat.zero_add]; simp [World.cell?,hb,hu],hv.2 u (List.mem_of_getElem? hu),hv'⟩
 have rowsA : ∀ {b:Nat} {vs sp:List Value} {ty:TypeId},w.heap[b]? = some (.cells (vs ++ sp).toArray ty (0,0)) → (VS g w cs vs ∧ Ones vs) → ∀ (i:Nat) c,cs[i]? = some c → ∃ cv,w.cell? ⟨b,0 + i,none⟩ = some cv ∧ cv.oneCell' = true ∧ V g w c cv := by
   intro b vs sp ty hb hv i c hc
   obtain ⟨u,hu,hv'⟩ := hv.1.get hc
   have hu' : (vs ++ sp)[i]? = some u := by rw [List.getElem?_append,if_pos (List.getElem?_eq_some_iff.1 hu).1]; exact hu
   exact ⟨u,by rw [Nat.zero_add]; simp [World.cell?,hb,hu'],hv.2 u (List.mem_of_getElem? hu),hv'⟩
 cases p <;> simp only [Rf.behind] at h <;> try (cases h; done)
 case ptr id off' =>
   cases ho : st.hp[id]? with
   | none => simp [ho] at h
   | some x =>
     cases x with
     | dead => simp [ho] at h
     | map es => simp [ho] at h
     | cells t0 ds =>
       simp [ho] at h; obtain ⟨rfl,rfl⟩ := h
       obtain ⟨b,k1,k2,k3⟩ := k.hp.obj id _ ho rfl
       simp only [ObjRel] at k3; obtain ⟨vs,sp,ty,k4,k5,_⟩ := k3
       simp only [VX,V] at hp; obtain ⟨b',h1,h2⟩ := hp
       rw [k1] at h1; cases h1
       exact ⟨b,0,by simpa using h2,rowsA k4 k5⟩
 case lref s off' =>
   have f := k.fr s
   cases hf : st.fr.get s <;> simp [hf] at h
   rw [hf] at f; obtain ⟨rfl,rfl⟩ := h
   simp only [VF] at f; obtain ⟨vs,ty,f1,f2,f3,_⟩ := f
   simp only [VX] at hp
   exact ⟨_,0,by simpa using hp.1,rows f2 f3⟩
 case eref x off' =>
   simp at h; obtain ⟨rfl,rfl⟩ := h
   simp only [VX] at hp; obtain ⟨b,o0,h1,h2⟩ := hp
   exact ⟨b,o0,h1,fun i c hc => (h2.get hc).2⟩
 case glob b off' =>
   cases hG : G b with
   | none => simp [hG] at h
   | some ds =>
     simp [hG] at h; obtain ⟨rfl,rfl⟩ := h
     obtain ⟨vs,ty,h1,h2,_⟩ := k.gl b ds hG
     simp only [VX,V] at hp
     exact ⟨b,0,by simpa using hp,rows h1 h2⟩
def tyOk (P:Program) (t:TypeId) (n:Nat) (agg:Bool) : Bool :=
 match P.info? t,P.underlying t with
 | some i,some d => decide (i.size = n) && decide (0 < n) && (match d with | .struct _ | .array _ _ => agg | _ => !agg && decide (n = 1))
 | _,_ => false
theorem run_loadVar_at {t:TypeId} {n:Nat} {agg:Bool} (h:tyOk P t n agg = true) {b off:Nat} {us:List Value} (hl:us.length = n) (hc:∀ (i:Nat) u,us[i]? = some u → w.cell? ⟨b,off + i,none⟩ = some u) :
   (loadVar t ⟨b,off,none⟩).run P w = .ok (if agg then .agg us.toArray else us.headD undef) w := by
 unfold tyOk at h
 cases hi : P.info? t with
 | none => simp [hi] at h
 | some i =>
   cases hu : P.underlying t with
   | none => simp [hi,hu] at h
   | some d =>
     simp only [hi,hu,Bool.and_eq_true,decide_eq_true_eq] at h
     obtain ⟨⟨h1,h0⟩,h2⟩ := h
     have hcs : (loadCells ⟨b,off,none⟩ us.length).run P w = .ok us.toArray w := run_loadCells_list (P := P) w ⟨b,off,none⟩ us (fun j v hv => by rw [Addr.add_lit]; exact hc j v hv)
     have hagg : (isAgg t).run P w = .ok agg w := by
       unfold isAgg
       rw [Sem.run_bind,run_underlying hu w]
       cases d <;> simp_all
     cases agg with
     | true => simp [loadVar,hagg,sizeOf,typeInfo,hi,h1,← hl,hcs]
     | false =>
       have hn : n = 1 := by cases d <;> simp_all
       subst hn
       match us,hl with
       | [u],_ =>
         have h3 := hc 0 u rfl
         rw [Nat.add_zero] at h3
         simp [loadVar,hagg,load,Sem.run,h3]
theorem cut_get {cs l:List AV} {off n:Nat} (h:cut cs off n = some l) : l.length = n ∧ ∀ (i:Nat) c,l[i]? = some c → cs[off + i]? = some c := by
 unfold cut at h
 split at h
 · rename_i hle
   simp at h; subst h
   refine ⟨by simp; omega,fun i c hc => ?_⟩
   rw [List.getElem?_take] at hc
   split at hc
   · rw [List.getElem?_drop] at hc; exact hc
   · cases hc
 · cases h
theorem Rel.cutAt (k:Rel G g st ps tm w) {p:AV} {cv:Value} (hp:VX g w st.fr tm p cv) {cs l:List AV} {off n:Nat} (h:Rf.behind G st p = some (cs,off)) (hl:cut cs off n = some l) :
   ∃ b q,cv = .pointer (some ⟨b,q,none⟩) ∧ ∃ us : List Value,us.length = n ∧ (∀ (i:Nat) u,us[i]? = some u → w.cell? ⟨b,q + i,none⟩ = some u) ∧ VS g w l us ∧ Ones us := by
 obtain ⟨b,o0,h1,h2⟩ := k.behind hp h
 obtain ⟨hn,hg⟩ := cut_get hl
 have hall : ∀ i : Nat,i < n → ∃ u,w.cell? ⟨b,o0 + off + i,none⟩ = some u ∧ u.oneCell' = true ∧ ∀ c,l[i]? = some c → V g w c u := by
   intro i hi
   have hc : l[i]? = some l[i] := List.getElem?_eq_getElem (by omega)
   obtain ⟨u,e1,e2,e3⟩ := h2 (off + i) _ (hg i _ hc)
   exact ⟨u,by rw [← e1]; congr 2; omega,e2,fun c hc' => by rw [hc] at hc'; cases hc'; exact e3⟩
 have hf : ∃ f : Nat → Value,∀ i,i < n → w.cell? ⟨b,o0 + off + i,none⟩ = some (f i) ∧ (f i).oneCell' = true ∧ ∀ c,l[i]? = some c → V g w c (f i) := by
   classical
   exact ⟨fun i => if h : i < n then (hall i h).choose else undef,fun i hi => by simp only [dif_pos hi]; exact (hall i hi).choose_spec⟩
 obtain ⟨f,hf⟩ := hf
 refine ⟨b,o0 + off,h1,(List.range n).map f,by simp,fun i u hu => ?_,VS.mk (by simp [hn]) fun i v u hv hu => ?_,fun u hu => ?_⟩
 · obtain ⟨hi,e⟩ := List.getElem?_eq_some_iff.1 hu
   simp at hi e; subst e; exact (hf i hi).1
 · obtain ⟨hi,e⟩ := List.getElem?_eq_some_iff.1 hu
   simp at hi e; subst e; exact (hf i hi).2.2 v hv
 · simp at hu; obtain ⟨i,hi,rfl⟩ := hu; exact (hf i hi).2.1
theorem VF_ofCells {r:Root} {agg:Bool} {l:List AV} {us:List Value} {fr:Fr} (hv:VS g w l us) (h1:Ones us) (hn:agg = false → us.length = 1) (ho:agg = false → ∀ c u,l = [c] → us = [u] → Owns g w r c u) : VF g w fr tm r (ofCells agg l) (if agg then .agg us.toArray else us.headD undef) := by
 cases agg with
 | true => exact VF_scalar rfl (VX_of_V (by simp only [ofCells,if_true,V]; exact ⟨us,rfl,hv,h1⟩)) (by simp [ofCells]) (by simp [ofCells])
 | false =>
   have hu := hn rfl
   match us,hu with
   | [u],_ =>
     match l,hv.len with
     | [c],_ =>
       simp only [VS] at hv; obtain ⟨u',r',e,hv,_⟩ := hv; cases e
       simp only [ofCells,Bool.false_eq_true,if_false,List.headD]
       rw [VF_loose hv.loose]; exact ⟨VX_of_V hv,ho rfl c u rfl rfl⟩
theorem Owns.cp1 {r:Root} {v:AV} {cv:Value} (h:∀ vs,v ≠ .tup vs) : Owns g w r v.cp1 cv := by
 refine Owns.not_own (fun xs sz e h => AV.cp1_not_own v xs sz e h) fun vs e => ?_
 cases v <;> simp only [AV.cp1] at e <;> try (cases e; done)
 case tup us => exact h us rfl
theorem V.not_tup {v:AV} {cv:Value} (h:V g w v cv) (h1:cv.oneCell' = true) : ∀ vs,v ≠ .tup vs := by
 rintro vs rfl; simp only [V] at h; obtain ⟨us,rfl,_⟩ := h; simp [Value.oneCell'] at h1
theorem fits_load (k:Rel G g st [] a.tmps w) {x:Opd} {y:Operand} (hx:opdOk x y = true) {t:TypeId} {n:Nat} {agg:Bool} (ht:tyOk P t n agg = true) (ho:o.op = .load t y)
   {cs l:List AV} {off:Nat} (h:Rf.behind G st (opd st.fr x).1 = some (cs,off)) (hl:cut cs off n = some l) : Fits P G g st (.val (ofCells agg (l.map AV.cp1)) st) o a w := by
 have hr := k.read hx
 obtain ⟨b,q,h1,us,h2,h3,h4,h5⟩ := k.cutAt hr h hl
 have hn : agg = false → n = 1 := fun e => by
   subst e; unfold tyOk at ht
   cases hi : P.info? t <;> cases hu : P.underlying t <;> simp [hi,hu] at ht
   rename_i i d; cases d <;> simp_all
 refine fits_pure k (cv := if agg then .agg us.toArray else us.headD undef) ?_ (VF_ofCells h4.cp1 h5 (fun e => by rw [h2]; exact hn e) fun e c u e1 e2 => ?_)
 · simp [execOp,ho,Act.eval_eq,h1,Instr.loadAt,Instr.sureAddr,run_loadVar_at ht h2 h3]
 · cases l with
   | nil => simp at e1
   | cons d r =>
     simp at e1; obtain ⟨rfl,_⟩ := e1
     simp only [e2,VS] at h4; obtain ⟨u',r',e,hv,_⟩ := h4; cases e
     exact Owns.cp1 (hv.not_tup (h5 u (by rw [e2]; simp)))
end
end Go.Proofs.YtkofimhnehkdoaaGreatDoor.Rf
end
section
namespace Go.Proofs.YtkofimhnehkdoaaGreatDoor.Rf
def Tag.mvI (r:Root) (i:Nat) (q:Root) (j:Nat) : Tag → Tag
 | .tail x k => if x = r ∧ k = i then .tail q j else if x = q ∧ k = j then .out else .tail x k
 | t => t
def Gh.mvI (g:Gh) (r:Root) (i:Nat) (q:Root) (j:Nat) : Gh := { g with ow := fun b o => (g.ow b o).mvI r i q j }
section
variable {P:Program} {G:Nat → Option (List AV)} {g g' : Gh} {st:St} {a:Act} {w w' : World} {o:Oper} {tm:Array Value} {ps:List (AV × Value)}
theorem heap_setRow (w:World) (b:Nat) (cs:Array Value) {old:Array Value} {ty:TypeId} {fr:Nat × Nat} (h:w.heap[b]? = some (.cells old ty fr)) (k:Nat) :
   (w.setRow b cs).heap[k]? = if k = b then some (.cells cs ty fr) else w.heap[k]? := by
 simp only [World.setRow,Array.getElem?_modify]
 by_cases e : b = k
 · subst e; simp [h]
 · rw [if_neg e,if_neg (fun h => e h.symm)]
theorem size_setRow' (w:World) (b:Nat) (cs:Array Value) : (w.setRow b cs).heap.size = w.heap.size := by simp [World.setRow]
theorem row_setRow {b:Nat} {cs old:Array Value} {ty:TypeId} {fr:Nat × Nat} (h:w.heap[b]? = some (.cells old ty fr)) (hs:cs.size = old.size) (c e n:Nat) (k:Row0 w c e n) : Row0 (w.setRow b cs) c e n := by
 obtain ⟨ds,hi,k1,k2⟩ := k
 by_cases hc : c = b
 · subst hc
   rw [h] at k1; cases k1
   exact ⟨cs,hi,by rw [heap_setRow w c cs h,if_pos rfl],by omega⟩
 · exact ⟨ds,hi,by rw [heap_setRow w b cs h,if_neg hc]; exact k1,k2⟩
def offB (bt:Tag) (r:Root) (i:Nat) (q:Root) (j:Nat) : Tag → Prop := fun t => t ≠ bt ∧ t ≠ .tail r i ∧ t ≠ .tail q j
theorem Tag.mvI_off {bt:Tag} {r q:Root} {i j:Nat} {t:Tag} (h:offB bt r i q j t) : t.mvI r i q j = t := by
 cases t <;> try rfl
 case tail x k =>
   simp only [offB,ne_eq,Tag.tail.injEq] at h
   simp only [Tag.mvI]; rw [if_neg h.2.1,if_neg h.2.2]
theorem same_setRow {b:Nat} {bt:Tag} {r q:Root} {i j:Nat} (hb:∀ o,g.ow b o = bt) {cs old:Array Value} {ty:TypeId} {fr:Nat × Nat} (h:w.heap[b]? = some (.cells old ty fr)) (hsz:cs.size = old.size) (hbt:bt ≠ .elt) :
   Same (offB bt r i q j) g w (g.mvI r i q j) (w.setRow b cs) := by
 have hne : ∀ c o,offB bt r i q j (g.ow c o) → c ≠ b := fun c o ht e => by subst e; exact ht.1 (hb o)
 refine ⟨fun c o _ ht => Tag.mvI_off ht,fun c o _ ht => cell?_of_block' ?_,fun c o _ ht _ => frozen?_of_block' ?_,fun c _ ht => ?_,row_setRow h hsz,fun _ => ⟨fun e => hbt e.symm,by simp,by simp⟩,fun _ _ h => h⟩
 · rw [heap_setRow w b cs h,if_neg (hne c o ht)]
 · rw [heap_setRow w b cs h,if_neg (hne c o ht)]
 · rw [heap_setRow w b cs h,if_neg (hne c 0 (ht 0).1)]
theorem stay_setRow {b:Nat} {bt:Tag} {r q:Root} {i j:Nat} (hb:∀ o,g.ow b o = bt) (hk:¬ bt.kept) {cs old:Array Value} {ty:TypeId} {fr:Nat × Nat} (h:w.heap[b]? = some (.cells old ty fr)) (hsz:cs.size = old.size) :
   Stay g w (g.mvI r i q j) (w.setRow b cs) := by
 have hne : ∀ c o,(g.ow c o).kept → c ≠ b := fun c o ht e => by subst e; rw [hb] at ht; exact hk ht
 exact { ow := fun c o _ ht => by
           show (g.ow c o).mvI r i q j = _
           revert ht; cases g.ow c o <;> simp [Tag.kept,Tag.mvI]
         cell := fun c o _ ht => cell?_of_block' (by rw [heap_setRow w b cs h,if_neg (hne c o ht)])
         frz := fun c o _ ht _ => frozen?_of_block' (by rw [heap_setRow w b cs h,if_neg (hne c o ht)])
         blk := fun c _ ht => by rw [heap_setRow w b cs h,if_neg (hne c 0 (ht 0).1)]
         row := row_setRow h hsz,te := fun _ => trivial
         hb := fun _ _ h => h,os := rfl,tape := rfl,output := rfl,size := by rw [size_setRow']; exact Nat.le_refl _ }
theorem Tail.mvI {r q:Root} {i j:Nat} (hE:Ext g w (g.mvI r i q j) w') (hw:∀ c o,g.ow c o = .tail r i → w'.cell? ⟨c,o,none⟩ = w.cell? ⟨c,o,none⟩ ∧ w'.frozen? ⟨c,o,none⟩ = w.frozen? ⟨c,o,none⟩)
   {xs:List AV} {sz:Nat} {cv:Value} (k:Tail g w r i xs sz cv) : Tail (g.mvI r i q j) w' q j xs sz cv := by
 intro a n c e
 obtain ⟨h1,h2⟩ := k a n c e
 refine ⟨VE.mono hE _ _ _ _ h1,fun o ho ho' => ?_⟩
 obtain ⟨p,⟨u,s⟩,t⟩ := h2 o ho ho'
 exact ⟨by show (g.ow _ _).mvI r i q j = _; rw [p]; simp [Tag.mvI],⟨u,by rw [(hw _ _ p).1]; exact s⟩,by rw [(hw _ _ p).2]; exact t⟩
theorem VS.put {cs ns:List AV} {vs us:List Value} (h:VS g w cs vs) (k:VS g w ns us) (off:Nat) : VS g w (Rf.put cs off ns) (vs.take off ++ us ++ vs.drop (off + us.length)) := by
 unfold Rf.put
 have := k.len
 rw [this]
 exact ((h.take off).append k).append (h.drop _)
theorem Ones.put {vs us:List Value} (h:Ones vs) (k:Ones us) (off n:Nat) : Ones (vs.take off ++ us ++ vs.drop n) := by
 intro u hu
 simp only [List.mem_append] at hu
 rcases hu with (hu | hu) | hu
 · exact h u (List.mem_of_mem_take hu)
 · exact k u hu
 · exact h u (List.mem_of_mem_drop hu)
theorem put_get {α:Type} {cs ns:List α} {off i:Nat} {x:α} (hle:off ≤ cs.length) (h:(cs.take off ++ ns ++ cs.drop (off + ns.length))[i]? = some x) :
   (off ≤ i ∧ i < off + ns.length ∧ ns[i - off]? = some x) ∨ ((i < off ∨ off + ns.length ≤ i) ∧ cs[i]? = some x) := by
 rw [List.getElem?_append] at h
 split at h
 · rename_i h1
   simp at h1
   rw [List.getElem?_append] at h
   split at h
   · rename_i h2; simp at h2
     rw [List.getElem?_take] at h; split at h
     · exact .inr ⟨.inl (by omega),h⟩
     · cases h
   · rename_i h2; simp at h2
     simp only [List.length_take,Nat.min_eq_left hle] at h
     have : off ≤ i := by omega
     exact .inl ⟨this,by omega,h⟩
 · rename_i h1; simp at h1
   rw [List.getElem?_drop] at h
   simp only [List.length_append,List.length_take,Nat.min_eq_left hle] at h
   rw [show off + ns.length + (i - (off + ns.length)) = i by omega] at h
   exact .inr ⟨.inr (by omega),h⟩
theorem OwnsL.put {r:Root} {cs ns:List AV} {vs us:List Value} {off:Nat} (hl:vs.length = cs.length) (hn:us.length = ns.length) (hle:off ≤ cs.length)
   (h1:∀ (i:Nat) xs sz e cv,cs[i]? = some (AV.list xs (.own sz e)) → vs[i]? = some cv → (i < off ∨ off + ns.length ≤ i) → Tail g w r i xs sz cv)
   (h2:∀ (i:Nat) xs sz e cv,ns[i]? = some (AV.list xs (.own sz e)) → us[i]? = some cv → Tail g w r (off + i) xs sz cv) :
   OwnsL g w r (Rf.put cs off ns) (vs.take off ++ us ++ vs.drop (off + us.length)) := by
 intro i xs sz e cv hi hv
 unfold Rf.put at hi
 rcases put_get hle hi with ⟨p1,p2,p3⟩ | ⟨p1,p3⟩ <;> rcases put_get (by omega) hv with ⟨q1,q2,q3⟩ | ⟨q1,q3⟩
 · have := h2 (i - off) xs sz e cv p3 q3; rwa [show off + (i - off) = i by omega] at this
 · omega
 · omega
 · exact h1 i xs sz e cv p3 q3 p1
theorem Rel.setbox {u:AV} {cu:Value} (k:Rel G g st [(u,cu)] tm w) (hp:u.plain = true) {s:Nat} {cs:List AV} (hs:st.fr.get s = .box cs) {off:Nat} (hoff:off + u.spread.length ≤ cs.length) (hpos:0 < u.spread.length) :
   ∃ (vs:List Value) (ty:TypeId),w.heap[g.bx (.fr s)]? = some (.cells vs.toArray ty (0,0)) ∧ vs.length = cs.length ∧
     Rel G (g.mvI (.arg 0) 0 (.fr s) off) { st with fr := st.fr.set s (.box (Rf.put cs off u.spread)) } [] tm (w.setRow (g.bx (.fr s)) (vs.take off ++ cu.cells.toList ++ vs.drop (off + cu.cells.toList.length)).toArray) ∧
     Stay g w (g.mvI (.arg 0) 0 (.fr s) off) (w.setRow (g.bx (.fr s)) (vs.take off ++ cu.cells.toList ++ vs.drop (off + cu.cells.toList.length)).toArray) := by
 have f := k.fr s; rw [hs] at f; simp only [VF] at f
 obtain ⟨vs,ty,f1,f2,f3,f4,f5⟩ := f
 have fu := k.ps 0 _ _ rfl
 rw [VF_loose (AV.loose_of_plain hp),VX_plain hp] at fu
 have hc := V.cells hp fu.1
 have hlen : vs.length = cs.length := f3.1.len
 have hul : cu.cells.toList.length = u.spread.length := hc.1.len
 refine ⟨vs,ty,f2,hlen,?_⟩
 have hnl : (vs.take off ++ cu.cells.toList ++ vs.drop (off + cu.cells.toList.length)).length = vs.length := by simp; simp at hul; omega
 generalize hnew : (vs.take off ++ cu.cells.toList ++ vs.drop (off + cu.cells.toList.length)) = nv at hnl
 have sm := same_setRow (g := g) (w := w) (bt := .box (.fr s)) (r := .arg 0) (i := 0) (q := .fr s) (j := off) f4 (cs := nv.toArray) f2 (by simpa using hnl) (by simp)
 have hi : offB (.box (.fr s)) (.arg 0) 0 (.fr s) off .imm := ⟨by simp,by simp,by simp⟩
 have hstay : Stay g w (g.mvI (.arg 0) 0 (.fr s) off) (w.setRow (g.bx (.fr s)) nv.toArray) := stay_setRow f4 (by simp [Tag.kept]) f2 (by simpa using hnl)
 have hheap := heap_setRow w (g.bx (.fr s)) nv.toArray f2
 have hsize := size_setRow' w (g.bx (.fr s)) nv.toArray
 generalize w.setRow (g.bx (.fr s)) nv.toArray = w' at *
 refine ⟨⟨fun t => ?_,fun j v cv hj => by simp at hj,?_,fun b o hb => ?_,?_⟩,hstay⟩
 · have l : FrLike st.fr tm (st.fr.set s (.box (Rf.put cs off u.spread))) tm := ⟨fun x ds hx => by
       rw [Fr.get_set]; by_cases e : s = x
       · rw [if_pos e]; exact ⟨_,rfl⟩
       · rw [if_neg e]; exact ⟨ds,hx⟩,fun x xs sz hx => ⟨by
       rw [Fr.get_set]; by_cases e : s = x
       · subst e; rw [hs] at hx; cases hx
       · rw [if_neg e]; exact hx,rfl⟩⟩
   by_cases e : s = t
   · subst e
     simp only [Fr.get_set,if_true,VF]
     refine ⟨nv,ty,f1,?_,⟨?_,?_⟩,fun o => ?_,?_⟩
     · show w'.heap[g.bx (.fr s)]? = _
       rw [hheap,if_pos rfl]
     · rw [← hnew]; exact VS.put (VS.mono (sm.ext hi) _ _ f3.1) (VS.mono (sm.ext hi) _ _ hc.1) off
     · rw [← hnew]; exact Ones.put f3.2 hc.2 off _
     · show (g.ow _ _).mvI _ _ _ _ = _; rw [show (g.mvI (.arg 0) 0 (.fr s) off).bx (.fr s) = g.bx (.fr s) from rfl,f4 o]; rfl
     · rw [← hnew]
       refine OwnsL.put hlen hul (by omega) (fun i xs sz e cv h1 h2 h3 => ?_) (fun i xs sz e cv h1 h2 => ?_)
       · have ht := f5 i xs sz e cv h1 h2
         refine ht.same sm hi ⟨by simp,by simp,?_⟩
         simp; omega
       · have h0 : i = 0 := by
           cases i with
           | zero => rfl
           | succ i => cases u <;> simp [AV.spread] at h1; exact absurd h1 (by intro h; obtain ⟨x,_,h⟩ := h; exact AV.ck1_not_own _ _ _ _ h)
         subst h0
         have ht := spread_own hp fu.1 fu.2 0 xs sz e cv h1 h2
         rw [Nat.add_zero]
         refine ht.mvI (sm.ext hi) fun c o hc => ⟨cell?_of_block' ?_,frozen?_of_block' ?_⟩
         all_goals
           rw [hheap,if_neg]
           intro e; subst e; rw [f4 o] at hc; cases hc
   · have := k.fr t
     simp only [Fr.get_set,if_neg e]
     refine VF.like l (this.same sm hi (fun _ _ _ => rfl) (fun i => ⟨by simp,by simp,by simpa using fun h => absurd h.symm e⟩) ⟨by simpa using fun h => e h.symm,by simp,by simp⟩ rfl)
 · exact k.hp.same sm hi (fun _ => ⟨by simp,by simp,by simp⟩) (fun _ _ => ⟨by simp,by simp,by simp⟩) (fun _ _ _ => ⟨by simp,by simp,by simp⟩) rfl
 · rw [hsize] at hb
   show (g.ow b o).mvI _ _ _ _ = _; rw [k.fresh b o hb]; rfl
 · exact k.gl.same sm hi ⟨by simp,by simp,by simp⟩
theorem Rel.setobj {u:AV} {cu:Value} (k:Rel G g st [(u,cu)] tm w) (hp:u.plain = true) {id:Nat} {cs:List AV} {t0:Nat} (hs:st.hp[id]? = some (.cells t0 cs)) {off:Nat} (hoff:off + u.spread.length ≤ cs.length) (hpos:0 < u.spread.length) :
   ∃ (b:Nat) (vs:List Value) (ty:TypeId),g.hb[id]? = some b ∧ w.heap[b]? = some (.cells vs.toArray ty (0,0)) ∧ cs.length ≤ vs.length ∧
     Rel G (g.mvI (.arg 0) 0 (.ob id) off) { st with hp := st.hp.set id (.cells t0 (Rf.put cs off u.spread)) } [] tm (w.setRow b (vs.take off ++ cu.cells.toList ++ vs.drop (off + cu.cells.toList.length)).toArray) ∧
     Stay g w (g.mvI (.arg 0) 0 (.ob id) off) (w.setRow b (vs.take off ++ cu.cells.toList ++ vs.drop (off + cu.cells.toList.length)).toArray) := by
 obtain ⟨b,k1,f4,k3⟩ := k.hp.obj id _ hs rfl
 simp only [ObjRel] at k3
 obtain ⟨vs,sp,ty,f2,f3,f5,f6⟩ := k3
 have fu := k.ps 0 _ _ rfl
 rw [VF_loose (AV.loose_of_plain hp),VX_plain hp] at fu
 have hc := V.cells hp fu.1
 have hlen : vs.length = cs.length := f3.1.len
 have hul : cu.cells.toList.length = u.spread.length := hc.1.len
 refine ⟨b,vs ++ sp,ty,k1,f2,by simp; omega,?_⟩
 have hnl : (vs.take off ++ cu.cells.toList ++ vs.drop (off + cu.cells.toList.length)).length = vs.length := by simp; simp at hul; omega
 have hall : ((vs ++ sp).take off ++ cu.cells.toList ++ (vs ++ sp).drop (off + cu.cells.toList.length)) = (vs.take off ++ cu.cells.toList ++ vs.drop (off + cu.cells.toList.length)) ++ sp := by
   rw [List.take_append_of_le_length (by omega),List.drop_append_of_le_length (by omega)]; simp
 rw [hall]
 generalize hnew : (vs.take off ++ cu.cells.toList ++ vs.drop (off + cu.cells.toList.length)) = nv at hnl
 have hnl2 : (nv ++ sp).toArray.size = (vs ++ sp).toArray.size := by simp [hnl]
 have sm := same_setRow (g := g) (w := w) (bt := .obj id) (r := .arg 0) (i := 0) (q := .ob id) (j := off) f4 (cs := (nv ++ sp).toArray) f2 hnl2 (by simp)
 have hi : offB (.obj id) (.arg 0) 0 (.ob id) off .imm := ⟨by simp,by simp,by simp⟩
 have hstay : Stay g w (g.mvI (.arg 0) 0 (.ob id) off) (w.setRow b (nv ++ sp).toArray) := stay_setRow f4 (by simp [Tag.kept]) f2 hnl2
 have hheap := heap_setRow w b (nv ++ sp).toArray f2
 have hsize := size_setRow' w b (nv ++ sp).toArray
 generalize w.setRow b (nv ++ sp).toArray = w' at *
 refine ⟨⟨fun t => ?_,fun j v cv hj => by simp at hj,⟨by simp; exact k.hp.len,fun x ob hx hlive => ?_⟩,fun c o hb => ?_,?_⟩,hstay⟩
 · exact (k.fr t).same sm hi (fun _ _ _ => rfl) (fun i => ⟨by simp,by simp,by simp⟩) ⟨by simp,by simp,by simp⟩ rfl
 · simp only [List.getElem?_set] at hx
   by_cases e : id = x
   · subst e
     simp only [if_true] at hx
     split at hx
     · cases hx
       refine ⟨b,k1,fun i => ?_,?_⟩
       · show (g.ow _ _).mvI _ _ _ _ = _; rw [f4 i]; rfl
       · simp only [ObjRel]
         refine ⟨nv,sp,ty,?_,⟨?_,?_⟩,?_,f6⟩
         · rw [hheap,if_pos rfl]
         · rw [← hnew]; exact VS.put (VS.mono (sm.ext hi) _ _ f3.1) (VS.mono (sm.ext hi) _ _ hc.1) off
         · rw [← hnew]; exact Ones.put f3.2 hc.2 off _
         · rw [← hnew]
           refine OwnsL.put hlen hul (by omega) (fun i xs sz e cv h1 h2 h3 => ?_) (fun i xs sz e cv h1 h2 => ?_)
           · have ht := f5 i xs sz e cv h1 h2
             refine ht.same sm hi ⟨by simp,by simp,?_⟩
             simp; omega
           · have h0 : i = 0 := by
               cases i with
               | zero => rfl
               | succ i => cases u <;> simp [AV.spread] at h1; exact absurd h1 (by intro h; obtain ⟨x,_,h⟩ := h; exact AV.ck1_not_own _ _ _ _ h)
             subst h0
             have ht := spread_own hp fu.1 fu.2 0 xs sz e cv h1 h2
             rw [Nat.add_zero]
             refine ht.mvI (sm.ext hi) fun c o hc => ⟨cell?_of_block' ?_,frozen?_of_block' ?_⟩
             all_goals
               rw [hheap,if_neg]
               intro e; subst e; rw [f4 o] at hc; cases hc
     · cases hx
   · rw [if_neg e] at hx
     obtain ⟨b',e1,e2,e3⟩ := k.hp.obj x ob hx hlive
     have hbl : b' < w.heap.size := by
       exact e3.lt
     have hT : ∀ t,t = Tag.obj x → offB (.obj id) (.arg 0) 0 (.ob id) off t := fun t ht => by subst ht; exact ⟨by simpa using fun h => e h.symm,by simp,by simp⟩
     refine ⟨b',e1,fun i => (sm.ow b' i hbl (hT _ (e2 i))).trans (e2 i),e3.same sm hi e2 (hT _ rfl) (fun i => ⟨by simp,by simp,by simpa using fun h => absurd h.symm e⟩) (fun i j => ⟨by simp,by simp,by simp⟩)⟩
 · rw [hsize] at hb
   show (g.ow c o).mvI _ _ _ _ = _; rw [k.fresh c o hb]; rfl
 · exact k.gl.same sm hi ⟨by simp,by simp,by simp⟩
theorem run_storeVar_at {t:TypeId} {n:Nat} {agg:Bool} (h:tyOk P t n agg = true) {b off:Nat} {vs:List Value} {ty:TypeId} (hb:w.heap[b]? = some (.cells vs.toArray ty (0,0))) {cu:Value} (hn:cu.cells.toList.length = n) (h1:Ones cu.cells.toList) (hfit:off + n ≤ vs.length) :
   (storeVar t ⟨b,off,none⟩ cu).run P w = .ok () (w.setRow b (vs.take off ++ cu.cells.toList ++ vs.drop (off + cu.cells.toList.length)).toArray) := by
 have hsz : (sizeOf t).run P w = .ok n w := by
   unfold tyOk at h
   cases hi : P.info? t with
   | none => simp [hi] at h
   | some i =>
     cases hu : P.underlying t with
     | none => simp [hi,hu] at h
     | some d =>
       simp only [hi,hu,Bool.and_eq_true,decide_eq_true_eq] at h
       simp [sizeOf,typeInfo,hi,h.1.1]
 have hst := run_storeCells_at P b off ty cu.cells.toList 0 vs.toArray w hb (by simp at hn ⊢; omega) h1
 simp only [Nat.add_zero] at hst
 simp only [storeVar,Sem.run_bind,hsz,Result.andThen_ok]
 rw [if_neg (by simp at hn; simpa using hn)]
 simpa using hst
end
end Go.Proofs.YtkofimhnehkdoaaGreatDoor.Rf
end
section
namespace Go.Proofs.YtkofimhnehkdoaaGreatDoor.Rf
section
variable {P:Program} {G:Nat → Option (List AV)} {g g' : Gh} {st:St} {a:Act} {w w' : World} {o:Oper} {tm:Array Value} {ps:List (AV × Value)}
theorem VF_undef {fr:Fr} {r:Root} : VF g w fr tm r (.tup []) undef := by
 rw [VF_loose rfl]; exact ⟨VX_of_V (by simp only [V]; exact ⟨[],rfl,by simp [VS]⟩),fun us e => OwnsL.none (by simp)⟩
theorem fits_store (k:Rel G g st [] a.tmps w) {x v:Opd} {y u:Operand} (hx:opdOk x y = true) (hv:opdOk v u = true) {t:TypeId} {n:Nat} {agg:Bool} (ht:tyOk P t n agg = true) (ho:o.op = .store t y u) (hp:(opd st.fr v).1.plain = true) {lo:Nat}
   {cs:List AV} {off:Nat} {st' : St} (h:Rf.behind G { st with fr := (opd st.fr v).2 } (opd (opd st.fr v).2 x).1 = some (cs,off)) (hn:(opd st.fr v).1.spread.length = n ∧ off + n ≤ cs.length)
   (hput:behindPut lo { st with fr := (opd st.fr v).2 } (put cs off (opd st.fr v).1.spread) (opd (opd st.fr v).2 x).1 = some st') : Fits P G g st (.val (.tup []) st') o a w := by
 obtain ⟨g1,k1,s1,_⟩ := k.take hv
 have hpos : 0 < n := by
   unfold tyOk at ht
   cases hi : P.info? t <;> cases hu : P.underlying t <;> simp [hi,hu] at ht
   exact ht.1.2
 have hr := k1.read hx
 simp only [List.nil_append] at k1
 simp only at hr
 have hc := V.cells hp (by have := k1.ps 0 _ _ rfl; rw [VF_loose (AV.loose_of_plain hp),VX_plain hp] at this; exact this.1)
 have hcn : (Act.opd a.tmps u).cells.toList.length = n := by rw [hc.1.len]; exact hn.1
 generalize (opd (opd st.fr v).2 x).1 = p at *
 cases p <;> simp only [behindPut] at hput <;> try (cases hput; done)
 case lref s off' =>
   cases hput
   simp only [Rf.behind] at h
   cases hf : (opd st.fr v).2.get s <;> simp [hf] at h
   obtain ⟨rfl,rfl⟩ := h
   obtain ⟨vs,ty,e1,e2,e3,e4⟩ := Rel.setbox k1 hp hf (off := off') (by rw [hn.1]; exact hn.2) (by rw [hn.1]; exact hpos)
   simp only [VX] at hr
   refine fits_skip ?_ (e3.push0 VF_undef) (s1.trans e4)
   simp [execOp,ho,Act.eval_eq,hr.1,Instr.storeAt,Instr.sureAddr,run_storeVar_at ht e1 hcn hc.2 (by rw [e2]; exact hn.2)]
 case ptr id off' =>
   split at hput
   case isFalse => cases hput
   simp only [Rf.behind] at h
   cases hf : st.hp[id]? with
   | none => simp [hf] at h
   | some ob =>
     cases ob with
     | dead => simp [hf] at h
     | map es => simp [hf] at h
     | cells t0 ds =>
       simp [hf] at h hput
       subst hput
       obtain ⟨rfl,rfl⟩ := h
       obtain ⟨b,vs,ty,e0,e1,e2,e3,e4⟩ := Rel.setobj k1 hp hf (off := off') (by rw [hn.1]; exact hn.2) (by rw [hn.1]; exact hpos)
       simp only [VX,V] at hr
       obtain ⟨b',h1,h2⟩ := hr
       rw [e0] at h1; cases h1
       refine fits_skip ?_ (e3.push0 VF_undef) (s1.trans e4)
       simp [execOp,ho,Act.eval_eq,h2,Instr.storeAt,Instr.sureAddr,run_storeVar_at ht e1 hcn hc.2 (Nat.le_trans hn.2 e2)]
theorem take_one {α:Type} {vs:List α} {off:Nat} {u:α} (h:vs[off]? = some u) : vs.take off ++ [u] ++ vs.drop (off + 1) = vs := by
 obtain ⟨h1,h2⟩ := List.getElem?_eq_some_iff.1 h
 rw [List.append_assoc,List.singleton_append,← h2,← List.drop_eq_getElem_cons h1,List.take_append_drop]
theorem same_mvI (g:Gh) (w:World) (r:Root) (i:Nat) (q:Root) (j:Nat) : Same (fun t => t ≠ .tail r i ∧ t ≠ .tail q j) g w (g.mvI r i q j) w :=
 ⟨fun b o _ h => by
   show (g.ow b o).mvI r i q j = _
   revert h
   cases g.ow b o <;> intro h <;> try rfl
   case tail x k => simp only [ne_eq,Tag.tail.injEq] at h; simp only [Tag.mvI]; rw [if_neg h.1,if_neg h.2],fun _ _ _ _ => rfl,fun _ _ _ _ _ => rfl,fun _ _ _ => rfl,fun _ _ _ h => h,fun _ => ⟨by simp,by simp⟩,fun _ _ h => h⟩
theorem stay_mvI (g:Gh) (w:World) (r:Root) (i:Nat) (q:Root) (j:Nat) : Stay g w (g.mvI r i q j) w :=
 { ow := fun b o _ ht => by
     show (g.ow b o).mvI r i q j = _
     revert ht; cases g.ow b o <;> simp [Tag.kept,Tag.mvI]
   cell := fun _ _ _ _ => rfl,frz := fun _ _ _ _ _ => rfl,blk := fun _ _ _ => rfl,row := fun _ _ _ h => h,te := fun _ => trivial,hb := fun _ _ h => h,os := rfl,tape := rfl,output := rfl,size := Nat.le_refl _ }
theorem owns_of_tail {r:Root} {c:AV} {u:Value} (hc:∀ vs,c ≠ .tup vs) (h:∀ xs sz e,c = .list xs (.own sz e) → Tail g w r 0 xs sz u) : Owns g w r c u := by
 cases c <;> try trivial
 case list xs o => cases o <;> first | trivial | exact h _ _ _ rfl
 case tup vs => exact absurd rfl (hc vs)
theorem Rel.takebox (k:Rel G g st [] tm w) {s:Nat} {cs:List AV} (hs:st.fr.get s = .box cs) {off:Nat} {c:AV} (hc:cs[off]? = some c) :
   ∃ u,w.cell? ⟨g.bx (.fr s),off,none⟩ = some u ∧ Rel G (g.mvI (.fr s) off (.arg 0) 0) { st with fr := st.fr.set s (.box (Rf.put cs off [c.cp1])) } [(c,u)] tm w := by
 have f := k.fr s; rw [hs] at f; simp only [VF] at f
 obtain ⟨vs,ty,f1,f2,f3,f4,f5⟩ := f
 obtain ⟨u,hu,hcu⟩ := f3.1.get hc
 have h1 := f3.2 u (List.mem_of_getElem? hu)
 have sm := same_mvI g w (.fr s) off (.arg 0) 0
 have hi : (fun t => t ≠ Tag.tail (.fr s) off ∧ t ≠ Tag.tail (.arg 0) 0) Tag.imm := ⟨by simp,by simp⟩
 have hlt : off < cs.length := (List.getElem?_eq_some_iff.1 hc).1
 have l : FrLike st.fr tm (st.fr.set s (.box (Rf.put cs off [c.cp1]))) tm := ⟨fun x ds hx => by
     rw [Fr.get_set]; by_cases e : s = x
     · rw [if_pos e]; exact ⟨_,rfl⟩
     · rw [if_neg e]; exact ⟨ds,hx⟩,fun x xs sz hx => ⟨by
     rw [Fr.get_set]; by_cases e : s = x
     · subst e; rw [hs] at hx; cases hx
     · rw [if_neg e]; exact hx,rfl⟩⟩
 refine ⟨u,by simp [World.cell?,f2,hu],⟨fun t => ?_,fun j v cv hj => ?_,?_,fun b o hb => ?_,?_⟩⟩
 · by_cases e : s = t
   · subst e
     simp only [Fr.get_set,if_true,VF]
     refine ⟨vs,ty,f1,f2,⟨?_,f3.2⟩,fun o => ?_,?_⟩
     · have := VS.put (off := off) (VS.mono (sm.ext hi) _ _ f3.1) (ns := [c.cp1]) (us := [u]) (by simp only [VS]; exact ⟨u,[],rfl,(V.mono (sm.ext hi) _ _ hcu).cp1,rfl⟩)
       simp only [List.length_singleton] at this
       rwa [take_one hu] at this
     · show (g.ow _ _).mvI _ _ _ _ = _
       rw [show (g.mvI (.fr s) off (.arg 0) 0).bx (.fr s) = g.bx (.fr s) from rfl,f4 o]; rfl
     · have := OwnsL.put (g := g.mvI (.fr s) off (.arg 0) 0) (w := w) (r := .fr s) (cs := cs) (ns := [c.cp1]) (vs := vs) (us := [u]) (off := off) f3.1.len rfl (by omega)
         (fun i xs sz e cv h1 h2 h3 => (f5 i xs sz e cv h1 h2).same sm hi ⟨by simp at h3 ⊢; omega,by simp⟩)
         (fun i xs sz e cv h1 h2 => by
           cases i with
           | zero => simp at h1; exact absurd h1 (AV.cp1_not_own _ _ _ _)
           | succ i => simp at h1)
       simp only [List.length_singleton] at this
       rwa [take_one hu] at this
   · simp only [Fr.get_set,if_neg e]
     exact VF.like l ((k.fr t).same sm hi (fun _ _ _ => rfl) (fun i => ⟨by simpa using fun h => absurd h.symm e,by simp⟩) ⟨by simp,by simp⟩ rfl)
 · cases j with
   | succ j => simp at hj
   | zero =>
     simp at hj; obtain ⟨rfl,rfl⟩ := hj
     rw [VF_loose hcu.loose]
     refine ⟨VX_of_V (V.mono (sm.ext hi) _ _ hcu),owns_of_tail (hcu.not_tup h1) fun xs sz e0 e => ?_⟩
     subst e
     exact (f5 off xs sz e0 u hc hu).mvI (sm.ext hi) fun _ _ _ => ⟨rfl,rfl⟩
 · exact k.hp.same sm hi (fun _ => ⟨by simp,by simp⟩) (fun _ _ => ⟨by simp,by simp⟩) (fun _ _ _ => ⟨by simp,by simp⟩) rfl
 · show (g.ow b o).mvI _ _ _ _ = _; rw [k.fresh b o hb]; rfl
 · exact k.gl.same sm hi ⟨by simp,by simp⟩
theorem Rel.takeobj (k:Rel G g st [] tm w) {id:Nat} {cs:List AV} {t0:Nat} (hs:st.hp[id]? = some (.cells t0 cs)) {off:Nat} {c:AV} (hc:cs[off]? = some c) :
   ∃ b u,g.hb[id]? = some b ∧ w.cell? ⟨b,off,none⟩ = some u ∧ Rel G (g.mvI (.ob id) off (.arg 0) 0) { st with hp := st.hp.set id (.cells t0 (Rf.put cs off [c.cp1])) } [(c,u)] tm w := by
 obtain ⟨b,k1,f4,k3⟩ := k.hp.obj id _ hs rfl
 simp only [ObjRel] at k3
 obtain ⟨vs,sp,ty,f2,f3,f5,f6⟩ := k3
 obtain ⟨u,hu,hcu⟩ := f3.1.get hc
 have hu2 : (vs ++ sp)[off]? = some u := by rw [List.getElem?_append,if_pos (List.getElem?_eq_some_iff.1 hu).1]; exact hu
 have h1 := f3.2 u (List.mem_of_getElem? hu)
 have sm := same_mvI g w (.ob id) off (.arg 0) 0
 have hi : (fun t => t ≠ Tag.tail (.ob id) off ∧ t ≠ Tag.tail (.arg 0) 0) Tag.imm := ⟨by simp,by simp⟩
 have hlt : off < cs.length := (List.getElem?_eq_some_iff.1 hc).1
 refine ⟨b,u,k1,by simp [World.cell?,f2,hu2],⟨fun t => ?_,fun j v cv hj => ?_,⟨by simp; exact k.hp.len,fun x ob hx hlive => ?_⟩,fun b o hb => ?_,?_⟩⟩
 · exact (k.fr t).same sm hi (fun _ _ _ => rfl) (fun i => ⟨by simp,by simp⟩) ⟨by simp,by simp⟩ rfl
 · cases j with
   | succ j => simp at hj
   | zero =>
     simp at hj; obtain ⟨rfl,rfl⟩ := hj
     rw [VF_loose hcu.loose]
     refine ⟨VX_of_V (V.mono (sm.ext hi) _ _ hcu),owns_of_tail (hcu.not_tup h1) fun xs sz e0 e => ?_⟩
     subst e
     exact (f5 off xs sz e0 u hc hu).mvI (sm.ext hi) fun _ _ _ => ⟨rfl,rfl⟩
 · simp only [List.getElem?_set] at hx
   by_cases e : id = x
   · subst e
     simp only [if_true] at hx
     split at hx
     · cases hx
       refine ⟨b,k1,fun i => ?_,?_⟩
       · show (g.ow _ _).mvI _ _ _ _ = _; rw [f4 i]; rfl
       · simp only [ObjRel]
         refine ⟨vs,sp,ty,f2,⟨?_,f3.2⟩,?_,f6⟩
         · have := VS.put (off := off) (VS.mono (sm.ext hi) _ _ f3.1) (ns := [c.cp1]) (us := [u]) (by simp only [VS]; exact ⟨u,[],rfl,(V.mono (sm.ext hi) _ _ hcu).cp1,rfl⟩)
           simp only [List.length_singleton] at this
           rwa [take_one hu] at this
         · have := OwnsL.put (g := g.mvI (.ob id) off (.arg 0) 0) (w := w) (r := .ob id) (cs := cs) (ns := [c.cp1]) (vs := vs) (us := [u]) (off := off) f3.1.len rfl (by omega)
             (fun i xs sz e cv h1 h2 h3 => (f5 i xs sz e cv h1 h2).same sm hi ⟨by simp at h3 ⊢; omega,by simp⟩)
             (fun i xs sz e cv h1 h2 => by
               cases i with
               | zero => simp at h1; exact absurd h1 (AV.cp1_not_own _ _ _ _)
               | succ i => simp at h1)
           simp only [List.length_singleton] at this
           rwa [take_one hu] at this
     · cases hx
   · rw [if_neg e] at hx
     obtain ⟨b',e1,e2,e3⟩ := k.hp.obj x ob hx hlive
     refine ⟨b',e1,fun i => ?_,e3.same sm hi e2 ⟨by simp,by simp⟩ (fun i => ⟨by simpa using fun h => absurd h.symm e,by simp⟩) (fun i j => ⟨by simp,by simp⟩)⟩
     show (g.ow _ _).mvI _ _ _ _ = _; rw [e2 i]; rfl
 · show (g.ow b o).mvI _ _ _ _ = _; rw [k.fresh b o hb]; rfl
 · exact k.gl.same sm hi ⟨by simp,by simp⟩
theorem fits_load_take (k:Rel G g st [] a.tmps w) {x:Opd} {y:Operand} (hx:opdOk x y = true) {t:TypeId} (ht:tyOk P t 1 false = true) (ho:o.op = .load t y) {lo:Nat} {st' : St}
   {cs l:List AV} {off:Nat} (h:Rf.behind G st (opd st.fr x).1 = some (cs,off)) (hl:cut cs off 1 = some l) (hput:behindPut lo st (put cs off (l.map AV.cp1)) (opd st.fr x).1 = some st') : Fits P G g st (.val (ofCells false l) st') o a w := by
 have hr := k.read hx
 obtain ⟨hl1,hl2⟩ := cut_get hl
 match l,hl1 with
 | [c], _ =>
   have hc := hl2 0 c rfl
   rw [Nat.add_zero] at hc
   simp only [ofCells,Bool.false_eq_true,if_false,List.headD,List.map_cons,List.map_nil] at hput ⊢
   have run : ∀ b u,Act.opd a.tmps y = .pointer (some ⟨b,off,none⟩) → w.cell? ⟨b,off,none⟩ = some u → (execOp a.eval o).run P w = .ok (.value u) w := fun b u e1 e2 => by
     have := run_loadVar_at (w := w) ht (b := b) (off := off) (us := [u]) rfl (fun i v hv => by
       cases i with
       | zero => simp at hv; subst hv; simpa using e2
       | succ i => simp at hv)
     simp only [Bool.false_eq_true,if_false,List.headD] at this
     simp [execOp,ho,Act.eval_eq,e1,Instr.loadAt,Instr.sureAddr,this]
   generalize (opd st.fr x).1 = p at *
   cases p <;> simp only [behindPut] at hput <;> try (cases hput; done)
   case lref s off' =>
     cases hput
     simp only [Rf.behind] at h
     cases hf : st.fr.get s <;> simp [hf] at h
     obtain ⟨rfl,rfl⟩ := h
     obtain ⟨u,e1,e2⟩ := k.takebox hf hc
     simp only [VX] at hr
     exact fits_value (run _ u hr.1 e1) e2 (stay_mvI _ _ _ _ _ _)
   case ptr id off' =>
     split at hput
     case isFalse => cases hput
     simp only [Rf.behind] at h
     cases hf : st.hp[id]? with
     | none => simp [hf] at h
     | some ob =>
       cases ob with
       | dead => simp [hf] at h
       | map es => simp [hf] at h
       | cells t0 ds =>
         simp [hf] at h hput
         subst hput
         obtain ⟨rfl,rfl⟩ := h
         obtain ⟨b,u,e0,e1,e2⟩ := k.takeobj hf hc
         simp only [VX,V] at hr
         obtain ⟨b',h1,h2⟩ := hr
         rw [e0] at h1; cases h1
         exact fits_value (run _ u h2 e1) e2 (stay_mvI _ _ _ _ _ _)
end
end Go.Proofs.YtkofimhnehkdoaaGreatDoor.Rf
end
section
namespace Go.Proofs.YtkofimhnehkdoaaGreatDoor.Rf
section
variable {P:Program} {G:Nat → Option (List AV)} {g g' : Gh} {st:St} {a:Act} {w w' : World} {o:Oper} {tm:Array Value} {ps:List (AV × Value)}
def fieldOk (P:Program) (s:TypeId) (f off n:Nat) : Bool :=
 match P.underlying s with
 | some (.struct fs) => match fs[f]? with | some x => decide (x.offset = off) && (match P.info? x.type with | some i => decide (i.size = n) && decide (0 < n) | none => false) | none => false
 | _ => false
theorem run_fieldAt {s:TypeId} {f off n b q:Nat} (h:fieldOk P s f off n = true) : (Instr.fieldAt s (.pointer (some ⟨b,q,none⟩)) f).run P w = .ok (.pointer (some ⟨b,q + off,none⟩)) w := by
 unfold fieldOk at h
 cases hu : P.underlying s with
 | none => simp [hu] at h
 | some d =>
   cases d <;> simp [hu] at h
   rename_i fs
   cases hf : fs[f]? with
   | none => simp [hf] at h
   | some x =>
     cases hi : P.info? x.type with
     | none => simp [hf,hi] at h
     | some i =>
       simp [hf,hi] at h
       obtain ⟨h1,h2,h3⟩ := h
       simp [Instr.fieldAt,run_underlying hu,hf,Instr.sureAddr,fieldPlace,sizeOf,typeInfo,hi,h2,Nat.ne_of_gt h3,h1,Addr.add_lit]
theorem fits_faddr (k:Rel G g st [] a.tmps w) {x:Opd} {y:Operand} (hx:opdOk x y = true) {s:TypeId} {f off n:Nat} (hf:fieldOk P s f off n = true) (ho:o.op = .fieldAddr s y f) {v v' : AV} (hv:(opd st.fr x).1 = v)
   (hk:(∃ i q,v = .ptr i q ∧ v' = .ptr i (q + off)) ∨ (∃ i q,v = .lref i q ∧ v' = .lref i (q + off)) ∨ (∃ e q,v = .eref e q ∧ v' = .eref e (q + off)) ∨ ∃ i q,v = .glob i q ∧ v' = .glob i (q + off)) : Fits P G g st (.val v' st) o a w := by
 have h1 := k.read hx; rw [hv] at h1
 have run : ∀ b q,Act.opd a.tmps y = .pointer (some ⟨b,q,none⟩) → (execOp a.eval o).run P w = .ok (.value (.pointer (some ⟨b,q + off,none⟩))) w := fun b q e => by
   simp [execOp,ho,Act.eval_eq,e,run_fieldAt hf]
 rcases hk with ⟨i,q,rfl,rfl⟩ | ⟨i,q,rfl,rfl⟩ | ⟨i,q,rfl,rfl⟩ | ⟨i,q,rfl,rfl⟩ <;> simp only [VX,V] at h1
 · obtain ⟨b,h2,h1⟩ := h1
   exact fits_pure k (run _ _ h1) (VF_scalar rfl (by simp only [VX,V]; exact ⟨b,h2,rfl⟩) (by simp) (by simp))
 · obtain ⟨h1,h2⟩ := h1
   exact fits_pure k (run _ _ h1) (VF_scalar rfl (by simp only [VX]; exact ⟨trivial,h2⟩) (by simp) (by simp))
 · obtain ⟨b,o0,h1,h2⟩ := h1
   exact fits_pure k (run _ _ h1) (VF_scalar rfl (by simp only [VX]; exact ⟨b,o0,by rw [Nat.add_assoc],h2⟩) (by simp) (by simp))
 · exact fits_pure k (run _ _ h1) (VF_scalar rfl (by simp only [VX,V]) (by simp) (by simp))
theorem VE.get {sz:Nat} : ∀ {xs:List AV} {b off:Nat},VE g w sz xs b off → ∀ {j:Nat} {x:AV},xs[j]? = some x → x.cells.length = sz ∧ VC g w x.cells b (off + j * sz)
 | [],_,_,_,_,_,h => by simp at h
 | y :: xs,b,off,h,0,x,hx => by
   simp at hx; subst hx
   rw [Nat.zero_mul,Nat.add_zero]
   cases y <;> simp only [VE] at h <;> simp only [AV.cells] <;> first
     | exact h.1
     | exact ⟨h.1.1,by simp only [VC]; exact ⟨h.1.2,trivial⟩⟩
 | y :: xs,b,off,h,j + 1,x,hx => by
   have h2 : VE g w sz xs b (off + sz) := by cases y <;> simp only [VE] at h <;> exact h.2
   have := VE.get h2 (j := j) (by simpa using hx)
   rwa [show off + sz + j * sz = off + (j + 1) * sz by rw [Nat.succ_mul]; omega] at this
def sliceOk (P:Program) (t:TypeId) (sz:Nat) : Bool :=
 match P.underlying t with
 | some (.slice e) => (match P.info? e with | some i => decide (i.size = sz) | none => false)
 | _ => false
theorem run_indexAt_slice {t:TypeId} {sz:Nat} (h:sliceOk P t sz = true) {b q n c:Nat} {kk:IntKind} {j:Int} (h0:0 ≤ j) (h1:j < n) :
   (Instr.indexAt t (.slice (some ⟨b,q,none⟩) n c) (.int kk j)).run P w = .ok (.pointer (some ⟨b,q + j.toNat * sz,none⟩)) w := by
 unfold sliceOk at h
 cases hu : P.underlying t with
 | none => simp [hu] at h
 | some d =>
   cases d <;> simp [hu] at h
   rename_i e
   cases hi : P.info? e with
   | none => simp [hi] at h
   | some i =>
     simp [hi] at h
     simp [Instr.indexAt,asIntOf,run_underlying hu,sizeOf,typeInfo,hi,h,h0,h1,Addr.add_lit]
theorem fits_iaddrL (k:Rel G g st [] a.tmps w) {x i:Opd} {y u:Operand} (hx:opdOk x y = true) (hi:opdOk i u = true) {t:TypeId} {sz:Nat} (hf:sliceOk P t sz = true) (ho:o.op = .indexAddr t y u) {xs:List AV} {ow:Own} (hv:(opd st.fr x).1 = .list xs ow)
   {kk:IntKind} {j:Int} (hj:(opd st.fr i).1 = .int kk j) (h0:0 ≤ j) (h1:j < xs.length) {e:AV} (he:xs[j.toNat]? = some e) (hs:e.cells.length = sz) : Fits P G g st (.val (.eref e 0) st) o a w := by
 have hr := k.read hx; rw [hv] at hr; simp only [VX,V] at hr
 have hri := k.read hi; rw [hj] at hri; simp only [VX,V] at hri
 obtain ⟨A,c,e1,e2,e3,e4,e5,e6⟩ := hr
 cases A with
 | none => have := e5 rfl; omega
 | some ad =>
   obtain ⟨hsp,_,sz',hE⟩ := e6 ad rfl
   replace hsp := hsp (.inr (by omega))
   obtain ⟨ab,ao,asp⟩ := ad
   simp only at hsp hE; subst hsp
   obtain ⟨g1,g2⟩ := hE.get he
   have : sz' = sz := by omega
   subst this
   refine fits_pure k (cv := .pointer (some ⟨ab,ao + j.toNat * sz',none⟩)) ?_ (VF_scalar rfl (by simp only [VX]; exact ⟨ab,_,rfl,g2⟩) (by simp) (by simp))
   simp [execOp,ho,Act.eval_eq,e1,hri,run_indexAt_slice hf h0 h1]
theorem fits_iaddrL_last (k:Rel G g st [] a.tmps w) {s:Nat} {tk:Bool} {i:Opd} {y u:Operand} (hx:opdOk (.t s tk) y = true) (hi:opdOk i u = true) {t:TypeId} {sz:Nat} (hf:sliceOk P t sz = true) (ho:o.op = .indexAddr t y u) {xs:List AV} (hv:st.fr.get s = .pend xs sz)
   {kk:IntKind} {j:Int} (hj:(opd st.fr i).1 = .int kk j) (h1:j = xs.length) : Fits P G g st (.val (.lastr s) st) o a w := by
 have f := k.fr s; rw [hv] at f; simp only [VF] at f
 obtain ⟨ad,c,e1,e2,e3,e4,e5⟩ := f
 cases y <;> simp [opdOk] at hx
 subst hx
 have hri := k.read hi; rw [hj] at hri; simp only [VX,V] at hri
 obtain ⟨ab,ao,asp⟩ := ad
 simp only at e4; subst e4
 refine fits_pure k (cv := .pointer (some ⟨ab,ao + xs.length * sz,none⟩)) ?_ (VF_scalar rfl (by simp only [VX]; exact ⟨xs,sz,_,c,hv,e1,rfl⟩) (by simp) (by simp))
 have h2 : j.toNat = xs.length := by omega
 have := run_indexAt_slice (w := w) hf (b := ab) (q := ao) (n := xs.length + 1) (c := c) (kk := kk) (j := j) (by omega) (by omega)
 rw [h2] at this
 simp [execOp,ho,Act.eval_eq,hri,this]
 rw [show Act.opd a.tmps (Operand.tmp s) = _ from e1,this]; rfl
def arrayOk (P:Program) (t:TypeId) (len sz:Nat) : Bool :=
 match P.underlying t with
 | some (.array n e) => decide (n = len) && (match P.info? e with | some i => decide (i.size = sz) | none => false)
 | _ => false
theorem run_indexAt_array {t:TypeId} {len sz:Nat} (h:arrayOk P t len sz = true) {b q:Nat} {kk:IntKind} {j:Int} (h0:0 ≤ j) (h1:j < len) :
   (Instr.indexAt t (.pointer (some ⟨b,q,none⟩)) (.int kk j)).run P w = .ok (.pointer (some ⟨b,q + j.toNat * sz,none⟩)) w := by
 unfold arrayOk at h
 cases hu : P.underlying t with
 | none => simp [hu] at h
 | some d =>
   cases d <;> simp [hu] at h
   rename_i n e
   cases hi : P.info? e with
   | none => simp [hi] at h
   | some i =>
     simp [hi] at h
     obtain ⟨rfl,h⟩ := h
     simp [Instr.indexAt,asIntOf,run_underlying hu,sizeOf,typeInfo,hi,h,h0,h1,Instr.sureAddr,Addr.add_lit]
theorem fits_iaddrA (k:Rel G g st [] a.tmps w) {x i:Opd} {y u:Operand} (hx:opdOk x y = true) (hi:opdOk i u = true) {t:TypeId} {len sz:Nat} (hf:arrayOk P t len sz = true) (ho:o.op = .indexAddr t y u) {v v' : AV} (hv:(opd st.fr x).1 = v)
   {kk:IntKind} {j:Int} (hj:(opd st.fr i).1 = .int kk j) (h0:0 ≤ j) (h1:j < len)
   (hk:(∃ i q,v = .ptr i q ∧ v' = .ptr i (q + j.toNat * sz)) ∨ (∃ i q,v = .lref i q ∧ v' = .lref i (q + j.toNat * sz)) ∨ (∃ e q,v = .eref e q ∧ v' = .eref e (q + j.toNat * sz)) ∨ ∃ i q,v = .glob i q ∧ v' = .glob i (q + j.toNat * sz)) : Fits P G g st (.val v' st) o a w := by
 have h2 := k.read hx; rw [hv] at h2
 have hri := k.read hi; rw [hj] at hri; simp only [VX,V] at hri
 have run : ∀ b q,Act.opd a.tmps y = .pointer (some ⟨b,q,none⟩) → (execOp a.eval o).run P w = .ok (.value (.pointer (some ⟨b,q + j.toNat * sz,none⟩))) w := fun b q e => by
   simp [execOp,ho,Act.eval_eq,e,hri,run_indexAt_array hf h0 h1]
 rcases hk with ⟨i,q,rfl,rfl⟩ | ⟨i,q,rfl,rfl⟩ | ⟨i,q,rfl,rfl⟩ | ⟨i,q,rfl,rfl⟩ <;> simp only [VX,V] at h2
 · obtain ⟨b,h3,h2⟩ := h2
   exact fits_pure k (run _ _ h2) (VF_scalar rfl (by simp only [VX,V]; exact ⟨b,h3,rfl⟩) (by simp) (by simp))
 · obtain ⟨h2,h3⟩ := h2
   exact fits_pure k (run _ _ h2) (VF_scalar rfl (by simp only [VX]; exact ⟨trivial,h3⟩) (by simp) (by simp))
 · obtain ⟨b,o0,h2,h3⟩ := h2
   exact fits_pure k (run _ _ h2) (VF_scalar rfl (by simp only [VX]; exact ⟨b,o0,by rw [Nat.add_assoc],h3⟩) (by simp) (by simp))
 · exact fits_pure k (run _ _ h2) (VF_scalar rfl (by simp only [VX,V]) (by simp) (by simp))
theorem fits_idxS (k:Rel G g st [] a.tmps w) {x i:Opd} {y u:Operand} (hx:opdOk x y = true) (hi:opdOk i u = true) {t:TypeId} (hf:P.underlying t = some .string) (ho:o.op = .index t y u) {s:List UInt8} (hv:(opd st.fr x).1 = .str s)
   {kk:IntKind} {j:Int} (hj:(opd st.fr i).1 = .int kk j) (h0:0 ≤ j) {c:UInt8} (hc:s[j.toNat]? = some c) : Fits P G g st (.val (.int .u8 c.toNat) st) o a w := by
 have hr := k.read hx; rw [hv] at hr; simp only [VX,V] at hr
 have hri := k.read hi; rw [hj] at hri; simp only [VX,V] at hri
 refine fits_pure k (cv := .int .u8 c.toNat) ?_ (VF_scalar rfl (by simp only [VX,V]) (by simp) (by simp))
 obtain ⟨h1,h2⟩ := List.getElem?_eq_some_iff.1 hc
 have hlt : j < ((⟨s.toArray⟩ : ByteArray).size : Int) := by show j < ((s.toArray.size : Nat) : Int); simp; omega
 have hb : ((⟨s.toArray⟩ : ByteArray)[j.toNat]'(by omega)) = c := by show s.toArray[j.toNat] = c; simpa using h2
 simp only [execOp,ho,Act.eval_eq,hr,hri,Sem.run_bind,run_index_string w t _ kk j hf,dif_pos (show 0 ≤ j ∧ j < ((⟨s.toArray⟩ : ByteArray).size : Int) from ⟨h0,hlt⟩),Result.andThen_ok,hb]
 rfl
theorem fits_int (k:Rel G g st [] a.tmps w) {kk:IntKind} {n:Int} (hrun:(execOp a.eval o).run P w = .ok (.value (.int kk n)) w) : Fits P G g st (.val (.int kk n) st) o a w :=
 fits_pure k hrun (VF_scalar rfl (by simp only [VX,V]) (by simp) (by simp))
theorem fits_bool (k:Rel G g st [] a.tmps w) {b:Bool} (hrun:(execOp a.eval o).run P w = .ok (.value (.bool b)) w) : Fits P G g st (.val (.bool b) st) o a w :=
 fits_pure k hrun (VF_scalar rfl (by simp only [VX,V]) (by simp) (by simp))
theorem run_eqGuard_int (op:BinOp) (t:TypeId) (x y:Operand) (k k' : IntKind) (m n:Int) : (eqGuard op t x y (.int k m) (.int k' n)).run P w = .ok () w := by
 unfold eqGuard; cases op <;> simp
theorem run_eqGuard_str (op:BinOp) (t:TypeId) (x y:Operand) (m n:ByteArray) : (eqGuard op t x y (.string m) (.string n)).run P w = .ok () w := by
 unfold eqGuard; cases op <;> simp
theorem fits_bin (k:Rel G g st [] a.tmps w) {x y:Opd} {x' y' : Operand} (hx:opdOk x x' = true) (hy:opdOk y y' = true) {op:BinOp} {t t' : TypeId} (ho:o.op = .binOp op t x' y' t') {v:AV} (h:binAV op (opd st.fr x).1 (opd st.fr y).1 = some v) : Fits P G g st (.val v st) o a w := by
 have hr := k.read hx
 have hs := k.read hy
 generalize (opd st.fr x).1 = p at *
 generalize (opd st.fr y).1 = q at *
 cases p <;> try (simp [binAV] at h; done)
 case int kk m =>
   cases q <;> try (simp [binAV] at h; done)
   case int k2 n =>
     simp only [VX,V] at hr hs
     have run : (execOp a.eval o).run P w = ((binOp op t (.int kk m) (.int k2 n)).run P w).andThen fun v w => .ok (.value v) w := by
       simp [execOp,ho,Act.eval_eq,hr,hs,run_eqGuard_int]
     cases op <;> simp only [binAV,shiftBin,intBin] at h
     all_goals
       repeat' split at h
       all_goals try (cases h; done)
       all_goals
         cases h
         first
           | (refine fits_int k ?_; rw [run]; simp only [binOp,Op.shift]; rw [if_neg (by assumption)]; rfl)
           | (refine fits_int k ?_; rw [run]; simp_all [binOp,Op.intArith,Op.intDiv,Op.intBits,Op.intCmp,Op.shift]; done)
           | (refine fits_bool k ?_; rw [run]; simp_all [binOp,Op.intArith,Op.intDiv,Op.intBits,Op.intCmp,Op.shift]; done)
 case str m =>
   cases q <;> try (simp [binAV] at h; done)
   case str n =>
     simp only [VX,V] at hr hs
     have run : (execOp a.eval o).run P w = ((binOp op t (.string ⟨m.toArray⟩) (.string ⟨n.toArray⟩)).run P w).andThen fun v w => .ok (.value v) w := by
       simp [execOp,ho,Act.eval_eq,hr,hs,run_eqGuard_str]
     have app : (⟨m.toArray⟩ : ByteArray) ++ (⟨n.toArray⟩ : ByteArray) = ⟨(m ++ n).toArray⟩ := by
       apply ByteArray.ext
       simp
     cases op <;> simp only [binAV,strBin] at h
     case add =>
       split at h
       · rename_i hle
         cases h
         refine fits_pure k (cv := .string ⟨(m ++ n).toArray⟩) ?_ (VF_scalar rfl (by simp only [VX,V]) (by simp) (by simp))
         rw [run]
         have h1 : ¬ (((⟨m.toArray⟩ : ByteArray).size + (⟨n.toArray⟩ : ByteArray).size : Nat) : Int) > IntKind.i64.max := by
           show ¬ (((m.toArray.size + n.toArray.size : Nat)) : Int) > 9223372036854775807
           simp; omega
         simp only [binOp,Op.stringOp,if_neg h1,app,Sem.run_pure,Result.andThen_ok]
       · cases h
     all_goals first
       | (cases h; done)
       | (cases h; refine fits_bool k ?_; rw [run]; simp [binOp,Op.stringOp])
end
end Go.Proofs.YtkofimhnehkdoaaGreatDoor.Rf
end
