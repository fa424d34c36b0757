/- A part of the proof: see the last text. -/
import Derived.Test.YtkofimhnehkdoaaGreatDoorRcG1
import Derived.Laws.Sem
set_option linter.unusedVariables false
set_option linter.unusedSimpArgs false
section
namespace Go.Proofs.YtkofimhnehkdoaaGreatDoor.Rf
section
variable {g g' : Gh} {w w' : World}
theorem Same.ext {T:Tag → Prop} (h:Same T g w g' w') (hT:T .imm) : Ext g w g' w' :=
 have hro : ∀ t : Tag,t.ro → T t := fun t ht => by
   cases t <;> first | exact hT | exact h.te hT | exact ht.elim
 ⟨fun b o hl hi => ⟨h.ow b o hl (hro _ hi),h.cell b o hl (hro _ hi)⟩,h.row,h.hb⟩
theorem VS.len : ∀ {cs:List AV} {vs:List Value},VS g w cs vs → vs.length = cs.length
 | [],_,h => by simp only [VS] at h; simp [h]
 | _ :: cs,_,h => by simp only [VS] at h; obtain ⟨u,r,rfl,_,k⟩ := h; simp [VS.len k]
theorem VS.get : ∀ {cs:List AV} {vs:List Value},VS g w cs vs → ∀ {i:Nat} {v:AV},cs[i]? = some v → ∃ u,vs[i]? = some u ∧ V g w v u
 | [],_,_,_,_,h => by simp at h
 | c :: cs,_,h,0,v,hv => by simp only [VS] at h; obtain ⟨u,r,rfl,k,_⟩ := h; simp at hv; subst hv; exact ⟨u,rfl,k⟩
 | c :: cs,_,h,i + 1,v,hv => by simp only [VS] at h; obtain ⟨u,r,rfl,_,k⟩ := h; simp at hv; simpa using VS.get k hv
theorem VS.get' {cs:List AV} {vs:List Value} (h:VS g w cs vs) {i:Nat} {v:AV} {u:Value} (hv:cs[i]? = some v) (hu:vs[i]? = some u) : V g w v u := by
 obtain ⟨u',h1,h2⟩ := h.get hv; rw [hu] at h1; cases h1; exact h2
theorem VS.mk : ∀ {cs:List AV} {vs:List Value},vs.length = cs.length → (∀ (i:Nat) v u,cs[i]? = some v → vs[i]? = some u → V g w v u) → VS g w cs vs
 | [],[],_,_ => by simp [VS]
 | [],_ :: _,h,_ => by simp at h
 | _ :: _,[],h,_ => by simp at h
 | c :: cs,v :: vs,h,k => by
   simp only [VS]
   exact ⟨v,vs,rfl,k 0 c v rfl rfl,VS.mk (by simpa using h) fun i x y hx hy => k (i + 1) x y (by simpa using hx) (by simpa using hy)⟩
theorem VS.append : ∀ {cs ds:List AV} {vs us:List Value},VS g w cs vs → VS g w ds us → VS g w (cs ++ ds) (vs ++ us)
 | [],_,_,_,h,k => by simp only [VS] at h; subst h; simpa using k
 | _ :: _,_,_,_,h,k => by simp only [VS] at h; obtain ⟨u,r,rfl,l,m⟩ := h; simp only [List.cons_append,VS]; exact ⟨u,_,rfl,l,VS.append m k⟩
theorem VS.take {cs:List AV} {vs:List Value} (h:VS g w cs vs) (n:Nat) : VS g w (cs.take n) (vs.take n) :=
 VS.mk (by simp [h.len]) fun i v u hv hu => by
   rw [List.getElem?_take] at hv hu; split at hv
   · rename_i hi; rw [if_pos hi] at hu; exact h.get' hv hu
   · cases hv
theorem VS.drop {cs:List AV} {vs:List Value} (h:VS g w cs vs) (n:Nat) : VS g w (cs.drop n) (vs.drop n) :=
 VS.mk (by simp [h.len]) fun i v u hv hu => by rw [List.getElem?_drop] at hv hu; exact h.get' hv hu
theorem VS.set {cs:List AV} {vs:List Value} (h:VS g w cs vs) (n:Nat) {v:AV} {u:Value} (hv:V g w v u) : VS g w (cs.set n v) (vs.set n u) :=
 VS.mk (by simp [h.len]) fun i x y hx hy => by
   rw [List.getElem?_set] at hx hy
   by_cases hn : n = i
   · subst hn; simp only [if_true] at hx hy
     split at hx
     · rename_i h1; rw [if_pos (by rw [h.len]; exact h1)] at hy; cases hx; cases hy; exact hv
     · cases hx
   · rw [if_neg hn] at hx hy; exact h.get' hx hy
theorem Own.vw_cp (o:Own) : o.cp.vw = o.vw := by
 cases o with
 | no => rfl
 | nil => rfl
 | own sz e => by_cases h : e = 0 <;> simp [Own.cp,Own.vw,h]
 | view e => by_cases h : e = 0 <;> simp [Own.cp,Own.vw,h]
 | tight => simp [Own.cp,Own.vw]
theorem Own.cp_tight {o:Own} (h:o.cp = .tight) : o = .tight := by
 cases o with
 | no => simp [Own.cp,Own.vw] at h
 | nil => simp [Own.cp] at h
 | own sz e => by_cases h0 : e = 0 <;> simp [Own.cp,Own.vw,h0] at h
 | view e => by_cases h0 : e = 0 <;> simp [Own.cp,Own.vw,h0] at h
 | tight => rfl
theorem Own.cp_nil' {o:Own} (h:o.cp = .nil) : o = .nil := by
 cases o with
 | no => simp [Own.cp,Own.vw] at h
 | nil => rfl
 | own sz e => by_cases h0 : e = 0 <;> simp [Own.cp,Own.vw,h0] at h
 | view e => by_cases h0 : e = 0 <;> simp [Own.cp,Own.vw,h0] at h
 | tight => simp [Own.cp,Own.vw] at h
theorem Own.no_cp {o:Own} (h:o.cp ≠ .no) : o ≠ .no := fun e => by subst e; exact h rfl
theorem V.cp1 {v:AV} {cv:Value} (h:V g w v cv) : V g w v.cp1 cv := by
 cases v <;> simp only [AV.cp1] <;> try exact h
 case list xs o =>
   simp only [V] at h ⊢; obtain ⟨A,c,h1,h2,h3,h4,h5,h6⟩ := h
   refine ⟨A,c,h1,h2,h3,⟨fun e => h4.1 (Own.cp_nil' e),fun e => h4.2 (Own.cp_tight e)⟩,h5,fun a ha => ⟨fun hc => (h6 a ha).1 ?_,by rw [Own.vw_cp]; exact (h6 a ha).2.1,(h6 a ha).2.2⟩⟩
   rcases hc with hc | hc
   · exact .inl (Own.no_cp hc)
   · exact .inr hc
 case pend => simp [V]
 case room => simp [V]
theorem VS.cp1 : ∀ {cs:List AV} {vs:List Value},VS g w cs vs → VS g w (cs.map AV.cp1) vs
 | [],_,h => by simpa [VS] using h
 | _ :: _,_,h => by simp only [VS] at h; obtain ⟨u,r,rfl,l,m⟩ := h; simp only [List.map_cons,VS]; exact ⟨u,r,rfl,l.cp1,VS.cp1 m⟩
theorem Own.ck_eq {o:Own} (h:o ≠ .tight) : o.ck = o.cp := by
 cases o with
 | tight => exact absurd rfl h
 | no => rfl
 | nil => rfl
 | own sz e => rfl
 | view e => rfl
theorem V.ck1 {v:AV} {cv:Value} (h:V g w v cv) : V g w v.ck1 cv := by
 cases v <;> simp only [AV.ck1] <;> try exact h.cp1
 case list xs o =>
   by_cases ho : o = .tight
   · subst ho; exact h
   · rw [Own.ck_eq ho]; exact h.cp1
theorem VS.ck1 : ∀ {cs:List AV} {vs:List Value},VS g w cs vs → VS g w (cs.map AV.ck1) vs
 | [],_,h => by simpa [VS] using h
 | _ :: _,_,h => by simp only [VS] at h; obtain ⟨u,r,rfl,l,m⟩ := h; simp only [List.map_cons,VS]; exact ⟨u,r,rfl,l.ck1,VS.ck1 m⟩
theorem V.cpA {v:AV} {cv:Value} (h:V g w v cv) : V g w v.cpA cv := by
 cases v <;> simp only [AV.cpA] <;> try exact h.cp1
 case agg cs => simp only [V] at h ⊢; obtain ⟨vs,h1,h2,h3⟩ := h; exact ⟨vs,h1,h2.cp1,h3⟩
theorem VS.cpA : ∀ {cs:List AV} {vs:List Value},VS g w cs vs → VS g w (cs.map AV.cpA) vs
 | [],_,h => by simpa [VS] using h
 | _ :: _,_,h => by simp only [VS] at h; obtain ⟨u,r,rfl,l,m⟩ := h; simp only [List.map_cons,VS]; exact ⟨u,r,rfl,l.cpA,VS.cpA m⟩
theorem V.cp {v:AV} {cv:Value} (h:V g w v cv) : V g w v.cp cv := by
 cases v <;> simp only [AV.cp] <;> try exact h.cpA
 case tup cs => simp only [V] at h ⊢; obtain ⟨vs,h1,h2⟩ := h; exact ⟨vs,h1,h2.cpA⟩
theorem Own.cp_not_own (o:Own) (sz e:Nat) : o.cp ≠ .own sz e := by
 cases o with
 | no => simp [Own.cp,Own.vw]
 | nil => simp [Own.cp]
 | own s f => by_cases h0 : f = 0 <;> simp [Own.cp,Own.vw,h0]
 | view f => by_cases h0 : f = 0 <;> simp [Own.cp,Own.vw,h0]
 | tight => simp [Own.cp,Own.vw]
theorem AV.cp1_not_own (v:AV) (xs:List AV) (sz e:Nat) : v.cp1 ≠ .list xs (.own sz e) := by
 cases v <;> simp only [AV.cp1] <;> try (intro h; cases h; done)
 case list ys o => intro h; injection h with _ h; exact Own.cp_not_own o sz e h
theorem AV.ck1_not_own (v:AV) (xs:List AV) (sz e:Nat) : v.ck1 ≠ .list xs (.own sz e) := by
 cases v <;> simp only [AV.ck1] <;> try exact AV.cp1_not_own _ _ _ _
 case list ys o =>
   intro h; injection h with _ h
   by_cases ho : o = .tight
   · subst ho; cases h
   · rw [Own.ck_eq ho] at h; exact Own.cp_not_own o sz e h
theorem AV.cpA_not_own (v:AV) (xs:List AV) (sz e:Nat) : v.cpA ≠ .list xs (.own sz e) := by
 cases v <;> simp only [AV.cpA] <;> first | exact AV.cp1_not_own _ _ _ _ | (intro h; cases h; done)
theorem OwnsL.none {r:Root} {cs:List AV} {vs:List Value} (h:∀ (i:Nat) xs sz e,cs[i]? ≠ some (AV.list xs (.own sz e))) : OwnsL g w r cs vs := fun i xs sz e _ hx _ => absurd hx (h i xs sz e)
theorem OwnsL.ck1 {r:Root} {cs:List AV} {vs:List Value} : OwnsL g w r (cs.map AV.ck1) vs :=
 OwnsL.none fun i xs sz e h => by
   rw [List.getElem?_map] at h
   cases hc : cs[i]? with
   | none => simp [hc] at h
   | some v => simp [hc] at h; exact AV.ck1_not_own v xs sz e h
theorem OwnsL.cp1 {r:Root} {cs:List AV} {vs:List Value} : OwnsL g w r (cs.map AV.cp1) vs :=
 OwnsL.none fun i xs sz e h => by
   rw [List.getElem?_map] at h
   cases hc : cs[i]? <;> rw [hc] at h <;> simp at h
   exact AV.cp1_not_own _ _ _ _ h
theorem OwnsL.cpA {r:Root} {cs:List AV} {vs:List Value} : OwnsL g w r (cs.map AV.cpA) vs :=
 OwnsL.none fun i xs sz e h => by
   rw [List.getElem?_map] at h
   cases hc : cs[i]? <;> rw [hc] at h <;> simp at h
   exact AV.cpA_not_own _ _ _ _ h
theorem Owns.cp {r:Root} {v:AV} {cv:Value} : Owns g w r v.cp cv := by
 cases v <;> simp only [AV.cp,AV.cpA,AV.cp1,Owns]
 case list xs o => cases h : o.cp <;> simp only [Owns]; exact absurd h (Own.cp_not_own _ _ _)
 case tup vs => intro us _; exact OwnsL.cpA
variable {T:Tag → Prop}
theorem Tail.same (h:Same T g w g' w') (hi:T .imm) {r:Root} {i:Nat} (ht:T (.tail r i)) {xs:List AV} {sz:Nat} {cv:Value} (k:Tail g w r i xs sz cv) : Tail g' w' r i xs sz cv := by
 intro a n c e
 obtain ⟨h1,h2⟩ := k a n c e
 refine ⟨VE.mono (h.ext hi) _ _ _ _ h1,fun o ho ho' => ?_⟩
 obtain ⟨p,⟨u,q⟩,s⟩ := h2 o ho ho'
 have hl := World.block_lt_of_cell? w ⟨a.block,o,none⟩ q
 exact ⟨(h.ow _ _ hl (by rw [p]; exact ht)).trans p,⟨u,by rw [h.cell _ _ hl (by rw [p]; exact ht)]; exact q⟩,(h.frz _ _ hl (by rw [p]; exact ht) (by rw [p]; simp)).trans s⟩
theorem OwnsL.same (h:Same T g w g' w') (hi:T .imm) {r:Root} (ht:∀ i,T (.tail r i)) {cs:List AV} {vs:List Value} (k:OwnsL g w r cs vs) : OwnsL g' w' r cs vs :=
 fun i xs sz e cv h1 h2 => (k i xs sz e cv h1 h2).same h hi (ht i)
theorem Owns.same (h:Same T g w g' w') (hi:T .imm) {r:Root} (ht:∀ i,T (.tail r i)) {v:AV} {cv:Value} (k:Owns g w r v cv) : Owns g' w' r v cv := by
 unfold Owns at *
 split
 · exact k.same h hi (ht 0)
 · exact fun us e => (k us e).same h hi ht
 · trivial
theorem VX.same (h:Same T g w g' w') (hi:T .imm) {fr:Fr} {tm:Array Value} (hb:∀ t cs,fr.get t = .box cs → g'.bx (.fr t) = g.bx (.fr t)) {v:AV} {cv:Value} (k:VX g w fr tm v cv) : VX g' w' fr tm v cv := by
 cases v <;> simp only [VX] at k ⊢ <;> try exact V.mono (h.ext hi) _ _ k
 case lref t off => obtain ⟨k1,cs,k2⟩ := k; exact ⟨by rw [hb t cs k2]; exact k1,cs,k2⟩
 case eref x off => obtain ⟨b,o0,k1,k2⟩ := k; exact ⟨b,o0,k1,VC.mono (h.ext hi) _ _ _ k2⟩
 case data xs e => obtain ⟨a,k1,k2,k3⟩ := k; exact ⟨a,k1,k2.mono (h.ext hi),VE.mono (h.ext hi) _ _ _ _ k3⟩
 case lastr t => exact k
theorem VF.same (h:Same T g w g' w') (hi:T .imm) {fr:Fr} {tm:Array Value} (hb:∀ t cs,fr.get t = .box cs → g'.bx (.fr t) = g.bx (.fr t)) {r:Root} (hr:∀ i,T (.tail r i)) (hx:T (.box r)) (hrb:g'.bx r = g.bx r)
   {v:AV} {cv:Value} (k:VF g w fr tm r v cv) : VF g' w' fr tm r v cv := by
 cases v <;> simp only [VF] at k ⊢ <;> try exact ⟨VX.same h hi hb k.1,k.2.same h hi hr⟩
 case box cs =>
   obtain ⟨vs,ty,k1,k2,k3,k4,k5⟩ := k
   have hlt : g.bx r < w.heap.size := (Array.getElem?_eq_some_iff.1 k2).1
   refine ⟨vs,ty,by rw [hrb]; exact k1,?_,⟨VS.mono (h.ext hi) _ _ k3.1,k3.2⟩,fun o => ?_,k5.same h hi hr⟩
   · rw [hrb,h.blk _ hlt (fun o => by rw [k4 o]; exact ⟨hx,by simp⟩)]; exact k2
   · rw [hrb,h.ow _ _ hlt (by rw [k4 o]; exact hx)]; exact k4 o
 case pend xs sz => obtain ⟨a,c,k1,k2,k3,k4,k5⟩ := k; exact ⟨a,c,k1,k2,k3,k4,k5.same h hi (hr 0)⟩
 case room n e => obtain ⟨a,c,k1,k2,k3,k4,k5⟩ := k; exact ⟨a,c,k1,k2,k3,k4.mono (h.ext hi),k5.same h hi (hr 0)⟩
theorem ObjRel.lt {id b:Nat} {o:HObj} (k:ObjRel g w id b o) : b < w.heap.size := by
 cases o with
 | dead => exact k.elim
 | cells t cs => simp only [ObjRel] at k; obtain ⟨vs,sp,ty,e,_⟩ := k; exact (Array.getElem?_eq_some_iff.1 e).1
 | map es => simp only [ObjRel] at k; obtain ⟨vs,ty,e,_⟩ := k; exact (Array.getElem?_eq_some_iff.1 e).1
theorem ObjRel.same (h:Same T g w g' w') (hi:T .imm) {id b:Nat} (ho:∀ i,g.ow b i = .obj id) (hx:T (.obj id)) (hr:∀ i,T (.tail (.ob id) i)) (hm:∀ i j,T (.tail (.mp id i) j)) {o:HObj} (k:ObjRel g w id b o) : ObjRel g' w' id b o := by
 cases o with
 | dead => exact k.elim
 | cells t cs =>
   simp only [ObjRel] at k ⊢
   obtain ⟨vs,sp,ty,k1,k2,k3,k4⟩ := k
   have hlt : b < w.heap.size := (Array.getElem?_eq_some_iff.1 k1).1
   exact ⟨vs,sp,ty,by rw [h.blk b hlt (fun o => by rw [ho o]; exact ⟨hx,by simp⟩)]; exact k1,⟨VS.mono (h.ext hi) _ _ k2.1,k2.2⟩,k3.same h hi hr,k4⟩
 | map es =>
   simp only [ObjRel] at k ⊢
   obtain ⟨ents,clock,k1,k2,k3⟩ := k
   have hlt : b < w.heap.size := (Array.getElem?_eq_some_iff.1 k1).1
   refine ⟨ents,clock,by rw [h.blk b hlt (fun o => by rw [ho o]; exact ⟨hx,by simp⟩)]; exact k1,k2,fun i kk v he => ?_⟩
   obtain ⟨e,e1,e2,e3,e4⟩ := k3 i kk v he
   exact ⟨e,e1,V.mono (h.ext hi) _ _ e2,V.mono (h.ext hi) _ _ e3,e4.same h hi (hm i)⟩
theorem HeapRel.same (h:Same T g w g' w') (hi:T .imm) (hx:∀ id,T (.obj id)) (hr:∀ id i,T (.tail (.ob id) i)) (hm:∀ id i j,T (.tail (.mp id i) j)) (hb:g'.hb = g.hb) {hp:List HObj} (k:HeapRel g w hp) : HeapRel g' w' hp :=
 ⟨by rw [hb]; exact k.len,fun id o ho hl => by
   obtain ⟨b,k1,k2,k3⟩ := k.obj id o ho hl
   have hlt : b < w.heap.size := by
     exact k3.lt
   exact ⟨b,by rw [hb]; exact k1,fun i => (h.ow _ _ hlt (by rw [k2 i]; exact hx id)).trans (k2 i),k3.same h hi k2 (hx id) (hr id) (hm id)⟩⟩
theorem GlobRel.same (h:Same T g w g' w') (hi:T .imm) (ho:T .out) {G:Nat → Option (List AV)} (k:GlobRel G g w) : GlobRel G g' w' := by
 intro b cs hb
 obtain ⟨vs,ty,k1,k2,k3⟩ := k b cs hb
 have hlt : b < w.heap.size := (Array.getElem?_eq_some_iff.1 k1).1
 exact ⟨vs,ty,by rw [h.blk b hlt (fun o => by rw [k3 o]; exact ⟨hi,by simp⟩)]; exact k1,⟨VS.mono (h.ext hi) _ _ k2.1,k2.2⟩,fun o => (h.ow _ _ hlt (by rw [k3 o]; exact hi)).trans (k3 o)⟩
theorem Rel.same {G:Nat → Option (List AV)} {st:St} {ps:List (AV × Value)} {tm:Array Value} (h:Same (fun _ => True) g w g' w') (hb:g'.hb = g.hb) (hx:∀ r,g'.bx r = g.bx r) (hf:∀ b o,w'.heap.size ≤ b → g'.ow b o = .out)
   (k:Rel G g st ps tm w) : Rel G g' st ps tm w' :=
 ⟨fun s => (k.fr s).same h trivial (fun _ _ _ => hx _) (fun _ => trivial) trivial (hx _),fun j v cv hj => (k.ps j v cv hj).same h trivial (fun _ _ _ => hx _) (fun _ => trivial) trivial (hx _),
   k.hp.same h trivial (fun _ => trivial) (fun _ _ => trivial) (fun _ _ _ => trivial) hb,hf,k.gl.same h trivial trivial⟩
end
def Tag.mv (r q:Root) : Tag → Tag
 | .box x => if x = r then .box q else if x = q then .out else .box x
 | .tail x i => if x = r then .tail q i else if x = q then .out else .tail x i
 | t => t
def Gh.mv (g:Gh) (r q:Root) : Gh := { ow := fun b o => (g.ow b o).mv r q,hb := g.hb,bx := fun x => if x = q then g.bx r else g.bx x }
def Tag.offRoots (r q:Root) : Tag → Prop
 | .box x => x ≠ r ∧ x ≠ q
 | .tail x _ => x ≠ r ∧ x ≠ q
 | _ => True
theorem Tag.mv_off {r q:Root} {t:Tag} (h:t.offRoots r q) : t.mv r q = t := by
 cases t <;> simp_all [Tag.mv,Tag.offRoots]
theorem Gh.mv_same (g:Gh) (w:World) (r q:Root) : Same (Tag.offRoots r q) g w (g.mv r q) w :=
 ⟨fun _ _ _ h => Tag.mv_off h,fun _ _ _ _ => rfl,fun _ _ _ _ _ => rfl,fun _ _ _ => rfl,fun _ _ _ h => h,fun _ => trivial,fun _ _ h => h⟩
theorem Gh.mv_stay (g:Gh) (w:World) (r q:Root) : Stay g w (g.mv r q) w :=
 { ow := fun b o _ h => by
     show (g.ow b o).mv r q = g.ow b o
     revert h; cases g.ow b o <;> simp [Tag.kept,Tag.mv]
   cell := fun _ _ _ _ => rfl,frz := fun _ _ _ _ _ => rfl,blk := fun _ _ _ => rfl,row := fun _ _ _ h => h,te := fun _ => trivial,hb := fun _ _ h => h,os := rfl,tape := rfl,output := rfl,size := Nat.le_refl _ }
theorem Gh.mv_ext (g:Gh) (w:World) (r q:Root) : Ext g w (g.mv r q) w := (Gh.mv_same g w r q).ext trivial
section
variable {g:Gh} {w:World} {r q:Root}
theorem Tail.mv {i:Nat} {xs:List AV} {sz:Nat} {cv:Value} (k:Tail g w r i xs sz cv) : Tail (g.mv r q) w q i xs sz cv := by
 intro a n c e
 obtain ⟨h1,h2⟩ := k a n c e
 refine ⟨VE.mono (g.mv_ext w r q) _ _ _ _ h1,fun o ho ho' => ?_⟩
 obtain ⟨p,s,t⟩ := h2 o ho ho'
 exact ⟨by show (g.ow _ _).mv r q = _; rw [p]; simp [Tag.mv],s,t⟩
theorem OwnsL.mv {cs:List AV} {vs:List Value} (k:OwnsL g w r cs vs) : OwnsL (g.mv r q) w q cs vs := fun i xs sz e cv h1 h2 => (k i xs sz e cv h1 h2).mv
theorem Owns.mv {v:AV} {cv:Value} (k:Owns g w r v cv) : Owns (g.mv r q) w q v cv := by
 unfold Owns at *
 split
 · exact k.mv
 · exact fun us e => (k us e).mv
 · trivial
theorem VF.mv {fr fr' : Fr} {tm tm' : Array Value} {v:AV} {cv:Value} (hv:∀ v cv,VX g w fr tm v cv → VX (g.mv r q) w fr' tm' v cv) (k:VF g w fr tm r v cv) : VF (g.mv r q) w fr' tm' q v cv := by
 cases v <;> simp only [VF] at k ⊢ <;> try exact ⟨hv _ _ k.1,k.2.mv⟩
 case box cs =>
   obtain ⟨vs,ty,k1,k2,k3,k4,k5⟩ := k
   have hq : (g.mv r q).bx q = g.bx r := by simp [Gh.mv]
   refine ⟨vs,ty,by rw [hq]; exact k1,by rw [hq]; exact k2,⟨VS.mono (g.mv_ext w r q) _ _ k3.1,k3.2⟩,fun o => ?_,k5.mv⟩
   rw [hq]; show (g.ow _ _).mv r q = _; rw [k4 o]; simp [Tag.mv]
 case pend xs sz => obtain ⟨a,c,k1,k2,k3,k4,k5⟩ := k; exact ⟨a,c,k1,k2,k3,k4,k5.mv⟩
 case room n e => obtain ⟨a,c,k1,k2,k3,k4,k5⟩ := k; exact ⟨a,c,k1,k2,k3,k4.mono (g.mv_ext w r q),k5.mv⟩
end
end Go.Proofs.YtkofimhnehkdoaaGreatDoor.Rf
end
section
namespace Go.Proofs.YtkofimhnehkdoaaGreatDoor.Rf
theorem Fr.get_set (fr:Fr) (s:Nat) (v:AV) (t:Nat) : (fr.set s v).get t = if s = t then v else fr.get t := by
 induction fr with
 | nil => simp only [Fr.set,Fr.get]
 | cons p r ih =>
   obtain ⟨u,x⟩ := p
   simp only [Fr.set]
   by_cases h : u = s
   · subst h; simp only [if_true,Fr.get]; split <;> rfl
   · simp only [if_neg h,Fr.get,ih]
     by_cases h2 : u = t
     · subst h2; rw [if_pos rfl,if_neg (fun e => h e.symm),if_pos rfl]
     · simp [if_neg h2]
theorem Fr.get_keep (fr:Fr) (live:List Nat) (t:Nat) : (fr.keep live).get t = if t ∈ live then fr.get t else .none := by
 unfold Fr.keep
 induction live with
 | nil => simp [Fr.get]
 | cons s r ih =>
   simp only [List.map_cons,Fr.get,ih,List.mem_cons]
   by_cases h : s = t
   · subst h; simp
   · simp [if_neg h,show ¬ t = s from fun e => h e.symm]
def Act.opd (tm:Array Value) : Operand → Value
 | .tmp t => tm.getD t undef
 | .const v => v
 | .global g => .pointer (some ⟨g,0,none⟩)
 | .func f => .func (.func f) #[] #[]
theorem Act.eval_eq (a:Act) (x:Operand) : a.eval x = Act.opd a.tmps x := by cases x <;> rfl
mutual
def same : AV → Value → Bool
 | .bool b,.bool c => b == c
 | .int k n,.int k' m => decide (k = k') && decide (n = m)
 | .str s,.string b => decide (s = b.data.toList)
 | .list [] .nil,.slice .none 0 0 => true
 | .nilp,.pointer .none => true
 | .nilm,.map .none => true
 | .nilf,.nilFunc => true
 | .nili,.nilIface => true
 | .agg cs,.agg ⟨vs⟩ => sames cs vs && vs.all Value.oneCell'
 | .iface t v,.iface u x => decide (t = u) && same v x
 | .func f [],.func (.func h) ⟨[]⟩ ⟨[]⟩ => decide (f = h)
 | _,_ => false
def sames : List AV → List Value → Bool
 | [],[] => true
 | v :: vs,u :: us => same v u && sames vs us
 | _,_ => false
end
def opdOk : Opd → Operand → Bool
 | .t s _,.tmp t => decide (s = t)
 | .c v,.const u => same v u
 | .g a,.global b => decide (a = b)
 | .f a,.func b => decide (a = b)
 | _,_ => false
def opdsOk : List Opd → List Operand → Bool
 | [],[] => true
 | x :: xs,y :: ys => opdOk x y && opdsOk xs ys
 | _,_ => false
section
variable {g:Gh} {w:World}
theorem V.of_same_str {s:List UInt8} {b:ByteArray} (h:s = b.data.toList) : (Value.string b) = .string ⟨s.toArray⟩ := by
 subst h; cases b; rfl
set_option maxHeartbeats 1000000 in
mutual
theorem V.of_same : ∀ (v:AV) (u:Value),same v u = true → V g w v u
 | .none,_,h => by simp [same] at h
 | .bool b,u,h => by cases u <;> simp [same] at h; subst h; simp [V]
 | .int k n,u,h => by cases u <;> simp [same] at h; obtain ⟨rfl,rfl⟩ := h; simp [V]
 | .str s,u,h => by cases u <;> simp [same] at h; simp only [V]; exact V.of_same_str h
 | .list xs o,u,h => by
   cases xs <;> cases o <;> try (simp [same] at h; done)
   cases u <;> try (simp [same] at h; done)
   rename_i A n c
   cases A <;> cases n <;> cases c <;> try (simp [same] at h; done)
   simp only [V]; exact ⟨none,0,rfl,Nat.le_refl _,by decide,⟨fun _ => rfl,fun _ => rfl⟩,fun _ => rfl,fun a e => by cases e⟩
 | .nilp, u, h => by cases u <;> try (simp [same] at h; done)
                     rename_i A; cases A <;> simp [same] at h; simp [V]
 | .nilm, u, h => by cases u <;> try (simp [same] at h; done)
                     rename_i A; cases A <;> simp [same] at h; simp [V]
 | .nilf,u,h => by cases u <;> simp [same] at h; simp [V]
 | .nili,u,h => by cases u <;> simp [same] at h; simp [V]
 | .agg cs,u,h => by
   cases u <;> try (simp [same] at h; done)
   rename_i a; obtain ⟨vs⟩ := a
   simp only [same,Bool.and_eq_true,List.all_eq_true] at h; simp only [V]; exact ⟨vs,rfl,VS.of_same cs vs h.1,h.2⟩
 | .tup _,_,h => by simp [same] at h
 | .iface t v,u,h => by
   cases u <;> try (simp [same] at h; done)
   rename_i t' x
   simp only [same,Bool.and_eq_true,decide_eq_true_eq] at h; obtain ⟨rfl,h⟩ := h
   simp only [V]; exact ⟨x,rfl,V.of_same v x h⟩
 | .func f cs,u,h => by
   cases cs <;> try (simp [same] at h; done)
   cases u <;> try (simp [same] at h; done)
   rename_i fn a b; obtain ⟨a⟩ := a; obtain ⟨b⟩ := b
   cases fn <;> cases a <;> cases b <;> simp [same] at h
   subst h; simp only [V]; exact ⟨[],rfl,by simp [VS]⟩
 | .pend _ _,_,h => by simp [same] at h
 | .room _ _,_,h => by simp [same] at h
 | .lref _ _,_,h => by simp [same] at h
 | .sref _ _ _ _,_,h => by simp [same] at h
 | .box _,_,h => by simp [same] at h
 | .eref _ _,_,h => by simp [same] at h
 | .data _ _,_,h => by simp [same] at h
 | .lastr _,_,h => by simp [same] at h
 | .ptr _ _,_,h => by simp [same] at h
 | .map _,_,h => by simp [same] at h
 | .glob _ _,_,h => by simp [same] at h
theorem VS.of_same : ∀ (vs:List AV) (us:List Value),sames vs us = true → VS g w vs us
 | [],us,h => by cases us <;> simp [sames] at h; simp [VS]
 | v :: vs,us,h => by
   cases us <;> simp [sames] at h
   rename_i u us; simp only [VS]; exact ⟨u,us,rfl,V.of_same v u h.1,VS.of_same vs us h.2⟩
end
theorem AV.plain_of_same {v:AV} {u:Value} (h:same v u = true) : v.plain = true := by
 cases v <;> simp [same,AV.plain] at h ⊢
theorem AV.loose_of_plain {v:AV} (h:v.plain = true) : v.loose = true := by cases v <;> simp_all [AV.plain,AV.loose]
theorem VX_plain {fr:Fr} {tm:Array Value} {v:AV} {cv:Value} (h:v.plain = true) : VX g w fr tm v cv = V g w v cv := by
 cases v <;> simp_all [AV.plain,VX]
theorem VX_of_V {fr:Fr} {tm:Array Value} {v:AV} {cv:Value} (h:V g w v cv) : VX g w fr tm v cv := by
 cases v <;> simp only [VX] <;> first | exact h | (simp only [V] at h)
theorem VF_loose {fr:Fr} {tm:Array Value} {r:Root} {v:AV} {cv:Value} (h:v.loose = true) : VF g w fr tm r v cv = (VX g w fr tm v cv ∧ Owns g w r v cv) := by
 cases v <;> simp_all [AV.loose,VF]
theorem AV.cp_loose {v:AV} (h:v.loose = true) : v.cp.loose = true := by
 cases v <;> simp_all [AV.loose,AV.cp,AV.cpA,AV.cp1]
theorem VX.cp {fr:Fr} {tm:Array Value} {v:AV} {cv:Value} (h:VX g w fr tm v cv) : VX g w fr tm v.cp cv := by
 cases v <;> first
   | exact VX_of_V (V.cp (by simpa only [VX] using h))
   | exact h
theorem Owns.not_own {r:Root} {v:AV} {cv:Value} (h1:∀ xs sz e,v ≠ .list xs (.own sz e)) (h2:∀ vs,v ≠ .tup vs) : Owns g w r v cv := by
 cases v <;> try trivial
 case list xs o => cases o <;> first | trivial | exact absurd rfl (h1 _ _ _)
 case tup vs => exact absurd rfl (h2 vs)
theorem sames_not_own : ∀ {vs:List AV} {us:List Value},sames vs us = true → ∀ (i:Nat) xs sz e,vs[i]? ≠ some (AV.list xs (.own sz e))
 | [],_,_,_,_,_,_ => by simp
 | v :: vs,[],h,_,_,_,_ => by simp [sames] at h
 | v :: vs,u :: us,h,0,xs,sz,e => by
   simp only [sames,Bool.and_eq_true] at h
   intro e'; simp at e'; subst e'
   have := h.1
   cases xs <;> simp [same] at this
 | v :: vs,u :: us,h,i + 1,xs,sz,e => by
   simp only [sames,Bool.and_eq_true] at h
   simpa using sames_not_own h.2 i xs sz e
theorem Owns.of_same {r:Root} {v:AV} {u cv:Value} (h:Go.Proofs.YtkofimhnehkdoaaGreatDoor.Rf.same v u = true) : Owns g w r v cv := by
 cases v <;> try trivial
 case list xs o => cases o <;> first | trivial | (cases xs <;> simp [Go.Proofs.YtkofimhnehkdoaaGreatDoor.Rf.same] at h)
structure FrLike (fr:Fr) (tm:Array Value) (fr' : Fr) (tm' : Array Value) : Prop where
 box : ∀ t cs,fr.get t = .box cs → ∃ cs',fr'.get t = .box cs'
 pend : ∀ t xs sz,fr.get t = .pend xs sz → fr'.get t = .pend xs sz ∧ tm'.getD t undef = tm.getD t undef
theorem FrLike.refl (fr:Fr) (tm:Array Value) : FrLike fr tm fr tm := ⟨fun t cs h => ⟨cs,h⟩,fun t xs sz h => ⟨h,rfl⟩⟩
theorem VX.like {fr fr' : Fr} {tm tm' : Array Value} (l:FrLike fr tm fr' tm') {v:AV} {cv:Value} (h:VX g w fr tm v cv) : VX g w fr' tm' v cv := by
 cases v <;> simp only [VX] at h ⊢ <;> try exact h
 case lref t off => obtain ⟨h1,cs,h2⟩ := h; exact ⟨h1,l.box t cs h2⟩
 case lastr t => obtain ⟨xs,sz,a,c,h1,h2,h3⟩ := h; obtain ⟨p,q⟩ := l.pend t xs sz h1; exact ⟨xs,sz,a,c,p,q.trans h2,h3⟩
theorem VF.like {fr fr' : Fr} {tm tm' : Array Value} (l:FrLike fr tm fr' tm') {r:Root} {v:AV} {cv:Value} (h:VF g w fr tm r v cv) : VF g w fr' tm' r v cv := by
 cases v <;> simp only [VF] at h ⊢ <;> first | exact h | exact ⟨VX.like l h.1,h.2⟩
theorem FrLike.set {fr:Fr} {tm:Array Value} {s:Nat} {v:AV} (h:(fr.get s).loose = true) : FrLike fr tm (fr.set s v) tm :=
 ⟨fun t cs ht => by
     rw [Fr.get_set]; by_cases e : s = t
     · subst e; rw [ht] at h; simp [AV.loose] at h
     · rw [if_neg e]; exact ⟨cs,ht⟩,
  fun t xs sz ht => by
     rw [Fr.get_set]; by_cases e : s = t
     · subst e; rw [ht] at h; simp [AV.loose] at h
     · rw [if_neg e]; exact ⟨ht,rfl⟩⟩
variable {G:Nat → Option (List AV)} {st:St} {ps:List (AV × Value)} {tm:Array Value}
theorem Rel.read (k:Rel G g st ps tm w) {x:Opd} {o:Operand} (h:opdOk x o = true) : VX g w st.fr tm (opd st.fr x).1 (Act.opd tm o) := by
 cases x with
 | t s take =>
   cases o <;> simp [opdOk] at h
   subst h
   have f := k.fr s
   simp only [opd,Act.opd]
   cases hv : st.fr.get s <;> rw [hv] at f <;> simp only <;> try (cases take <;> simp only [if_true,if_false,Bool.false_eq_true] <;> simp only [VF] at f <;> first | exact f.1 | exact VX.cp f.1)
   case box cs => simp only [VF] at f; obtain ⟨vs,ty,f1,_⟩ := f; simp only [VX]; exact ⟨f1,cs,hv⟩
   case pend => simp [VX,V]
   case room => simp [VX,V]
 | c v => cases o <;> simp [opdOk] at h; exact VX_of_V (V.of_same _ _ h)
 | g a => cases o <;> simp [opdOk] at h; subst h; simp [opd,VX,V,Act.opd]
 | f a => cases o <;> simp [opdOk] at h; subst h; simp only [opd,VX,V,Act.opd]; exact ⟨[],rfl,by simp [VS]⟩
theorem opd_loose (fr:Fr) {x:Opd} {o:Operand} (h:opdOk x o = true) : (opd fr x).1.loose = true := by
 cases x with
 | t s take =>
   simp only [opd]
   cases hv : fr.get s <;> simp only <;> try (cases take <;> simp only [if_true,if_false,Bool.false_eq_true] <;> first | rfl | exact AV.cp_loose rfl)
   all_goals rfl
 | c v => cases o <;> simp [opdOk] at h; exact AV.loose_of_plain (AV.plain_of_same h)
 | g a => rfl
 | f a => rfl
theorem Rel.push (k:Rel G g st ps tm w) {v:AV} {cv:Value} (h:VF g w st.fr tm (.arg ps.length) v cv) : Rel G g st (ps ++ [(v,cv)]) tm w :=
 ⟨k.fr, fun j u cu hj => by
     rw [List.getElem?_append] at hj
     split at hj
     · exact k.ps j u cu hj
     · rename_i hlt
       have e : j = ps.length := by
         obtain ⟨h1,_⟩ := List.getElem?_eq_some_iff.1 hj; simp at h1; omega
       subst e; simp at hj; obtain ⟨h1,h2⟩ := hj; subst h1; subst h2; exact h,k.hp,k.fresh,k.gl⟩
theorem Rel.less (k:Rel G g st ps tm w) : Rel G g st [] tm w := ⟨k.fr,fun j u cu hj => by simp at hj,k.hp,k.fresh,k.gl⟩
theorem Rel.mv {r q:Root} {fr' : Fr} {tm' : Array Value} {ps' : List (AV × Value)} (k:Rel G g st ps tm w)
   (hr:∀ id i,r ≠ .ob id ∧ q ≠ .ob id ∧ r ≠ .mp id i ∧ q ≠ .mp id i)
   (hbx:∀ t cs,st.fr.get t = .box cs → q ≠ .fr t)
   (l:FrLike st.fr tm fr' tm')
   (hfr:∀ s,(VF (g.mv r q) w fr' tm' (.fr s) (fr'.get s) (tm'.getD s undef)) ∨ (Root.fr s ≠ r ∧ Root.fr s ≠ q ∧ fr'.get s = st.fr.get s ∧ tm'.getD s undef = tm.getD s undef))
   (hps:∀ (j:Nat) v cv,ps'[j]? = some (v,cv) → (VF (g.mv r q) w fr' tm' (.arg j) v cv) ∨ (Root.arg j ≠ r ∧ Root.arg j ≠ q ∧ ps[j]? = some (v,cv))) :
   Rel G (g.mv r q) { st with fr := fr' } ps' tm' w := by
 have sm := g.mv_same w r q
 have hb : ∀ t cs,st.fr.get t = .box cs → (g.mv r q).bx (.fr t) = g.bx (.fr t) := fun t cs h => by simp only [Gh.mv]; rw [if_neg (fun e => hbx t cs h e.symm)]
 have one : ∀ {x:Root} {v:AV} {cv:Value},x ≠ r → x ≠ q → VF g w st.fr tm x v cv → VF (g.mv r q) w fr' tm' x v cv := fun h1 h2 h =>
   VF.like l (h.same sm trivial hb (fun i => ⟨h1,h2⟩) ⟨h1,h2⟩ (by simp only [Gh.mv]; rw [if_neg h2]))
 refine ⟨fun s => ?_,fun j v cv hj => ?_,?_,fun b o h => ?_,?_⟩
 · rcases hfr s with h | ⟨h1,h2,h3,h4⟩
   · exact h
   · simp only; rw [h3,h4]; exact one h1 h2 (k.fr s)
 · rcases hps j v cv hj with h | ⟨h1,h2,h3⟩
   · exact h
   · exact one h1 h2 (k.ps j v cv h3)
 · exact k.hp.same sm trivial (fun _ => trivial) (fun id i => ⟨(hr id 0).1.symm,(hr id 0).2.1.symm⟩) (fun id i j => ⟨(hr id i).2.2.1.symm,(hr id i).2.2.2.symm⟩) rfl
 · show (g.ow b o).mv r q = _; rw [k.fresh b o h]; rfl
 · exact k.gl.same sm trivial trivial
theorem Rel.take (k:Rel G g st ps tm w) {x:Opd} {o:Operand} (h:opdOk x o = true) :
   ∃ g',Rel G g' { st with fr := (opd st.fr x).2 } (ps ++ [((opd st.fr x).1,Act.opd tm o)]) tm w ∧ Stay g w g' w ∧ g'.hb = g.hb := by
 have hread := k.read h
 have stay0 : Stay g w g w := { ow := fun _ _ _ _ => rfl,cell := fun _ _ _ _ => rfl,frz := fun _ _ _ _ _ => rfl,blk := fun _ _ _ => rfl,row := fun _ _ _ h => h,te := fun _ => trivial,hb := fun _ _ h => h,os := rfl,tape := rfl,output := rfl,size := Nat.le_refl _ }
 -- nothing is taken
 have plainly : (opd st.fr x).2 = st.fr → Owns g w (.arg ps.length) (opd st.fr x).1 (Act.opd tm o) → ∃ g',Rel G g' { st with fr := (opd st.fr x).2 } (ps ++ [((opd st.fr x).1,Act.opd tm o)]) tm w ∧ Stay g w g' w ∧ g'.hb = g.hb := fun e ho => by
   refine ⟨g,?_,stay0,rfl⟩
   rw [e]
   exact k.push (by rw [VF_loose (opd_loose st.fr h)]; exact ⟨hread,ho⟩)
 cases x with
 | c v => 
   refine plainly rfl ?_
   cases o <;> simp [opdOk] at h
   exact Owns.of_same h
 | g a => exact plainly rfl trivial
 | f a => exact plainly rfl trivial
 | t s tk =>
   cases o <;> simp [opdOk] at h
   rename_i t0; subst h
   have f := k.fr s
   by_cases hl : (st.fr.get s).loose = true
   · cases tk with
     | false =>
       have e1 : opd st.fr (.t s false) = ((st.fr.get s).cp,st.fr) := by
         simp only [opd]; cases hv : st.fr.get s <;> first | rfl | (rw [hv] at hl; simp [AV.loose] at hl)
       exact plainly (by rw [e1]) (by rw [e1]; exact Owns.cp)
     | true =>
       have e1 : opd st.fr (.t s true) = (st.fr.get s,st.fr.set s (st.fr.get s).cp) := by
         simp only [opd]; cases hv : st.fr.get s <;> first | rfl | (rw [hv] at hl; simp [AV.loose] at hl)
       rw [e1]
       rw [VF_loose hl] at f
       have l := FrLike.set (tm := tm) (s := s) (v := (st.fr.get s).cp) hl
       refine ⟨g.mv (.fr s) (.arg ps.length),Rel.mv k (fun _ _ => ⟨by simp,by simp,by simp,by simp⟩) (fun t cs _ => by simp) l (fun u => ?_) (fun j v cv hj => ?_),Gh.mv_stay g w _ _,rfl⟩
       · by_cases hu : s = u
         · subst hu; left
           rw [Fr.get_set,if_pos rfl,VF_loose (AV.cp_loose hl)]
           exact ⟨VX.like l ((VX.cp f.1).same (g.mv_same w _ _) trivial (fun t cs ht => by simp [Gh.mv])),Owns.cp⟩
         · right; exact ⟨by simpa using fun e => hu e.symm,by simp,by rw [Fr.get_set,if_neg hu],rfl⟩
       · rw [List.getElem?_append] at hj
         split at hj
         · rename_i hlt; right; exact ⟨by simp,by simp; omega,hj⟩
         · have : j = ps.length := by
             have := List.getElem?_eq_some_iff.1 hj
             obtain ⟨h1,_⟩ := this; simp at h1; omega
           subst this; simp at hj; obtain ⟨rfl,rfl⟩ := hj; left
           rw [VF_loose hl]
           exact ⟨VX.like l (f.1.same (g.mv_same w _ _) trivial (fun t cs ht => by simp [Gh.mv])),f.2.mv⟩
   · have e2 : (opd st.fr (.t s tk)).2 = st.fr := by
       simp only [opd]; cases hv : st.fr.get s <;> first | rfl | (rw [hv] at hl; simp [AV.loose] at hl)
     refine plainly e2 ?_
     simp only [opd]; cases hv : st.fr.get s <;> first | (rw [hv] at hl; simp [AV.loose] at hl; done) | trivial
theorem Stay.refl (g:Gh) (w:World) : Stay g w g w :=
 { ow := fun _ _ _ _ => rfl,cell := fun _ _ _ _ => rfl,frz := fun _ _ _ _ _ => rfl,blk := fun _ _ _ => rfl,row := fun _ _ _ h => h,te := fun _ => trivial,hb := fun _ _ h => h,os := rfl,tape := rfl,output := rfl,size := Nat.le_refl _ }
theorem Stay.trans {g g1 g2:Gh} {w w1 w2:World} (h:Stay g w g1 w1) (k:Stay g1 w1 g2 w2) : Stay g w g2 w2 :=
 { ow := fun b o hl ht => (k.ow b o (Nat.lt_of_lt_of_le hl h.size) (by rw [h.ow b o hl ht]; exact ht)).trans (h.ow b o hl ht)
   cell := fun b o hl ht => (k.cell b o (Nat.lt_of_lt_of_le hl h.size) (by rw [h.ow b o hl ht]; exact ht)).trans (h.cell b o hl ht)
   frz := fun b o hl ht hn => (k.frz b o (Nat.lt_of_lt_of_le hl h.size) (by rw [h.ow b o hl ht]; exact ht) (by rw [h.ow b o hl ht]; exact hn)).trans (h.frz b o hl ht hn)
   blk := fun b hl ht => (k.blk b (Nat.lt_of_lt_of_le hl h.size) (fun o => by rw [h.ow b o hl (ht o).1]; exact ht o)).trans (h.blk b hl ht)
   row := fun b e n hr => k.row _ _ _ (h.row _ _ _ hr),te := fun _ => trivial
   hb := fun i b e => k.hb i b (h.hb i b e),os := k.os.trans h.os,tape := k.tape.trans h.tape,output := k.output.trans h.output,size := Nat.le_trans h.size k.size }
theorem Rel.takes (k:Rel G g st ps tm w) {xs:List Opd} {os:List Operand} (h:opdsOk xs os = true) :
   ∃ g',Rel G g' { st with fr := (opds st.fr xs).2 } (ps ++ (opds st.fr xs).1.zip (os.map (Act.opd tm))) tm w ∧ Stay g w g' w ∧ g'.hb = g.hb ∧ (opds st.fr xs).1.length = os.length := by
 induction xs generalizing g st ps os with
 | nil =>
   cases os <;> simp [opdsOk] at h
   exact ⟨g,by simpa [opds] using k,Stay.refl g w,rfl,rfl⟩
 | cons x xs ih =>
   cases os with
   | nil => simp [opdsOk] at h
   | cons o os =>
     simp only [opdsOk,Bool.and_eq_true] at h
     obtain ⟨g1,k1,s1,hb1⟩ := k.take h.1
     obtain ⟨g2,k2,s2,hb2,hl2⟩ := ih k1 h.2
     refine ⟨g2,?_,s1.trans s2,hb2.trans hb1,?_⟩
     · simp only [opds,List.map_cons,List.zip_cons_cons]
       rw [List.append_assoc] at k2; exact k2
     · simp only [opds,List.length_cons]; exact congrArg (· + 1) hl2
theorem Rel.into {v:AV} {cv:Value} (k:Rel G g st [(v,cv)] tm w) {d:Nat} (hd:(st.fr.get d).loose = true) (hs:d < tm.size) :
   ∃ g',Rel G g' { st with fr := st.fr.set d v } [] (tm.setIfInBounds d cv) w ∧ Stay g w g' w ∧ g'.hb = g.hb := by
 have hg : ∀ t,(tm.setIfInBounds d cv).getD t undef = if d = t then cv else tm.getD t undef := fun t => by
   simp only [Array.getD_eq_getD_getElem?,Array.getElem?_setIfInBounds]
   by_cases e : d = t
   · subst e; simp [hs]
   · simp [e]
 have l : FrLike st.fr tm (st.fr.set d v) (tm.setIfInBounds d cv) :=
   ⟨(FrLike.set (tm := tm) hd).box,fun t xs sz ht => ⟨((FrLike.set (tm := tm) (v := v) hd).pend t xs sz ht).1,by
     rw [hg]; by_cases e : d = t
     · subst e; rw [ht] at hd; simp [AV.loose] at hd
     · rw [if_neg e]⟩⟩
 have nb : ∀ t cs,st.fr.get t = .box cs → Root.fr d ≠ .fr t := fun t cs ht e => by
   cases e; rw [ht] at hd; simp [AV.loose] at hd
 refine ⟨g.mv (.arg 0) (.fr d),Rel.mv k (fun _ _ => ⟨by simp,by simp,by simp,by simp⟩) nb l (fun u => ?_) (fun j v cv hj => by simp at hj),Gh.mv_stay g w _ _,rfl⟩
 by_cases hu : d = u
 · subst hu; left
   rw [Fr.get_set,if_pos rfl,hg,if_pos rfl]
   exact VF.mv (fun v cv h => VX.like l (h.same (g.mv_same w _ _) trivial (fun t cs ht => by simp only [Gh.mv]; rw [if_neg (fun e => nb t cs ht e.symm)]))) (k.ps 0 v cv rfl)
 · right; exact ⟨by simp,by simpa using fun e => hu e.symm,by rw [Fr.get_set,if_neg hu],by rw [hg,if_neg hu]⟩
end
end Go.Proofs.YtkofimhnehkdoaaGreatDoor.Rf
end
section
namespace Go.Proofs.YtkofimhnehkdoaaGreatDoor.Rf
section
variable {g g' : Gh} {w w' : World}
theorem cell?_of_block' {b o:Nat} (h:w'.heap[b]? = w.heap[b]?) : w'.cell? ⟨b,o,none⟩ = w.cell? ⟨b,o,none⟩ := by simp only [World.cell?,h]
theorem frozen?_of_block' {b o:Nat} (h:w'.heap[b]? = w.heap[b]?) : w'.frozen? ⟨b,o,none⟩ = w.frozen? ⟨b,o,none⟩ := by simp only [World.frozen?,h]
theorem Same.grow {T:Tag → Prop} (hh:∀ b,b < w.heap.size → w'.heap[b]? = w.heap[b]?) (ho:∀ b o,b < w.heap.size → T (g.ow b o) → g'.ow b o = g.ow b o) (hb:∀ (i b:Nat),g.hb[i]? = some b → g'.hb[i]? = some b) (te:T .imm → T .elt := by first | exact fun _ => trivial | simp) : Same T g w g' w' :=
 ⟨ho,fun b o hl _ => cell?_of_block' (hh b hl),fun b o hl _ _ => frozen?_of_block' (hh b hl),fun b hl _ => hh b hl,fun b e n ⟨cs,hi,h1,h2⟩ => ⟨cs,hi,by rw [hh b (Array.getElem?_eq_some_iff.1 h1).1]; exact h1,h2⟩,te,hb⟩
theorem heap_alloc_old (w:World) (o:Obj) (b:Nat) (h:b < w.heap.size) : (w.alloc o).heap[b]? = w.heap[b]? := by
 show (w.heap.push o)[b]? = _
 rw [Array.getElem?_push,if_neg (by omega)]
theorem heap_alloc_new (w:World) (o:Obj) : (w.alloc o).heap[w.heap.size]? = some o := by
 show (w.heap.push o)[_]? = _
 rw [Array.getElem?_push,if_pos rfl]
theorem Rel.draws {G:Nat → Option (List AV)} {st:St} {ps:List (AV × Value)} {tm:Array Value} (k:Rel G g st ps tm w) (h:w'.heap = w.heap) : Rel G g st ps tm w' :=
 k.same (Same.grow (fun b _ => by rw [h]) (fun _ _ _ _ => rfl) (fun _ _ h => h)) rfl (fun _ => rfl) (fun b o hb => k.fresh b o (by rw [← h]; exact hb))
theorem V.cells {v:AV} {cv:Value} (hp:v.plain = true) (h:V g w v cv) : VS g w v.spread cv.cells.toList ∧ Ones cv.cells.toList := by
 cases v <;> simp only [AV.plain,Bool.false_eq_true] at hp <;> simp only [AV.spread]
 case agg cs => simp only [V] at h; obtain ⟨vs,rfl,h,h0⟩ := h; exact ⟨by simpa [Value.cells] using h.ck1,by simpa [Value.cells] using h0⟩
 all_goals
   have h' := h
   simp only [V] at h'
   first
     | (subst h'; exact ⟨⟨_,[],rfl,h,rfl⟩,by simp [Ones,Value.cells,Value.oneCell']⟩)
     | (obtain ⟨_,rfl,_⟩ := h'; exact ⟨⟨_,[],rfl,h,rfl⟩,by simp [Ones,Value.cells,Value.oneCell']⟩)
     | (obtain ⟨_,_,_,_,rfl⟩ := h'; exact ⟨⟨_,[],rfl,h,rfl⟩,by simp [Ones,Value.cells,Value.oneCell']⟩)
     | (obtain ⟨_,_,rfl⟩ := h'; exact ⟨⟨_,[],rfl,h,rfl⟩,by simp [Ones,Value.cells,Value.oneCell']⟩)
     | (obtain ⟨_,_,rfl,_⟩ := h'; exact ⟨⟨_,[],rfl,h,rfl⟩,by simp [Ones,Value.cells,Value.oneCell']⟩)
theorem spread_own {r:Root} {v:AV} {cv:Value} (hp:v.plain = true) (hv:V g w v cv) (h:Owns g w r v cv) : OwnsL g w r v.spread cv.cells.toList := by
 cases v <;> simp only [AV.spread] <;> try exact OwnsL.ck1
 case list xs o =>
   simp only [V] at hv; obtain ⟨A,c,rfl,_⟩ := hv
   intro i ys sz e cu h1 h2
   cases i with
   | zero => simp [Value.cells] at h1 h2; obtain ⟨rfl,rfl⟩ := h1; subst h2; exact h
   | succ i => simp at h1
 all_goals
   refine OwnsL.none fun i xs sz e h => ?_
   cases i with
   | zero => simp at h
   | succ i => simp at h
variable {G:Nat → Option (List AV)} {st:St} {ps:List (AV × Value)} {tm:Array Value}
def Gh.newbox (g:Gh) (n:Nat) (r:Root) : Gh := { ow := fun b o => if b = n then .box r else g.ow b o,hb := g.hb,bx := fun x => if x = r then n else g.bx x }
theorem Rel.newbox (k:Rel G g st ps tm w) {cs:List AV} {vs:List Value} (hv:VS g w cs vs ∧ Ones vs) (ho:OwnsL g w (.arg 0) cs vs) (ty:TypeId) :
   ∃ g',Rel G g' st [(.box cs,.pointer (some ⟨w.heap.size,0,none⟩))] tm (w.alloc (.cells vs.toArray ty)) ∧ Stay g w g' (w.alloc (.cells vs.toArray ty)) ∧ g'.hb = g.hb := by
 have sm : Same (fun _ => True) g w (g.newbox w.heap.size (.arg 0)) (w.alloc (.cells vs.toArray ty)) :=
   Same.grow (fun b h => heap_alloc_old w _ b h) (fun b o h _ => by simp only [Gh.newbox]; rw [if_neg (by omega)]) (fun _ _ h => h)
 refine ⟨g.newbox w.heap.size (.arg 0),⟨fun s => ?_,fun j v cv hj => ?_,?_,fun b o hb => ?_,?_⟩,?_,rfl⟩
 · exact (k.fr s).same sm trivial (fun t _ _ => by simp [Gh.newbox]) (fun _ => trivial) trivial (by simp [Gh.newbox])
 · cases j with
   | succ j => simp at hj
   | zero =>
     simp at hj; obtain ⟨rfl,rfl⟩ := hj
     simp only [VF]
     refine ⟨vs,ty,by simp [Gh.newbox],?_,⟨VS.mono (sm.ext trivial) _ _ hv.1,hv.2⟩,fun o => by simp [Gh.newbox],ho.same sm trivial (fun _ => trivial)⟩
     have : (g.newbox w.heap.size (.arg 0)).bx (.arg 0) = w.heap.size := by simp [Gh.newbox]
     rw [this]; exact heap_alloc_new w _
 · exact k.hp.same sm trivial (fun _ => trivial) (fun _ _ => trivial) (fun _ _ _ => trivial) rfl
 · simp only [Gh.newbox]; simp at hb; rw [if_neg (by omega)]; exact k.fresh b o (by omega)
 · exact k.gl.same sm trivial trivial
 · exact { ow := fun b o hl _ => sm.ow b o hl trivial,cell := fun b o hl _ => sm.cell b o hl trivial,frz := fun b o hl _ hn => sm.frz b o hl trivial hn,blk := fun b hl h => sm.blk b hl (fun o => ⟨trivial,(h o).2⟩),row := sm.row,te := fun _ => trivial,hb := sm.hb,os := rfl,tape := rfl,output := rfl,size := by simp }
def Gh.newobj (g:Gh) (n:Nat) (id:Nat) : Gh := { ow := fun b o => if b = n then .obj id else (g.ow b o).mv (.arg 0) (.ob id),hb := g.hb ++ [n],bx := g.bx }
theorem Rel.newobj (k:Rel G g st ps tm w) {o:HObj} {obj:Obj} (hr:∀ g1 w1,Same (Tag.offRoots (.arg 0) (.ob st.hp.length)) g w g1 w1 → (∀ i xs sz cv,Tail g w (.arg 0) i xs sz cv → Tail g1 w1 (.ob st.hp.length) i xs sz cv) →
     w1.heap[w.heap.size]? = some obj → ObjRel g1 w1 st.hp.length w.heap.size o) :
   ∃ g',Rel G g' { st with hp := st.hp ++ [o] } [] tm (w.alloc obj) ∧ Stay g w g' (w.alloc obj) ∧ g'.hb = g.hb ++ [w.heap.size] := by
 have sm : Same (Tag.offRoots (.arg 0) (.ob st.hp.length)) g w (g.newobj w.heap.size st.hp.length) (w.alloc obj) :=
   Same.grow (fun b h => heap_alloc_old w _ b h) (fun b o h ht => by simp only [Gh.newobj]; rw [if_neg (by omega)]; exact Tag.mv_off ht) (fun i b h => by simp only [Gh.newobj]; rw [List.getElem?_append,if_pos (List.getElem?_eq_some_iff.1 h).1]; exact h)
 have ht : ∀ i xs sz cv,Tail g w (.arg 0) i xs sz cv → Tail (g.newobj w.heap.size st.hp.length) (w.alloc obj) (.ob st.hp.length) i xs sz cv := fun i xs sz cv h a n c e => by
   obtain ⟨h1,h2⟩ := h a n c e
   refine ⟨VE.mono (sm.ext trivial) _ _ _ _ h1,fun o ho ho' => ?_⟩
   obtain ⟨p,⟨u,q⟩,s⟩ := h2 o ho ho'
   have hl := World.block_lt_of_cell? w ⟨a.block,o,none⟩ q
   refine ⟨?_,⟨u,by rw [cell?_of_block' (heap_alloc_old w _ _ hl)]; exact q⟩,by rw [frozen?_of_block' (heap_alloc_old w _ _ hl)]; exact s⟩
   simp only [Gh.newobj]; rw [if_neg (by simp at hl; omega),p]; simp [Tag.mv]
 have hlen := k.hp.len
 refine ⟨g.newobj w.heap.size st.hp.length,⟨fun s => ?_,fun j v cv hj => by simp at hj,⟨?_,fun id x hx hlive => ?_⟩,fun b o hb => ?_,?_⟩,?_,rfl⟩
 · exact (k.fr s).same sm trivial (fun t _ _ => rfl) (fun i => ⟨by simp,by simp⟩) ⟨by simp,by simp⟩ rfl
 · simp [Gh.newobj,hlen]
 · rw [List.getElem?_append] at hx
   split at hx
   · rename_i hlt
     obtain ⟨b,k1,k2,k3⟩ := k.hp.obj id x hx hlive
     have hbl : b < w.heap.size := by
       exact k3.lt
     have hne : id ≠ st.hp.length := by omega
     refine ⟨b,sm.hb _ _ k1,fun i => ?_,k3.same sm trivial k2 trivial (fun i => ⟨by simp,by simpa using hne⟩) (fun i j => ⟨by simp,by simp⟩)⟩
     rw [sm.ow b i hbl (by rw [k2]; trivial)]; exact k2 i
   · have : id = st.hp.length := by
       obtain ⟨h1,_⟩ := List.getElem?_eq_some_iff.1 hx; simp at h1; omega
     subst this; simp at hx; subst hx
     refine ⟨w.heap.size,?_,fun i => by simp [Gh.newobj],hr _ _ sm ht (heap_alloc_new w _)⟩
     simp only [Gh.newobj]; rw [List.getElem?_append,if_neg (by omega)]; simp [hlen]
 · simp at hb
   simp only [Gh.newobj]; rw [if_neg (by omega),k.fresh b o (by omega)]; rfl
 · exact k.gl.same sm trivial trivial
 · exact { ow := fun b o hl ht => sm.ow b o hl (by revert ht; cases g.ow b o <;> simp [Tag.kept,Tag.offRoots]),cell := fun b o hl _ => cell?_of_block' (heap_alloc_old w _ b hl),frz := fun b o hl _ _ => frozen?_of_block' (heap_alloc_old w _ b hl),blk := fun b hl _ => heap_alloc_old w _ b hl,row := sm.row,te := fun _ => trivial,hb := sm.hb,os := rfl,tape := rfl,output := rfl,size := by simp }
end
end Go.Proofs.YtkofimhnehkdoaaGreatDoor.Rf
end
section
namespace Go.Proofs.YtkofimhnehkdoaaGreatDoor.Rf
def Fits (P:Program) (G:Nat → Option (List AV)) (g:Gh) (st:St) (r:OpR) (o:Oper) (a:Act) (w:World) : Prop :=
 ∀ next Q,(∀ g' w' v st' cv,r = .val v st' → Rel G g' st' [(v,cv)] a.tmps w' → Stay g w g' w' → next (a.put o.dst cv) w') →
   (∀ g' w' v st' cv,r = .pan v st' → V g' w' v cv → v.plain = true → Rel G g' st' [] a.tmps w' → Stay g w g' w' → Q (.panic [{ v := cv,recovered := false }]) a w') → o.wp P a w next Q
section
variable {P:Program} {G:Nat → Option (List AV)} {g:Gh} {st:St} {a:Act} {w:World} {o:Oper}
theorem fits_value {v:AV} {st' : St} {cv:Value} {w' : World} {g' : Gh} (hrun:(execOp a.eval o).run P w = .ok (.value cv) w') (hr:Rel G g' st' [(v,cv)] a.tmps w') (hs:Stay g w g' w') : Fits P G g st (.val v st') o a w := by
 intro next Q h _
 unfold Oper.wp; rw [hrun]
 exact h g' w' v st' cv rfl hr hs
theorem fits_skip {v:AV} {st' : St} {w' : World} {g' : Gh} (hrun:(execOp a.eval o).run P w = .ok .skip w') (hr:Rel G g' st' [(v,undef)] a.tmps w') (hs:Stay g w g' w') : Fits P G g st (.val v st') o a w := by
 intro next Q h _
 unfold Oper.wp; rw [hrun]
 exact h g' w' v st' undef rfl hr hs
theorem Rel.push0 {tm:Array Value} (k:Rel G g st [] tm w) {v:AV} {cv:Value} (h:VF g w st.fr tm (.arg 0) v cv) : Rel G g st [(v,cv)] tm w := by
 have := k.push (ps := []) h; simpa using this
theorem fits_pure (k:Rel G g st [] a.tmps w) {v:AV} {cv:Value} (hrun:(execOp a.eval o).run P w = .ok (.value cv) w) (hv:VF g w st.fr a.tmps (.arg 0) v cv) : Fits P G g st (.val v st) o a w :=
 fits_value hrun (k.push0 hv) (Stay.refl g w)
theorem VF_scalar {fr:Fr} {tm:Array Value} {r:Root} {v:AV} {cv:Value} (h1:v.loose = true) (h2:VX g w fr tm v cv) (h3:∀ xs sz e,v ≠ .list xs (.own sz e)) (h4:∀ vs,v ≠ .tup vs) : VF g w fr tm r v cv := by
 rw [VF_loose h1]; exact ⟨h2,Owns.not_own h3 h4⟩
theorem VF_cp {fr:Fr} {tm:Array Value} {r:Root} {v:AV} {cv:Value} (h1:v.loose = true) (h2:VX g w fr tm v cv) : VF g w fr tm r v.cp cv := by
 rw [VF_loose (AV.cp_loose h1)]; exact ⟨h2.cp,Owns.cp⟩
theorem fits_mv (k:Rel G g st [] a.tmps w) {x:Opd} {y:Operand} (hx:opdOk x y = true) (ho:o.op = .move y ∨ o.op = .assign y) :
   Fits P G g st (.val (opd st.fr x).1 { st with fr := (opd st.fr x).2 }) o a w := by
 obtain ⟨g',k',s,_⟩ := k.take hx
 refine fits_value (g' := g') (w' := w) (cv := Act.opd a.tmps y) ?_ (by simpa using k') s
 rcases ho with ho | ho <;> simp [execOp,ho,Act.eval_eq]
theorem fits_pick (k:Rel G g st [] a.tmps w) {x y z:Opd} {x' y' z' : Operand} (hx:opdOk x x' = true) (hy:opdOk y y' = true) (hz:opdOk z z' = true) (ho:o.op = .pick x' y' z') {t:Bool} (ht:(opd st.fr x).1 = .bool t) :
   Fits P G g st (.val (if t then (opd st.fr y).1.cp else (opd st.fr z).1.cp) st) o a w := by
 have h1 := k.read hx; rw [ht] at h1; simp only [VX,V] at h1
 refine fits_pure k (cv := if t then Act.opd a.tmps y' else Act.opd a.tmps z') ?_ ?_
 · simp [execOp,ho,Act.eval_eq,h1,asBool]
 · cases t
   · exact VF_cp (opd_loose st.fr hz) (k.read hz)
   · exact VF_cp (opd_loose st.fr hy) (k.read hy)
def zeroOk (P:Program) (t:TypeId) (cs:List AV) : Bool :=
 match P.info? t with
 | some i => match i.zero with | some z => sames cs z.cells.toList && z.cells.toList.all Value.oneCell' | none => false
 | none => false
theorem zeroOk_run {t:TypeId} {cs:List AV} (h:zeroOk P t cs = true) : ∃ z,(∀ w,(zeroValue t).run P w = .ok z w) ∧ sames cs z.cells.toList = true ∧ Ones z.cells.toList := by
 unfold zeroOk at h
 cases hi : P.info? t with
 | none => simp [hi] at h
 | some i =>
   simp only [hi] at h
   cases hz : i.zero with
   | none => simp [hz] at h
   | some z => exact ⟨z,fun w => by simp [zeroValue,typeInfo,hi,hz],by simp only [hz,Bool.and_eq_true,List.all_eq_true] at h; exact h⟩
theorem sames_plain : ∀ {cs:List AV} {vs:List Value},sames cs vs = true → OwnsL g w (.arg 0) cs vs := fun h => OwnsL.none (sames_not_own h)
theorem fits_alloc (k:Rel G g st [] a.tmps w) {t:TypeId} {cs:List AV} (hz:zeroOk P t cs = true) (ho:o.op = .alloc t) {ty:Nat} (hty:ty ≠ 0 → t = ty) (heap:Bool) :
   Fits P G g st (if heap then .val (.ptr st.hp.length 0) { st with hp := st.hp ++ [.cells ty cs] } else .val (.box cs) st) o a w := by
 obtain ⟨z,hz1,hz2,hz3⟩ := zeroOk_run hz
 have hrun : (execOp a.eval o).run P w = .ok (.value (.pointer (some ⟨w.heap.size,0,none⟩))) (w.alloc (.cells z.cells t)) := by
   simp [execOp,ho,Instr.alloc,hz1,newVar,newRow]
 have e : z.cells = z.cells.toList.toArray := by simp
 cases heap with
 | false =>
   obtain ⟨g',k',s,_⟩ := Rel.newbox k ⟨VS.of_same cs _ hz2,hz3⟩ (sames_plain hz2) t
   rw [← e] at k' s
   exact fits_value hrun k' s
 | true =>
   obtain ⟨g',k',s,hb⟩ := Rel.newobj k (o := .cells ty cs) (obj := .cells z.cells t) (fun g1 w1 _ _ h1 => by
     simp only [ObjRel]; exact ⟨z.cells.toList,[],t,by rw [List.append_nil,← e]; exact h1,⟨VS.of_same cs _ hz2,hz3⟩,OwnsL.none (sames_not_own hz2),fun h => ⟨hty h,rfl⟩⟩)
   refine fits_value hrun (k'.push0 (v := .ptr st.hp.length 0) (cv := .pointer (some ⟨w.heap.size,0,none⟩)) ?_) s
   exact VF_scalar rfl (VX_of_V (by simp only [V]; exact ⟨w.heap.size,by rw [hb,List.getElem?_append,if_neg (by rw [k.hp.len]; omega),k.hp.len]; simp,rfl⟩)) (by simp) (by simp)
theorem fits_box (k:Rel G g st [] a.tmps w) {t:TypeId} {x:Opd} {y:Operand} (hx:opdOk x y = true) (ho:o.op = .box t y) (hp:(opd st.fr x).1.plain = true) (heap:Bool) :
   Fits P G g st (if heap then .val (.ptr st.hp.length 0) { fr := (opd st.fr x).2,hp := st.hp ++ [.cells 0 (opd st.fr x).1.spread] } else .val (.box (opd st.fr x).1.spread) { st with fr := (opd st.fr x).2 }) o a w := by
 obtain ⟨g1,k1,s1,hb1⟩ := k.take hx
 have hrun : (execOp a.eval o).run P w = .ok (.value (.pointer (some ⟨w.heap.size,0,none⟩))) (w.alloc (.cells (Act.opd a.tmps y).cells t)) := by
   simp [execOp,ho,Instr.box,newVar,newRow,Act.eval_eq]
 have f := k1.ps 0 _ _ rfl
 have hl := AV.loose_of_plain hp
 rw [VF_loose hl,VX_plain hp] at f
 have e : (Act.opd a.tmps y).cells = (Act.opd a.tmps y).cells.toList.toArray := by simp
 cases heap with
 | false =>
   obtain ⟨g',k',s,_⟩ := Rel.newbox k1 (V.cells hp f.1) (spread_own hp f.1 f.2) t
   rw [← e] at k' s
   exact fits_value hrun k' (s1.trans s)
 | true =>
   obtain ⟨g',k',s,hb⟩ := Rel.newobj k1 (o := .cells 0 (opd st.fr x).1.spread) (obj := .cells (Act.opd a.tmps y).cells t) (fun g2 w2 sm mv h1 => by
     simp only [ObjRel]
     exact ⟨(Act.opd a.tmps y).cells.toList,[],t,by rw [List.append_nil,← e]; exact h1,⟨VS.mono (sm.ext trivial) _ _ (V.cells hp f.1).1,(V.cells hp f.1).2⟩,fun i xs sz e cv h2 h3 => mv _ _ _ _ (spread_own hp f.1 f.2 i xs sz e cv h2 h3),fun h => absurd rfl h⟩)
   refine fits_value hrun (k'.push0 (v := .ptr st.hp.length 0) (cv := .pointer (some ⟨w.heap.size,0,none⟩)) ?_) (s1.trans s)
   exact VF_scalar rfl (VX_of_V (by simp only [V]; exact ⟨w.heap.size,by rw [hb,List.getElem?_append,if_neg (by rw [k1.hp.len]; simp),k1.hp.len]; simp,rfl⟩)) (by simp) (by simp)
theorem fits_nilchk (k:Rel G g st [] a.tmps w) {x:Opd} {y:Operand} (hx:opdOk x y = true) (ho:o.op = .nilCheck y) {v:AV} (hv:(opd st.fr x).1 = v)
   (hk:(∃ i n,v = .ptr i n) ∨ (∃ i n,v = .lref i n) ∨ ∃ i n,v = .glob i n) : Fits P G g st (.val v st) o a w := by
 have h1 := k.read hx; rw [hv] at h1
 refine fits_pure k (cv := Act.opd a.tmps y) ?_ ?_
 · rcases hk with ⟨i,n,rfl⟩ | ⟨i,n,rfl⟩ | ⟨i,n,rfl⟩ <;> simp only [VX,V] at h1
   · obtain ⟨b,_,h1⟩ := h1; simp [execOp,ho,Act.eval_eq,h1]
   · obtain ⟨h1,_⟩ := h1; simp [execOp,ho,Act.eval_eq,h1]
   · simp [execOp,ho,Act.eval_eq,h1]
 · rcases hk with ⟨i,n,rfl⟩ | ⟨i,n,rfl⟩ | ⟨i,n,rfl⟩ <;> exact VF_scalar rfl h1 (by simp) (by simp)
end
end Go.Proofs.YtkofimhnehkdoaaGreatDoor.Rf
end
