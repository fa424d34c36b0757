/- A part of the proof: see the last text. -/
import Derived.Test.YtkofimhnehkdoaaGreatDoorRcG5
import Derived.Laws.Slices
import Derived.Laws.Strings2
set_option linter.unusedVariables false
set_option linter.unusedSimpArgs false
section
namespace Go.Proofs.YtkofimhnehkdoaaGreatDoor.Rf
section
variable {P:Program} {G:Nat → Option (List AV)} {g g' : Gh} {st:St} {a:Act} {w w' : World} {o:Oper} {tm:Array Value} {ps:List (AV × Value)}
theorem fold_set (l:List Value) : ∀ (j off:Nat) (cells:Array Value),off + j + l.length ≤ cells.size →
   ((l.zipIdx j).foldl (fun (cs:Array Value) (x:Value × Nat) => cs.setIfInBounds (off + x.2) x.1) cells).toList = cells.toList.take (off + j) ++ l ++ cells.toList.drop (off + j + l.length) := by
 induction l with
 | nil => intro j off cells h; simp
 | cons v r ih =>
   intro j off cells h
   simp only [List.zipIdx_cons,List.foldl_cons]
   have h1 : off + (j + 1) + r.length ≤ (cells.setIfInBounds (off + j) v).size := by simp at h ⊢; omega
   rw [ih (j + 1) off _ h1]
   have hl : off + j < cells.toList.length := by simp at h ⊢; omega
   simp only [Array.toList_setIfInBounds]
   have hl2 : (cells.toList.take (off + j)).length = off + j := by simp; simp at hl; omega
   have es : cells.toList.set (off + j) v = cells.toList.take (off + j) ++ v :: cells.toList.drop (off + j + 1) := by rw [List.set_eq_take_append_cons_drop,if_pos hl]
   have e1 : (cells.toList.set (off + j) v).take (off + (j + 1)) = cells.toList.take (off + j) ++ [v] := by
     rw [es,show off + (j + 1) = (cells.toList.take (off + j)).length + 1 by omega,List.take_length_add_append]; simp
   have e2 : (cells.toList.set (off + j) v).drop (off + (j + 1) + r.length) = cells.toList.drop (off + j + (v :: r).length) := by
     rw [es,show off + (j + 1) + r.length = (cells.toList.take (off + j)).length + (r.length + 1) by omega,List.drop_length_add_append]
     simp only [List.drop_succ_cons,List.drop_drop,List.length_cons]; congr 1; omega
   rw [e1,e2]; simp
def PlacesOk (place:Nat → Option (Nat × Nat)) : List (Nat × Nat × Opd) → List (Nat × Operand) → Prop
 | [],[] => True
 | (off,n,_) :: ps,(i,_) :: qs => place i = some (off,n) ∧ PlacesOk place ps qs
 | _,_ => False
theorem run_fill {place:Nat → Option (Nat × Nat)} : ∀ {ps:List (Nat × Nat × Opd)} {qs:List (Nat × Operand)} {vs:List AV} {us:List Value} {cs:List AV} {cells:Array Value} {r:List AV},PlacesOk place ps qs → vs.length = ps.length → us.length = qs.length → (∀ (i:Nat) v u,vs[i]? = some v → us[i]? = some u → v.plain = true ∧ V g w v u) →
   VS g w cs cells.toList → Ones cells.toList → buildCells cs ((ps.zip vs).map fun (p,v) => (p.1,p.2.1,v)) = some r → ∃ cells',Instr.fill place cells ((qs.zip us).map fun (p,u) => (p.1,u)) = some cells' ∧ VS g w r cells'.toList ∧ Ones cells'.toList
 | [],[],vs,us,cs,cells,r,_,hv,hu,_,h1,h2,h => by
   simp [buildCells] at h; subst h; exact ⟨cells,by simp [Instr.fill],h1,h2⟩
 | (off,n,x) :: ps,(i,y) :: qs,v :: vs,u :: us,cs,cells,r,hp,hv,hu,hall,h1,h2,h => by
   obtain ⟨hp1,hp2⟩ := hp
   simp only [List.zip_cons_cons,List.map_cons,buildCells] at h
   split at h
   · rename_i hc
     obtain ⟨c1,c2⟩ := hc
     obtain ⟨p1,p2⟩ := hall 0 v u rfl rfl
     have hcl := V.cells p1 p2
     have hn : u.cells.size = n := by rw [← c1,← hcl.1.len]; simp
     have hlen : cells.size = cs.length := by simpa using h1.len
     have hf := fold_set u.cells.toList 0 off cells (by simp; omega)
     simp only [Nat.add_zero] at hf
     obtain ⟨cells',f1,f2,f3⟩ := run_fill (cells := u.cells.toList.zipIdx.foldl (fun (cs:Array Value) (x:Value × Nat) => cs.setIfInBounds (off + x.2) x.1) cells) hp2 (by simpa using hv) (by simpa using hu)
       (fun j v' u' a b => hall (j + 1) v' u' (by simpa using a) (by simpa using b)) (by rw [hf]; exact VS.put h1 hcl.1 off) (by rw [hf]; exact Ones.put h2 hcl.2 off _) h
     refine ⟨cells',?_,f2,f3⟩
     simp only [List.zip_cons_cons,List.map_cons,Instr.fill,hp1]
     rw [if_neg (by simp [hn]; omega),← Array.foldl_toList,Array.toList_zipIdx]
     exact f1
   · cases h
 | [],_ :: _,_,_,_,_,_,hp,_,_,_,_,_,_ => hp.elim
 | _ :: _,[],_,_,_,_,_,hp,_,_,_,_,_,_ => hp.elim
 | _ :: _,_ :: _,[],_,_,_,_,_,hv,_,_,_,_,_ => by simp at hv
 | _ :: _,_ :: _,_ :: _,[],_,_,_,_,_,hu,_,_,_,_ => by simp at hu
def placeOf (P:Program) (t:TypeId) : Option (Nat → Option (Nat × Nat)) :=
 match P.underlying t with
 | some (.struct fs) => some fun i => match fs[i]? with | some f => (P.info? f.type).map fun x => (f.offset,x.size) | none => none
 | some (.array _ e) => (P.info? e).map fun x => fun i => some (i * x.size,x.size)
 | _ => none
def partsOk (place:Nat → Option (Nat × Nat)) : List (Nat × Nat × Opd) → List (Nat × Operand) → Bool
 | [],[] => true
 | (off,n,x) :: ps,(i,y) :: qs => (match place i with | some (o',n') => decide (o' = off) && decide (n' = n) | none => false) && opdOk x y && partsOk place ps qs
 | _,_ => false
theorem partsOk_spec {place:Nat → Option (Nat × Nat)} : ∀ {ps:List (Nat × Nat × Opd)} {qs:List (Nat × Operand)},partsOk place ps qs = true → PlacesOk place ps qs ∧ opdsOk (ps.map (·.2.2)) (qs.map (·.2)) = true ∧ ps.length = qs.length
 | [],[],_ => ⟨trivial,rfl,rfl⟩
 | (off,n,x) :: ps,(i,y) :: qs,h => by
   simp only [partsOk,Bool.and_eq_true] at h
   obtain ⟨⟨h1,h2⟩,h3⟩ := h
   obtain ⟨i1,i2,i3⟩ := partsOk_spec h3
   cases hp : place i with
   | none => simp [hp] at h1
   | some p => simp [hp] at h1; obtain ⟨rfl,rfl⟩ := h1; exact ⟨⟨hp,i1⟩,by simp [opdsOk,h2,i2],by simp [i3]⟩
 | [],_ :: _,h => by simp [partsOk] at h
 | _ :: _,[],h => by simp [partsOk] at h
def sizesOk (P:Program) (t:TypeId) : Bool :=
 match P.underlying t with
 | some (.struct fs) => fs.toList.all fun f => (P.info? f.type).isSome
 | _ => true
theorem run_places (P:Program) (w:World) : ∀ (l:List Field),(∀ f ∈ l,(P.info? f.type).isSome = true) → (l.mapM fun f => (do pure (f.offset,← sizeOf f.type) : Sem (Nat × Nat))).run P w = .ok (l.map fun f => (f.offset,((P.info? f.type).map (·.size)).getD 0)) w
 | [],_ => by simp
 | f :: l,h => by
   obtain ⟨i,hi⟩ := Option.isSome_iff_exists.1 (h f (by simp))
   have hs1 : (sizeOf f.type).run P w = .ok i.size w := by simp [sizeOf,typeInfo,hi]
   simp only [List.mapM_cons,Sem.run_bind,hs1,Result.andThen_ok,Sem.run_pure,run_places P w l (fun x hx => h x (by simp [hx])),List.map_cons,hi,Option.map_some,Option.getD_some]
theorem zip_parts (f:Operand → Value) : ∀ qs : List (Nat × Operand),(qs.map fun (x:Nat × Operand) => (x.1,f x.2)) = (qs.zip ((qs.map (·.2)).map f)).map fun (p,u) => (p.1,u)
 | [] => rfl
 | x :: r => by simp only [List.map_cons,List.zip_cons_cons,zip_parts f r]
theorem fits_build (k:Rel G g st [] a.tmps w) {t:TypeId} {zs:List AV} {ps:List (Nat × Nat × Opd)} {qs:List (Nat × Operand)} (hz:zeroOk P t zs = true) {place:Nat → Option (Nat × Nat)} (hpl:placeOf P t = some place) (hs:sizesOk P t = true) (hq:partsOk place ps qs = true)
   (ho:o.op = .build t qs.toArray) (hp:plains (opds st.fr (ps.map (·.2.2))).1 = true) {r:List AV} (h:buildCells zs ((ps.zip (opds st.fr (ps.map (·.2.2))).1).map fun (p,v) => (p.1,p.2.1,v)) = some r) : Fits P G g st (.val (.agg r) { st with fr := (opds st.fr (ps.map (·.2.2))).2 }) o a w := by
 obtain ⟨q1,q2,q3⟩ := partsOk_spec hq
 obtain ⟨z,z1,z2,z3⟩ := zeroOk_run hz
 obtain ⟨g1,k1,s1,hb1,hl⟩ := k.takes q2
 simp only [List.nil_append] at k1
 have hv := VS.of_ps k1 (by simpa using hl) hp
 obtain ⟨cells',f1,f2,f3⟩ := run_fill (us := (qs.map (·.2)).map (Act.opd a.tmps)) (cells := z.cells) q1 (by simp [hl,q3]) (by simp) (fun i v u e1 e2 => ⟨by simp only [plains,List.all_eq_true] at hp; exact hp v (List.mem_of_getElem? e1),hv.get' e1 e2⟩) (VS.of_same (g := g1) (w := w) _ _ z2) z3 h
 refine fits_value (g' := g1) (w' := w) (cv := .agg cells') ?_ (k1.less.push0 (VF_scalar rfl (by simp only [VX,V]; exact ⟨cells'.toList,by simp,f2,f3⟩) (by simp) (by simp))) s1
 have hparts : (qs.toArray.map fun (i,x) => (i,a.eval x)).toList = (qs.zip ((qs.map (·.2)).map (Act.opd a.tmps))).map fun (p,u) => (p.1,u) := by
   rw [Array.toList_map,show a.eval = Act.opd a.tmps from funext (Act.eval_eq a)]
   exact zip_parts _ qs
 unfold placeOf at hpl
 cases hu : P.underlying t with
 | none => simp [hu] at hpl
 | some d =>
   cases d <;> simp [hu] at hpl
   case array n e =>
     obtain ⟨i,hi,rfl⟩ := hpl
     simp only [execOp,ho,Instr.build,Sem.run_bind,z1,run_underlying hu,Result.andThen_ok,sizeOf,typeInfo,run_program,hi,Sem.run_pure,hparts,f1]
   case struct fs =>
     subst hpl
     have hfs : ∀ f ∈ fs.toList,(P.info? f.type).isSome = true := by
       unfold sizesOk at hs; simp only [hu,List.all_eq_true] at hs; exact hs
     have hm : (fs.mapM fun f => (do pure (f.offset,← sizeOf f.type) : Sem (Nat × Nat))).run P w = .ok (fs.toList.map fun f => (f.offset,((P.info? f.type).map (·.size)).getD 0)).toArray w := by
       rw [Array.mapM_eq_mapM_toList]
       simp only [Sem.run_map,run_places P w fs.toList hfs,Result.andThen_ok]
     have hpl2 : (fun i:Nat => ((fs.toList.map fun (f:Field) => (f.offset,((P.info? f.type).map (·.size)).getD 0)).toArray)[i]?) = fun (i:Nat) => match fs[i]? with | some f => (P.info? f.type).map fun x => (f.offset,x.size) | none => none := by
       funext i
       simp only [List.getElem?_toArray,List.getElem?_map,Array.getElem?_toList]
       cases hf : fs[i]? with
       | none => rfl
       | some f =>
         obtain ⟨x,hx⟩ := Option.isSome_iff_exists.1 (hfs f (by simpa using Array.mem_of_getElem? hf))
         simp [hx]
     simp only [execOp,ho,Instr.build,Sem.run_bind,z1,run_underlying hu,Result.andThen_ok,hm,hparts]
     rw [hpl2,f1]
     simp
end
end Go.Proofs.YtkofimhnehkdoaaGreatDoor.Rf
end
section
namespace Go.Proofs.YtkofimhnehkdoaaGreatDoor.Rf
section
variable {P:Program} {G:Nat → Option (List AV)} {g g' : Gh} {st:St} {a:Act} {w w' : World} {o:Oper} {tm:Array Value} {ps:List (AV × Value)}
def RowR (g:Gh) (w:World) (sz:Nat) : List AV → List Value → Prop
 | [],us => us = []
 | x :: xs,us => ∃ a r,us = a ++ r ∧ x.cells.length = sz ∧ VS g w x.cells a ∧ RowR g w sz xs r
theorem RowR.len {sz:Nat} : ∀ {xs:List AV} {us:List Value},RowR g w sz xs us → us.length = xs.length * sz
 | [],us,h => by simp only [RowR] at h; simp [h]
 | x :: xs,us,h => by
   obtain ⟨a,r,rfl,h1,h2,h3⟩ := h
   simp [h3.len,h2.len,h1,Nat.succ_mul,Nat.add_comm]
theorem RowR.set {sz:Nat} {v:AV} {vs:List Value} (hl:v.cells.length = sz) (hv:VS g w v.cells vs) : ∀ {xs:List AV} {us:List Value} {i:Nat},RowR g w sz xs us → i < xs.length → RowR g w sz (xs.set i v) (us.take (i * sz) ++ vs ++ us.drop (i * sz + vs.length))
 | [],_,_,_,h => by simp at h
 | x :: xs,us,0,h,_ => by
   obtain ⟨a,r,rfl,h1,h2,h3⟩ := h
   refine ⟨vs,r,?_,hl,hv,h3⟩
   have : a.length = vs.length := by rw [h2.len,hv.len,h1,hl]
   simp [← this]
 | x :: xs,us,i + 1,h,hi => by
   obtain ⟨a,r,rfl,h1,h2,h3⟩ := h
   have ih := RowR.set hl hv (i := i) h3 (by simpa using hi)
   have ha : a.length = sz := by rw [h2.len,h1]
   refine ⟨a,_,?_,h1,h2,ih⟩
   rw [show (i + 1) * sz = a.length + i * sz by rw [Nat.succ_mul,ha]; omega,List.take_length_add_append,Nat.add_assoc,List.drop_length_add_append]
   simp
theorem RowR.lay {sz:Nat} {xs:List AV} {us:List Value} (h:RowR g w sz xs us) (h1:Ones us) : Lay g w sz xs us := by
 refine ⟨h.len,h1,fun g' w' b' q' e hc => ?_⟩
 induction xs generalizing us q' with
 | nil => simp [VE]
 | cons x xs ih =>
   obtain ⟨a,r,rfl,h2,h3,h4⟩ := h
   have ha : a.length = sz := by rw [h3.len,h2]
   refine VE.cons_mk h2 ?_ (ih h4 (fun u hu => h1 u (by simp [hu])) _ fun j v hj => ?_)
   · have : ∀ (cs:List AV) (a:List Value) (q:Nat),VS g w cs a → Ones a → (∀ (j:Nat) v,a[j]? = some v → (g'.ow b' (q + j)).ro ∧ w'.cell? ⟨b',q + j,none⟩ = some v) → VC g' w' cs b' q := by
       intro cs
       induction cs with
       | nil => intros; simp [VC]
       | cons c cs ih2 =>
         intro a q hv ho hc2
         simp only [VS] at hv; obtain ⟨u,r2,rfl,k1,k2⟩ := hv
         have h0 := hc2 0 u rfl
         rw [Nat.add_zero] at h0
         simp only [VC]
         exact ⟨⟨h0.1,u,h0.2,ho u (by simp),V.mono e _ _ k1⟩,ih2 r2 _ k2 (fun x hx => ho x (by simp [hx])) fun j v hj => by
           have := hc2 (j + 1) v (by simpa using hj)
           rwa [show q + (j + 1) = q + 1 + j by omega] at this⟩
     exact this _ a q' h3 (fun u hu => h1 u (by simp [hu])) fun j v hj => hc j v (by rw [List.getElem?_append,if_pos (List.getElem?_eq_some_iff.1 hj).1]; exact hj)
   · have := hc (sz + j) v (by rw [List.getElem?_append,if_neg (by omega),show sz + j - a.length = j by omega]; exact hj)
     rwa [← Nat.add_assoc] at this
theorem range_cells (zc:Array Value) (h:0 < zc.size) : ∀ n,(List.range (n * zc.size)).map (fun i => zc[i % zc.size]!) = (List.replicate n zc.toList).flatten
 | 0 => by simp
 | n + 1 => by
   rw [show (n + 1) * zc.size = zc.size + n * zc.size by rw [Nat.succ_mul]; omega,List.range_add,List.map_append,List.replicate_succ,List.flatten_cons,← range_cells zc h n]
   congr 1
   · apply List.ext_getElem
     · simp
     · intro i h1 h2
       simp at h1
       simp [Nat.mod_eq_of_lt h1,h1]
   · rw [List.map_map]
     apply List.map_congr_left
     intro i _
     simp
theorem RowR.rep {sz:Nat} {z:AV} {zc:List Value} (hl:z.cells.length = sz) (hv:VS g w z.cells zc) : ∀ n,RowR g w sz (List.replicate n z) (List.replicate n zc).flatten
 | 0 => by simp [RowR]
 | n + 1 => by rw [List.replicate_succ,List.replicate_succ,List.flatten_cons]; exact ⟨zc,_,rfl,hl,hv,RowR.rep hl hv n⟩
theorem V.cellsCp {v:AV} {cv:Value} (hp:v.plain = true) (h:V g w v cv) : VS g w v.cp.cells cv.cells.toList ∧ Ones cv.cells.toList := by
 have hc := V.cells hp h
 refine ⟨?_,hc.2⟩
 cases v
 case agg cs => simp only [V] at h; obtain ⟨vs,rfl,h,h0⟩ := h; simp only [AV.cp,AV.cpA,AV.cells]; simpa [Value.cells] using h.cp1
 all_goals simp only [AV.spread] at hc <;> simp only [AV.cp,AV.cpA,AV.cells] <;> try exact hc.1
 all_goals first
   | (simp [AV.plain] at hp; done)
   | (have := hc.1.cp1; simpa using this)
   | (have h2 := hc.1.cp1
      simp only [List.map_cons,List.map_nil] at h2
      exact h2)
   | (rename_i xs ow
      have h2 := hc.1.cp1
      cases ow <;> simpa only [List.map_cons,List.map_nil,AV.cp1,AV.cells] using h2)
theorem run_fillE {sz:Nat} : ∀ {ps:List (Nat × Opd)} {qs:List (Nat × Operand)} {vs:List AV} {us:List Value} {xs:List AV} {cells:Array Value} {r:List AV},ps.map (·.1) = qs.map (·.1) → vs.length = ps.length → us.length = qs.length → (∀ (i:Nat) v u,vs[i]? = some v → us[i]? = some u → v.plain = true ∧ V g w v u) →
   RowR g w sz xs cells.toList → Ones cells.toList → fillElems sz xs ((ps.zip vs).map fun (p,v) => (p.1,v.cp)) = some r →
   ∃ cells',Instr.fill (fun i => some (i * sz,sz)) cells ((qs.zip us).map fun (p,u) => (p.1,u)) = some cells' ∧ RowR g w sz r cells'.toList ∧ Ones cells'.toList
 | [],[],vs,us,xs,cells,r,_,hv,hu,_,h1,h2,h => by simp [fillElems] at h; subst h; exact ⟨cells,by simp [Instr.fill],h1,h2⟩
 | (i, x) :: ps,(i',y) :: qs,v :: vs,u :: us,xs,cells,r,hp,hv,hu,hall,h1,h2,h => by
   simp only [List.map_cons,List.cons.injEq] at hp
   obtain ⟨rfl,hp2⟩ := hp
   simp only [List.zip_cons_cons,List.map_cons,fillElems] at h
   split at h
   · rename_i hc
     obtain ⟨c1,c2⟩ := hc
     obtain ⟨p1,p2⟩ := hall 0 v u rfl rfl
     have hcl := V.cellsCp p1 p2
     have hn : u.cells.toList.length = sz := by rw [hcl.1.len,c1]
     have hlen := h1.len
     have hle : i * sz + sz ≤ cells.size := by
       have : (i + 1) * sz ≤ xs.length * sz := Nat.mul_le_mul_right sz c2
       rw [Nat.succ_mul] at this
       simp at hlen; omega
     have hf := fold_set u.cells.toList 0 (i * sz) cells (by simp at hn ⊢; omega)
     simp only [Nat.add_zero] at hf
     obtain ⟨cells',f1,f2,f3⟩ := run_fillE (cells := u.cells.toList.zipIdx.foldl (fun (cs:Array Value) (x:Value × Nat) => cs.setIfInBounds (i * sz + x.2) x.1) cells) hp2 (by simpa using hv) (by simpa using hu)
       (fun j v' u' a b => hall (j + 1) v' u' (by simpa using a) (by simpa using b)) (by rw [hf]; exact RowR.set c1 hcl.1 h1 c2) (by rw [hf]; exact Ones.put h2 hcl.2 _ _) h
     refine ⟨cells',?_,f2,f3⟩
     simp only [List.zip_cons_cons,List.map_cons,Instr.fill]
     rw [if_neg (by simp at hn; simp [hn]; omega),← Array.foldl_toList,Array.toList_zipIdx]
     exact f1
   · cases h
 | [],_ :: _,_,_,_,_,_,hp,_,_,_,_,_,_ => by simp at hp
 | _ :: _,[],_,_,_,_,_,hp,_,_,_,_,_,_ => by simp at hp
 | _ :: _,_ :: _,[],_,_,_,_,_,hv,_,_,_,_,_ => by simp at hv
 | _ :: _,_ :: _,_ :: _,[],_,_,_,_,_,hu,_,_,_,_ => by simp at hu
theorem Stay.heap {w1 w2:World} (h:Stay g w g' w1) (e:w2.heap = w1.heap) (e1:w2.os = w1.os) (e2:w2.tape = w1.tape) (e3:w2.output = w1.output) : Stay g w g' w2 :=
 { ow := h.ow,cell := fun b o hl ht => (cell?_of_block' (by rw [e])).trans (h.cell b o hl ht),frz := fun b o hl ht hn => (frozen?_of_block' (by rw [e])).trans (h.frz b o hl ht hn),blk := fun b hl ht => by rw [e]; exact h.blk b hl ht,row := fun b t n k => by obtain ⟨cs,hi,r1,r2⟩ := h.row b t n k; exact ⟨cs,hi,by rw [e]; exact r1,r2⟩,te := fun _ => trivial,hb := h.hb,os := e1.trans h.os,tape := e2.trans h.tape,output := e3.trans h.output,size := by rw [e]; exact h.size }
def bsliceOk (P:Program) (t:TypeId) (z:AV) (n:Nat) : Bool :=
 match P.underlying t with
 | some (.slice e) => (match P.info? e with | some i => decide (i.size = z.cells.length) && decide (0 < i.size) && decide (n * i.size ≤ 2 ^ 24) | none => false) && zeroOk P e z.cells
 | _ => false
theorem Rel.newrow {v:AV} {cv:Value} (k:Rel G g st [(v,cv)] tm w) {sz C:Nat} {e f:TypeId} {xs:List AV} {news rest:List Value} (hl:Lay g w sz xs news) (hrest:rest.length = (C - xs.length) * sz) (hC:xs.length ≤ C) (h63:C ≤ 9223372036854775807) (hf:f ≠ 0 → e = f ∧ sz = 1) :
   ∃ g',Rel G g' st [(.list xs (.own sz f),.slice (some ⟨w.heap.size,0,none⟩) xs.length C)] tm (w.alloc (.cells (news ++ rest).toArray e)) ∧ Stay g w g' (w.alloc (.cells (news ++ rest).toArray e)) := by
 have hlen : (news ++ rest).length = C * sz := by
   rw [List.length_append,hl.1,hrest,← Nat.add_mul]; congr 1; omega
 obtain ⟨sm,q1,q1',q0,q2,q3,q4,q5⟩ := k.append_out (C := C) (m := xs.length) (e := e) hlen hC
 have hi : (fun t => t ≠ Tag.tail (.arg 0) 0) Tag.imm := by simp
 have hE : VE (g.fresh w.heap.size (xs.length * sz)) (w.drew.alloc (.cells (news ++ rest).toArray e)) sz xs w.heap.size 0 := hl.2.2 _ _ _ _ (sm.ext hi) fun j v hj => by
   have := (List.getElem?_eq_some_iff.1 hj).1
   exact ⟨q1 j (by rw [hl.1] at this; exact this),q2 j v (by rw [List.getElem?_append,if_pos this]; exact hj)⟩
 refine ⟨_,(q5 _ _ ?_).draws (w' := w.alloc (.cells (news ++ rest).toArray e)) rfl,q4.heap rfl rfl rfl rfl⟩
 rw [VF_loose rfl]
 refine ⟨?_,?_⟩
 · simp only [VX,V]
   exact ⟨some ⟨w.heap.size,0,none⟩,C,rfl,hC,h63,⟨fun e => (by cases e),fun e => (by cases e)⟩,(fun e => by cases e),fun ad e' => by
     cases e'
     refine ⟨fun _ => rfl,fun hn => ?_,sz,hE⟩
     obtain ⟨f1,f2⟩ := hf hn
     subst f1; subst f2
     exact ⟨rfl,rfl,⟨_,q0,by rw [hlen]; simpa using hC⟩,fun o ho => q1' o (by simpa using ho)⟩⟩
 · simp only [Owns]
   intro ad n c' e'
   cases e'
   refine ⟨hE,fun o h1 h2 => ?_⟩
   simp only [Nat.zero_add] at h1 h2
   exact q3 o h1 h2
theorem fillElems_len {sz:Nat} : ∀ {xs:List AV} {l:List (Nat × AV)} {r:List AV},fillElems sz xs l = some r → r.length = xs.length
 | xs,[],r,h => by simp [fillElems] at h; rw [h]
 | xs,(i,v) :: l,r,h => by
   simp only [fillElems] at h; split at h
   · have := fillElems_len h; simpa using this
   · cases h
def bpartsOk : List (Nat × Opd) → List (Nat × Operand) → Bool
 | [],[] => true
 | (i,x) :: ps,(j,y) :: qs => decide (i = j) && opdOk x y && bpartsOk ps qs
 | _,_ => false
theorem bpartsOk_spec : ∀ {ps:List (Nat × Opd)} {qs:List (Nat × Operand)},bpartsOk ps qs = true → ps.map (·.1) = qs.map (·.1) ∧ opdsOk (ps.map (·.2)) (qs.map (·.2)) = true ∧ ps.length = qs.length
 | [],[],_ => ⟨rfl,rfl,rfl⟩
 | (i,x) :: ps,(j,y) :: qs,h => by
   simp only [bpartsOk,Bool.and_eq_true,decide_eq_true_eq] at h
   obtain ⟨⟨rfl,h2⟩,h3⟩ := h
   obtain ⟨i1,i2,i3⟩ := bpartsOk_spec h3
   exact ⟨by simp [i1],by simp [opdsOk,h2,i2],by simp [i3]⟩
 | [],_ :: _,h => by simp [bpartsOk] at h
 | _ :: _,[],h => by simp [bpartsOk] at h
theorem fits_bslice (k:Rel G g st [] a.tmps w) {t:TypeId} {z:AV} {n:Nat} {ps:List (Nat × Opd)} {qs:List (Nat × Operand)} (hb:bsliceOk P t z n = true) {f:Nat} (hrt:(rowTy P t z.cells.length f || Nat.beq f 999999) = true) (hq:bpartsOk ps qs = true) (ho:o.op = .buildSlice t n qs.toArray) (hp:plains (opds st.fr (ps.map (·.2))).1 = true) {r:List AV}
   (h:fillElems z.cells.length (List.replicate n z) ((ps.zip (opds st.fr (ps.map (·.2))).1).map fun (p,v) => (p.1,v.cp)) = some r) : Fits P G g st (.val (.list r (ownE z.cells.length f)) { st with fr := (opds st.fr (ps.map (·.2))).2 }) o a w := by
 obtain ⟨q1,q2,q3⟩ := bpartsOk_spec hq
 obtain ⟨g1,k1,s1,hb1,hl⟩ := k.takes q2
 simp only [List.nil_append] at k1
 have hv := VS.of_ps k1 (by simpa using hl) hp
 unfold bsliceOk at hb
 cases hu : P.underlying t with
 | none => simp [hu] at hb
 | some d =>
   cases d <;> simp [hu] at hb
   rename_i e
   obtain ⟨hb1,hb2⟩ := hb
   cases hi : P.info? e with
   | none => simp [hi] at hb1
   | some i =>
     simp [hi] at hb1
     obtain ⟨⟨b1,b2⟩,b3⟩ := hb1
     obtain ⟨zv,z1,z2,z3⟩ := zeroOk_run hb2
     have hzs : VS g1 w z.cells zv.cells.toList := VS.of_same _ _ z2
     have hzl : zv.cells.size = i.size := by rw [b1,← hzs.len]; simp
     have hrow := RowR.rep rfl hzs n
     have hrange := range_cells zv.cells (by omega) n
     have hones : Ones (List.replicate n zv.cells.toList).flatten := by
       intro u hu; simp only [List.mem_flatten,List.mem_replicate] at hu
       obtain ⟨l,⟨_,rfl⟩,hu⟩ := hu; exact z3 u hu
     have hcells : ((Array.range (n * i.size)).map (zv.cells[· % zv.cells.size]!)).toList = (List.replicate n zv.cells.toList).flatten := by
       rw [Array.toList_map,Array.toList_range,← hrange,hzl]
     obtain ⟨cells',f1,f2,f3⟩ := run_fillE (us := (qs.map (·.2)).map (Act.opd a.tmps)) (cells := (Array.range (n * i.size)).map (zv.cells[· % zv.cells.size]!)) q1 (by simp [hl,q3]) (by simp) (fun i v u e1 e2 => ⟨by simp only [plains,List.all_eq_true] at hp; exact hp v (List.mem_of_getElem? e1),hv.get' e1 e2⟩) (by rw [hcells]; exact hrow) (by rw [hcells]; exact hones) h
     have hrl : r.length = n := by have := fillElems_len h; simpa using this
     have hn24 : n ≤ 2 ^ 24 := Nat.le_trans (Nat.le_mul_of_pos_right n b2) b3
     have hrow2 : ∃ g2,Rel G g2 { st with fr := (opds st.fr (ps.map (·.2))).2 } [(.list r (ownE z.cells.length f),.slice (some ⟨w.heap.size,0,none⟩) r.length r.length)] a.tmps (w.alloc (.cells (cells'.toList ++ []).toArray e)) ∧ Stay g1 w g2 (w.alloc (.cells (cells'.toList ++ []).toArray e)) := by
      by_cases hf9 : f = 999999
      · subst hf9
        obtain ⟨g2,k2,s2⟩ := (k1.less.push0 (v := .tup []) (cv := undef) VF_undef).newrow (e := e) (f := 0) (C := r.length) (rest := []) (f2.lay f3) (by simp) (Nat.le_refl _) (by omega) (fun hf => absurd rfl hf)
        refine ⟨g2,k2.less.push0 ?_,s2⟩
        have fv := k2.ps 0 _ _ rfl
        rw [VF_loose rfl] at fv ⊢
        refine ⟨?_,trivial⟩
        have hv := fv.1
        simp only [VX,V,ownE,if_true] at hv ⊢
        obtain ⟨A,c,e1,e2,e3,e4,e5,e6⟩ := hv
        cases e1
        exact ⟨_,_,rfl,e2,e3,⟨fun e => (by cases e),fun _ => rfl⟩,e5,fun ad ha => ⟨fun _ => (e6 ad ha).1 (.inl (by simp)),fun h => absurd rfl h,(e6 ad ha).2.2⟩⟩
      · rw [ownE,if_neg hf9]
        exact (k1.less.push0 (v := .tup []) (cv := undef) VF_undef).newrow (e := e) (f := f) (C := r.length) (rest := []) (f2.lay f3) (by simp) (Nat.le_refl _) (by omega) (fun hf => by
       have hrt : rowTy P t z.cells.length f = true := by
         rw [Bool.or_eq_true] at hrt
         rcases hrt with h | h
         · exact h
         · exact absurd (Nat.eq_of_beq_eq_true h) hf9
       unfold rowTy at hrt; simp only [hu,Bool.or_eq_true,Bool.and_eq_true] at hrt
       rcases hrt with h | h
       · exact absurd (Nat.eq_of_beq_eq_true h) hf
       · exact ⟨Nat.eq_of_beq_eq_true h.1,Nat.eq_of_beq_eq_true h.2⟩)
     obtain ⟨g2,k2,s2⟩ := hrow2
     rw [List.append_nil] at k2 s2
     rw [hrl] at k2
     have hparts : (qs.toArray.map fun (i,x) => (i,a.eval x)).toList = (qs.zip ((qs.map (·.2)).map (Act.opd a.tmps))).map fun (p,u) => (p.1,u) := by
       rw [Array.toList_map,show a.eval = Act.opd a.tmps from funext (Act.eval_eq a)]
       exact zip_parts _ qs
     refine fits_value (w' := w.alloc (.cells cells' e)) ?_ (by simpa using k2) (by simpa using s1.trans s2)
     have hne : ¬ n * i.size > 2 ^ 24 := by omega
     have hfill : Instr.fill (fun j => some (j * i.size,i.size)) ((Array.range (n * i.size)).map (zv.cells[· % zv.cells.size]!)) (qs.toArray.map fun (i,x) => (i,a.eval x)).toList = some cells' := by rw [hparts,b1]; rw [b1] at f1; exact f1
     by_cases h0 : n * i.size = 0
     · have hn0 : n = 0 := by
         rcases Nat.mul_eq_zero.1 h0 with h | h
         · exact h
         · omega
       subst hn0
       have e0 : ∀ f : Nat → Value,(Array.range (0 * i.size)).map f = #[] := fun f => by rw [Nat.zero_mul]; apply Array.ext (by simp); simp
       rw [e0] at hfill
       have h00 : 0 * i.size = 0 := Nat.zero_mul _
       simp only [execOp,ho,Instr.buildSlice,Sem.run_bind,run_underlying hu,Result.andThen_ok,sizeOf,typeInfo,run_program,hi,Sem.run_pure,if_neg hne,if_pos h00,e0,hfill,newRow,run_newObj]
       rfl
     · simp only [execOp,ho,Instr.buildSlice,Sem.run_bind,run_underlying hu,Result.andThen_ok,sizeOf,typeInfo,run_program,hi,Sem.run_pure,if_neg hne,if_neg h0,z1,hfill,newRow,run_newObj]
       rfl
end
end Go.Proofs.YtkofimhnehkdoaaGreatDoor.Rf
end
section
namespace Go.Proofs.YtkofimhnehkdoaaGreatDoor.Rf
section
variable {P:Program} {G:Nat → Option (List AV)} {g g' : Gh} {st:St} {a:Act} {w w' : World} {o:Oper} {tm:Array Value} {ps:List (AV × Value)}
def optOk : Option Opd → Option Operand → Bool
 | none,none => true
 | some x,some y => opdOk x y
 | _,_ => false
theorem bound_read (k:Rel G g st ps tm w) {x:Option Opd} {y:Option Operand} (h:optOk x y = true) {d n:Nat} (hb:bound st.fr d x = some n) :
   (y = none ∧ n = d) ∨ ∃ z kk,y = some z ∧ Act.opd tm z = .int kk n := by
 cases x with
 | none => cases y <;> simp [optOk] at h; simp [bound] at hb; exact .inl ⟨rfl,hb.symm⟩
 | some x =>
   cases y with
   | none => simp [optOk] at h
   | some z =>
     right
     have hr := k.read (x := x) (o := z) h
     simp only [bound] at hb
     cases hv : (opd st.fr x).1 <;> rw [hv] at hb hr <;> simp at hb
     rename_i kk i
     obtain ⟨h1,h2⟩ := hb
     simp only [VX,V] at hr
     exact ⟨z,kk,rfl,by rw [hr]; congr 1; omega⟩
theorem run_bounds (isSlice:Bool) {len cap l h:Nat} {lo hi:Option Value} (hl:(lo = none ∧ l = 0) ∨ ∃ k,lo = some (.int k l)) (hh:(hi = none ∧ h = len) ∨ ∃ k,hi = some (.int k h)) (h1:l ≤ h) (h2:h ≤ cap) :
   (Instr.sliceBounds isSlice len cap lo hi none).run P w = .ok (l,h,cap) w := by
 have e1 : ∀ k c,(Instr.sliceBound (.int k l) h c).run P w = .ok l w := fun k c => by
   rw [run_sliceBound _ k l h c (by omega) (by omega)]; simp
 have e2 : ∀ k c,(Instr.sliceBound (.int k h) cap c).run P w = .ok h w := fun k c => by
   rw [run_sliceBound _ k h cap c (by omega) (by omega)]; simp
 rcases hl with ⟨rfl,rfl⟩ | ⟨kl,rfl⟩ <;> rcases hh with ⟨rfl,rfl⟩ | ⟨kh,rfl⟩ <;> simp [Instr.sliceBounds,e1,e2]
theorem opt_vals (k:Rel G g st ps a.tmps w) {x:Option Opd} {y:Option Operand} (h:optOk x y = true) {d n:Nat} (hb:bound st.fr d x = some n) :
   (y.map a.eval = none ∧ n = d) ∨ ∃ kk,y.map a.eval = some (.int kk n) := by
 rcases bound_read k h hb with ⟨rfl,e⟩ | ⟨z,kk,rfl,e⟩
 · exact .inl ⟨rfl,e⟩
 · exact .inr ⟨kk,by simp [Act.eval_eq,e]⟩
theorem fits_slcS (k:Rel G g st [] a.tmps w) {x:Opd} {y:Operand} (hx:opdOk x y = true) {l h:Option Opd} {l' h' : Option Operand} (hl:optOk l l' = true) (hh:optOk h h' = true) {t:TypeId} (hu:P.underlying t = some .string) (ho:o.op = .slice t y l' h' none)
   {s:List UInt8} (hv:(opd st.fr x).1 = .str s) {m n:Nat} (hm:bound st.fr 0 l = some m) (hn:bound st.fr s.length h = some n) (h1:m ≤ n) (h2:n ≤ s.length) : Fits P G g st (.val (.str ((s.take n).drop m)) st) o a w := by
 have hr := k.read hx; rw [hv] at hr; simp only [VX,V] at hr
 have hb := run_bounds (P := P) (w := w) false (opt_vals k hl hm) (opt_vals k hh hn) h1 h2
 refine fits_pure k (cv := .string ⟨((s.take n).drop m).toArray⟩) ?_ (VF_scalar rfl (by simp only [VX,V]) (by simp) (by simp))
 have hsz : (ByteArray.mk s.toArray).size = s.length := by simp [ByteArray.size]
 have e : (ByteArray.mk s.toArray).extract m n = ByteArray.mk ((s.take n).drop m).toArray := by
   rw [ByteArray.extract_mk,List.drop_take]
 simp [execOp,ho,Act.eval_eq,hr,Instr.sliceAt,Sem.run_bind,run_underlying hu,Instr.slice,hsz]
 have hb' := hb
 simp only [show a.eval = Act.opd a.tmps from funext (Act.eval_eq a)] at hb'
 simp [show a.eval = Act.opd a.tmps from funext (Act.eval_eq a),hb',e]
theorem VE.drop {sz:Nat} : ∀ {xs:List AV} {b off:Nat} (n:Nat),n ≤ xs.length → VE g w sz xs b off → VE g w sz (xs.drop n) b (off + n * sz)
 | xs,b,off,0,_,h => by simpa using h
 | [],b,off,n + 1,hn,_ => by simp at hn
 | x :: xs,b,off,n + 1,hn,h => by
   have := VE.drop (b := b) (off := off + sz) n (by simpa using hn) h.tail
   rw [show off + sz + n * sz = off + (n + 1) * sz by rw [Nat.succ_mul]; omega] at this
   simpa using this
theorem VE.take {sz:Nat} : ∀ {xs:List AV} {b off:Nat} (n:Nat),VE g w sz xs b off → VE g w sz (xs.take n) b off
 | xs,b,off,0,_ => by simp [VE]
 | [],b,off,n + 1,_ => by simp [VE]
 | x :: xs,b,off,n + 1,h => by
   have h0 := VE.get h (j := 0) (x := x) rfl
   rw [Nat.zero_mul,Nat.add_zero] at h0
   rw [List.take_succ_cons]
   exact VE.cons_mk h0.1 h0.2 (VE.take n h.tail)
theorem sliceOk_run {t:TypeId} {sz:Nat} (h:sliceOk P t sz = true) : ∃ e,P.underlying t = some (.slice e) ∧ ∀ w,(sizeOf e).run P w = .ok sz w := by
 unfold sliceOk at h
 cases hu : P.underlying t with
 | none => simp [hu] at h
 | some d =>
   cases d <;> simp [hu] at h
   rename_i e
   cases hi : P.info? e with
   | none => simp [hi] at h
   | some i => simp [hi] at h; exact ⟨e,rfl,fun w => by simp [sizeOf,typeInfo,hi,h]⟩
theorem fits_slcL (k:Rel G g st [] a.tmps w) {x:Opd} {y:Operand} (hx:opdOk x y = true) {l h:Option Opd} {l' h' : Option Operand} (hl:optOk l l' = true) (hh:optOk h h' = true) {t:TypeId} {sz:Nat} (hu:sliceOk P t sz = true) (ho:o.op = .slice t y l' h' none)
   {xs:List AV} {ow:Own} (hv:(opd st.fr x).1 = .list xs ow) (hsz:okSize sz xs = true) {m n:Nat} (hm:bound st.fr 0 l = some m) (hn:bound st.fr xs.length h = some n) (h1:m ≤ n) (h2:n ≤ xs.length) : Fits P G g st (.val (.list ((xs.take n).drop m) .no) st) o a w := by
 have hr := k.read hx; rw [hv] at hr; simp only [VX,V] at hr
 obtain ⟨A,c,r1,r2,r3,r4,r5,r6⟩ := hr
 obtain ⟨e,u1,u2⟩ := sliceOk_run hu
 have hb := run_bounds (P := P) (w := w) true (cap := c) (opt_vals k hl hm) (opt_vals k hh hn) h1 (by omega)
 have hb' := hb
 simp only [show a.eval = Act.opd a.tmps from funext (Act.eval_eq a)] at hb'
 have hlen : ((xs.take n).drop m).length = n - m := by simp; omega
 refine fits_pure k (cv := .slice (if c = m then A else A.map (·.add (m * sz))) (n - m) (c - m)) ?_ (VF_scalar rfl ?_ (by simp) (by simp))
 · simp [execOp,ho,Act.eval_eq,r1,Instr.sliceAt,Sem.run_bind,run_underlying u1,Instr.slice,show a.eval = Act.opd a.tmps from funext (Act.eval_eq a),hb',u2]
 · simp only [VX,V]
   refine ⟨_,c - m,by rw [hlen],by rw [hlen]; omega,by omega,⟨fun e => (by cases e),fun e => (by cases e)⟩,fun e => ?_,fun ad e => ?_⟩
   · split at e
     · omega
     · cases A with
       | none => have := r5 rfl; omega
       | some ad => simp at e
   · split at e
     · rename_i hc
       have h0 : n = m := by omega
       subst h0
       have hnil : (xs.take n).drop n = [] := by apply List.drop_eq_nil_of_le; simp; omega
       rw [hnil]
       exact ⟨fun hc => absurd hc (by simp; omega),fun hn => absurd rfl hn,sz,by simp [VE]⟩
     · cases A with
       | none => simp at e
       | some ad0 =>
         simp at e
         obtain ⟨s1,_,s',s2⟩ := r6 ad0 rfl
         replace s1 := s1 (.inr (by omega))
         have s3 := okSize_VE hsz s2
         subst e
         have h5 := VE.drop m (by simp; omega) (VE.take n s3)
         have e3 : ad0.add (m * sz) = { ad0 with off := ad0.off + m * sz } := by
           obtain ⟨b,q,sp⟩ := ad0
           simp only at s1; subst s1
           exact Addr.add_lit b q (m * sz)
         rw [e3]
         exact ⟨fun _ => s1,fun hn => absurd rfl hn,sz,h5⟩
def fieldOk2 (P:Program) (s:TypeId) (f off n:Nat) (agg:Bool) : Bool :=
 match P.underlying s with
 | some (.struct fs) => match fs[f]? with | some x => decide (x.offset = off) && tyOk P x.type n agg | none => false
 | _ => false
theorem fits_field (k:Rel G g st [] a.tmps w) {x:Opd} {y:Operand} (hx:opdOk x y = true) {s:TypeId} {f off n:Nat} {agg:Bool} (hf:fieldOk2 P s f off n agg = true) (ho:o.op = .field s y f)
   {cs l:List AV} (hv:(opd st.fr x).1 = .agg cs) (hl:cut cs off n = some l) : Fits P G g st (.val (ofCells agg (l.map AV.cp1)) st) o a w := by
 have hr := k.read hx; rw [hv] at hr; simp only [VX,V] at hr
 obtain ⟨vs,r1,r2,r3⟩ := hr
 obtain ⟨hn,hg⟩ := cut_get hl
 unfold fieldOk2 at hf
 cases hu : P.underlying s with
 | none => simp [hu] at hf
 | some d =>
   cases d <;> simp [hu] at hf
   rename_i fs
   cases hfx : fs[f]? with
   | none => simp [hfx] at hf
   | some fx =>
     simp [hfx] at hf
     obtain ⟨h1,h2⟩ := hf
     subst h1
     have hlen : fx.offset + n ≤ vs.length := by
       rw [r2.len]; unfold cut at hl; split at hl
       · assumption
       · cases hl
     have hus : VS g w l ((vs.drop fx.offset).take n) := by
       have e : l = (cs.drop fx.offset).take n := by unfold cut at hl; split at hl <;> simp at hl; exact hl.symm
       rw [e]; exact (r2.drop _).take _
     have hone : Ones ((vs.drop fx.offset).take n) := fun u hu => r3 u (List.mem_of_mem_drop (List.mem_of_mem_take hu))
     have hul : ((vs.drop fx.offset).take n).length = n := by simp; omega
     have hnn : agg = false → n = 1 := fun e => by
       subst e; unfold tyOk at h2
       cases hi : P.info? fx.type <;> cases hu : P.underlying fx.type <;> simp [hi,hu] at h2
       rename_i i d; cases d <;> simp_all
     refine fits_pure k (cv := if agg then .agg ((vs.drop fx.offset).take n).toArray else ((vs.drop fx.offset).take n).headD undef) ?_ (VF_ofCells hus.cp1 hone (fun e => by rw [hul]; exact hnn e) fun e c u e1 e2 => ?_)
     · have hp : (part fx.type vs.toArray fx.offset).run P w = .ok (if agg then .agg ((vs.drop fx.offset).take n).toArray else ((vs.drop fx.offset).take n).headD undef) w := by
         unfold tyOk at h2
         cases hi : P.info? fx.type with
         | none => simp [hi] at h2
         | some i =>
           cases hu : P.underlying fx.type with
           | none => simp [hi,hu] at h2
           | some d =>
             simp only [hi,hu,Bool.and_eq_true,decide_eq_true_eq] at h2
             obtain ⟨⟨h4,h0⟩,h3⟩ := h2
             have hagg : (isAgg fx.type).run P w = .ok agg w := by
               unfold isAgg
               rw [Sem.run_bind,run_underlying hu w]
               cases d <;> simp_all
             cases agg with
             | true =>
               simp [part,hagg,sizeOf,typeInfo,hi,h4]
             | false =>
               have hn1 := hnn rfl
               subst hn1
               have hget : vs[fx.offset]? = some vs[fx.offset] := List.getElem?_eq_getElem (by omega)
               have e1 : (vs.drop fx.offset).take 1 = [vs[fx.offset]] := by
                 rw [List.drop_eq_getElem_cons (by omega)]; rfl
               rw [e1]
               simp [part,hagg,hget]
       simp [execOp,ho,Act.eval_eq,Instr.field,Sem.run_bind,run_underlying hu,hfx,r1,asAgg,hp]
     · cases l with
       | nil => simp at e1
       | cons d r =>
         simp at e1; obtain ⟨rfl,_⟩ := e1
         have hv2 := hus
         rw [e2] at hv2
         simp only [VS] at hv2; obtain ⟨u',r',e,hv3,_⟩ := hv2; cases e
         exact Owns.cp1 (hv3.not_tup (hone u (by rw [e2]; simp)))
end
end Go.Proofs.YtkofimhnehkdoaaGreatDoor.Rf
end
section
namespace Go.Proofs.YtkofimhnehkdoaaGreatDoor.Rf
def Ret (G:Nat → Option (List AV)) (g:Gh) (w:World) (r:COut) : Ending → World → Prop
 | .returned cv,w' => ∃ g' v hp',r = .ret v hp' ∧ Rel G g' ⟨[],hp'⟩ [(v,cv)] #[] w' ∧ Stay g w g' w'
 | .panicked chain,w' => ∃ g' v hp' cv,r = .pan v hp' ∧ chain = [{ v := cv,recovered := false }] ∧ V g' w' v cv ∧ v.plain = true ∧ Rel G g' ⟨[],hp'⟩ [] #[] w' ∧ Stay g w g' w'
 | .outgrown,_ => False
def funOk (P:Program) (f:FuncId) : Bool :=
 match P.funcs[f]? with
 | some fn => fn.body.isSome && !(fn.name == "runtime.NumGoroutine")
 | none => false
def CallOK (P:Program) (G:Nat → Option (List AV)) (call:CallF) : Prop :=
 ∀ f vs hp lo q r g w (us:List Value),call f vs hp lo q = some r → us.length = vs.length → plains vs = true → Rel G g ⟨[],hp⟩ (vs.zip us) #[] w → funOk P f = true ∧ Calls P f us.toArray w (Ret G g w r)
section
variable {P:Program} {G:Nat → Option (List AV)} {g g' g1 g2 : Gh} {st:St} {a:Act} {w w' : World} {o:Oper} {tm:Array Value} {ps:List (AV × Value)}
def Tag.slp : Tag → Tag
 | .box (.fr _) => .out
 | .tail (.fr _) _ => .out
 | t => t
def Gh.slp (g:Gh) : Gh := { g with ow := fun b o => (g.ow b o).slp }
def Tag.nofr : Tag → Prop
 | .box (.fr _) => False
 | .tail (.fr _) _ => False
 | _ => True
theorem Tag.slp_nofr {t:Tag} (h:t.nofr) : t.slp = t := by
 cases t <;> try rfl
 case box r => cases r <;> first | rfl | exact h.elim
 case tail r i => cases r <;> first | rfl | exact h.elim
theorem same_slp (g:Gh) (w:World) : Same Tag.nofr g w g.slp w :=
 ⟨fun _ _ _ h => Tag.slp_nofr h,fun _ _ _ _ => rfl,fun _ _ _ _ _ => rfl,fun _ _ _ => rfl,fun _ _ _ h => h,fun _ => trivial,fun _ _ h => h⟩
theorem VF.to_empty {r:Root} {fr fr' : Fr} {tm tm' : Array Value} {v:AV} {cv:Value} (hp:v.plain = true) (h:VF g w fr tm r v cv) : VF g w fr' tm' r v cv := by
 have hl := AV.loose_of_plain hp
 rw [VF_loose hl,VX_plain hp] at h ⊢; exact h
theorem zip_get {α β:Type} {l:List α} {m:List β} {j:Nat} {x:α} {y:β} (h:(l.zip m)[j]? = some (x,y)) : l[j]? = some x ∧ m[j]? = some y := by
 rw [List.getElem?_zip_eq_some] at h; exact h
theorem Rel.sleep {vs:List AV} {us:List Value} (k:Rel G g st (vs.zip us) tm w) (hp:plains vs = true) : Rel G g.slp ⟨[],st.hp⟩ (vs.zip us) #[] w := by
 have sm := same_slp g w
 refine ⟨fun s => by simp [Fr.get,VF,VX,V,Owns],fun j v cv hj => ?_,k.hp.same sm trivial (fun _ => trivial) (fun _ _ => trivial) (fun _ _ _ => trivial) rfl,fun b o h => ?_,k.gl.same sm trivial trivial⟩
 · have hv : v.plain = true := by
     simp only [plains,List.all_eq_true] at hp
     exact hp v (List.mem_of_getElem? (zip_get hj).1)
   have f := VF.to_empty (fr' := []) (tm' := #[]) hv (k.ps j v cv hj)
   exact VF.same (r := .arg j) sm trivial (fun t cs h => by simp [Fr.get] at h) (fun _ => trivial) trivial rfl f
 · show (g.ow b o).slp = _; rw [k.fresh b o h]; rfl
def Gh.wake (g1 g' : Gh) (n:Nat) : Gh :=
 { ow := fun b o => if b < n ∧ (g1.ow b o).slp ≠ g1.ow b o then g1.ow b o else g'.ow b o
   hb := g'.hb
   bx := fun x => match x with | .fr s => g1.bx (.fr s) | x => g'.bx x }
def Tag.front : Tag → Prop
 | .out | .imm | .elt | .box (.fr _) | .tail (.fr _) _ => True
 | _ => False
theorem wake_same (s:Stay g1.slp w g' w') : Same Tag.front g1 w (g1.wake g' w.heap.size) w' := by
 have hk : ∀ b o,(g1.ow b o).front → (g1.slp.ow b o).kept := fun b o h => by
   show ((g1.ow b o).slp).kept
   revert h; cases g1.ow b o <;> simp only [Tag.front,Tag.slp,Tag.kept] <;> try exact id
   case box r => cases r <;> simp [Tag.front,Tag.slp,Tag.kept]
   case tail r i => cases r <;> simp [Tag.front,Tag.slp,Tag.kept]
 have hne : ∀ b o,g1.ow b o ≠ .elt → g1.slp.ow b o ≠ .elt := fun b o h => by
   show (g1.ow b o).slp ≠ .elt
   revert h; cases g1.ow b o <;> simp only [Tag.slp] <;> try (intro h; exact h)
   case box r => cases r <;> simp [Tag.slp]
   case tail r i => cases r <;> simp [Tag.slp]
 refine ⟨fun b o hl h => ?_,fun b o hl h => s.cell b o hl (hk b o h),fun b o hl h hn => s.frz b o hl (hk b o h) (hne b o hn),fun b hl h => s.blk b hl fun o => ⟨hk b o (h o).1,hne b o (h o).2⟩,s.row,fun _ => trivial,s.hb⟩
 simp only [Gh.wake]
 split
 · rfl
 · rename_i hn
   have e := s.ow b o hl (hk b o h)
   have e2 : (g1.ow b o).slp = g1.ow b o := by
     by_cases e3 : (g1.ow b o).slp = g1.ow b o
     · exact e3
     · exact absurd ⟨hl,e3⟩ hn
   rw [e]; exact e2
theorem wake_same' (s:Stay g1.slp w g' w') : Same (fun t => t ≠ .out) g' w' (g1.wake g' w.heap.size) w' := by
 refine ⟨fun b o hl h => ?_,fun _ _ _ _ => rfl,fun _ _ _ _ _ => rfl,fun _ _ _ => rfl,fun _ _ _ h => h,fun _ => by simp,fun _ _ h => h⟩
 simp only [Gh.wake]
 split
 · rename_i hc
   have hk : (g1.slp.ow b o).kept := by
     show ((g1.ow b o).slp).kept
     have h2 := hc.2
     revert h2; cases g1.ow b o <;> simp only [Tag.slp,Tag.kept] <;> try (intro h; exact absurd rfl h)
     case box r => cases r <;> simp [Tag.slp,Tag.kept]
     case tail r i => cases r <;> simp [Tag.slp,Tag.kept]
   have e := s.ow b o hc.1 hk
   have e3 : g1.slp.ow b o = .out := by
     show (g1.ow b o).slp = .out
     have h2 := hc.2
     revert h2; cases g1.ow b o <;> simp only [Tag.slp] <;> try (intro h; exact absurd rfl h)
     case box r => cases r <;> simp [Tag.slp]
     case tail r i => cases r <;> simp [Tag.slp]
   exact absurd (e.trans e3) h
 · rfl
theorem Rel.back {vs:List AV} {us:List Value} {hp' : List HObj} (k:Rel G g1 st (vs.zip us) tm w) (s:Stay g1.slp w g' w') {qs:List (AV × Value)} (k' : Rel G g' ⟨[],hp'⟩ qs #[] w') :
   Rel G (g1.wake g' w.heap.size) ⟨st.fr,hp'⟩ qs tm w' ∧ Stay g1 w (g1.wake g' w.heap.size) w' := by
 have s1 := wake_same s
 have s2 := wake_same' s
 refine ⟨⟨fun t => ?_,fun j v cv hj => ?_,?_,fun b o hb => ?_,?_⟩,?_⟩
 · exact VF.same (r := .fr t) s1 trivial (fun u cs _ => rfl) (fun _ => trivial) trivial rfl (k.fr t)
 · have f := (k'.ps j v cv hj).same s2 (by simp) (fun t cs h => by simp [Fr.get] at h) (fun i => by simp) (by simp) rfl
   exact VF.like ⟨fun t cs h => by simp [Fr.get] at h,fun t xs sz h => by simp [Fr.get] at h⟩ f
 · exact k'.hp.same s2 (by simp) (fun _ => by simp) (fun _ _ => by simp) (fun _ _ _ => by simp) rfl
 · simp only [Gh.wake]; rw [if_neg (fun h => by have := s.size; omega)]; exact k'.fresh b o hb
 · exact k.gl.same s1 trivial trivial
 · exact { ow := fun b o hl h => s1.ow b o hl (by revert h; cases g1.ow b o <;> simp [Tag.kept,Tag.front])
           cell := fun b o hl h => s1.cell b o hl (by revert h; cases g1.ow b o <;> simp [Tag.kept,Tag.front])
           frz := fun b o hl h hn => s1.frz b o hl (by revert h; cases g1.ow b o <;> simp [Tag.kept,Tag.front]) hn
           blk := fun b hl h => s1.blk b hl fun o => ⟨by have := (h o).1; revert this; cases g1.ow b o <;> simp [Tag.kept,Tag.front],(h o).2⟩
           row := s1.row,te := fun _ => trivial
           hb := s1.hb,os := s.os,tape := s.tape,output := s.output,size := s.size }
def COut.op (fr:Fr) : COut → OpR
 | .ret v hp => .val v ⟨fr,hp⟩
 | .pan v hp => .pan v ⟨fr,hp⟩
theorem fits_call {call:CallF} (hc:CallOK P G call) (k:Rel G g st [] a.tmps w) {f:Opd} {xs:List Opd} {f' : Operand} {os:List Operand} (hf:opdOk f f' = true) (hx:opdsOk xs os = true) {ts:Array TypeId} (ho:o.op = .call { callee := .value f',args := os.toArray,argTypes := ts })
   (hp:plains (opds st.fr xs).1 = true) {fid:Nat} {caps:List AV} (hv:(opd (opds st.fr xs).2 f).1 = .func fid caps) (hpc:plains caps = true) {lo:Nat} {q:Bool} {r:COut} (hr:call fid ((opds st.fr xs).1 ++ caps.map AV.cp) st.hp lo q = some r) :
   Fits P G g st (r.op (opds st.fr xs).2) o a w := by
 obtain ⟨g1,k1,s1,hb1,hl⟩ := k.takes hx
 simp only [List.nil_append] at k1
 have hrd := k1.read hf
 simp only at hrd
 rw [hv] at hrd; simp only [VX,V] at hrd
 obtain ⟨cvs,h1,h2⟩ := hrd
 have hcv : VS g1 w (caps.map AV.cp) cvs := h2.cpAll
 -- the captured ones are laid beside
 have push : ∀ (cs:List AV) (cvs:List Value) (vs:List AV) (us:List Value),vs.length = us.length → plains cs = true → VS g1 w cs cvs → (∀ c,c ∈ cs → ∃ d : AV,c = d.cp) → Rel G g1 { st with fr := (opds st.fr xs).2 } (vs.zip us) a.tmps w → Rel G g1 { st with fr := (opds st.fr xs).2 } ((vs ++ cs).zip (us ++ cvs)) a.tmps w := by
   intro cs
   induction cs with
   | nil => intro cvs vs us hl _ hv _ k; simp only [VS] at hv; subst hv; simpa using k
   | cons c cs ih =>
     intro cvs vs us hl hp hv hd k
     simp only [VS] at hv; obtain ⟨u,r,rfl,h3,h4⟩ := hv
     simp only [plains,List.all_cons,Bool.and_eq_true] at hp
     have k2 := k.push (v := c) (cv := u) (by
       obtain ⟨d,rfl⟩ := hd c (by simp)
       rw [VF_loose (AV.loose_of_plain hp.1),VX_plain hp.1]; exact ⟨h3,Owns.cp⟩)
     have e : (vs ++ [c]).zip (us ++ [u]) = vs.zip us ++ [(c,u)] := by rw [List.zip_append hl]; rfl
     rw [← e] at k2
     have := ih r (vs ++ [c]) (us ++ [u]) (by simp [hl]) hp.2 h4 (fun x hx => hd x (by simp [hx])) k2
     simpa using this
 have hplc : plains (caps.map AV.cp) = true := by
   simp only [plains,List.all_eq_true] at hpc ⊢
   intro c hc; simp only [List.mem_map] at hc; obtain ⟨d,hd,rfl⟩ := hc; exact plain_cp (hpc d hd)
 have k2 := push _ cvs _ _ (by simpa using hl) hplc hcv (fun c hc => by simp only [List.mem_map] at hc; obtain ⟨d,_,rfl⟩ := hc; exact ⟨d,rfl⟩) k1
 have hpl : plains ((opds st.fr xs).1 ++ caps.map AV.cp) = true := by
   simp only [plains,List.all_append,Bool.and_eq_true] at hp hplc ⊢; exact ⟨hp,hplc⟩
 obtain ⟨hok,hcall⟩ := hc fid _ st.hp lo q r g1.slp w (os.map (Act.opd a.tmps) ++ cvs) hr (by simp [hl,hcv.len]) hpl (k2.sleep hpl)
 intro next Q hn hq
 have hrun : (execOp a.eval o).run P w = .ok (.enter fid (os.map (Act.opd a.tmps) ++ cvs).toArray) w := by
   unfold funOk at hok
   cases hfn : P.funcs[fid]? with
   | none => simp [hfn] at hok
   | some fn =>
     simp [hfn] at hok
     obtain ⟨b1,b2⟩ := hok
     cases hbd : fn.body with
     | none => simp [hbd] at b1
     | some bd => simp [execOp,ho,resolve,Deferred.ofValue,show a.eval = Act.opd a.tmps from funext (Act.eval_eq a),h1,invoke,callFunc,hfn,b2,hbd]
 unfold Oper.wp; rw [hrun,Oper.upon_enter]
 refine Calls.mono hcall fun e w1 hR => ?_
 cases e with
 | returned cv =>
   obtain ⟨g',v,hp',rfl,k3,s3⟩ := hR
   obtain ⟨k4,s4⟩ := k2.back s3 k3
   exact hn _ w1 v _ cv rfl k4 (s1.trans s4)
 | panicked chain =>
   obtain ⟨g',v,hp',cv,rfl,rfl,hvv,hpv,k3,s3⟩ := hR
   obtain ⟨k4,s4⟩ := k2.back s3 k3
   exact hq _ w1 v _ cv rfl (V.mono ((wake_same' s3).ext (by simp)) _ _ hvv) hpv k4 (s1.trans s4)
 | outgrown => exact hR.elim
end
end Go.Proofs.YtkofimhnehkdoaaGreatDoor.Rf
end
