/- A part of the proof: see the last text. -/
import Derived.Test.YtkofimhnehkdoaaGreatDoorRpG2
import Derived.Laws.Slices
import Derived.Laws.Strings2
import Derived.Laws.Externs
import Derived.Laws.MakeOwn
import Derived.Lib.UnsafeStr
import Derived.Lib.Builder
import Derived.KernelRfl
import Derived.Laws.BytesString
import Derived.Laws.IdiomStrings
import Derived.Lib.Bytealg
import Derived.Lib.ConvBytes
set_option linter.unusedVariables false
set_option linter.unusedSimpArgs false
section
namespace Go.Proofs.YtkofimhnehkdoaaGreatDoor.Rf
section
variable {P:Program} {G:Nat → Option (List AV)} {g g' : Gh} {st:St} {a:Act} {w w' : World} {o:Oper} {tm:Array Value} {ps:List (AV × Value)}
def RowR (g:Gh) (w:World) (sz:Nat) : List AV → List Value → Prop
 | [],us => us = []
 | x :: xs,us => ∃ a r,us = a ++ r ∧ x.cells.length = sz ∧ VS g w x.cells a ∧ RowR g w sz xs r
theorem RowR.len {sz:Nat} : ∀ {xs:List AV} {us:List Value},RowR g w sz xs us → us.length = xs.length * sz
 | [],us,h => by simp only [RowR] at h; simp [h]
 | x :: xs,us,h => by
   obtain ⟨a,r,rfl,h1,h2,h3⟩ := h
   simp [h3.len,h2.len,h1,Nat.succ_mul,Nat.add_comm]
theorem RowR.set {sz:Nat} {v:AV} {vs:List Value} (hl:v.cells.length = sz) (hv:VS g w v.cells vs) : ∀ {xs:List AV} {us:List Value} {i:Nat},RowR g w sz xs us → i < xs.length → RowR g w sz (xs.set i v) (us.take (i * sz) ++ vs ++ us.drop (i * sz + vs.length))
 | [],_,_,_,h => by simp at h
 | x :: xs,us,0,h,_ => by
   obtain ⟨a,r,rfl,h1,h2,h3⟩ := h
   refine ⟨vs,r,?_,hl,hv,h3⟩
   have : a.length = vs.length := by rw [h2.len,hv.len,h1,hl]
   simp [← this]
 | x :: xs,us,i + 1,h,hi => by
   obtain ⟨a,r,rfl,h1,h2,h3⟩ := h
   have ih := RowR.set hl hv (i := i) h3 (by simpa using hi)
   have ha : a.length = sz := by rw [h2.len,h1]
   refine ⟨a,_,?_,h1,h2,ih⟩
   rw [show (i + 1) * sz = a.length + i * sz by rw [Nat.succ_mul,ha]; omega,List.take_length_add_append,Nat.add_assoc,List.drop_length_add_append]
   simp
theorem RowR.lay {sz:Nat} {xs:List AV} {us:List Value} (h:RowR g w sz xs us) (h1:Ones us) : Lay g w sz xs us := by
 refine ⟨h.len,h1,fun g' w' b' q' e hc => ?_⟩
 induction xs generalizing us q' with
 | nil => simp [VE]
 | cons x xs ih =>
   obtain ⟨a,r,rfl,h2,h3,h4⟩ := h
   have ha : a.length = sz := by rw [h3.len,h2]
   refine VE.cons_mk h2 ?_ (ih h4 (fun u hu => h1 u (by simp [hu])) _ fun j v hj => ?_)
   · have : ∀ (cs:List AV) (a:List Value) (q:Nat),VS g w cs a → Ones a → (∀ (j:Nat) v,a[j]? = some v → (g'.ow b' (q + j)).ro ∧ w'.cell? ⟨b',q + j,none⟩ = some v) → VC g' w' cs b' q := by
       intro cs
       induction cs with
       | nil => intros; simp [VC]
       | cons c cs ih2 =>
         intro a q hv ho hc2
         simp only [VS] at hv; obtain ⟨u,r2,rfl,k1,k2⟩ := hv
         have h0 := hc2 0 u rfl
         rw [Nat.add_zero] at h0
         simp only [VC]
         exact ⟨⟨h0.1,u,h0.2,ho u (by simp),V.mono e _ _ k1⟩,ih2 r2 _ k2 (fun x hx => ho x (by simp [hx])) fun j v hj => by
           have := hc2 (j + 1) v (by simpa using hj)
           rwa [show q + (j + 1) = q + 1 + j by omega] at this⟩
     exact this _ a q' h3 (fun u hu => h1 u (by simp [hu])) fun j v hj => hc j v (by rw [List.getElem?_append,if_pos (List.getElem?_eq_some_iff.1 hj).1]; exact hj)
   · have := hc (sz + j) v (by rw [List.getElem?_append,if_neg (by omega),show sz + j - a.length = j by omega]; exact hj)
     rwa [← Nat.add_assoc] at this
theorem range_cells (zc:Array Value) (h:0 < zc.size) : ∀ n,(List.range (n * zc.size)).map (fun i => zc[i % zc.size]!) = (List.replicate n zc.toList).flatten
 | 0 => by simp
 | n + 1 => by
   rw [show (n + 1) * zc.size = zc.size + n * zc.size by rw [Nat.succ_mul]; omega,List.range_add,List.map_append,List.replicate_succ,List.flatten_cons,← range_cells zc h n]
   congr 1
   · apply List.ext_getElem
     · simp
     · intro i h1 h2
       simp at h1
       simp [Nat.mod_eq_of_lt h1,h1]
   · rw [List.map_map]
     apply List.map_congr_left
     intro i _
     simp
theorem RowR.rep {sz:Nat} {z:AV} {zc:List Value} (hl:z.cells.length = sz) (hv:VS g w z.cells zc) : ∀ n,RowR g w sz (List.replicate n z) (List.replicate n zc).flatten
 | 0 => by simp [RowR]
 | n + 1 => by rw [List.replicate_succ,List.replicate_succ,List.flatten_cons]; exact ⟨zc,_,rfl,hl,hv,RowR.rep hl hv n⟩
theorem V.cellsCp {v:AV} {cv:Value} (hp:v.plain = true) (h:V g w v cv) : VS g w v.cp.cells cv.cells.toList ∧ Ones cv.cells.toList := by
 have hc := V.cells hp h
 refine ⟨?_,hc.2⟩
 cases v
 case agg cs => simp only [V] at h; obtain ⟨vs,rfl,h,h0⟩ := h; simp only [AV.cp,AV.cpA,AV.cells]; simpa [Value.cells] using h.cp1
 all_goals simp only [AV.spread] at hc <;> simp only [AV.cp,AV.cpA,AV.cells] <;> try exact hc.1
 all_goals first
   | (simp [AV.plain] at hp; done)
   | (have := hc.1.cp1; simpa using this)
   | (have h2 := hc.1.cp1
      simp only [List.map_cons,List.map_nil] at h2
      exact h2)
   | (rename_i xs ow
      have h2 := hc.1.cp1
      cases ow <;> simpa only [List.map_cons,List.map_nil,AV.cp1,AV.cells] using h2)
theorem run_fillE {sz:Nat} : ∀ {ps:List (Nat × Opd)} {qs:List (Nat × Operand)} {vs:List AV} {us:List Value} {xs:List AV} {cells:Array Value} {r:List AV},ps.map (·.1) = qs.map (·.1) → vs.length = ps.length → us.length = qs.length → (∀ (i:Nat) v u,vs[i]? = some v → us[i]? = some u → v.plain = true ∧ V g w v u) →
   RowR g w sz xs cells.toList → Ones cells.toList → fillElems sz xs ((ps.zip vs).map fun (p,v) => (p.1,v.cp)) = some r →
   ∃ cells',Instr.fill (fun i => some (i * sz,sz)) cells ((qs.zip us).map fun (p,u) => (p.1,u)) = some cells' ∧ RowR g w sz r cells'.toList ∧ Ones cells'.toList
 | [],[],vs,us,xs,cells,r,_,hv,hu,_,h1,h2,h => by simp [fillElems] at h; subst h; exact ⟨cells,by simp [Instr.fill],h1,h2⟩
 | (i, x) :: ps,(i',y) :: qs,v :: vs,u :: us,xs,cells,r,hp,hv,hu,hall,h1,h2,h => by
   simp only [List.map_cons,List.cons.injEq] at hp
   obtain ⟨rfl,hp2⟩ := hp
   simp only [List.zip_cons_cons,List.map_cons,fillElems] at h
   split at h
   · rename_i hc
     obtain ⟨c1,c2⟩ := hc
     obtain ⟨p1,p2⟩ := hall 0 v u rfl rfl
     have hcl := V.cellsCp p1 p2
     have hn : u.cells.toList.length = sz := by rw [hcl.1.len,c1]
     have hlen := h1.len
     have hle : i * sz + sz ≤ cells.size := by
       have : (i + 1) * sz ≤ xs.length * sz := Nat.mul_le_mul_right sz c2
       rw [Nat.succ_mul] at this
       simp at hlen; omega
     have hf := fold_set u.cells.toList 0 (i * sz) cells (by simp at hn ⊢; omega)
     simp only [Nat.add_zero] at hf
     obtain ⟨cells',f1,f2,f3⟩ := run_fillE (cells := u.cells.toList.zipIdx.foldl (fun (cs:Array Value) (x:Value × Nat) => cs.setIfInBounds (i * sz + x.2) x.1) cells) hp2 (by simpa using hv) (by simpa using hu)
       (fun j v' u' a b => hall (j + 1) v' u' (by simpa using a) (by simpa using b)) (by rw [hf]; exact RowR.set c1 hcl.1 h1 c2) (by rw [hf]; exact Ones.put h2 hcl.2 _ _) h
     refine ⟨cells',?_,f2,f3⟩
     simp only [List.zip_cons_cons,List.map_cons,Instr.fill]
     rw [if_neg (by simp at hn; simp [hn]; omega),← Array.foldl_toList,Array.toList_zipIdx]
     exact f1
   · cases h
 | [],_ :: _,_,_,_,_,_,hp,_,_,_,_,_,_ => by simp at hp
 | _ :: _,[],_,_,_,_,_,hp,_,_,_,_,_,_ => by simp at hp
 | _ :: _,_ :: _,[],_,_,_,_,_,hv,_,_,_,_,_ => by simp at hv
 | _ :: _,_ :: _,_ :: _,[],_,_,_,_,_,hu,_,_,_,_ => by simp at hu
theorem Stay.heap {w1 w2:World} (h:Stay g w g' w1) (e:w2.heap = w1.heap) (e1:w2.os = w1.os) (e2:w2.tape = w1.tape) (e3:w2.output = w1.output) : Stay g w g' w2 :=
 { ow := h.ow,cell := fun b o hl ht => (cell?_of_block' (by rw [e])).trans (h.cell b o hl ht),frz := fun b o hl ht hn => (frozen?_of_block' (by rw [e])).trans (h.frz b o hl ht hn),blk := fun b hl ht => by rw [e]; exact h.blk b hl ht,row := fun b t n k => by obtain ⟨cs,hi,r1,r2⟩ := h.row b t n k; exact ⟨cs,hi,by rw [e]; exact r1,r2⟩,te := fun _ => trivial,hb := h.hb,os := e1.trans h.os,tape := e2.trans h.tape,output := e3.trans h.output,size := by rw [e]; exact h.size }
def bsliceOk (P:Program) (t:TypeId) (z:AV) (n:Nat) : Bool :=
 match P.underlying t with
 | some (.slice e) => (match P.info? e with | some i => decide (i.size = z.cells.length) && decide (0 < i.size) && decide (n * i.size ≤ 2 ^ 24) | none => false) && zeroOk P e z.cells
 | _ => false
theorem Rel.newrow {v:AV} {cv:Value} (k:Rel G g st [(v,cv)] tm w) {sz C:Nat} {e f:TypeId} {xs:List AV} {news rest:List Value} (hl:Lay g w sz xs news) (hrest:rest.length = (C - xs.length) * sz) (hC:xs.length ≤ C) (h63:C ≤ 9223372036854775807) (hf:f ≠ 0 → e = f ∧ sz = 1) :
   ∃ g',Rel G g' st [(.list xs (.own sz f),.slice (some ⟨w.heap.size,0,none⟩) xs.length C)] tm (w.alloc (.cells (news ++ rest).toArray e)) ∧ Stay g w g' (w.alloc (.cells (news ++ rest).toArray e)) := by
 have hlen : (news ++ rest).length = C * sz := by
   rw [List.length_append,hl.1,hrest,← Nat.add_mul]; congr 1; omega
 obtain ⟨sm,q1,q1',q0,q2,q3,q4,q5⟩ := k.append_out (C := C) (m := xs.length) (e := e) hlen hC
 have hi : (fun t => t ≠ Tag.tail (.arg 0) 0) Tag.imm := by simp
 have hE : VE (g.fresh w.heap.size (xs.length * sz)) (w.drew.alloc (.cells (news ++ rest).toArray e)) sz xs w.heap.size 0 := hl.2.2 _ _ _ _ (sm.ext hi) fun j v hj => by
   have := (List.getElem?_eq_some_iff.1 hj).1
   exact ⟨q1 j (by rw [hl.1] at this; exact this),q2 j v (by rw [List.getElem?_append,if_pos this]; exact hj)⟩
 refine ⟨_,(q5 _ _ ?_).draws (w' := w.alloc (.cells (news ++ rest).toArray e)) rfl,q4.heap rfl rfl rfl rfl⟩
 rw [VF_loose rfl]
 refine ⟨?_,?_⟩
 · simp only [VX,V]
   exact ⟨some ⟨w.heap.size,0,none⟩,C,rfl,hC,h63,⟨fun e => (by cases e),fun e => (by cases e)⟩,(fun e => by cases e),fun ad e' => by
     cases e'
     refine ⟨fun _ => rfl,fun hn => ?_,sz,hE⟩
     obtain ⟨f1,f2⟩ := hf hn
     subst f1; subst f2
     exact ⟨rfl,rfl,⟨_,q0,by rw [hlen]; simpa using hC⟩,fun o ho => q1' o (by simpa using ho)⟩⟩
 · simp only [Owns]
   intro ad n c' e'
   cases e'
   refine ⟨hE,fun o h1 h2 => ?_⟩
   simp only [Nat.zero_add] at h1 h2
   exact q3 o h1 h2
theorem fillElems_len {sz:Nat} : ∀ {xs:List AV} {l:List (Nat × AV)} {r:List AV},fillElems sz xs l = some r → r.length = xs.length
 | xs,[],r,h => by simp [fillElems] at h; rw [h]
 | xs,(i,v) :: l,r,h => by
   simp only [fillElems] at h; split at h
   · have := fillElems_len h; simpa using this
   · cases h
def bpartsOk : List (Nat × Opd) → List (Nat × Operand) → Bool
 | [],[] => true
 | (i,x) :: ps,(j,y) :: qs => decide (i = j) && opdOk x y && bpartsOk ps qs
 | _,_ => false
theorem bpartsOk_spec : ∀ {ps:List (Nat × Opd)} {qs:List (Nat × Operand)},bpartsOk ps qs = true → ps.map (·.1) = qs.map (·.1) ∧ opdsOk (ps.map (·.2)) (qs.map (·.2)) = true ∧ ps.length = qs.length
 | [],[],_ => ⟨rfl,rfl,rfl⟩
 | (i,x) :: ps,(j,y) :: qs,h => by
   simp only [bpartsOk,Bool.and_eq_true,decide_eq_true_eq] at h
   obtain ⟨⟨rfl,h2⟩,h3⟩ := h
   obtain ⟨i1,i2,i3⟩ := bpartsOk_spec h3
   exact ⟨by simp [i1],by simp [opdsOk,h2,i2],by simp [i3]⟩
 | [],_ :: _,h => by simp [bpartsOk] at h
 | _ :: _,[],h => by simp [bpartsOk] at h
theorem fits_bslice (k:Rel G g st [] a.tmps w) {t:TypeId} {z:AV} {n:Nat} {ps:List (Nat × Opd)} {qs:List (Nat × Operand)} (hb:bsliceOk P t z n = true) {f:Nat} (hrt:(rowTy P t z.cells.length f || Nat.beq f 999999) = true) (hq:bpartsOk ps qs = true) (ho:o.op = .buildSlice t n qs.toArray) (hp:plains (opds st.fr (ps.map (·.2))).1 = true) {r:List AV}
   (h:fillElems z.cells.length (List.replicate n z) ((ps.zip (opds st.fr (ps.map (·.2))).1).map fun (p,v) => (p.1,v.cp)) = some r) : Fits P G g st (.val (.list r (ownE z.cells.length f)) { st with fr := (opds st.fr (ps.map (·.2))).2 }) o a w := by
 obtain ⟨q1,q2,q3⟩ := bpartsOk_spec hq
 obtain ⟨g1,k1,s1,hb1,hl⟩ := k.takes q2
 simp only [List.nil_append] at k1
 have hv := VS.of_ps k1 (by simpa using hl) hp
 unfold bsliceOk at hb
 cases hu : P.underlying t with
 | none => simp [hu] at hb
 | some d =>
   cases d <;> simp [hu] at hb
   rename_i e
   obtain ⟨hb1,hb2⟩ := hb
   cases hi : P.info? e with
   | none => simp [hi] at hb1
   | some i =>
     simp [hi] at hb1
     obtain ⟨⟨b1,b2⟩,b3⟩ := hb1
     obtain ⟨zv,z1,z2,z3⟩ := zeroOk_run hb2
     have hzs : VS g1 w z.cells zv.cells.toList := VS.of_same _ _ z2
     have hzl : zv.cells.size = i.size := by rw [b1,← hzs.len]; simp
     have hrow := RowR.rep rfl hzs n
     have hrange := range_cells zv.cells (by omega) n
     have hones : Ones (List.replicate n zv.cells.toList).flatten := by
       intro u hu; simp only [List.mem_flatten,List.mem_replicate] at hu
       obtain ⟨l,⟨_,rfl⟩,hu⟩ := hu; exact z3 u hu
     have hcells : ((Array.range (n * i.size)).map (zv.cells[· % zv.cells.size]!)).toList = (List.replicate n zv.cells.toList).flatten := by
       rw [Array.toList_map,Array.toList_range,← hrange,hzl]
     obtain ⟨cells',f1,f2,f3⟩ := run_fillE (us := (qs.map (·.2)).map (Act.opd a.tmps)) (cells := (Array.range (n * i.size)).map (zv.cells[· % zv.cells.size]!)) q1 (by simp [hl,q3]) (by simp) (fun i v u e1 e2 => ⟨by simp only [plains,List.all_eq_true] at hp; exact hp v (List.mem_of_getElem? e1),hv.get' e1 e2⟩) (by rw [hcells]; exact hrow) (by rw [hcells]; exact hones) h
     have hrl : r.length = n := by have := fillElems_len h; simpa using this
     have hn24 : n ≤ 2 ^ 24 := Nat.le_trans (Nat.le_mul_of_pos_right n b2) b3
     have hrow2 : ∃ g2,Rel G g2 { st with fr := (opds st.fr (ps.map (·.2))).2 } [(.list r (ownE z.cells.length f),.slice (some ⟨w.heap.size,0,none⟩) r.length r.length)] a.tmps (w.alloc (.cells (cells'.toList ++ []).toArray e)) ∧ Stay g1 w g2 (w.alloc (.cells (cells'.toList ++ []).toArray e)) := by
      by_cases hf9 : f = 999999
      · subst hf9
        obtain ⟨g2,k2,s2⟩ := (k1.less.push0 (v := .tup []) (cv := undef) VF_undef).newrow (e := e) (f := 0) (C := r.length) (rest := []) (f2.lay f3) (by simp) (Nat.le_refl _) (by omega) (fun hf => absurd rfl hf)
        refine ⟨g2,k2.less.push0 ?_,s2⟩
        have fv := k2.ps 0 _ _ rfl
        rw [VF_loose rfl] at fv ⊢
        refine ⟨?_,trivial⟩
        have hv := fv.1
        simp only [VX,V,ownE,if_true] at hv ⊢
        obtain ⟨A,c,e1,e2,e3,e4,e5,e6⟩ := hv
        cases e1
        exact ⟨_,_,rfl,e2,e3,⟨fun e => (by cases e),fun _ => rfl⟩,e5,fun ad ha => ⟨fun _ => (e6 ad ha).1 (.inl (by simp)),fun h => absurd rfl h,(e6 ad ha).2.2⟩⟩
      · rw [ownE,if_neg hf9]
        exact (k1.less.push0 (v := .tup []) (cv := undef) VF_undef).newrow (e := e) (f := f) (C := r.length) (rest := []) (f2.lay f3) (by simp) (Nat.le_refl _) (by omega) (fun hf => by
       have hrt : rowTy P t z.cells.length f = true := by
         rw [Bool.or_eq_true] at hrt
         rcases hrt with h | h
         · exact h
         · exact absurd (Nat.eq_of_beq_eq_true h) hf9
       unfold rowTy at hrt; simp only [hu,Bool.or_eq_true,Bool.and_eq_true] at hrt
       rcases hrt with h | h
       · exact absurd (Nat.eq_of_beq_eq_true h) hf
       · exact ⟨Nat.eq_of_beq_eq_true h.1,Nat.eq_of_beq_eq_true h.2⟩)
     obtain ⟨g2,k2,s2⟩ := hrow2
     rw [List.append_nil] at k2 s2
     rw [hrl] at k2
     have hparts : (qs.toArray.map fun (i,x) => (i,a.eval x)).toList = (qs.zip ((qs.map (·.2)).map (Act.opd a.tmps))).map fun (p,u) => (p.1,u) := by
       rw [Array.toList_map,show a.eval = Act.opd a.tmps from funext (Act.eval_eq a)]
       exact zip_parts _ qs
     refine fits_value (w' := w.alloc (.cells cells' e)) ?_ (by simpa using k2) (by simpa using s1.trans s2)
     have hne : ¬ n * i.size > 2 ^ 24 := by omega
     have hfill : Instr.fill (fun j => some (j * i.size,i.size)) ((Array.range (n * i.size)).map (zv.cells[· % zv.cells.size]!)) (qs.toArray.map fun (i,x) => (i,a.eval x)).toList = some cells' := by rw [hparts,b1]; rw [b1] at f1; exact f1
     by_cases h0 : n * i.size = 0
     · have hn0 : n = 0 := by
         rcases Nat.mul_eq_zero.1 h0 with h | h
         · exact h
         · omega
       subst hn0
       have e0 : ∀ f : Nat → Value,(Array.range (0 * i.size)).map f = #[] := fun f => by rw [Nat.zero_mul]; apply Array.ext (by simp); simp
       rw [e0] at hfill
       have h00 : 0 * i.size = 0 := Nat.zero_mul _
       simp only [execOp,ho,Instr.buildSlice,Sem.run_bind,run_underlying hu,Result.andThen_ok,sizeOf,typeInfo,run_program,hi,Sem.run_pure,if_neg hne,if_pos h00,e0,hfill,newRow,run_newObj]
       rfl
     · simp only [execOp,ho,Instr.buildSlice,Sem.run_bind,run_underlying hu,Result.andThen_ok,sizeOf,typeInfo,run_program,hi,Sem.run_pure,if_neg hne,if_neg h0,z1,hfill,newRow,run_newObj]
       rfl
end
end Go.Proofs.YtkofimhnehkdoaaGreatDoor.Rf
end
section
namespace Go.Proofs.YtkofimhnehkdoaaGreatDoor.Rf
section
variable {P:Program} {G:Nat → Option (List AV)} {g g' : Gh} {st:St} {a:Act} {w w' : World} {o:Oper} {tm:Array Value} {ps:List (AV × Value)}
def optOk : Option Opd → Option Operand → Bool
 | none,none => true
 | some x,some y => opdOk x y
 | _,_ => false
theorem bound_read (k:Rel G g st ps tm w) {x:Option Opd} {y:Option Operand} (h:optOk x y = true) {d n:Nat} (hb:bound st.fr d x = some n) :
   (y = none ∧ n = d) ∨ ∃ z kk,y = some z ∧ Act.opd tm z = .int kk n := by
 cases x with
 | none => cases y <;> simp [optOk] at h; simp [bound] at hb; exact .inl ⟨rfl,hb.symm⟩
 | some x =>
   cases y with
   | none => simp [optOk] at h
   | some z =>
     right
     have hr := k.read (x := x) (o := z) h
     simp only [bound] at hb
     cases hv : (opd st.fr x).1 <;> rw [hv] at hb hr <;> simp at hb
     rename_i kk i
     obtain ⟨h1,h2⟩ := hb
     simp only [VX,V] at hr
     exact ⟨z,kk,rfl,by rw [hr]; congr 1; omega⟩
theorem run_bounds (isSlice:Bool) {len cap l h:Nat} {lo hi:Option Value} (hl:(lo = none ∧ l = 0) ∨ ∃ k,lo = some (.int k l)) (hh:(hi = none ∧ h = len) ∨ ∃ k,hi = some (.int k h)) (h1:l ≤ h) (h2:h ≤ cap) :
   (Instr.sliceBounds isSlice len cap lo hi none).run P w = .ok (l,h,cap) w := by
 have e1 : ∀ k c,(Instr.sliceBound (.int k l) h c).run P w = .ok l w := fun k c => by
   rw [run_sliceBound _ k l h c (by omega) (by omega)]; simp
 have e2 : ∀ k c,(Instr.sliceBound (.int k h) cap c).run P w = .ok h w := fun k c => by
   rw [run_sliceBound _ k h cap c (by omega) (by omega)]; simp
 rcases hl with ⟨rfl,rfl⟩ | ⟨kl,rfl⟩ <;> rcases hh with ⟨rfl,rfl⟩ | ⟨kh,rfl⟩ <;> simp [Instr.sliceBounds,e1,e2]
theorem opt_vals (k:Rel G g st ps a.tmps w) {x:Option Opd} {y:Option Operand} (h:optOk x y = true) {d n:Nat} (hb:bound st.fr d x = some n) :
   (y.map a.eval = none ∧ n = d) ∨ ∃ kk,y.map a.eval = some (.int kk n) := by
 rcases bound_read k h hb with ⟨rfl,e⟩ | ⟨z,kk,rfl,e⟩
 · exact .inl ⟨rfl,e⟩
 · exact .inr ⟨kk,by simp [Act.eval_eq,e]⟩
theorem fits_slcS (k:Rel G g st [] a.tmps w) {x:Opd} {y:Operand} (hx:opdOk x y = true) {l h:Option Opd} {l' h' : Option Operand} (hl:optOk l l' = true) (hh:optOk h h' = true) {t:TypeId} (hu:P.underlying t = some .string) (ho:o.op = .slice t y l' h' none)
   {s:List UInt8} (hv:(opd st.fr x).1 = .str s) {m n:Nat} (hm:bound st.fr 0 l = some m) (hn:bound st.fr s.length h = some n) (h1:m ≤ n) (h2:n ≤ s.length) : Fits P G g st (.val (.str ((s.take n).drop m)) st) o a w := by
 have hr := k.read hx; rw [hv] at hr; simp only [VX,V] at hr
 have hb := run_bounds (P := P) (w := w) false (opt_vals k hl hm) (opt_vals k hh hn) h1 h2
 refine fits_pure k (cv := .string ⟨((s.take n).drop m).toArray⟩) ?_ (VF_scalar rfl (by simp only [VX,V]) (by simp) (by simp))
 have hsz : (ByteArray.mk s.toArray).size = s.length := by simp [ByteArray.size]
 have e : (ByteArray.mk s.toArray).extract m n = ByteArray.mk ((s.take n).drop m).toArray := by
   rw [ByteArray.extract_mk,List.drop_take]
 simp [execOp,ho,Act.eval_eq,hr,Instr.sliceAt,Sem.run_bind,run_underlying hu,Instr.slice,hsz]
 have hb' := hb
 simp only [show a.eval = Act.opd a.tmps from funext (Act.eval_eq a)] at hb'
 simp [show a.eval = Act.opd a.tmps from funext (Act.eval_eq a),hb',e]
theorem VE.drop {sz:Nat} : ∀ {xs:List AV} {b off:Nat} (n:Nat),n ≤ xs.length → VE g w sz xs b off → VE g w sz (xs.drop n) b (off + n * sz)
 | xs,b,off,0,_,h => by simpa using h
 | [],b,off,n + 1,hn,_ => by simp at hn
 | x :: xs,b,off,n + 1,hn,h => by
   have := VE.drop (b := b) (off := off + sz) n (by simpa using hn) h.tail
   rw [show off + sz + n * sz = off + (n + 1) * sz by rw [Nat.succ_mul]; omega] at this
   simpa using this
theorem VE.take {sz:Nat} : ∀ {xs:List AV} {b off:Nat} (n:Nat),VE g w sz xs b off → VE g w sz (xs.take n) b off
 | xs,b,off,0,_ => by simp [VE]
 | [],b,off,n + 1,_ => by simp [VE]
 | x :: xs,b,off,n + 1,h => by
   have h0 := VE.get h (j := 0) (x := x) rfl
   rw [Nat.zero_mul,Nat.add_zero] at h0
   rw [List.take_succ_cons]
   exact VE.cons_mk h0.1 h0.2 (VE.take n h.tail)
theorem sliceOk_run {t:TypeId} {sz:Nat} (h:sliceOk P t sz = true) : ∃ e,P.underlying t = some (.slice e) ∧ ∀ w,(sizeOf e).run P w = .ok sz w := by
 unfold sliceOk at h
 cases hu : P.underlying t with
 | none => simp [hu] at h
 | some d =>
   cases d <;> simp [hu] at h
   rename_i e
   cases hi : P.info? e with
   | none => simp [hi] at h
   | some i => simp [hi] at h; exact ⟨e,rfl,fun w => by simp [sizeOf,typeInfo,hi,h]⟩
theorem fits_slcL (k:Rel G g st [] a.tmps w) {x:Opd} {y:Operand} (hx:opdOk x y = true) {l h:Option Opd} {l' h' : Option Operand} (hl:optOk l l' = true) (hh:optOk h h' = true) {t:TypeId} {sz:Nat} (hu:sliceOk P t sz = true) (ho:o.op = .slice t y l' h' none)
   {xs:List AV} {ow:Own} (hv:(opd st.fr x).1 = .list xs ow) (hsz:okSize sz xs = true) {m n:Nat} (hm:bound st.fr 0 l = some m) (hn:bound st.fr xs.length h = some n) (h1:m ≤ n) (h2:n ≤ xs.length) : Fits P G g st (.val (.list ((xs.take n).drop m) .no) st) o a w := by
 have hr := k.read hx; rw [hv] at hr; simp only [VX,V] at hr
 obtain ⟨A,c,r1,r2,r3,r4,r5,r6⟩ := hr
 obtain ⟨e,u1,u2⟩ := sliceOk_run hu
 have hb := run_bounds (P := P) (w := w) true (cap := c) (opt_vals k hl hm) (opt_vals k hh hn) h1 (by omega)
 have hb' := hb
 simp only [show a.eval = Act.opd a.tmps from funext (Act.eval_eq a)] at hb'
 have hlen : ((xs.take n).drop m).length = n - m := by simp; omega
 refine fits_pure k (cv := .slice (if c = m then A else A.map (·.add (m * sz))) (n - m) (c - m)) ?_ (VF_scalar rfl ?_ (by simp) (by simp))
 · simp [execOp,ho,Act.eval_eq,r1,Instr.sliceAt,Sem.run_bind,run_underlying u1,Instr.slice,show a.eval = Act.opd a.tmps from funext (Act.eval_eq a),hb',u2]
 · simp only [VX,V]
   refine ⟨_,c - m,by rw [hlen],by rw [hlen]; omega,by omega,⟨fun e => (by cases e),fun e => (by cases e)⟩,fun e => ?_,fun ad e => ?_⟩
   · split at e
     · omega
     · cases A with
       | none => have := r5 rfl; omega
       | some ad => simp at e
   · split at e
     · rename_i hc
       have h0 : n = m := by omega
       subst h0
       have hnil : (xs.take n).drop n = [] := by apply List.drop_eq_nil_of_le; simp; omega
       rw [hnil]
       exact ⟨fun hc => absurd hc (by simp; omega),fun hn => absurd rfl hn,sz,by simp [VE]⟩
     · cases A with
       | none => simp at e
       | some ad0 =>
         simp at e
         obtain ⟨s1,_,s',s2⟩ := r6 ad0 rfl
         replace s1 := s1 (.inr (by omega))
         have s3 := okSize_VE hsz s2
         subst e
         have h5 := VE.drop m (by simp; omega) (VE.take n s3)
         have e3 : ad0.add (m * sz) = { ad0 with off := ad0.off + m * sz } := by
           obtain ⟨b,q,sp⟩ := ad0
           simp only at s1; subst s1
           exact Addr.add_lit b q (m * sz)
         rw [e3]
         exact ⟨fun _ => s1,fun hn => absurd rfl hn,sz,h5⟩
def fieldOk2 (P:Program) (s:TypeId) (f off n:Nat) (agg:Bool) : Bool :=
 match P.underlying s with
 | some (.struct fs) => match fs[f]? with | some x => decide (x.offset = off) && tyOk P x.type n agg | none => false
 | _ => false
theorem fits_field (k:Rel G g st [] a.tmps w) {x:Opd} {y:Operand} (hx:opdOk x y = true) {s:TypeId} {f off n:Nat} {agg:Bool} (hf:fieldOk2 P s f off n agg = true) (ho:o.op = .field s y f)
   {cs l:List AV} (hv:(opd st.fr x).1 = .agg cs) (hl:cut cs off n = some l) : Fits P G g st (.val (ofCells agg (l.map AV.cp1)) st) o a w := by
 have hr := k.read hx; rw [hv] at hr; simp only [VX,V] at hr
 obtain ⟨vs,r1,r2,r3⟩ := hr
 obtain ⟨hn,hg⟩ := cut_get hl
 unfold fieldOk2 at hf
 cases hu : P.underlying s with
 | none => simp [hu] at hf
 | some d =>
   cases d <;> simp [hu] at hf
   rename_i fs
   cases hfx : fs[f]? with
   | none => simp [hfx] at hf
   | some fx =>
     simp [hfx] at hf
     obtain ⟨h1,h2⟩ := hf
     subst h1
     have hlen : fx.offset + n ≤ vs.length := by
       rw [r2.len]; unfold cut at hl; split at hl
       · assumption
       · cases hl
     have hus : VS g w l ((vs.drop fx.offset).take n) := by
       have e : l = (cs.drop fx.offset).take n := by unfold cut at hl; split at hl <;> simp at hl; exact hl.symm
       rw [e]; exact (r2.drop _).take _
     have hone : Ones ((vs.drop fx.offset).take n) := fun u hu => r3 u (List.mem_of_mem_drop (List.mem_of_mem_take hu))
     have hul : ((vs.drop fx.offset).take n).length = n := by simp; omega
     have hnn : agg = false → n = 1 := fun e => by
       subst e; unfold tyOk at h2
       cases hi : P.info? fx.type <;> cases hu : P.underlying fx.type <;> simp [hi,hu] at h2
       rename_i i d; cases d <;> simp_all
     refine fits_pure k (cv := if agg then .agg ((vs.drop fx.offset).take n).toArray else ((vs.drop fx.offset).take n).headD undef) ?_ (VF_ofCells hus.cp1 hone (fun e => by rw [hul]; exact hnn e) fun e c u e1 e2 => ?_)
     · have hp : (part fx.type vs.toArray fx.offset).run P w = .ok (if agg then .agg ((vs.drop fx.offset).take n).toArray else ((vs.drop fx.offset).take n).headD undef) w := by
         unfold tyOk at h2
         cases hi : P.info? fx.type with
         | none => simp [hi] at h2
         | some i =>
           cases hu : P.underlying fx.type with
           | none => simp [hi,hu] at h2
           | some d =>
             simp only [hi,hu,Bool.and_eq_true,decide_eq_true_eq] at h2
             obtain ⟨⟨h4,h0⟩,h3⟩ := h2
             have hagg : (isAgg fx.type).run P w = .ok agg w := by
               unfold isAgg
               rw [Sem.run_bind,run_underlying hu w]
               cases d <;> simp_all
             cases agg with
             | true =>
               simp [part,hagg,sizeOf,typeInfo,hi,h4]
             | false =>
               have hn1 := hnn rfl
               subst hn1
               have hget : vs[fx.offset]? = some vs[fx.offset] := List.getElem?_eq_getElem (by omega)
               have e1 : (vs.drop fx.offset).take 1 = [vs[fx.offset]] := by
                 rw [List.drop_eq_getElem_cons (by omega)]; rfl
               rw [e1]
               simp [part,hagg,hget]
       simp [execOp,ho,Act.eval_eq,Instr.field,Sem.run_bind,run_underlying hu,hfx,r1,asAgg,hp]
     · cases l with
       | nil => simp at e1
       | cons d r =>
         simp at e1; obtain ⟨rfl,_⟩ := e1
         have hv2 := hus
         rw [e2] at hv2
         simp only [VS] at hv2; obtain ⟨u',r',e,hv3,_⟩ := hv2; cases e
         exact Owns.cp1 (hv3.not_tup (hone u (by rw [e2]; simp)))
end
end Go.Proofs.YtkofimhnehkdoaaGreatDoor.Rf
end
section
namespace Go.Proofs.YtkofimhnehkdoaaGreatDoor.Rf
def Ret (G:Nat → Option (List AV)) (g:Gh) (w:World) (r:COut) : Ending → World → Prop
 | .returned cv,w' => ∃ g' v hp',r = .ret v hp' ∧ Rel G g' ⟨[],hp'⟩ [(v,cv)] #[] w' ∧ Stay g w g' w'
 | .panicked chain,w' => ∃ g' v hp' cv,r = .pan v hp' ∧ chain = [{ v := cv,recovered := false }] ∧ V g' w' v cv ∧ v.plain = true ∧ Rel G g' ⟨[],hp'⟩ [] #[] w' ∧ Stay g w g' w'
 | .outgrown,_ => False
def funOk (P:Program) (f:FuncId) : Bool :=
 match P.funcs[f]? with
 | some fn => fn.body.isSome && !(fn.name == "runtime.NumGoroutine")
 | none => false
def CallOK (P:Program) (G:Nat → Option (List AV)) (call:CallF) : Prop :=
 ∀ f vs hp lo q r g w (us:List Value),call f vs hp lo q = some r → us.length = vs.length → plains vs = true → Rel G g ⟨[],hp⟩ (vs.zip us) #[] w → funOk P f = true ∧ Calls P f us.toArray w (Ret G g w r)
section
variable {P:Program} {G:Nat → Option (List AV)} {g g' g1 g2 : Gh} {st:St} {a:Act} {w w' : World} {o:Oper} {tm:Array Value} {ps:List (AV × Value)}
def Tag.slp : Tag → Tag
 | .box (.fr _) => .out
 | .tail (.fr _) _ => .out
 | t => t
def Gh.slp (g:Gh) : Gh := { g with ow := fun b o => (g.ow b o).slp }
def Tag.nofr : Tag → Prop
 | .box (.fr _) => False
 | .tail (.fr _) _ => False
 | _ => True
theorem Tag.slp_nofr {t:Tag} (h:t.nofr) : t.slp = t := by
 cases t <;> try rfl
 case box r => cases r <;> first | rfl | exact h.elim
 case tail r i => cases r <;> first | rfl | exact h.elim
theorem same_slp (g:Gh) (w:World) : Same Tag.nofr g w g.slp w :=
 ⟨fun _ _ _ h => Tag.slp_nofr h,fun _ _ _ _ => rfl,fun _ _ _ _ _ => rfl,fun _ _ _ => rfl,fun _ _ _ h => h,fun _ => trivial,fun _ _ h => h⟩
theorem VF.to_empty {r:Root} {fr fr' : Fr} {tm tm' : Array Value} {v:AV} {cv:Value} (hp:v.plain = true) (h:VF g w fr tm r v cv) : VF g w fr' tm' r v cv := by
 have hl := AV.loose_of_plain hp
 rw [VF_loose hl,VX_plain hp] at h ⊢; exact h
theorem zip_get {α β:Type} {l:List α} {m:List β} {j:Nat} {x:α} {y:β} (h:(l.zip m)[j]? = some (x,y)) : l[j]? = some x ∧ m[j]? = some y := by
 rw [List.getElem?_zip_eq_some] at h; exact h
theorem Rel.sleep {vs:List AV} {us:List Value} (k:Rel G g st (vs.zip us) tm w) (hp:plains vs = true) : Rel G g.slp ⟨[],st.hp⟩ (vs.zip us) #[] w := by
 have sm := same_slp g w
 refine ⟨fun s => by simp [Fr.get,VF,VX,V,Owns],fun j v cv hj => ?_,k.hp.same sm trivial (fun _ => trivial) (fun _ _ => trivial) (fun _ _ _ => trivial) rfl,fun b o h => ?_,k.gl.same sm trivial trivial⟩
 · have hv : v.plain = true := by
     simp only [plains,List.all_eq_true] at hp
     exact hp v (List.mem_of_getElem? (zip_get hj).1)
   have f := VF.to_empty (fr' := []) (tm' := #[]) hv (k.ps j v cv hj)
   exact VF.same (r := .arg j) sm trivial (fun t cs h => by simp [Fr.get] at h) (fun _ => trivial) trivial rfl f
 · show (g.ow b o).slp = _; rw [k.fresh b o h]; rfl
def Gh.wake (g1 g' : Gh) (n:Nat) : Gh :=
 { ow := fun b o => if b < n ∧ (g1.ow b o).slp ≠ g1.ow b o then g1.ow b o else g'.ow b o
   hb := g'.hb
   bx := fun x => match x with | .fr s => g1.bx (.fr s) | x => g'.bx x }
def Tag.front : Tag → Prop
 | .out | .imm | .elt | .box (.fr _) | .tail (.fr _) _ => True
 | _ => False
theorem wake_same (s:Stay g1.slp w g' w') : Same Tag.front g1 w (g1.wake g' w.heap.size) w' := by
 have hk : ∀ b o,(g1.ow b o).front → (g1.slp.ow b o).kept := fun b o h => by
   show ((g1.ow b o).slp).kept
   revert h; cases g1.ow b o <;> simp only [Tag.front,Tag.slp,Tag.kept] <;> try exact id
   case box r => cases r <;> simp [Tag.front,Tag.slp,Tag.kept]
   case tail r i => cases r <;> simp [Tag.front,Tag.slp,Tag.kept]
 have hne : ∀ b o,g1.ow b o ≠ .elt → g1.slp.ow b o ≠ .elt := fun b o h => by
   show (g1.ow b o).slp ≠ .elt
   revert h; cases g1.ow b o <;> simp only [Tag.slp] <;> try (intro h; exact h)
   case box r => cases r <;> simp [Tag.slp]
   case tail r i => cases r <;> simp [Tag.slp]
 refine ⟨fun b o hl h => ?_,fun b o hl h => s.cell b o hl (hk b o h),fun b o hl h hn => s.frz b o hl (hk b o h) (hne b o hn),fun b hl h => s.blk b hl fun o => ⟨hk b o (h o).1,hne b o (h o).2⟩,s.row,fun _ => trivial,s.hb⟩
 simp only [Gh.wake]
 split
 · rfl
 · rename_i hn
   have e := s.ow b o hl (hk b o h)
   have e2 : (g1.ow b o).slp = g1.ow b o := by
     by_cases e3 : (g1.ow b o).slp = g1.ow b o
     · exact e3
     · exact absurd ⟨hl,e3⟩ hn
   rw [e]; exact e2
theorem wake_same' (s:Stay g1.slp w g' w') : Same (fun t => t ≠ .out) g' w' (g1.wake g' w.heap.size) w' := by
 refine ⟨fun b o hl h => ?_,fun _ _ _ _ => rfl,fun _ _ _ _ _ => rfl,fun _ _ _ => rfl,fun _ _ _ h => h,fun _ => by simp,fun _ _ h => h⟩
 simp only [Gh.wake]
 split
 · rename_i hc
   have hk : (g1.slp.ow b o).kept := by
     show ((g1.ow b o).slp).kept
     have h2 := hc.2
     revert h2; cases g1.ow b o <;> simp only [Tag.slp,Tag.kept] <;> try (intro h; exact absurd rfl h)
     case box r => cases r <;> simp [Tag.slp,Tag.kept]
     case tail r i => cases r <;> simp [Tag.slp,Tag.kept]
   have e := s.ow b o hc.1 hk
   have e3 : g1.slp.ow b o = .out := by
     show (g1.ow b o).slp = .out
     have h2 := hc.2
     revert h2; cases g1.ow b o <;> simp only [Tag.slp] <;> try (intro h; exact absurd rfl h)
     case box r => cases r <;> simp [Tag.slp]
     case tail r i => cases r <;> simp [Tag.slp]
   exact absurd (e.trans e3) h
 · rfl
theorem Rel.back {vs:List AV} {us:List Value} {hp' : List HObj} (k:Rel G g1 st (vs.zip us) tm w) (s:Stay g1.slp w g' w') {qs:List (AV × Value)} (k' : Rel G g' ⟨[],hp'⟩ qs #[] w') :
   Rel G (g1.wake g' w.heap.size) ⟨st.fr,hp'⟩ qs tm w' ∧ Stay g1 w (g1.wake g' w.heap.size) w' := by
 have s1 := wake_same s
 have s2 := wake_same' s
 refine ⟨⟨fun t => ?_,fun j v cv hj => ?_,?_,fun b o hb => ?_,?_⟩,?_⟩
 · exact VF.same (r := .fr t) s1 trivial (fun u cs _ => rfl) (fun _ => trivial) trivial rfl (k.fr t)
 · have f := (k'.ps j v cv hj).same s2 (by simp) (fun t cs h => by simp [Fr.get] at h) (fun i => by simp) (by simp) rfl
   exact VF.like ⟨fun t cs h => by simp [Fr.get] at h,fun t xs sz h => by simp [Fr.get] at h⟩ f
 · exact k'.hp.same s2 (by simp) (fun _ => by simp) (fun _ _ => by simp) (fun _ _ _ => by simp) rfl
 · simp only [Gh.wake]; rw [if_neg (fun h => by have := s.size; omega)]; exact k'.fresh b o hb
 · exact k.gl.same s1 trivial trivial
 · exact { ow := fun b o hl h => s1.ow b o hl (by revert h; cases g1.ow b o <;> simp [Tag.kept,Tag.front])
           cell := fun b o hl h => s1.cell b o hl (by revert h; cases g1.ow b o <;> simp [Tag.kept,Tag.front])
           frz := fun b o hl h hn => s1.frz b o hl (by revert h; cases g1.ow b o <;> simp [Tag.kept,Tag.front]) hn
           blk := fun b hl h => s1.blk b hl fun o => ⟨by have := (h o).1; revert this; cases g1.ow b o <;> simp [Tag.kept,Tag.front],(h o).2⟩
           row := s1.row,te := fun _ => trivial
           hb := s1.hb,os := s.os,tape := s.tape,output := s.output,size := s.size }
def COut.op (fr:Fr) : COut → OpR
 | .ret v hp => .val v ⟨fr,hp⟩
 | .pan v hp => .pan v ⟨fr,hp⟩
theorem fits_call {call:CallF} (hc:CallOK P G call) (k:Rel G g st [] a.tmps w) {f:Opd} {xs:List Opd} {f' : Operand} {os:List Operand} (hf:opdOk f f' = true) (hx:opdsOk xs os = true) {ts:Array TypeId} (ho:o.op = .call { callee := .value f',args := os.toArray,argTypes := ts })
   (hp:plains (opds st.fr xs).1 = true) {fid:Nat} {caps:List AV} (hv:(opd (opds st.fr xs).2 f).1 = .func fid caps) (hpc:plains caps = true) {lo:Nat} {q:Bool} {r:COut} (hr:call fid ((opds st.fr xs).1 ++ caps.map AV.cp) st.hp lo q = some r) :
   Fits P G g st (r.op (opds st.fr xs).2) o a w := by
 obtain ⟨g1,k1,s1,hb1,hl⟩ := k.takes hx
 simp only [List.nil_append] at k1
 have hrd := k1.read hf
 simp only at hrd
 rw [hv] at hrd; simp only [VX,V] at hrd
 obtain ⟨cvs,h1,h2⟩ := hrd
 have hcv : VS g1 w (caps.map AV.cp) cvs := h2.cpAll
 -- the captured ones are laid beside
 have push : ∀ (cs:List AV) (cvs:List Value) (vs:List AV) (us:List Value),vs.length = us.length → plains cs = true → VS g1 w cs cvs → (∀ c,c ∈ cs → ∃ d : AV,c = d.cp) → Rel G g1 { st with fr := (opds st.fr xs).2 } (vs.zip us) a.tmps w → Rel G g1 { st with fr := (opds st.fr xs).2 } ((vs ++ cs).zip (us ++ cvs)) a.tmps w := by
   intro cs
   induction cs with
   | nil => intro cvs vs us hl _ hv _ k; simp only [VS] at hv; subst hv; simpa using k
   | cons c cs ih =>
     intro cvs vs us hl hp hv hd k
     simp only [VS] at hv; obtain ⟨u,r,rfl,h3,h4⟩ := hv
     simp only [plains,List.all_cons,Bool.and_eq_true] at hp
     have k2 := k.push (v := c) (cv := u) (by
       obtain ⟨d,rfl⟩ := hd c (by simp)
       rw [VF_loose (AV.loose_of_plain hp.1),VX_plain hp.1]; exact ⟨h3,Owns.cp⟩)
     have e : (vs ++ [c]).zip (us ++ [u]) = vs.zip us ++ [(c,u)] := by rw [List.zip_append hl]; rfl
     rw [← e] at k2
     have := ih r (vs ++ [c]) (us ++ [u]) (by simp [hl]) hp.2 h4 (fun x hx => hd x (by simp [hx])) k2
     simpa using this
 have hplc : plains (caps.map AV.cp) = true := by
   simp only [plains,List.all_eq_true] at hpc ⊢
   intro c hc; simp only [List.mem_map] at hc; obtain ⟨d,hd,rfl⟩ := hc; exact plain_cp (hpc d hd)
 have k2 := push _ cvs _ _ (by simpa using hl) hplc hcv (fun c hc => by simp only [List.mem_map] at hc; obtain ⟨d,_,rfl⟩ := hc; exact ⟨d,rfl⟩) k1
 have hpl : plains ((opds st.fr xs).1 ++ caps.map AV.cp) = true := by
   simp only [plains,List.all_append,Bool.and_eq_true] at hp hplc ⊢; exact ⟨hp,hplc⟩
 obtain ⟨hok,hcall⟩ := hc fid _ st.hp lo q r g1.slp w (os.map (Act.opd a.tmps) ++ cvs) hr (by simp [hl,hcv.len]) hpl (k2.sleep hpl)
 intro next Q hn hq
 have hrun : (execOp a.eval o).run P w = .ok (.enter fid (os.map (Act.opd a.tmps) ++ cvs).toArray) w := by
   unfold funOk at hok
   cases hfn : P.funcs[fid]? with
   | none => simp [hfn] at hok
   | some fn =>
     simp [hfn] at hok
     obtain ⟨b1,b2⟩ := hok
     cases hbd : fn.body with
     | none => simp [hbd] at b1
     | some bd => simp [execOp,ho,resolve,Deferred.ofValue,show a.eval = Act.opd a.tmps from funext (Act.eval_eq a),h1,invoke,callFunc,hfn,b2,hbd]
 unfold Oper.wp; rw [hrun,Oper.upon_enter]
 refine Calls.mono hcall fun e w1 hR => ?_
 cases e with
 | returned cv =>
   obtain ⟨g',v,hp',rfl,k3,s3⟩ := hR
   obtain ⟨k4,s4⟩ := k2.back s3 k3
   exact hn _ w1 v _ cv rfl k4 (s1.trans s4)
 | panicked chain =>
   obtain ⟨g',v,hp',cv,rfl,rfl,hvv,hpv,k3,s3⟩ := hR
   obtain ⟨k4,s4⟩ := k2.back s3 k3
   exact hq _ w1 v _ cv rfl (V.mono ((wake_same' s3).ext (by simp)) _ _ hvv) hpv k4 (s1.trans s4)
 | outgrown => exact hR.elim
end
end Go.Proofs.YtkofimhnehkdoaaGreatDoor.Rf
end
section
namespace Go.Proofs.YtkofimhnehkdoaaGreatDoor.Rf
section
variable {P:Program} {G:Nat → Option (List AV)} {g g' : Gh} {st:St} {a:Act} {w w' : World} {o:Oper} {tm:Array Value} {ps:List (AV × Value)}
theorem fits_sdata_nil (k:Rel G g st [] a.tmps w) {x:Opd} {x' : Operand} (hx:opdOk x x' = true) {ts:Array TypeId} (ho:o.op = .call { callee := .builtin .unsafeSliceData,args := #[x'],argTypes := ts })
   {xs:List AV} (h:(opd st.fr x).1 = .list xs .nil) : Fits P G g st (.val .nilp st) o a w := by
 have h1 := k.read hx; rw [h] at h1; simp only [VX,V] at h1
 obtain ⟨A,c,e1,e2,e3,e4,e5,e6⟩ := h1
 have hA : A = none := e4.1 trivial
 subst hA
 have hr := Lib.run_unsafeSliceData_nil (P := P) w ts o.type xs.length c
 refine fits_pure k (cv := .pointer none) ?_ (VF_scalar rfl (by simp only [VX,V]) (by simp) (by simp))
 simp [execOp,ho,resolve,Act.eval_eq,invoke,builtin,e1,hr]
theorem fits_sdata (k:Rel G g st [] a.tmps w) {x:Opd} {x' : Operand} (hx:opdOk x x' = true) {ts:Array TypeId} (ho:o.op = .call { callee := .builtin .unsafeSliceData,args := #[x'],argTypes := ts })
   {xs:List AV} {e:Nat} (h:(opd st.fr x).1 = .list xs (.view e)) (hxs:xs ≠ []) (he:e ≠ 0) (hs:okSize 1 xs = true) : Fits P G g st (.val (.data xs e) st) o a w := by
 have h1 := k.read hx; rw [h] at h1; simp only [VX,V] at h1
 obtain ⟨A,c,e1,e2,e3,e4,e5,e6⟩ := h1
 have hlen := List.length_pos_iff.2 hxs
 cases A with
 | none => have := e5 rfl; omega
 | some ad =>
   obtain ⟨_,f2,sz,f3⟩ := e6 ad rfl
   have hv := f2 he
   have hE := okSize_VE hs f3
   have hr := Lib.run_unsafeSliceData_row (P := P) w ts o.type ad xs.length c (by omega)
   refine fits_pure k (cv := .pointer (some ad)) ?_ (VF_scalar rfl ?_ (by simp) (by simp))
   · simp [execOp,ho,resolve,Act.eval_eq,invoke,builtin,e1,hr]
   · simp only [VX]
     exact ⟨ad,rfl,hv,by rw [hv.1] at hE; exact hE⟩
theorem bytesOf_cells {b:Nat} : ∀ {xs:List AV} {bs:List UInt8} {off:Nat},bytesOf xs = some bs → VE g w 1 xs b off → bs.length = xs.length ∧ ∀ (j:Nat) x,bs[j]? = some x → w.cell? ⟨b,off + j,none⟩ = some (.int .u8 x.toNat)
 | [],bs,off,h,_ => by simp [bytesOf] at h; subst h; simp
 | v :: r,bs,off,h,hv => by
   cases v <;> try (simp [bytesOf] at h; done)
   rename_i k n
   cases k <;> try (simp [bytesOf] at h; done)
   simp only [bytesOf] at h
   split at h
   · rename_i hn
     cases hr : bytesOf r with
     | none => rw [hr] at h; simp at h
     | some cs =>
       rw [hr] at h; simp at h; subst h
       simp only [VE] at hv
       obtain ⟨⟨_,_,cv,c1,_,c2⟩,hv2⟩ := hv
       obtain ⟨i1,i2⟩ := bytesOf_cells hr hv2
       refine ⟨by simp [i1],fun j x hj => ?_⟩
       cases j with
       | zero =>
         simp at hj; subst hj
         simp only [V] at c2
         rw [Nat.add_zero,c1,c2]
         congr 2
         have : n.toNat < 256 := by omega
         simp [UInt8.toNat_ofNat',Nat.mod_eq_of_lt this]; omega
       | succ j =>
         simp at hj
         have := i2 j x hj
         rwa [show off + 1 + j = off + (j + 1) by omega] at this
   · cases h
theorem heap_freeze (w:World) (b n:Nat) (k:Nat) {cs:Array Value} {e hi:Nat} (h:w.heap[b]? = some (.cells cs e (0,hi))) (hn:n ≠ 0) : (w.freeze ⟨b,0,none⟩ n).heap[k]? = if k = b then some (.cells cs e (0,max hi n)) else w.heap[k]? := by
 unfold World.freeze
 rw [if_neg hn]
 simp only [Array.getElem?_modify]
 by_cases hk : b = k
 · subst hk
   simp only [if_true,h,Option.map_some]
   by_cases hz : (0 == hi) = true
   · have : hi = 0 := (beq_iff_eq.1 hz).symm
     subst this; simp
   · simp [hz]
 · rw [if_neg hk,if_neg (fun e => hk e.symm)]
theorem size_freeze (w:World) (p:Addr) (n:Nat) : (w.freeze p n).heap.size = w.heap.size := by
 unfold World.freeze; split <;> simp
theorem Rel.freeze (k:Rel G g st ps tm w) {m e:Nat} {ad:Addr} (hv:View g w m e ad) (hm:m ≠ 0) : Rel G g st ps tm (w.freeze ad m) ∧ Stay g w g (w.freeze ad m) := by
 obtain ⟨h1,h2,⟨n,⟨cs,hi,h3,h3'⟩,h4⟩,h5⟩ := hv
 obtain ⟨b,q,sp⟩ := ad
 simp only at h1 h2 h3 h5; subst h1; subst h2
 have hh := fun k => heap_freeze w b m k h3 hm
 have hsize := size_freeze w ⟨b,0,none⟩ m
 have hos : (w.freeze ⟨b,0,none⟩ m).os = w.os ∧ (w.freeze ⟨b,0,none⟩ m).tape = w.tape ∧ (w.freeze ⟨b,0,none⟩ m).output = w.output := by
   unfold World.freeze; rw [if_neg hm]; exact ⟨rfl,rfl,rfl⟩
 generalize w.freeze ⟨b,0,none⟩ m = w' at *
 have cel : ∀ c o,w'.cell? ⟨c,o,none⟩ = w.cell? ⟨c,o,none⟩ := fun c o => by
   by_cases hc : c = b
   · subst hc; simp only [World.cell?,hh,if_true,h3]
   · exact cell?_of_block' (by rw [hh,if_neg hc])
 have frz : ∀ c o,g.ow c o ≠ .elt → w'.frozen? ⟨c,o,none⟩ = w.frozen? ⟨c,o,none⟩ := fun c o hn => by
   by_cases hc : c = b
   · subst hc
     have ho : m ≤ o := by
       refine Classical.byContradiction fun hlt => hn (h5 o (by omega))
     simp only [World.frozen?,hh,if_true,h3]
     simp; omega
   · exact frozen?_of_block' (by rw [hh,if_neg hc])
 have blk : ∀ c,(∀ o,g.ow c o ≠ .elt) → w'.heap[c]? = w.heap[c]? := fun c hn => by
   rw [hh,if_neg fun e => ?_]
   subst e; exact hn 0 (h5 0 (by omega))
 have row : ∀ c e n,Row0 w c e n → Row0 w' c e n := fun c e n ⟨ds,hj,r1,r2⟩ => by
   by_cases hc : c = b
   · subst hc; rw [h3] at r1; cases r1
     exact ⟨cs,max hi m,by rw [hh,if_pos rfl],r2⟩
   · exact ⟨ds,hj,by rw [hh,if_neg hc]; exact r1,r2⟩
 have sm : Same (fun _ => True) g w g w' := ⟨fun _ _ _ _ => rfl,fun c o _ _ => cel c o,fun c o _ _ hn => frz c o hn,fun c _ hn => blk c fun o => (hn o).2,row,fun _ => trivial,fun _ _ h => h⟩
 refine ⟨k.same sm rfl (fun _ => rfl) (fun c o hb => k.fresh c o (by omega)),?_⟩
 exact { ow := fun _ _ _ _ => rfl,cell := fun c o _ _ => cel c o,frz := fun c o _ _ hn => frz c o hn,blk := fun c _ hn => blk c fun o => (hn o).2,row := row,te := fun _ => trivial,hb := fun _ _ h => h,os := hos.1,tape := hos.2.1,output := hos.2.2,size := by omega }
theorem fits_ustr_nil (k:Rel G g st [] a.tmps w) {p n:Opd} {p' n' : Operand} (hp:opdOk p p' = true) (hn:opdOk n n' = true) {pt it:TypeId} (ho:o.op = .call { callee := .builtin .unsafeString,args := #[p',n'],argTypes := #[pt,it] })
   (h1:(opd st.fr p).1 = .nilp) (h2:(opd st.fr n).1 = .int .i64 0) : Fits P G g st (.val (.str []) st) o a w := by
 have r1 := k.read hp; rw [h1] at r1; simp only [VX,V] at r1
 have r2 := k.read hn; rw [h2] at r2; simp only [VX,V] at r2
 have hr := Lib.run_unsafeString_none (P := P) w pt it o.type none
 refine fits_pure k (cv := .string ⟨#[]⟩) ?_ (VF_scalar rfl (by simp only [VX,V]) (by simp) (by simp))
 simp [execOp,ho,resolve,Act.eval_eq,invoke,builtin,r1,r2,hr]; rfl
theorem fits_ustr (k:Rel G g st [] a.tmps w) {p n:Opd} {p' n' : Operand} (hp:opdOk p p' = true) (hn:opdOk n n' = true) {pt it e:TypeId} (ht:P.underlying pt = some (.pointer e)) (hc:P.cellsOf e = 1) (ho:o.op = .call { callee := .builtin .unsafeString,args := #[p',n'],argTypes := #[pt,it] })
   {xs:List AV} {bs:List UInt8} (h1:(opd st.fr p).1 = .data xs e) (h2:(opd st.fr n).1 = .int .i64 xs.length) (hb:bytesOf xs = some bs) (h0:xs ≠ []) (h63:xs.length ≤ 9223372036854775807) : Fits P G g st (.val (.str bs) st) o a w := by
 have r1 := k.read hp; rw [h1] at r1; simp only [VX] at r1
 have r2 := k.read hn; rw [h2] at r2; simp only [VX,V] at r2
 obtain ⟨ad,e1,hv,hE⟩ := r1
 obtain ⟨hl,hcell⟩ := bytesOf_cells hb hE
 have hm : xs.length ≠ 0 := by simpa using h0
 obtain ⟨k2,s2⟩ := k.freeze hv hm
 obtain ⟨v1,v2,⟨m,⟨cs,hi,v3,v3'⟩,v4⟩,v5⟩ := hv
 obtain ⟨b,q,sp⟩ := ad
 simp only at v1 v2 v3 hcell k2 s2; subst v1; subst v2
 have hsh : w.shape? b = some (e,cs.size) := by unfold World.shape?; rw [v3]
 have hr := Lib.run_unsafeString_row (P := P) w pt it o.type e ht hc b cs.size hsh bs (by intro h; rw [h] at hl; simp at hl; exact hm hl.symm) (by omega) (by omega) (fun j x hj => by rw [Addr.add_lit]; exact hcell j x hj)
 rw [hl] at hr
 refine fits_value (w' := w.freeze ⟨b,0,none⟩ xs.length) (g' := g) (cv := .string ⟨bs.toArray⟩) ?_ (k2.push0 (VF_scalar rfl (by simp only [VX,V]) (by simp) (by simp))) s2
 simp [execOp,ho,resolve,Act.eval_eq,invoke,builtin,e1,r2,hr]
def uptrOk (P:Program) (s d u n:TypeId) : Bool :=
 (match P.underlying s,P.underlying d with
  | some (.pointer t),some .unsafePointer => (match P.info? t with | some i => Nat.blt 0 i.size | none => false)
  | some .unsafePointer,some (.pointer t) => Nat.beq t u && (P.info? t).isSome && liesAt P P.depth u (n / P.cellsOf u) 0 u 1
  | _,_ => false)
theorem fits_uptr (k:Rel G g st [] a.tmps w) {x:Opd} {x' : Operand} (hx:opdOk x x' = true) {s d:TypeId} {u n:Nat} (hs:uptrOk P s d u n = true) (ho:o.op = .convert s d x') {i:Nat} (h:(opd st.fr x).1 = .ptr i 0)
   {cs:List AV} (hh:st.hp[i]? = some (.cells u cs)) (hu:u ≠ 0) (hn:cs.length = n) (h0:cs ≠ []) : Fits P G g st (.val (.ptr i 0) st) o a w := by
 have r1 := k.read hx; rw [h] at r1; simp only [VX,V] at r1
 obtain ⟨b,e1,e2⟩ := r1
 obtain ⟨b',f1,f2,f3⟩ := k.hp.obj i _ hh rfl
 rw [e1] at f1; cases f1
 simp only [ObjRel] at f3
 obtain ⟨vs,sp,ty,f4,f5,_,f6⟩ := f3
 obtain ⟨hty,hsp⟩ := f6 hu; subst hty; subst hsp; rw [List.append_nil] at f4
 have hlen := f5.1.len
 have hpos := List.length_pos_iff.2 h0
 have hsh : w.shape? b = some (ty,n) := by unfold World.shape?; rw [f4]; simp; omega
 refine fits_pure k (cv := .pointer (some ⟨b,0,none⟩)) ?_ (VF_scalar rfl (by simp only [VX,V]; exact ⟨b,e1,rfl⟩) (by simp) (by simp))
 unfold uptrOk at hs
 have hconv : (convert s d (.pointer (some ⟨b,0,none⟩))).run P w = .ok (.pointer (some ⟨b,0,none⟩)) w := by
   split at hs
   · rename_i t h1 h2
     cases hi : P.info? t with
     | none => simp [hi] at hs
     | some j =>
       simp [hi] at hs
       exact Lib.run_to_unsafe w ⟨b,0,none⟩ h1 h2 hi (by omega) hsh (by simp only; omega)
   · rename_i t h1 h2
     simp only [Bool.and_eq_true] at hs
     have ht := Nat.eq_of_beq_eq_true hs.1.1
     subst ht
     obtain ⟨j,hj⟩ := Option.isSome_iff_exists.1 hs.1.2
     exact Lib.run_from_unsafe w ⟨b,0,none⟩ h1 h2 hj hsh hs.2
   · cases hs
 simp [execOp,ho,Act.eval_eq,e2,hconv]
theorem noEscape_find {fn : Func} (h : fn.name = "internal/abi.NoEscape") : Extern.find fn = some Extern.AbiNoEscape.same := by
 have h1 : ∀ (a b c : Array TypeId), (((Extern.allGenericRows.lookup "internal/abi.NoEscape").map (· a b c)) <|> ((Extern.allTypedRows.lookup "internal/abi.NoEscape").map (· b c)) <|> Extern.allRows.lookup "internal/abi.NoEscape") = some Extern.AbiNoEscape.same := by
   intro a b c; kernel_rfl
 unfold Extern.find
 rw [h]
 simp only [h1]
 rfl
def identOk (P:Program) (f:FuncId) : Bool :=
 match P.funcs[f]? with
 | some fn => !(fn.name == "runtime.NumGoroutine") && fn.body.isNone && (Extern.findNext fn).isNone && fn.name == "internal/abi.NoEscape"
 | none => false
theorem fits_ident (k : Rel G g st [] a.tmps w) {f : FuncId} {fn : Func} (hf : P.funcs[f]? = some fn) (h1 : (fn.name == "runtime.NumGoroutine") = false) (h2 : fn.body.isNone = true) (h3 : Extern.findNext fn = none) (h4 : Extern.find fn = some Extern.AbiNoEscape.same)
   {x:Opd} {x' : Operand} (hx:opdOk x x' = true) {ts:Array TypeId} (ho:o.op = .call { callee := .value (.func f),args := #[x'],argTypes := ts }) {i j:Nat} (h:(opd st.fr x).1 = .ptr i j) : Fits P G g st (.val (.ptr i j) st) o a w := by
 have r1 := k.read hx; rw [h] at r1; simp only [VX,V] at r1
 obtain ⟨b,e1,e2⟩ := r1
 have hr := run_callFunc_extern hf h1 h2 h3 h4 #[Value.pointer (some ⟨b,j,none⟩)] w
 rw [Lib.run_noEscape] at hr
 simp only [Result.andThen_ok] at hr
 refine fits_pure k (cv := .pointer (some ⟨b,j,none⟩)) ?_ (VF_scalar rfl (by simp only [VX,V]; exact ⟨b,e1,rfl⟩) (by simp) (by simp))
 have e3 : Act.opd a.tmps (.func f) = Value.func (.func f) #[] #[] := rfl
 simp [execOp,ho,resolve,Deferred.ofValue,show a.eval = Act.opd a.tmps from funext (Act.eval_eq a),e3,e2,invoke,hr]
def mksliceOk (P:Program) (t:TypeId) (z:AV) (bytes:Nat) : Bool :=
 match P.underlying t with
 | some (.slice e) => (match P.info? e with | some i => decide (i.size = z.cells.length) && decide (0 < i.size) && decide (i.bytes = bytes) | none => false) && zeroOk P e z.cells
 | _ => false
theorem fits_mkslice (k:Rel G g st [] a.tmps w) {t:TypeId} {z:AV} {f bytes:Nat} (hb:mksliceOk P t z bytes = true) (hrt:rowTy P t z.cells.length f = true) {n c:Opd} {n' c' : Operand} (hn:opdOk n n' = true) (hc:opdOk c c' = true) (ho:o.op = .makeSlice t n' c')
   {l m:Int} (h1:(opd st.fr n).1 = .int .i64 l) (h2:(opd st.fr c).1 = .int .i64 m) (h0:0 ≤ l) (hlm:l ≤ m) (hby:m.toNat * bytes ≤ 140737488355328) (h63:m ≤ 9223372036854775807) : Fits P G g st (.val (.list (List.replicate l.toNat z) (.own z.cells.length f)) st) o a w := by
 have r1 := k.read hn; rw [h1] at r1; simp only [VX,V] at r1
 have r2 := k.read hc; rw [h2] at r2; simp only [VX,V] at r2
 unfold mksliceOk at hb
 cases hu : P.underlying t with
 | none => simp [hu] at hb
 | some d =>
   cases d <;> simp [hu] at hb
   rename_i e
   obtain ⟨hb1,hb2⟩ := hb
   cases hi : P.info? e with
   | none => simp [hi] at hb1
   | some i =>
     simp [hi] at hb1
     obtain ⟨⟨b1,b2⟩,b3⟩ := hb1
     obtain ⟨zv,z1,z2,z3⟩ := zeroOk_run hb2
     have hz : i.zero = some zv := by
       have := z1 w
       cases hz : i.zero with
       | none => simp [zeroValue,typeInfo,hi,hz] at this
       | some u => simp [zeroValue,typeInfo,hi,hz] at this; rw [this]
     have hzs : VS g w z.cells zv.cells.toList := VS.of_same _ _ z2
     have hzl : zv.cells.size = i.size := by rw [b1,← hzs.len]; simp
     have hby2 : (i.bytes : Int) * m ≤ 281474976710656 := by
       have hq : (i.bytes : Int) * m = ((m.toNat * bytes : Nat) : Int) := by
         rw [b3,Int.natCast_mul,Int.toNat_of_nonneg (by omega),Int.mul_comm]
       omega
     have hr := run_make (P := P) w t e i zv hu hi hz .i64 .i64 l m h0 hlm hby2 h63
     have hcells : (madeCells zv.cells (m.toNat * i.size)).toList = (List.replicate l.toNat zv.cells.toList).flatten ++ (List.replicate (m.toNat - l.toNat) zv.cells.toList).flatten := by
       have e1 := range_cells zv.cells (by omega) m.toNat
       have e2 : (madeCells zv.cells (m.toNat * i.size)).toList = (List.replicate m.toNat zv.cells.toList).flatten := by
         rw [← e1,← hzl]; simp [madeCells]
       rw [e2,← List.flatten_append,List.replicate_append_replicate]; congr 2; omega
     have hones : ∀ n,Ones (List.replicate n zv.cells.toList).flatten := by
       intro n u hu; simp only [List.mem_flatten,List.mem_replicate] at hu
       obtain ⟨l,⟨_,rfl⟩,hu⟩ := hu; exact z3 u hu
     have hrow := RowR.rep (sz := z.cells.length) rfl hzs l.toNat
     obtain ⟨g2,k2,s2⟩ := (k.push0 (v := .tup []) (cv := undef) VF_undef).newrow (e := e) (f := f) (C := m.toNat) (rest := (List.replicate (m.toNat - l.toNat) zv.cells.toList).flatten) (hrow.lay (hones _))
       (by simp [List.length_flatten,hzl,b1]) (by simp; omega) (by omega) (fun hf => by
         unfold rowTy at hrt; simp only [hu,Bool.or_eq_true,Bool.and_eq_true] at hrt
         rcases hrt with h | h
         · exact absurd (Nat.eq_of_beq_eq_true h) hf
         · exact ⟨Nat.eq_of_beq_eq_true h.1,Nat.eq_of_beq_eq_true h.2⟩)
     rw [← hcells] at k2 s2
     refine fits_value (cv := .slice (some ⟨w.heap.size,0,none⟩) l.toNat m.toNat) ?_ (by simpa using k2) (by simpa using s2)
     simp [execOp,ho,Act.eval_eq,r1,r2,hr]
end
end Go.Proofs.YtkofimhnehkdoaaGreatDoor.Rf
end
section
namespace Go.Proofs.YtkofimhnehkdoaaGreatDoor.Rf
section
variable {P:Program} {G:Nat → Option (List AV)} {g g' : Gh} {st:St} {a:Act} {w w' : World} {o:Oper} {tm:Array Value} {ps:List (AV × Value)}
theorem VS.rep {cs:List AV} {vs:List Value} (h:VS g w cs vs) : ∀ n,VS g w (List.replicate n cs).flatten (List.replicate n vs).flatten
 | 0 => by simp [VS]
 | n + 1 => by
   rw [List.replicate_succ,List.replicate_succ,List.flatten_cons,List.flatten_cons]
   exact VS.append h (VS.rep h n)
theorem sames_rep {cs:List AV} {vs:List Value} (h:sames cs vs = true) : ∀ n,sames (List.replicate n cs).flatten (List.replicate n vs).flatten = true
 | 0 => by simp [sames]
 | n + 1 => by
   rw [List.replicate_succ,List.replicate_succ,List.flatten_cons,List.flatten_cons]
   have happ : ∀ {as:List AV} {us:List Value},sames as us = true → ∀ {bs:List AV} {xs:List Value},sames bs xs = true → sames (as ++ bs) (us ++ xs) = true := by
     intro as
     induction as with
     | nil => intro us h bs xs k; cases us <;> simp [sames] at h; simpa using k
     | cons x as ih =>
       intro us h bs xs k
       cases us with
       | nil => simp [sames] at h
       | cons u us => simp only [sames,Bool.and_eq_true,List.cons_append] at h ⊢; exact ⟨h.1,ih h.2 k⟩
   exact happ h (sames_rep h n)
theorem fits_mkbuf (k:Rel G g st [] a.tmps w) {t:TypeId} {z:AV} {f bytes:Nat} (hb:mksliceOk P t z bytes = true) (hrt:rowTy P t z.cells.length f = true) {n c:Opd} {n' c' : Operand} (hn:opdOk n n' = true) (hc:opdOk c c' = true) (ho:o.op = .makeSlice t n' c')
   {l m:Int} (h1:(opd st.fr n).1 = .int .i64 l) (h2:(opd st.fr c).1 = .int .i64 m) (h0:0 ≤ l) (hlm:l ≤ m) (hby:m.toNat * bytes ≤ 140737488355328) (h63:m ≤ 9223372036854775807) :
   Fits P G g st (.val (.sref st.hp.length 0 l.toNat z.cells.length) { st with hp := st.hp ++ [.cells f (List.replicate m.toNat z.cells).flatten] }) o a w := by
 have r1 := k.read hn; rw [h1] at r1; simp only [VX,V] at r1
 have r2 := k.read hc; rw [h2] at r2; simp only [VX,V] at r2
 unfold mksliceOk at hb
 cases hu : P.underlying t with
 | none => simp [hu] at hb
 | some d =>
   cases d <;> simp [hu] at hb
   rename_i e
   obtain ⟨hb1,hb2⟩ := hb
   cases hi : P.info? e with
   | none => simp [hi] at hb1
   | some i =>
     simp [hi] at hb1
     obtain ⟨⟨b1,b2⟩,b3⟩ := hb1
     obtain ⟨zv,z1,z2,z3⟩ := zeroOk_run hb2
     have hz : i.zero = some zv := by
       have := z1 w
       cases hz : i.zero with
       | none => simp [zeroValue,typeInfo,hi,hz] at this
       | some u => simp [zeroValue,typeInfo,hi,hz] at this; rw [this]
     have hzs : VS g w z.cells zv.cells.toList := VS.of_same _ _ z2
     have hzl : zv.cells.size = i.size := by rw [b1,← hzs.len]; simp
     have hby2 : (i.bytes : Int) * m ≤ 281474976710656 := by
       have hq : (i.bytes : Int) * m = ((m.toNat * bytes : Nat) : Int) := by
         rw [b3,Int.natCast_mul,Int.toNat_of_nonneg (by omega),Int.mul_comm]
       omega
     have hr := run_make (P := P) w t e i zv hu hi hz .i64 .i64 l m h0 hlm hby2 h63
     have hcells : (madeCells zv.cells (m.toNat * i.size)) = (List.replicate m.toNat zv.cells.toList).flatten.toArray := by
       apply Array.toList_inj.1
       rw [← range_cells zv.cells (by omega) m.toNat,← hzl]; simp [madeCells]
     have hones : Ones (List.replicate m.toNat zv.cells.toList).flatten := by
       intro u hu; simp only [List.mem_flatten,List.mem_replicate] at hu
       obtain ⟨l,⟨_,rfl⟩,hu⟩ := hu; exact z3 u hu
     rw [hcells] at hr
     obtain ⟨g2,k2,s2,hg2⟩ := Rel.newobj k (o := .cells f (List.replicate m.toNat z.cells).flatten) (obj := .cells (List.replicate m.toNat zv.cells.toList).flatten.toArray e) (fun g1 w1 _ _ h1 => by
       simp only [ObjRel]
       exact ⟨_,[],e,by rw [List.append_nil]; exact h1,⟨VS.of_same _ _ (sames_rep z2 _),hones⟩,OwnsL.none (sames_not_own (sames_rep z2 _)),fun hf => by
         unfold rowTy at hrt; simp only [hu,Bool.or_eq_true,Bool.and_eq_true] at hrt
         rcases hrt with h | h
         · exact absurd (Nat.eq_of_beq_eq_true h) hf
         · exact ⟨Nat.eq_of_beq_eq_true h.1,rfl⟩⟩)
     refine fits_value (cv := .slice (some ⟨w.heap.size,0,none⟩) l.toNat m.toNat) (g' := g2) ?_ (k2.push0 ?_) s2
     · simp [execOp,ho,Act.eval_eq,r1,r2,hr]
     · refine VF_scalar rfl (VX_of_V ?_) (by simp) (by simp)
       simp only [V]
       refine ⟨w.heap.size,0,m.toNat,⟨by rw [hg2,List.getElem?_append,if_neg (by rw [k.hp.len]; omega),k.hp.len]; simp,⟨by omega,by omega⟩,fun _ => rfl,e,m.toNat * z.cells.length,⟨_,0,heap_alloc_new w _,?_⟩,by omega⟩,rfl⟩
       simp [List.length_flatten,hzl,b1]
theorem fits_iaddrR (k:Rel G g st [] a.tmps w) {x i:Opd} {y u:Operand} (hx:opdOk x y = true) (hi:opdOk i u = true) {t:TypeId} {sz:Nat} (hf:sliceOk P t sz = true) (ho:o.op = .indexAddr t y u) {id q n:Nat} (hv:(opd st.fr x).1 = .sref id q n sz)
   {kk:IntKind} {j:Int} (hj:(opd st.fr i).1 = .int kk j) (h0:0 ≤ j) (h1:j < n) : Fits P G g st (.val (.ptr id (q + j.toNat * sz)) st) o a w := by
 have hr := k.read hx; rw [hv] at hr; simp only [VX,V] at hr
 have hri := k.read hi; rw [hj] at hri; simp only [VX,V] at hri
 obtain ⟨b,o',c,⟨e1,e2,e3,e4⟩,e5⟩ := hr
 have : o' = q := e3 (by omega)
 subst this
 refine fits_pure k (cv := .pointer (some ⟨b,o' + j.toNat * sz,none⟩)) ?_ (VF_scalar rfl (VX_of_V (by simp only [V]; exact ⟨b,e1,rfl⟩)) (by simp) (by simp))
 simp [execOp,ho,Act.eval_eq,e5,hri,run_indexAt_slice hf h0 h1]
theorem fits_slcR (k:Rel G g st [] a.tmps w) {x:Opd} {y:Operand} (hx:opdOk x y = true) {l h:Option Opd} {l' h' : Option Operand} (hl:optOk l l' = true) (hh:optOk h h' = true) {t:TypeId} {sz:Nat} (hu:sliceOk P t sz = true) (ho:o.op = .slice t y l' h' none)
   {id q len:Nat} (hv:(opd st.fr x).1 = .sref id q len sz) {m n:Nat} (hm:bound st.fr 0 l = some m) (hn:bound st.fr len h = some n) (h1:m ≤ n) (h2:n ≤ len) : Fits P G g st (.val (.sref id (q + m * sz) (n - m) sz) st) o a w := by
 have hr := k.read hx; rw [hv] at hr; simp only [VX,V] at hr
 obtain ⟨b,o',c,⟨r1,⟨r2,r3⟩,r4,e,M,r5,r6⟩,r7⟩ := hr
 obtain ⟨et,u1,u2⟩ := sliceOk_run hu
 have hb := run_bounds (P := P) (w := w) true (cap := c) (opt_vals k hl hm) (opt_vals k hh hn) h1 (by omega)
 have hb' := hb
 simp only [show a.eval = Act.opd a.tmps from funext (Act.eval_eq a)] at hb'
 refine fits_pure k (cv := .slice (if c = m then some ⟨b,o',none⟩ else some ⟨b,o' + m * sz,none⟩) (n - m) (c - m)) ?_ (VF_scalar rfl (VX_of_V ?_) (by simp) (by simp))
 · simp [execOp,ho,Act.eval_eq,r7,Instr.sliceAt,Sem.run_bind,run_underlying u1,Instr.slice,show a.eval = Act.opd a.tmps from funext (Act.eval_eq a),hb',u2,Addr.add_lit]
 · simp only [V]
   by_cases hc : c = m
   · refine ⟨b,o',c - m,⟨r1,⟨by omega,by omega⟩,by omega,e,M,r5,?_⟩,by simp [hc]⟩
     rw [hc,Nat.sub_self,Nat.zero_mul]; omega
   · refine ⟨b,o' + m * sz,c - m,⟨r1,⟨by omega,by omega⟩,fun _ => by rw [r4 (by omega)],e,M,r5,?_⟩,by simp [hc]⟩
     rw [Nat.add_assoc,← Nat.add_mul,show m + (c - m) = c by omega]; exact r6
theorem fits_lenR (k:Rel G g st [] a.tmps w) {x:Opd} {y:Operand} (hx:opdOk x y = true) {t:TypeId} {e:TypeId} (hu:P.underlying t = some (.slice e)) {id q n sz:Nat} (hv:(opd st.fr x).1 = .sref id q n sz)
   (ho:o.op = .call { callee := .builtin .len,args := #[y],argTypes := #[t] }) : Fits P G g st (.val (.int .i64 n) st) o a w := by
 have h1 := k.read hx; rw [hv] at h1; simp only [VX,V] at h1
 obtain ⟨b,o',c,⟨_,⟨_,h2⟩,_⟩,h3⟩ := h1
 refine fits_pure k (cv := .int .i64 n) ?_ (VF_scalar rfl (by simp only [VX,V]) (by simp) (by simp))
 simp [execOp,ho,resolve,Act.eval_eq,invoke,builtin,Builtin.len_,run_underlying hu,h3,goInt]
def arrPtrOk (P:Program) (t:TypeId) (len sz:Nat) : Bool :=
 arrayOk P t len sz || match P.underlying t with
 | some (.pointer u) => arrayOk P u len sz
 | _ => false
theorem arrayOk_run {u:TypeId} {len sz:Nat} (h:arrayOk P u len sz = true) : ∃ e,P.underlying u = some (.array len e) ∧ ∀ w,(sizeOf e).run P w = .ok sz w := by
 unfold arrayOk at h
 cases hv : P.underlying u with
 | none => simp [hv] at h
 | some d =>
   cases d <;> simp [hv] at h
   rename_i n e
   obtain ⟨rfl,h⟩ := h
   cases hi : P.info? e with
   | none => simp [hi] at h
   | some i => simp [hi] at h; exact ⟨e,rfl,fun w => by simp [sizeOf,typeInfo,hi,h]⟩
theorem arrPtrOk_run {t:TypeId} {len sz:Nat} (h:(match P.underlying t with | some (.pointer u) => arrayOk P u len sz | _ => false) = true) : ∃ u e,P.underlying t = some (.pointer u) ∧ P.underlying u = some (.array len e) ∧ ∀ w,(sizeOf e).run P w = .ok sz w := by
 cases hu : P.underlying t with
 | none => simp [hu] at h
 | some d =>
   cases d <;> simp [hu] at h
   rename_i u
   obtain ⟨e,h1,h2⟩ := arrayOk_run h
   exact ⟨u,e,rfl,h1,h2⟩
theorem fits_slcA (k:Rel G g st [] a.tmps w) {x:Opd} {y:Operand} (hx:opdOk x y = true) {l h:Option Opd} {l' h' : Option Operand} (hl:optOk l l' = true) (hh:optOk h h' = true) {t:TypeId} {len sz:Nat} (hu:arrPtrOk P t len sz = true) (ho:o.op = .slice t y l' h' none)
   {id q:Nat} (hv:(opd st.fr x).1 = .ptr id q) {ty:Nat} {cs:List AV} (hcs:st.hp[id]? = some (.cells ty cs)) {m n:Nat} (hm:bound st.fr 0 l = some m) (hn:bound st.fr len h = some n) (h1:m ≤ n) (h2:n ≤ len) (h3:q + len * sz ≤ cs.length) (h4:len ≤ 9223372036854775807) : Fits P G g st (.val (.sref id (q + m * sz) (n - m) sz) st) o a w := by
 have hr := k.read hx; rw [hv] at hr; simp only [VX,V] at hr
 obtain ⟨b,r1,r7⟩ := hr
 obtain ⟨b',k1,k2,k3⟩ := k.hp.obj id _ hcs rfl
 rw [r1] at k1; cases k1
 simp only [ObjRel] at k3
 obtain ⟨vs,sp,et,k4,k5,_⟩ := k3
 have hb := run_bounds (P := P) (w := w) false (cap := len) (opt_vals k hl hm) (opt_vals k hh hn) h1 h2
 have hb' := hb
 simp only [show a.eval = Act.opd a.tmps from funext (Act.eval_eq a)] at hb'
 refine fits_pure k (cv := .slice (some (if len = m then ⟨b,q,none⟩ else ⟨b,q + m * sz,none⟩)) (n - m) (len - m)) ?_ (VF_scalar rfl (VX_of_V ?_) (by simp) (by simp))
 · simp only [arrPtrOk,Bool.or_eq_true] at hu
   rcases hu with hu | hu
   · obtain ⟨e,u2,u3⟩ := arrayOk_run hu
     simp [execOp,ho,Act.eval_eq,r7,Instr.sliceAt,Sem.run_bind,run_underlying u2,Instr.slice,Instr.sureAddr,asAddr,show a.eval = Act.opd a.tmps from funext (Act.eval_eq a),hb',u3,Addr.add_lit]
   · obtain ⟨u,e,u1,u2,u3⟩ := arrPtrOk_run hu
     simp [execOp,ho,Act.eval_eq,r7,Instr.sliceAt,Sem.run_bind,run_underlying u1,run_underlying u2,Instr.slice,Instr.sureAddr,asAddr,show a.eval = Act.opd a.tmps from funext (Act.eval_eq a),hb',u3,Addr.add_lit]
 · simp only [V]
   have hrow : Row0 w b et (vs.length + sp.length) := ⟨_,_,k4,by simp⟩
   have hlen := k5.1.len
   by_cases hc : len = m
   · refine ⟨b,q,len - m,⟨r1,⟨by omega,by omega⟩,by omega,et,_,hrow,?_⟩,by simp [hc]⟩
     rw [hc,Nat.sub_self,Nat.zero_mul]
     omega
   · refine ⟨b,q + m * sz,len - m,⟨r1,⟨by omega,by omega⟩,fun _ => rfl,et,_,hrow,?_⟩,by simp [hc]⟩
     rw [Nat.add_assoc,← Nat.add_mul,show m + (len - m) = len by omega]; omega
def strOk (P:Program) (s d:TypeId) : Bool :=
 (match P.underlying s with
  | some (.slice e) => (match P.underlying e with | some (.int .u8) => true | _ => false)
  | _ => false) && (match P.underlying d with | some .string => true | _ => false)
theorem strOk_run {s d:TypeId} (h:strOk P s d = true) : ∃ e,P.underlying s = some (.slice e) ∧ P.underlying e = some (.int .u8) ∧ P.underlying d = some .string := by
 unfold strOk at h
 simp only [Bool.and_eq_true] at h
 obtain ⟨h1,h2⟩ := h
 split at h1 <;> try (cases h1; done)
 rename_i e he
 split at h1 <;> try (cases h1; done)
 rename_i hi
 split at h2 <;> try (cases h2; done)
 rename_i hd
 exact ⟨e,he,hi,hd⟩
theorem run_bytes_str {s d:TypeId} (h:strOk P s d = true) {ad:Option Addr} {n c:Nat} {bs:List UInt8} (hl:bs.length = n) (h1:ad = none → n = 0)
   (hc:∀ a,ad = some a → ∀ (j:Nat) x,bs[j]? = some x → w.cell? (a.add j) = some (.int .u8 x.toNat)) : (convert s d (.slice ad n c)).run P w = .ok (.string ⟨bs.toArray⟩) w := by
 obtain ⟨e,e1,e2,e3⟩ := strOk_run h
 rw [run_convert_bytes_string w s d e ad n c e1 e2 e3]
 cases ad with
 | none =>
   have := h1 rfl; subst this
   have : bs = [] := List.length_eq_zero_iff.1 hl
   subst this
   simp [Conv.bytesToString]; rfl
 | some ad =>
   have hload := run_loadCells_list (P := P) w ad (bs.map fun b => Value.int .u8 b.toNat) (fun j v hv => by
     rw [List.getElem?_map] at hv
     cases hj : bs[j]? with
     | none => rw [hj] at hv; simp at hv
     | some x => rw [hj] at hv; simp at hv; subst hv; exact hc ad rfl j x hj)
   rw [List.length_map,hl] at hload
   rw [run_bytesToString w ad n c (bs.map fun b => (b.toNat : Int)) (by rw [hload,List.map_map]; rfl),foldl_push_byteCells]
   have h0 : ByteArray.empty.data = #[] := rfl
   rw [h0]; simp
theorem bytesOf_VS : ∀ {xs:List AV} {bs:List UInt8} {us:List Value},bytesOf xs = some bs → VS g w xs us → us = bs.map fun b => Value.int .u8 b.toNat
 | [],bs,us,h,hv => by simp [bytesOf] at h; subst h; simp only [VS] at hv; simpa using hv
 | v :: r,bs,us,h,hv => by
   cases v <;> try (simp [bytesOf] at h; done)
   rename_i k n
   cases k <;> try (simp [bytesOf] at h; done)
   simp only [bytesOf] at h
   split at h
   · rename_i hn
     cases hr : bytesOf r with
     | none => rw [hr] at h; simp at h
     | some cs =>
       rw [hr] at h; simp at h; subst h
       simp only [VS] at hv
       obtain ⟨u,us',rfl,h1,h2⟩ := hv
       simp only [V] at h1
       rw [bytesOf_VS hr h2,h1]
       have : ((UInt8.ofNat n.toNat).toNat : Int) = n := by
         rw [UInt8.toNat_ofNat']; omega
       rw [List.map_cons,this]
   · cases h
theorem bytesOf_len : ∀ {xs:List AV} {bs:List UInt8},bytesOf xs = some bs → bs.length = xs.length
 | [],bs,h => by simp [bytesOf] at h; subst h; rfl
 | v :: r,bs,h => by
   cases v <;> try (simp [bytesOf] at h; done)
   rename_i k n
   cases k <;> try (simp [bytesOf] at h; done)
   simp only [bytesOf] at h
   split at h
   · cases hr : bytesOf r with
     | none => rw [hr] at h; simp at h
     | some cs => rw [hr] at h; simp at h; subst h; simp [bytesOf_len hr]
   · cases h
theorem bytesOf_okSize {xs:List AV} {bs:List UInt8} (h:bytesOf xs = some bs) : okSize 1 xs = true := by
 cases xs with
 | nil => rfl
 | cons v r => cases v <;> try (simp [bytesOf] at h; done)
               rfl
theorem fits_strL (k:Rel G g st [] a.tmps w) {x:Opd} {y:Operand} (hx:opdOk x y = true) {s d:TypeId} (hs:strOk P s d = true) (ho:o.op = .convert s d y) {xs:List AV} {ow:Own} (hv:(opd st.fr x).1 = .list xs ow) {bs:List UInt8} (hb:bytesOf xs = some bs) : Fits P G g st (.val (.str bs) st) o a w := by
 have hr := k.read hx; rw [hv] at hr; simp only [VX,V] at hr
 obtain ⟨A,c,e1,e2,e3,e4,e5,e6⟩ := hr
 have hl := bytesOf_len hb
 refine fits_pure k (cv := .string ⟨bs.toArray⟩) ?_ (VF_scalar rfl (by simp only [VX,V]) (by simp) (by simp))
 have := run_bytes_str (P := P) (w := w) hs (bs := bs) (ad := A) (n := xs.length) (c := c) hl (fun e => by have := e5 e; omega) (fun a ha j v hj => by
   obtain ⟨hsp,_,sz,hE⟩ := e6 a ha
   have hjl := (List.getElem?_eq_some_iff.1 hj).1
   have hE' := okSize_VE (bytesOf_okSize hb) hE
   have h2 := hsp (.inr (by omega))
   obtain ⟨ab,ao,asp⟩ := a
   simp only at h2 hE'; subst h2
   rw [Addr.add_lit]
   exact (bytesOf_cells hb hE').2 j v hj)
 simp [execOp,ho,Act.eval_eq,e1,this]
theorem fits_strR (k:Rel G g st [] a.tmps w) {x:Opd} {y:Operand} (hx:opdOk x y = true) {s d:TypeId} (hs:strOk P s d = true) (ho:o.op = .convert s d y) {id q n:Nat} (hv:(opd st.fr x).1 = .sref id q n 1) {ty:Nat} {cs l:List AV} (hcs:st.hp[id]? = some (.cells ty cs))
   (hl:cut cs q n = some l) {bs:List UInt8} (hb:bytesOf l = some bs) : Fits P G g st (.val (.str bs) st) o a w := by
 have hr := k.read hx; rw [hv] at hr; simp only [VX,V] at hr
 obtain ⟨b,o',c,⟨r1,⟨r2,r3⟩,r4,_⟩,r7⟩ := hr
 obtain ⟨b2,q2,e1,us,e2,e3,e4,e5⟩ := k.cutAt (p := .ptr id q) (cv := .pointer (some ⟨b,q,none⟩)) (VX_of_V (by simp only [V]; exact ⟨b,r1,rfl⟩)) (cs := cs) (off := q) (by simp only [Rf.behind,hcs]) hl
 cases e1
 have hus := bytesOf_VS hb e4
 have hlen := bytesOf_len hb
 have hll := e4.len
 refine fits_pure k (cv := .string ⟨bs.toArray⟩) ?_ (VF_scalar rfl (by simp only [VX,V]) (by simp) (by simp))
 have := run_bytes_str (P := P) (w := w) hs (bs := bs) (ad := some ⟨b,o',none⟩) (n := n) (c := c) (by omega) (fun e => by cases e) (fun a ha j v hj => by
   cases ha
   have hjl := (List.getElem?_eq_some_iff.1 hj).1
   rw [Addr.add_lit,r4 (by omega)]
   exact e3 j _ (by rw [hus,List.getElem?_map,hj]; rfl))
 simp [execOp,ho,Act.eval_eq,r7,this]
end
end Go.Proofs.YtkofimhnehkdoaaGreatDoor.Rf
end
section
namespace Go.Proofs.YtkofimhnehkdoaaGreatDoor.Rf
section
variable {P:Program} {G:Nat → Option (List AV)} {g g' : Gh} {st:St} {a:Act} {w w' : World} {o:Oper} {tm:Array Value} {ps:List (AV × Value)}
theorem same_kill {id b:Nat} (hbt:∀ o,g.ow b o = .obj id) (how:∀ c o,c ≠ b → g'.ow c o = g.ow c o) (hold:∀ c,c ≠ b → w'.heap[c]? = w.heap[c]?) (hrow:∀ c e n,Row0 w c e n → Row0 w' c e n)
   (hhb:∀ (i c:Nat),g.hb[i]? = some c → g'.hb[i]? = some c) : Same (fun t => t ≠ .obj id) g w g' w' :=
 have ne : ∀ c o,g.ow c o ≠ .obj id → c ≠ b := fun c o h e => by subst e; exact h (hbt o)
 { ow := fun c o _ h => how c o (ne c o h),cell := fun c o _ h => cell?_of_block' (hold c (ne c o h)),frz := fun c o _ h _ => frozen?_of_block' (hold c (ne c o h)),blk := fun c _ h => hold c (ne c 0 (h 0).1),row := hrow,te := fun _ => by simp,hb := hhb }
theorem Rel.kill (k:Rel G g st ps tm w) {id b:Nat} {ob:HObj} (hid:st.hp[id]? = some ob) (hbt:∀ o,g.ow b o = .obj id) (hlt:b < w.heap.size) (how:∀ c o,c ≠ b → g'.ow c o = g.ow c o) (hhb:g'.hb = g.hb) (hbx:g'.bx = g.bx)
   (hold:∀ c,c ≠ b → w'.heap[c]? = w.heap[c]?) (hrow:∀ c e n,Row0 w c e n → Row0 w' c e n) (hsize:w'.heap.size = w.heap.size) : Rel G g' { st with hp := st.hp.set id .dead } ps tm w' := by
 have sm := same_kill (g' := g') (w' := w') hbt how hold hrow (fun i c h => by rw [hhb]; exact h)
 have hi : (fun t => t ≠ Tag.obj id) Tag.imm := by simp
 refine ⟨fun s => (k.fr s).same sm hi (fun t _ _ => by rw [hbx]) (fun i => by simp) (by simp) (by rw [hbx]),fun j v cv hj => (k.ps j v cv hj).same sm hi (fun t _ _ => by rw [hbx]) (fun i => by simp) (by simp) (by rw [hbx]),
   ⟨by rw [hhb]; simp; exact k.hp.len,fun x ox hx hlive => ?_⟩,fun c o hc => ?_,k.gl.same sm hi (by simp)⟩
 · simp only [List.getElem?_set] at hx
   by_cases e : id = x
   · subst e
     simp only [if_true] at hx
     split at hx
     · cases hx; cases hlive
     · cases hx
   · rw [if_neg e] at hx
     obtain ⟨b',e1,e2,e3⟩ := k.hp.obj x ox hx hlive
     have hne : ∀ i,g.ow b' i ≠ .obj id := fun i => by rw [e2 i]; simpa using fun h => e h.symm
     exact ⟨b',by rw [hhb]; exact e1,fun i => (sm.ow b' i e3.lt (hne i)).trans (e2 i),e3.same sm hi e2 (by simpa using fun h => e h.symm) (fun i => by simp) (fun i j => by simp)⟩
 · rw [hsize] at hc
   rw [how c o (by omega)]; exact k.fresh c o hc
theorem stay_kill {id b:Nat} (hbt:∀ o,g.ow b o = .obj id) (how:∀ c o,c ≠ b → g'.ow c o = g.ow c o) (hhb:g'.hb = g.hb) (hold:∀ c,c ≠ b → w'.heap[c]? = w.heap[c]?) (hrow:∀ c e n,Row0 w c e n → Row0 w' c e n)
   (hsize:w'.heap.size = w.heap.size) (h1:w'.os = w.os) (h2:w'.tape = w.tape) (h3:w'.output = w.output) : Stay g w g' w' :=
 have sm := same_kill (g' := g') (w' := w') hbt how hold hrow (fun i c h => by rw [hhb]; exact h)
 have hk : ∀ c o,(g.ow c o).kept → g.ow c o ≠ .obj id := fun c o hk e => by rw [e] at hk; exact hk
 { ow := fun c o hl h => sm.ow c o hl (hk c o h),cell := fun c o hl h => sm.cell c o hl (hk c o h),frz := fun c o hl h he => sm.frz c o hl (hk c o h) he,blk := fun c hl h => sm.blk c hl (fun o => ⟨hk c o (h o).1,(h o).2⟩),row := hrow,te := fun _ => trivial,hb := fun i c h => by rw [hhb]; exact h,os := h1,tape := h2,output := h3,size := by rw [hsize]; exact Nat.le_refl _ }
theorem stay_ghost {T:Tag → Prop} (h:Same T g w g' w) (ho:T .out) (hi:T .imm) : Stay g w g' w :=
 { ow := fun b o hl ht => h.ow b o hl (by have he := h.te hi; revert ht; cases g.ow b o <;> simp [Tag.kept] <;> assumption)
   cell := fun _ _ _ _ => rfl,frz := fun _ _ _ _ _ => rfl,blk := fun _ _ _ => rfl,row := fun _ _ _ h => h,te := fun _ => trivial,hb := h.hb,os := rfl,tape := rfl,output := rfl,size := Nat.le_refl _ }
theorem Rel.addobj (k:Rel G g st ps tm w) {b:Nat} {ob:HObj} (hbt:∀ o,g.ow b o = .obj st.hp.length) (ho:∀ g1 : Gh,Ext g w g1 w → ObjRel g1 w st.hp.length b ob) :
   Rel G { g with hb := g.hb ++ [b] } { st with hp := st.hp ++ [ob] } ps tm w ∧ Stay g w { g with hb := g.hb ++ [b] } w := by
 have sm : Same (fun _ => True) g w { g with hb := g.hb ++ [b] } w := { ow := fun _ _ _ _ => rfl,cell := fun _ _ _ _ => rfl,frz := fun _ _ _ _ _ => rfl,blk := fun _ _ _ => rfl,row := fun _ _ _ h => h,te := fun _ => trivial,hb := fun i c h => by show (g.hb ++ [b])[i]? = _; rw [List.getElem?_append,if_pos (List.getElem?_eq_some_iff.1 h).1]; exact h }
 have hlen := k.hp.len
 refine ⟨⟨fun s => (k.fr s).same sm trivial (fun t _ _ => rfl) (fun _ => trivial) trivial rfl,fun j v cv hj => (k.ps j v cv hj).same sm trivial (fun t _ _ => rfl) (fun _ => trivial) trivial rfl,⟨by simp [hlen],fun x ox hx hlive => ?_⟩,k.fresh,k.gl.same sm trivial trivial⟩,stay_ghost sm trivial trivial⟩
 rw [List.getElem?_append] at hx
 split at hx
 · obtain ⟨b',e1,e2,e3⟩ := k.hp.obj x ox hx hlive
   exact ⟨b',sm.hb _ _ e1,e2,e3.same sm trivial e2 trivial (fun _ => trivial) (fun _ _ => trivial)⟩
 · have : x = st.hp.length := by
     obtain ⟨h1,_⟩ := List.getElem?_eq_some_iff.1 hx; simp at h1; omega
   subst this; simp at hx; subst hx
   exact ⟨b,by show (g.hb ++ [b])[_]? = _; rw [List.getElem?_append,if_neg (by omega)]; simp [hlen],hbt,ho _ (sm.ext trivial)⟩
theorem VC.of_cells : ∀ {l:List AV} {us:List Value} {b off:Nat},VS g w l us → Ones us → (∀ o,(g.ow b o).ro) → (∀ (j:Nat) u,us[j]? = some u → w.cell? ⟨b,off + j,none⟩ = some u) → VC g w l b off
 | [],_,_,_,_,_,_,_ => by simp [VC]
 | c :: l,us,b,off,hv,h1,hr,hc => by
   simp only [VS] at hv
   obtain ⟨u,r,rfl,hu,hv⟩ := hv
   simp only [VC]
   refine ⟨⟨hr _,u,by simpa using hc 0 u rfl,h1 u (by simp),hu⟩,VC.of_cells hv (fun x hx => h1 x (by simp [hx])) hr fun j x hj => ?_⟩
   have := hc (j + 1) x (by simpa using hj)
   rwa [show off + (j + 1) = off + 1 + j by omega] at this
theorem Ones.sub {vs us:List Value} (h:Ones vs) (hs:∀ u,u ∈ us → u ∈ vs) : Ones us := fun u hu => h u (hs u hu)
theorem chunks_len (sz:Nat) (agg:Bool) : ∀ (n:Nat) (l:List AV),(chunks sz agg n l).length = n
 | 0,_ => rfl
 | n + 1,l => by simp [chunks,chunks_len sz agg n]
theorem VE.of_chunks {sz:Nat} {agg:Bool} (hsz:agg = true ∨ sz = 1) {b:Nat} (hr:∀ o,(g.ow b o).ro) : ∀ {n:Nat} {l:List AV} {us:List Value} {off:Nat},n * sz ≤ l.length → VS g w l us → Ones us → (∀ (j:Nat) u,us[j]? = some u → w.cell? ⟨b,off + j,none⟩ = some u) → VE g w sz (chunks sz agg n l) b off
 | 0,_,_,_,_,_,_,_ => by simp [chunks,VE]
 | n + 1, l,us,off,hl,hv,h1,hc => by
   rw [Nat.succ_mul] at hl
   have hn : VE g w sz (chunks sz agg n (l.drop sz)) b (off + sz) := VE.of_chunks hsz hr (us := us.drop sz) (by simp; omega) (hv.drop sz) (h1.sub fun u hu => List.mem_of_mem_drop hu) fun j u hj => by
     rw [List.getElem?_drop] at hj
     have := hc _ u hj
     rwa [← Nat.add_assoc] at this
   have hhead : VC g w ((l.take sz).map AV.cp1) b off := VC.of_cells (us := us.take sz) (hv.take sz).cp1 (h1.sub fun u hu => List.mem_of_mem_take hu) hr fun j u hj => by
     rw [List.getElem?_take] at hj
     split at hj
     · exact hc j u hj
     · cases hj
   cases agg with
   | true =>
     simp only [chunks,if_true]
     refine VE.cons_mk ?_ hhead hn
     simp [AV.cells]; omega
   | false =>
     have h2 : sz = 1 := by simpa using hsz
     subst h2
     simp only [chunks,Bool.false_eq_true,if_false]
     cases l with
     | nil => simp at hl
     | cons c l =>
       simp only [List.take_succ_cons,List.take_zero,List.map_cons,List.map_nil] at hhead
       simp only [List.headD_cons]
       have hcell : (c.cp1).cells = [c.cp1] := by
         have hvc := hv; simp only [VS] at hvc
         obtain ⟨u,r,rfl,hu,_⟩ := hvc
         have ho := h1 u (by simp)
         cases c <;> first
           | rfl
           | (simp only [V] at hu; obtain ⟨vs,rfl,_⟩ := hu; simp [Value.oneCell'] at ho)
       exact VE.cons_mk (by rw [hcell]; rfl) (by rw [hcell]; exact hhead) hn
theorem Rel.frz1 (k:Rel G g st [] tm w) {lo s i sz:Nat} {agg:Bool} {st' : St} (h:Rf.frz1 lo st s i sz agg = some st') : ∃ g',Rel G g' st' [] tm w ∧ Stay g w g' w := by
 unfold Rf.frz1 at h
 split at h
 · rename_i cs hs
   split at h
   · rename_i id q n z hc
     split at h
     · rename_i t0 ds hid
       split at h
       · rename_i hq
         obtain ⟨_,hz,hsz,hlen⟩ := hq
         subst hz
         cases h
         obtain ⟨b,k1,k2,k3⟩ := k.hp.obj id _ hid rfl
         simp only [ObjRel] at k3
         obtain ⟨vs,sp,ty,f1,⟨f2,f3⟩,_⟩ := k3
         have hlt := (Array.getElem?_eq_some_iff.1 f1).1
         let g' : Gh := { ow := fun c o => if c = b then .imm else g.ow c o,hb := g.hb,bx := g.bx }
         have how : ∀ c o,c ≠ b → g'.ow c o = g.ow c o := fun c o e => by show (if c = b then _ else _) = _; rw [if_neg e]
         have hro : ∀ o,(g'.ow b o).ro := fun o => by show (if b = b then Tag.imm else _).ro; rw [if_pos rfl]; trivial
         have kk := k.kill (g' := g') (w' := w) hid k2 hlt how rfl rfl (fun _ _ => rfl) (fun _ _ _ h => h) rfl
         have ss := stay_kill (g' := g') (w' := w) k2 how rfl (fun _ _ => rfl) (fun _ _ _ h => h) rfl rfl rfl rfl
         have sm := same_kill (g' := g') (w' := w) k2 how (fun _ _ => rfl) (fun _ _ _ h => h) (fun _ _ h => h)
         have hi : (fun t => t ≠ Tag.obj id) Tag.imm := by simp
         have fk := kk.fr s
         simp only at fk
         rw [hs] at fk
         simp only [VF] at fk
         obtain ⟨us,bt,u1,u2,⟨u3,u3'⟩,u4,u5⟩ := fk
         obtain ⟨cv,c1,c2⟩ := u3.get hc
         have hnew : V g' w (.list (chunks z agg n (ds.drop q)) .no) cv := by
           simp only [V] at c2 ⊢
           obtain ⟨b',o',c,⟨d1,⟨d2,d3⟩,d4,_⟩,d5⟩ := c2
           have hb' : b' = b := by rw [show g'.hb = g.hb from rfl,k1] at d1; cases d1; rfl
           subst hb'
           refine ⟨some ⟨b',o',none⟩,c,by rw [chunks_len]; exact d5,by rw [chunks_len]; exact d2,d3,⟨fun e => (by cases e),fun e => (by cases e)⟩,(fun e => by cases e),fun ad e => ?_⟩
           cases e
           refine ⟨fun _ => rfl,fun hn => absurd rfl hn,z,?_⟩
           by_cases hn : n = 0
           · subst hn; simp [chunks,VE]
           · have ho : o' = q := d4 (by omega)
             subst ho
             refine VE.of_chunks hsz hro (us := vs.drop o') (by simp; omega) (VS.mono (sm.ext hi) _ _ (f2.drop o')) (Ones.sub f3 fun u hu => List.mem_of_mem_drop hu) fun j u hj => ?_
             rw [List.getElem?_drop] at hj
             have : (vs ++ sp)[o' + j]? = some u := by rw [List.getElem?_append,if_pos (List.getElem?_eq_some_iff.1 hj).1]; exact hj
             simp [World.cell?,f1,this]
         have hset : VS g' w (cs.set i (.list (chunks z agg n (ds.drop q)) .no)) us := by
           refine VS.mk (by simp [u3.len]) fun j v u h1 h2 => ?_
           rw [List.getElem?_set] at h1
           by_cases e : i = j
           · subst e
             simp only [if_true] at h1
             split at h1
             · cases h1; rw [c1] at h2; cases h2; exact hnew
             · cases h1
           · rw [if_neg e] at h1; exact u3.get' h1 h2
         have hown : OwnsL g' w (.fr s) (cs.set i (.list (chunks z agg n (ds.drop q)) .no)) us := fun j xs sz e cv h1 h2 => by
           rw [List.getElem?_set] at h1
           by_cases ej : i = j
           · subst ej
             simp only [if_true] at h1
             split at h1 <;> cases h1
           · rw [if_neg ej] at h1; exact u5 j xs sz e cv h1 h2
         have l : FrLike st.fr tm (st.fr.set s (.box (cs.set i (.list (chunks z agg n (ds.drop q)) .no)))) tm :=
           ⟨fun t ds' ht => by
               rw [Fr.get_set]; by_cases e : s = t
               · rw [if_pos e]; exact ⟨_,rfl⟩
               · rw [if_neg e]; exact ⟨ds',ht⟩,
            fun t xs sz ht => by
               rw [Fr.get_set]; by_cases e : s = t
               · subst e; rw [hs] at ht; cases ht
               · rw [if_neg e]; exact ⟨ht,rfl⟩⟩
         refine ⟨g',⟨fun t => ?_,fun j v cv hj => by simp at hj,kk.hp,kk.fresh,kk.gl⟩,ss⟩
         simp only
         by_cases e : s = t
         · subst e
           rw [Fr.get_set,if_pos rfl]
           simp only [VF]
           exact ⟨us,bt,u1,u2,⟨hset,u3'⟩,u4,hown⟩
         · rw [Fr.get_set,if_neg e]
           exact VF.like l (kk.fr t)
       · cases h
     · cases h
   · cases h; exact ⟨g,k,Stay.refl g w⟩
   · cases h
 · cases h
theorem Rel.frzs {lo:Nat} : ∀ {l:List (Nat × Nat × Nat × Bool)} {g:Gh} {st st' : St},Rel G g st [] tm w → Rf.frzs lo l st = some st' → ∃ g',Rel G g' st' [] tm w ∧ Stay g w g' w
 | [],g,st,st',k,h => by simp [Rf.frzs] at h; subst h; exact ⟨g,k,Stay.refl g w⟩
 | (s,i,sz,agg) :: r,g,st,st',k,h => by
   simp only [Rf.frzs] at h
   split at h
   · rename_i s1 h1
     obtain ⟨g1,k1,q1⟩ := k.frz1 h1
     obtain ⟨g2,k2,q2⟩ := Rel.frzs k1 h
     exact ⟨g2,k2,q1.trans q2⟩
   · cases h
theorem Rel.rorow (k:Rel G g st ps tm w) (hold:∀ b,b < w.heap.size → w'.heap[b]? = w.heap[b]?) (hsize:w'.heap.size = w.heap.size + 1) (h1:w'.os = w.os) (h2:w'.tape = w.tape) (h3:w'.output = w.output) :
   ∃ g',Rel G g' st ps tm w' ∧ Stay g w g' w' ∧ (∀ o,(g'.ow w.heap.size o).ro) := by
 let g' : Gh := { ow := fun b o => if b = w.heap.size then .imm else g.ow b o,hb := g.hb,bx := g.bx }
 have how : ∀ b o,b < w.heap.size → g'.ow b o = g.ow b o := fun b o e => by show (if b = _ then _ else _) = _; rw [if_neg (by omega)]
 have sm : Same (fun _ => True) g w g' w' := Same.grow hold (fun b o h _ => how b o h) (fun _ _ h => h)
 refine ⟨g',⟨fun s => (k.fr s).same sm trivial (fun t _ _ => rfl) (fun _ => trivial) trivial rfl,fun j v cv hj => (k.ps j v cv hj).same sm trivial (fun t _ _ => rfl) (fun _ => trivial) trivial rfl,k.hp.same sm trivial (fun _ => trivial) (fun _ _ => trivial) (fun _ _ _ => trivial) rfl,fun b o hb => ?_,k.gl.same sm trivial trivial⟩,?_,fun o => ?_⟩
 · show (if b = _ then _ else _) = _; rw [if_neg (by omega)]; exact k.fresh b o (by omega)
 · exact { ow := fun b o hl _ => how b o hl,cell := fun b o hl _ => cell?_of_block' (hold b hl),frz := fun b o hl _ _ => frozen?_of_block' (hold b hl),blk := fun b hl _ => hold b hl,row := sm.row,te := fun _ => trivial,hb := fun _ _ h => h,os := h1,tape := h2,output := h3,size := by omega }
 · show (if _ = _ then Tag.imm else _).ro; rw [if_pos rfl]; trivial
def bytesOk (P:Program) (s d:TypeId) : Bool :=
 (match P.underlying d with
  | some (.slice e) => (match P.underlying e with | some (.int .u8) => true | _ => false)
  | _ => false) && (match P.underlying s with | some .string => true | _ => false)
theorem fits_bytesS (k:Rel G g st [] a.tmps w) {x:Opd} {y:Operand} (hx:opdOk x y = true) {s d:TypeId} (hs:bytesOk P s d = true) (ho:o.op = .convert s d y) {bs:List UInt8} (hv:(opd st.fr x).1 = .str bs) (hl:bs.length ≤ 140737488355328) :
   Fits P G g st (.val (.list (bs.map fun b => .int .u8 b.toNat) .no) st) o a w := by
 have hr := k.read hx; rw [hv] at hr; simp only [VX,V] at hr
 unfold bytesOk at hs
 simp only [Bool.and_eq_true] at hs
 obtain ⟨h1,h2⟩ := hs
 split at h1 <;> try (cases h1; done)
 rename_i e he
 split at h1 <;> try (cases h1; done)
 rename_i hi
 split at h2 <;> try (cases h2; done)
 rename_i hd
 have hrun := Lib.run_convert_string_bytes (P := P) w s d e ⟨bs.toArray⟩ hd he hi
 obtain ⟨g1,k1,s1,hro⟩ := k.rorow (w' := Lib.bytesWorld w e ⟨bs.toArray⟩) (fun b hb => Lib.bytesWorld_at_old w e _ b hb) (Lib.bytesWorld_size w e _) rfl rfl rfl
 have hsz : (⟨bs.toArray⟩ : ByteArray).size = bs.length := by show bs.toArray.size = _; simp
 refine fits_value (g' := g1) (cv := .slice (some ⟨w.heap.size,0,none⟩) (⟨bs.toArray⟩ : ByteArray).size (grownCap w (⟨bs.toArray⟩ : ByteArray).size 0 e)) (by simp [execOp,ho,Act.eval_eq,hr,hrun]) (k1.push0 ?_) s1
 refine VF_scalar rfl (VX_of_V ?_) (by simp) (by simp)
 rw [hsz]
 simp only [V]
 refine ⟨_,_,by rw [List.length_map],by rw [List.length_map]; exact grownCap_ge w bs.length 0 e,?_,⟨fun e => (by cases e),fun e => (by cases e)⟩,(fun e => by cases e),fun ad e' => ?_⟩
 · have := grownCap_le_maxLen w bs.length 0 e (by simp [maxLen]; omega)
   simpa [maxLen] using this
 · cases e'
   refine ⟨fun _ => rfl,fun hn => absurd rfl hn,1,?_⟩
   have hcells := fun j (hj:j < bs.length) => Lib.bytesWorld_cell w e ⟨bs.toArray⟩ j (by rw [hsz]; exact hj)
   refine (Lay.bytes (g := g1) (w := Lib.bytesWorld w e ⟨bs.toArray⟩) bs).2.2 _ _ _ _ ⟨fun _ _ _ _ => ⟨rfl,rfl⟩,fun _ _ _ h => h,fun _ _ h => h⟩ fun j v hj => ⟨hro _,?_⟩
   rw [List.getElem?_map] at hj
   cases hb : bs[j]? with
   | none => rw [hb] at hj; simp at hj
   | some x =>
     rw [hb] at hj; simp at hj; subst hj
     rw [Nat.zero_add,hcells j (List.getElem?_eq_some_iff.1 hb).1]
     simp [List.getD,hb]
theorem idxB_lib : ∀ (l:List UInt8) (c:UInt8),Lib.indexByte l c = idxB l c
 | [],_ => rfl
 | b :: l,c => by simp only [Lib.indexByte,idxB,idxB_lib l c]
theorem idxB_find {fn : Func} (h : fn.name = "internal/bytealg.IndexByteString") : Extern.find fn = some Extern.BytealgIndexByte.indexByte := by
 have h1 : ∀ (a b c : Array TypeId), (((Extern.allGenericRows.lookup "internal/bytealg.IndexByteString").map (· a b c)) <|> ((Extern.allTypedRows.lookup "internal/bytealg.IndexByteString").map (· b c)) <|> Extern.allRows.lookup "internal/bytealg.IndexByteString") = some Extern.BytealgIndexByte.indexByte := by
   intro a b c; kernel_rfl
 unfold Extern.find
 rw [h]
 simp only [h1]
 rfl
def idxBOk (P:Program) (f:FuncId) : Bool :=
 match P.funcs[f]? with
 | some fn => !(fn.name == "runtime.NumGoroutine") && fn.body.isNone && (Extern.findNext fn).isNone && fn.name == "internal/bytealg.IndexByteString"
 | none => false
theorem fits_idxB (k:Rel G g st [] a.tmps w) {f:FuncId} (hf:idxBOk P f = true) {x c:Opd} {x' c' : Operand} (hx:opdOk x x' = true) (hc:opdOk c c' = true) {ts:Array TypeId} (ho:o.op = .call { callee := .value (.func f),args := #[x',c'],argTypes := ts })
   {bs:List UInt8} {n:Int} (h1:(opd st.fr x).1 = .str bs) (h2:(opd st.fr c).1 = .int .u8 n) : Fits P G g st (.val (.int .i64 (idxB bs (UInt8.ofNat n.toNat))) st) o a w := by
 have r1 := k.read hx; rw [h1] at r1; simp only [VX,V] at r1
 have r2 := k.read hc; rw [h2] at r2; simp only [VX,V] at r2
 unfold idxBOk at hf
 split at hf
 · rename_i fn hfn
   simp only [Bool.and_eq_true,Bool.not_eq_true',beq_iff_eq,beq_eq_false_iff_ne,ne_eq,Option.isNone_iff_eq_none] at hf
   obtain ⟨⟨⟨q1,q2⟩,q3⟩,q4⟩ := hf
   have hr := run_callFunc_extern hfn (by simpa using q1) (by simp [q2]) q3 (idxB_find q4) #[Value.string ⟨bs.toArray⟩,Value.int .u8 n] w
   rw [Lib.run_indexByteString] at hr
   simp only [Result.andThen_ok,idxB_lib] at hr
   refine fits_pure k (cv := .int .i64 (idxB bs (UInt8.ofNat n.toNat))) ?_ (VF_scalar rfl (by simp only [VX,V]) (by simp) (by simp))
   have e3 : Act.opd a.tmps (.func f) = Value.func (.func f) #[] #[] := rfl
   simp [execOp,ho,resolve,Deferred.ofValue,show a.eval = Act.opd a.tmps from funext (Act.eval_eq a),e3,r1,r2,invoke,hr]
 · cases hf
theorem firstCells_str (s:List UInt8) (n:Nat) : (Builtin.firstCells 1 n (.string ⟨s.toArray⟩)).run P w = .ok ((s.take n).map fun b => Value.int .u8 b.toNat).toArray w := by
 have h1 : (⟨s.toArray⟩ : ByteArray).extract 0 n = ⟨(s.take n).toArray⟩ := by
   apply ByteArray.ext; simp
 simp [Builtin.firstCells,h1]
def copyOk (P:Program) (t:TypeId) : Bool :=
 match P.underlying t with
 | some (.slice e) => (match P.info? e with | some i => decide (i.size = 1) | none => false)
 | _ => false
theorem copyOk_run {t:TypeId} (h:copyOk P t = true) : ∃ e,P.underlying t = some (.slice e) ∧ ∀ w,(sizeOf e).run P w = .ok 1 w := by
 unfold copyOk at h
 split at h <;> try (cases h; done)
 rename_i e he
 cases hi : P.info? e with
 | none => simp [hi] at h
 | some i => simp [hi] at h; exact ⟨e,he,fun w => by simp [sizeOf,typeInfo,hi,h]⟩
theorem fits_copyS (k:Rel G g st [] a.tmps w) {x y:Opd} {x' y' : Operand} (hx:opdOk x x' = true) (hy:opdOk y y' = true) {t t2:TypeId} (ht:copyOk P t = true) (ho:o.op = .call { callee := .builtin .copy,args := #[x',y'],argTypes := #[t,t2] })
   {id q n:Nat} (h1:(opd st.fr x).1 = .sref id q n 1) {s:List UInt8} (h2:(opd st.fr y).1 = .str s) {t0:Nat} {cs:List AV} (h0:min s.length n ≠ 0) (hid:st.hp[id]? = some (.cells t0 cs)) (hfit:q + min s.length n ≤ cs.length) :
   Fits P G g st (.val (.int .i64 (min s.length n : Nat)) { st with hp := st.hp.set id (.cells t0 (put cs q ((s.take (min s.length n)).map fun b => .int .u8 b.toNat))) }) o a w := by
 have r1 := k.read hx; rw [h1] at r1; simp only [VX,V] at r1
 have r2 := k.read hy; rw [h2] at r2; simp only [VX,V] at r2
 obtain ⟨b,o',c,⟨e1,⟨e2,e3⟩,e4,_⟩,e5⟩ := r1
 have : o' = q := e4 (by omega)
 subst this
 obtain ⟨e,u1,u2⟩ := copyOk_run ht
 have hu : V g w (.agg ((s.take (min s.length n)).map fun b => AV.int .u8 b.toNat)) (.agg ((s.take (min s.length n)).map fun b => Value.int .u8 b.toNat).toArray) := by
   simp only [V]
   refine ⟨_,rfl,VS.mk (by simp) fun i v u a1 a2 => ?_,fun u hu => by simp only [List.mem_map] at hu; obtain ⟨b,_,rfl⟩ := hu; rfl⟩
   rw [List.getElem?_map] at a1 a2
   cases hb : (s.take (min s.length n))[i]? with
   | none => rw [hb] at a1; simp at a1
   | some x => rw [hb] at a1 a2; simp at a1 a2; subst a1; subst a2; simp [V]
 have hcp : (AV.agg ((s.take (min s.length n)).map fun b => AV.int .u8 b.toNat)).spread = (s.take (min s.length n)).map fun b => AV.int .u8 b.toNat := by simp only [AV.spread,List.map_map]; rfl
 have hsl : (AV.agg ((s.take (min s.length n)).map fun b => AV.int .u8 b.toNat)).spread.length = min s.length n := by rw [hcp]; simp
 obtain ⟨b',vs,ty,f1,f2,f3,f4,f5⟩ := Rel.setobj (k.push0 (VF_scalar (r := .arg 0) rfl (VX_of_V hu) (by simp) (by simp))) rfl hid (off := o') (by rw [hsl]; exact hfit) (by rw [hsl]; omega)
 rw [e1] at f1; cases f1
 rw [hcp] at f4
 refine fits_value (cv := .int .i64 (min s.length n : Nat)) ?_ (f4.push0 (VF_scalar rfl (by simp only [VX,V]) (by simp) (by simp))) f5
 have hsz : (⟨s.toArray⟩ : ByteArray).size = s.length := by show s.toArray.size = _; simp
 have hst := run_storeCells_at P b o' ty ((s.take (min s.length n)).map fun b => Value.int .u8 b.toNat) 0 vs.toArray w f2 (by simp; omega) (fun v hv => by simp only [List.mem_map] at hv; obtain ⟨b,_,rfl⟩ := hv; rfl)
 have hfc := firstCells_str (P := P) (w := w) s (min s.length n)
 simp only [Nat.add_zero] at hst
 simp [execOp,ho,resolve,Act.eval_eq,invoke,builtin,Builtin.copy_,r2,e5,run_underlying u1,u2,Builtin.lenOf,hsz,goInt,Value.cells] at hst hfc ⊢
 simp [Nat.min_def] at hst hfc ⊢
 rw [hfc]
 simp [hst]
theorem fits_ustrR (k:Rel G g st [] a.tmps w) {p n:Opd} {p' n' : Operand} (hp:opdOk p p' = true) (hn:opdOk n n' = true) {pt it e:TypeId} (ht:P.underlying pt = some (.pointer e)) (hc:P.cellsOf e = 1) (ho:o.op = .call { callee := .builtin .unsafeString,args := #[p',n'],argTypes := #[pt,it] })
   {id:Nat} {m:Int} (h1:(opd st.fr p).1 = .ptr id 0) (h2:(opd st.fr n).1 = .int .i64 m) {cs l:List AV} (hid:st.hp[id]? = some (.cells e cs)) (he:e ≠ 0) (h0:0 < m) (h63:m ≤ 9223372036854775807) (hl:cut cs 0 m.toNat = some l) {bs:List UInt8} (hb:bytesOf l = some bs) :
   Fits P G g st (.val (.str bs) { st with hp := st.hp.set id .dead }) o a w := by
 have r1 := k.read hp; rw [h1] at r1; simp only [VX,V] at r1
 have r2 := k.read hn; rw [h2] at r2; simp only [VX,V] at r2
 obtain ⟨b,e1,e2⟩ := r1
 obtain ⟨b2,q2,x1,us,x2,x3,x4,x5⟩ := k.cutAt (p := .ptr id 0) (cv := .pointer (some ⟨b,0,none⟩)) (VX_of_V (by simp only [V]; exact ⟨b,e1,rfl⟩)) (cs := cs) (off := 0) (by simp only [Rf.behind,hid]) hl
 cases x1
 have hus := bytesOf_VS hb x4
 have hlen := bytesOf_len hb
 have hll := x4.len
 obtain ⟨b',k1,k2,k3⟩ := k.hp.obj id _ hid rfl
 rw [e1] at k1; cases k1
 simp only [ObjRel] at k3
 obtain ⟨vs,sp,ty,f1,⟨f2,_⟩,_,f4⟩ := k3
 obtain ⟨hty,hsp⟩ := f4 he
 subst hty; subst hsp
 rw [List.append_nil] at f1
 have hcl : (cut cs 0 m.toNat) = some l := hl
 have hfit : m.toNat ≤ vs.length := by
   unfold cut at hcl; split at hcl
   · rename_i h; have := f2.len; omega
   · cases hcl
 have hbl : bs.length = m.toNat := by omega
 have hsh : w.shape? b = some (ty,vs.length) := by unfold World.shape?; rw [f1]; simp
 have hr := Lib.run_unsafeString_row (P := P) w pt it o.type ty ht hc b vs.length hsh bs (by intro h; rw [h] at hbl; simp at hbl; omega) (by omega) (by omega) (fun j x hj => by
   rw [Addr.add_lit]; exact x3 j _ (by rw [hus,List.getElem?_map,hj]; rfl))
 have hm : m = (bs.length : Int) := by omega
 have hne : bs.length ≠ 0 := by omega
 have hh := fun c => heap_freeze w b bs.length c f1 hne
 have hos : (w.freeze ⟨b,0,none⟩ bs.length).os = w.os ∧ (w.freeze ⟨b,0,none⟩ bs.length).tape = w.tape ∧ (w.freeze ⟨b,0,none⟩ bs.length).output = w.output := by
   unfold World.freeze; rw [if_neg hne]; exact ⟨rfl,rfl,rfl⟩
 have hold : ∀ c,c ≠ b → (w.freeze ⟨b,0,none⟩ bs.length).heap[c]? = w.heap[c]? := fun c hc => by rw [hh c,if_neg hc]
 have hrow : ∀ c e n,Row0 w c e n → Row0 (w.freeze ⟨b,0,none⟩ bs.length) c e n := fun c e n ⟨ds,hj,q1,q2⟩ => by
   by_cases hc : c = b
   · subst hc; rw [f1] at q1; cases q1; exact ⟨_,_,by rw [hh c,if_pos rfl],q2⟩
   · exact ⟨ds,hj,by rw [hold c hc]; exact q1,q2⟩
 have hsize := size_freeze w ⟨b,0,none⟩ bs.length
 have kk := k.kill (g' := g) (w' := w.freeze ⟨b,0,none⟩ bs.length) hid k2 (Array.getElem?_eq_some_iff.1 f1).1 (fun _ _ _ => rfl) rfl rfl hold hrow hsize
 have ss := stay_kill (g' := g) (w' := w.freeze ⟨b,0,none⟩ bs.length) k2 (fun _ _ _ => rfl) rfl hold hrow hsize hos.1 hos.2.1 hos.2.2
 refine fits_value (g' := g) (cv := .string ⟨bs.toArray⟩) ?_ (kk.push0 (VF_scalar rfl (by simp only [VX,V]) (by simp) (by simp))) ss
 rw [hm] at r2
 simp [execOp,ho,resolve,Act.eval_eq,invoke,builtin,e2,r2,hr]
theorem VE.cellsVS {sz:Nat} : ∀ {ys:List AV} {b q:Nat},VE g w sz ys b q → ∃ news : List Value,news.length = ys.length * sz ∧ Ones news ∧ (∀ (j:Nat) v,news[j]? = some v → w.cell? ⟨b,q + j,none⟩ = some v) ∧ VS g w (ys.map AV.cells).flatten news
 | [],_,_,_ => ⟨[],by simp,by simp [Ones],by simp,by simp [VS]⟩
 | y :: ys,b,q,h => by
   obtain ⟨h1,h2⟩ := h.get (j := 0) rfl
   rw [Nat.zero_mul,Nat.add_zero] at h2
   have one : ∀ {cs:List AV} {q:Nat},VC g w cs b q → ∃ us : List Value,us.length = cs.length ∧ Ones us ∧ (∀ (j:Nat) v,us[j]? = some v → w.cell? ⟨b,q + j,none⟩ = some v) ∧ VS g w cs us := by
     intro cs
     induction cs with
     | nil => intro q _; exact ⟨[],rfl,by simp [Ones],by simp,by simp [VS]⟩
     | cons c cs ih =>
       intro q hc
       simp only [VC] at hc
       obtain ⟨⟨_,cv,c1,c2,c3⟩,c4⟩ := hc
       obtain ⟨us,u1,u2,u3,u4⟩ := ih c4
       refine ⟨cv :: us,by simp [u1],fun u hu => ?_,fun j v hv => ?_,by simp only [VS]; exact ⟨cv,us,rfl,c3,u4⟩⟩
       · simp at hu; rcases hu with rfl | hu
         · exact c2
         · exact u2 u hu
       · cases j with
         | zero => simp at hv; subst hv; simpa using c1
         | succ j => simp at hv; rw [show q + (j + 1) = q + 1 + j by omega]; exact u3 j v hv
   obtain ⟨us,u1,u2,u3,u4⟩ := one h2
   obtain ⟨vs,v1,v2,v3,v4⟩ := VE.cellsVS h.tail
   refine ⟨us ++ vs,by simp [u1,v1,h1,Nat.succ_mul,Nat.add_comm],fun u hu => ?_,fun j v hv => ?_,?_⟩
   · simp at hu; rcases hu with hu | hu
     · exact u2 u hu
     · exact v2 u hu
   · rw [List.getElem?_append] at hv; split at hv
     · exact u3 j v hv
     · have := v3 _ v hv
       rwa [show q + sz + (j - us.length) = q + j by omega] at this
   · rw [List.map_cons,List.flatten_cons]; exact VS.append u4 v4
theorem list_src {sz:Nat} {ys:List AV} {ow:Own} {Y:Value} (h:V g w (.list ys ow) Y) (hs:okSize sz ys = true) : ∃ news : List Value,news.length = ys.length * sz ∧ Ones news ∧ VS g w (ys.map AV.cells).flatten news ∧
   (∀ w' : World,(Builtin.lenOf Y).run P w' = .ok ys.length w') ∧ ∀ w' : World,(∀ b : Nat,w'.heap[b]? = w.heap[b]?) → (Builtin.firstCells sz ys.length Y).run P w' = .ok news.toArray w' := by
 simp only [V] at h
 obtain ⟨A,c,rfl,h2,h3,_,h5,h6⟩ := h
 cases A with
 | none =>
   have hc := h5 rfl; subst hc
   have : ys = [] := List.length_eq_zero_iff.1 (by omega)
   subst this
   exact ⟨[],by simp,by simp [Ones],by simp [VS],fun _ => by simp [Builtin.lenOf],fun _ _ => by simp [Builtin.firstCells]⟩
 | some ad =>
   obtain ⟨hsp,_,sz',hv⟩ := h6 ad rfl
   by_cases hy : ys = []
   · subst hy
     exact ⟨[],by simp,by simp [Ones],by simp [VS],fun _ => by simp [Builtin.lenOf],fun _ _ => by simp [Builtin.firstCells,loadCells,loadCellsFrom]⟩
   replace hsp := hsp (.inr (by have := List.length_pos_iff.2 hy; omega))
   obtain ⟨b,q,sp⟩ := ad
   simp only at hsp hv; subst hsp
   obtain ⟨news,n1,n2,n3,n4⟩ := (okSize_VE hs hv).cellsVS
   exact ⟨news,n1,n2,n4,fun _ => by simp [Builtin.lenOf],fun w' hw => firstCells_some n1 fun j v hj => by rw [cell?_of_block' (hw b)]; exact n3 j v hj⟩
theorem append2_d2 {t2:TypeId} (h:append2Ok P t2 = true) : ∃ d2,P.underlying t2 = some d2 ∧ ∀ kk,d2 ≠ .int kk := by
 unfold append2Ok at h
 cases hu : P.underlying t2 with
 | none => simp [hu] at h
 | some d => exact ⟨d,rfl,fun kk e => by subst e; simp [hu] at h⟩
theorem appendOk_pos {t:TypeId} {sz bytes:Nat} (ht:appendOk P t sz bytes = true) : 0 < sz := by
 unfold appendOk at ht
 cases hu : P.underlying t with
 | none => simp [hu] at ht
 | some d =>
   cases d <;> simp [hu] at ht
   rename_i e
   cases hi : P.info? e <;> simp [hi] at ht
   exact ht.1.2
theorem VS.sub_append {cs ds:List AV} {vs us:List Value} (h:VS g w cs vs) (k:VS g w ds us) : VS g w ((cs ++ ds).map AV.cp1) (vs ++ us) := (VS.append h k).cp1
theorem Rel.newbuf (k:Rel G g st [] tm w) {kn:List AV} {vs sp:List Value} (hv:VS g w kn vs) (h1:Ones vs) (e:TypeId) : ∃ g',Rel G g' { st with hp := st.hp ++ [.cells 0 (kn.map AV.cp1)] } [] tm (w.drew.alloc (.cells (vs ++ sp).toArray e)) ∧
   Stay g w g' (w.drew.alloc (.cells (vs ++ sp).toArray e)) ∧ g'.hb = g.hb ++ [w.heap.size] := by
 have hv' : VS g w.drew kn vs := VS.mono (g := g) (w := w) (g' := g) (w' := w.drew) ⟨fun _ _ _ _ => ⟨rfl,rfl⟩,fun _ _ _ h => h,fun _ _ h => h⟩ _ _ hv
 obtain ⟨g2,k2,s2,hg2⟩ := Rel.newobj (k.draws (w' := w.drew) rfl) (o := .cells 0 (kn.map AV.cp1)) (obj := .cells (vs ++ sp).toArray e) (fun g1 w1 sm _ h2 => by
   simp only [ObjRel]
   exact ⟨vs,sp,e,h2,⟨VS.mono (sm.ext trivial) _ _ hv'.cp1,h1⟩,OwnsL.cp1,fun h => absurd rfl h⟩)
 exact ⟨g2,k2,{ ow := s2.ow,cell := s2.cell,frz := s2.frz,blk := s2.blk,row := s2.row,te := s2.te,hb := s2.hb,os := s2.os,tape := s2.tape,output := s2.output,size := s2.size },hg2⟩
theorem fits_appR_nil (k:Rel G g st [] a.tmps w) {x y:Opd} {x' y' : Operand} (hx:opdOk x x' = true) (hy:opdOk y y' = true) {t t2:TypeId} {sz bytes:Nat} (ht:appendOk P t sz bytes = true) (ht2:append2Ok P t2 = true)
   (ho:o.op = .call { callee := .builtin .append,args := #[x',y'],argTypes := #[t,t2] }) (ha:(opd st.fr x).1 = .list [] .nil) {ys:List AV} {ow:Own} (hb:(opd st.fr y).1 = .list ys ow) (hne:ys ≠ []) (hs:okSize sz ys = true)
   (hby:ys.length * bytes ≤ 140737488355328) (h63:ys.length ≤ 9223372036854775807) : Fits P G g st (.val (.sref st.hp.length 0 ys.length sz) { st with hp := st.hp ++ [.cells 0 ((ys.map AV.cells).flatten.map AV.cp1)] }) o a w := by
 have r1 := k.read hx; rw [ha] at r1; simp only [VX,V] at r1
 have r2 := k.read hy; rw [hb] at r2; rw [VX_plain rfl] at r2
 obtain ⟨A,c,e1,e2,e3,e4,e5,e6⟩ := r1
 have hA := e4.1 trivial; subst hA
 have hc := e5 rfl; subst hc
 simp only [List.length_nil] at e1
 obtain ⟨news,n1,n2,n3,n4,n5⟩ := list_src r2 hs
 obtain ⟨d2,hu2,hd2⟩ := append2_d2 ht2
 have hpos := List.length_pos_iff.2 hne
 obtain ⟨C,e,rest,_,c1,c2,c3,c4⟩ := run_append_out (P := P) (w := w) (A := none) (n := 0) (c := 0) (olds := []) ht hu2 hd2 (n4 w) n1 (by simp) (n5 w.drew fun _ => rfl) (by simp [Builtin.firstCells]) (by omega) (by simpa using hby) (by simpa using h63) o.type
 simp only [List.nil_append,Nat.zero_add] at c1 c3 c4
 obtain ⟨g',k',s',hg'⟩ := k.newbuf (sp := rest) n3 n2 e
 refine fits_value (cv := .slice (some ⟨w.heap.size,0,none⟩) ys.length C) ?_ (k'.push0 (VF_scalar rfl (VX_of_V ?_) (by simp) (by simp))) s'
 · simp [execOp,ho,resolve,Act.eval_eq,invoke,builtin,e1,c4]
 · simp only [V]
   refine ⟨w.heap.size,0,C,⟨by rw [hg',List.getElem?_append,if_neg (by rw [k.hp.len]; omega),k.hp.len]; simp,⟨c1,c2⟩,fun _ => rfl,e,(news ++ rest).length,⟨_,0,heap_alloc_new w.drew _,by simp⟩,?_⟩,rfl⟩
   rw [List.length_append,n1,c3,← Nat.add_mul,Nat.zero_add]
   exact Nat.mul_le_mul_right sz (by omega)
theorem fits_appR (k:Rel G g st [] a.tmps w) {x y:Opd} {x' y' : Operand} (hx:opdOk x x' = true) (hy:opdOk y y' = true) {t t2:TypeId} {sz bytes:Nat} (ht:appendOk P t sz bytes = true) (ht2:append2Ok P t2 = true)
   (ho:o.op = .call { callee := .builtin .append,args := #[x',y'],argTypes := #[t,t2] }) {id n:Nat} (ha:(opd st.fr x).1 = .sref id 0 n sz) {ys:List AV} {ow:Own} (hb:(opd st.fr y).1 = .list ys ow) (hs:okSize sz ys = true)
   {t0:Nat} {cs:List AV} (hid:st.hp[id]? = some (.cells t0 cs)) (hfit:n * sz ≤ cs.length) (hby:(n + ys.length) * bytes ≤ 140737488355328) (h63:n + ys.length ≤ 9223372036854775807) :
   Fits P G g st (.val (.sref st.hp.length 0 (n + ys.length) sz) { st with hp := st.hp.set id .dead ++ [.cells 0 ((cs.take (n * sz) ++ (ys.map AV.cells).flatten).map AV.cp1)] }) o a w := by
 have r1 := k.read hx; rw [ha] at r1; simp only [VX,V] at r1
 have r2 := k.read hy; rw [hb] at r2; rw [VX_plain rfl] at r2
 obtain ⟨b,o',c,⟨e1,⟨e2,e3⟩,e4,te,M,eR,eM⟩,e5⟩ := r1
 obtain ⟨news,n1,n2,n3,n4,n5⟩ := list_src r2 hs
 obtain ⟨d2,hu2,hd2⟩ := append2_d2 ht2
 have hsz := appendOk_pos ht
 obtain ⟨b',k1,k2,k3⟩ := k.hp.obj id _ hid rfl
 rw [e1] at k1; cases k1
 simp only [ObjRel] at k3
 obtain ⟨vs,sp,ty,f1,⟨f2,f3⟩,_,_⟩ := k3
 have hvl := f2.len
 have hlt := (Array.getElem?_eq_some_iff.1 f1).1
 have hM : M = vs.length + sp.length := by
   obtain ⟨ds,hi,q1,q2⟩ := eR; rw [f1] at q1; cases q1; simpa using q2.symm
 have holds : VS g w (cs.take (n * sz)) (vs.take (n * sz)) := f2.take _
 have hones : Ones (vs.take (n * sz)) := Ones.sub f3 fun u hu => List.mem_of_mem_take hu
 have hol : (vs.take (n * sz)).length = n * sz := by simp; omega
 have hcellO : 0 < c → ∀ (j:Nat) v,(vs.take (n * sz))[j]? = some v → w.cell? ⟨b,o' + j,none⟩ = some v := fun hc j v hj => by
   rw [e4 hc,Nat.zero_add]
   rw [List.getElem?_take] at hj
   split at hj
   · have : (vs ++ sp)[j]? = some v := by rw [List.getElem?_append,if_pos (List.getElem?_eq_some_iff.1 hj).1]; exact hj
     simp [World.cell?,f1,this]
   · cases hj
 have hkl : (st.hp.set id HObj.dead).length = st.hp.length := by simp
 by_cases hroom : n + ys.length ≤ c
 · by_cases hc0 : c = 0
   · have hn0 : n = 0 := by omega
     have hy0 : ys = [] := List.length_eq_zero_iff.1 (by omega)
     subst hn0; subst hy0; subst hc0
     have hnews : news = [] := List.length_eq_zero_iff.1 (by simpa using n1)
     subst hnews
     have hap := run_append_in (P := P) (w := w) ht hu2 hd2 (b := b) (q := o') (n := 0) (c := 0) (m := 0) (n4 w) (news := []) (by simp) (n5 w fun _ => rfl) n2 (by omega) (fun o h1 h2 => by omega) o.type
     obtain ⟨w',r3,r4⟩ := hap
     have hw' := r4.none rfl
     subst hw'
     let g' : Gh := { ow := fun c o => if c = b then .obj st.hp.length else g.ow c o,hb := g.hb,bx := g.bx }
     have how : ∀ c o,c ≠ b → g'.ow c o = g.ow c o := fun c o e => by show (if c = b then _ else _) = _; rw [if_neg e]
     have kk := k.kill (g' := g') (w' := w') hid k2 hlt how rfl rfl (fun _ _ => rfl) (fun _ _ _ h => h) rfl
     have ss := stay_kill (g' := g') (w' := w') k2 how rfl (fun _ _ => rfl) (fun _ _ _ h => h) rfl rfl rfl rfl
     obtain ⟨ka,sa⟩ := kk.addobj (b := b) (ob := .cells 0 ((cs.take (0 * sz) ++ (([] : List AV).map AV.cells).flatten).map AV.cp1)) (fun o => by show (if b = b then _ else _) = _; rw [if_pos rfl]; simp) (fun g1 ex => by
       simp only [ObjRel]
       exact ⟨[],vs ++ sp,ty,by simpa using f1,⟨by simp [VS],by simp [Ones]⟩,OwnsL.cp1,fun h => absurd rfl h⟩)
     refine fits_value (cv := .slice (some ⟨b,o',none⟩) 0 0) ?_ (ka.push0 (VF_scalar rfl (VX_of_V ?_) (by simp) (by simp))) (ss.trans sa)
     · simp at r3; simp [execOp,ho,resolve,Act.eval_eq,invoke,builtin,e5,r3]
     · simp only [V]
       refine ⟨b,o',0,⟨?_,⟨by simp,by simp⟩,fun h => absurd h (by omega),te,M,eR,by omega⟩,by simp⟩
       show (g.hb ++ [b])[_]? = _
       rw [List.getElem?_append,if_neg (by rw [k.hp.len]; omega),k.hp.len]; simp
   · have hcp : 0 < c := by omega
     have ho' : o' = 0 := e4 hcp
     subst ho'
     obtain ⟨w',r3,r4⟩ := run_append_in (P := P) (w := w) ht hu2 hd2 (b := b) (q := 0) (n := n) (c := c) (n4 w) n1 (n5 w fun _ => rfl) n2 hroom (fun o h1 h2 => ⟨⟨(vs ++ sp)[o]'(by simp; omega),by simp [World.cell?,f1,show o < vs.length + sp.length by omega]⟩,blk_frozen' f1 o⟩) o.type
     let g' : Gh := { ow := fun c o => if c = b then .obj st.hp.length else g.ow c o,hb := g.hb,bx := g.bx }
     have how : ∀ c o,c ≠ b → g'.ow c o = g.ow c o := fun c o e => by show (if c = b then _ else _) = _; rw [if_neg e]
     have kk := k.kill (g' := g') (w' := w') hid k2 hlt how rfl rfl r4.blk r4.row r4.size
     have ss := stay_kill (g' := g') (w' := w') k2 how rfl r4.blk r4.row r4.size r4.os r4.tape r4.output
     have sm := same_kill (g' := g') (w' := w') k2 how r4.blk r4.row (fun _ _ h => h)
     have hi : (fun t => t ≠ Tag.obj id) Tag.imm := by simp
     have hle : (n + ys.length) * sz ≤ c * sz := Nat.mul_le_mul_right sz hroom
     rw [Nat.add_mul] at hle
     obtain ⟨ds,hdi,hd1,hd2'⟩ := r4.row _ _ _ eR
     -- the block's new cells
     have hfz : ∃ ds : Array Value,w'.heap[b]? = some (.cells ds ty (0,0)) ∧ ds.size = vs.length + sp.length := by
       obtain ⟨ds,hi',hd1,hd2⟩ := r4.row b ty (vs.length + sp.length) ⟨_,0,f1,by simp⟩
       have hf := r4.frz 0
       by_cases hz : hi' = 0
       · subst hz; exact ⟨ds,hd1,hd2⟩
       · exfalso
         rw [blk_frozen' f1 0] at hf
         unfold World.frozen? at hf; rw [hd1] at hf
         simp at hf; omega
     obtain ⟨ds,hds,hdl⟩ := hfz
     have hdget : ∀ j,w'.cell? ⟨b,j,none⟩ = ds[j]? := fun j => by simp [World.cell?,hds]
     have hsplit : ds.toList = (vs.take (n * sz) ++ news) ++ ds.toList.drop (n * sz + news.length) := by
       have hl1 : (vs.take (n * sz) ++ news).length = n * sz + news.length := by simp; omega
       have : ds.toList.take (n * sz + news.length) = vs.take (n * sz) ++ news := by
         apply List.ext_getElem?
         intro j
         rw [List.getElem?_take]
         by_cases hj : j < n * sz + news.length
         · rw [if_pos hj]
           have e1 : ds.toList[j]? = ds[j]? := by simp
           rw [e1,← hdget j,List.getElem?_append]
           by_cases hj2 : j < n * sz
           · rw [if_pos (by omega),r4.old j (by omega)]
             have hv : (vs.take (n * sz))[j]? = some ((vs.take (n * sz))[j]'(by omega)) := List.getElem?_eq_getElem (by omega)
             have := hcellO hcp j _ hv
             rw [Nat.zero_add] at this
             rw [this,hv]
           · rw [if_neg (by omega),hol]
             have hv : news[j - n * sz]? = some (news[j - n * sz]'(by omega)) := List.getElem?_eq_getElem (by omega)
             have := r4.new _ _ hv
             rw [show 0 + n * sz + (j - n * sz) = j by omega] at this
             rw [this,hv]
         · rw [if_neg hj,List.getElem?_eq_none (by omega)]
       rw [← this,List.take_append_drop]
     obtain ⟨ka,sa⟩ := kk.addobj (b := b) (ob := .cells 0 ((cs.take (n * sz) ++ (ys.map AV.cells).flatten).map AV.cp1)) (fun o => by show (if b = b then _ else _) = _; rw [if_pos rfl]; simp) (fun g1 ex => by
       simp only [ObjRel]
       refine ⟨vs.take (n * sz) ++ news,ds.toList.drop (n * sz + news.length),ty,?_,⟨?_,?_⟩,OwnsL.cp1,fun h => absurd rfl h⟩
       · rw [← hsplit]; simpa using hds
       · exact VS.mono ex _ _ (VS.mono (sm.ext hi) _ _ (holds.sub_append n3))
       · intro u hu; simp only [List.mem_append] at hu
         rcases hu with hu | hu
         · exact hones u hu
         · exact n2 u hu)
     refine fits_value (cv := .slice (some ⟨b,0,none⟩) (n + ys.length) c) ?_ (ka.push0 (VF_scalar rfl (VX_of_V ?_) (by simp) (by simp))) (ss.trans sa)
     · simp [execOp,ho,resolve,Act.eval_eq,invoke,builtin,e5,r3]
     · simp only [V]
       refine ⟨b,0,c,⟨?_,⟨hroom,e3⟩,fun _ => rfl,te,M,r4.row _ _ _ eR,eM⟩,rfl⟩
       show (g.hb ++ [b])[_]? = _
       rw [List.getElem?_append,if_neg (by rw [k.hp.len]; omega),k.hp.len]; simp
 · have hfo : (Builtin.firstCells sz n (.slice (some ⟨b,o',none⟩) n c)).run P w.drew = .ok (vs.take (n * sz)).toArray w.drew := by
     by_cases hn : n = 0
     · subst hn; simp [Builtin.firstCells,loadCells,loadCellsFrom]
     · exact firstCells_some hol fun j v hj => by rw [cell?_of_block' (w' := w.drew) (w := w) rfl]; exact hcellO (by omega) j v hj
   obtain ⟨C,e,rest,_,c1,c2,c3,c4⟩ := run_append_out (P := P) (w := w) (A := some ⟨b,o',none⟩) (n := n) (c := c) ht hu2 hd2 (n4 w) n1 hol (n5 w.drew fun _ => rfl) hfo hroom hby h63 o.type
   have kk := k.kill (g' := g) (w' := w) hid k2 hlt (fun _ _ _ => rfl) rfl rfl (fun _ _ => rfl) (fun _ _ _ h => h) rfl
   obtain ⟨g',k',s',hg'⟩ := kk.newbuf (sp := rest) (VS.append holds n3) (fun u hu => by
     simp only [List.mem_append] at hu
     rcases hu with hu | hu
     · exact hones u hu
     · exact n2 u hu) e
   refine fits_value (cv := .slice (some ⟨w.heap.size,0,none⟩) (n + ys.length) C) ?_ (k'.push0 (VF_scalar rfl (VX_of_V ?_) (by simp) (by simp))) s'
   · simp [execOp,ho,resolve,Act.eval_eq,invoke,builtin,e5,c4]
   · simp only [V]
     refine ⟨w.heap.size,0,C,⟨by rw [hg',List.getElem?_append,if_neg (by rw [k.hp.len]; omega),k.hp.len]; simp,⟨c1,c2⟩,fun _ => rfl,e,(vs.take (n * sz) ++ news ++ rest).length,⟨_,0,heap_alloc_new w.drew _,by simp⟩,?_⟩,rfl⟩
     rw [List.length_append,List.length_append,hol,n1,c3,← Nat.add_mul,← Nat.add_mul,Nat.zero_add]
     exact Nat.mul_le_mul_right sz (by omega)
end
end Go.Proofs.YtkofimhnehkdoaaGreatDoor.Rf
end
section
namespace Go.Proofs.YtkofimhnehkdoaaGreatDoor.Rf
def isIface : Option TypeDesc → Bool
 | some (.interface _) => true
 | none => true
 | _ => false
def chkOp (P:Program) (i:IOp) (op:Op) : Bool :=
 match i with
 | .mv x => match op with | .move y => opdOk x y | .assign y => opdOk x y | _ => false
 | .pick c a b => match op with | .pick c' a' b' => opdOk c c' && opdOk a a' && opdOk b b' | _ => false
 | .alloc _ ty cs => match op with | .alloc t => zeroOk P t cs && (Nat.beq ty 0 || Nat.beq t ty) | _ => false
 | .box _ x => match op with | .box _ y => opdOk x y | _ => false
 | .build zs ps => match op with | .build t qs => zeroOk P t zs && (match placeOf P t with | some pl => partsOk pl ps qs.toList | none => false) && sizesOk P t | _ => false
 | .bslice z e n ps => match op with | .buildSlice t m qs => bsliceOk P t z n && (rowTy P t z.cells.length e || Nat.beq e 999999) && decide (n = m) && bpartsOk ps qs.toList | _ => false
 | .load x _ n agg tk => match op with | .load t y => opdOk x y && tyOk P t n agg | _ => false
 | .store x _ v n => match op with | .store t y u => opdOk x y && opdOk v u && (tyOk P t n true || tyOk P t n false) | _ => false
 | .nilchk x => match op with | .nilCheck y => opdOk x y | _ => false
 | .bin op' x y => match op with | .binOp o _ x' y' _ => decide (o = op') && opdOk x x' && opdOk y y' | _ => false
 | .eq neg k x y => match op with | .binOp o t x' y' _ => decide (o = if neg then .neq else .eql) && eqOk P k t x' y' && opdOk x x' && opdOk y y' | _ => false
 | .un op' x => match op with | .unOp o _ x' => decide (o = op') && opdOk x x' | _ => false
 | .conv k x => match op with | .convert s d x' => (match P.underlying s with | some (.int _) => true | _ => false) && (match P.underlying d with | some (.int k') => decide (k' = k) | _ => false) && opdOk x x' | _ => false
 | .sconv x => match op with | .convert s d x' => (match P.underlying s with | some .string => true | _ => false) && (match P.underlying d with | some .string => true | _ => false) && opdOk x x' | _ => false
 | .mkiface t x => match op with | .makeInterface t' x' => decide (t' = t) && !isIface (P.underlying t) && opdOk x x' | _ => false
 | .mkfunc f cs => match op with | .makeFunc fn first caps => (match fn with | .func f' => decide (f' = f) | _ => false) && decide (first.size = 0) && opdsOk cs caps.toList | _ => false
 | .mkmap => match op with | .makeMap _ r => r.isNone | _ => false
 | .faddr x off => match op with | .fieldAddr s y f => opdOk x y && (match P.underlying s with | some (.struct fs) => (match fs[f]? with | some x => (match P.info? x.type with | some i => fieldOk P s f off i.size | none => false) | none => false) | _ => false) | _ => false
 | .field x off n agg => match op with | .field s y f => opdOk x y && fieldOk2 P s f off n agg | _ => false
 | .iaddrL x i sz => match op with | .indexAddr t y u => opdOk x y && opdOk i u && sliceOk P t sz | _ => false
 | .iaddrA x i len sz => match op with | .indexAddr t y u => opdOk x y && opdOk i u && arrayOk P t len sz | _ => false
 | .idxS x i => match op with | .index t y u => opdOk x y && opdOk i u && (match P.underlying t with | some .string => true | _ => false) | _ => false
 | .slcS x l h => match op with | .slice t y l' h' m' => opdOk x y && optOk l l' && optOk h h' && m'.isNone && (match P.underlying t with | some .string => true | _ => false) | _ => false
 | .slcL x l h sz => match op with | .slice t y l' h' m' => opdOk x y && optOk l l' && optOk h h' && m'.isNone && sliceOk P t sz | _ => false
 | .lookup kd m k z ok tk => match op with | .lookup t m' k' ok' => opdOk m m' && opdOk k k' && mapOk P t kd z && decide (ok' = ok) | _ => false
 | .mapset kd m k v z => match op with | .mapUpdate t m' k' v' => opdOk m m' && opdOk k k' && opdOk v v' && mapOk P t kd z | _ => false
 | .len x kd => match op with | .call c => (match c.callee with | .builtin .len => (match c.args.toList,c.argTypes.toList with | [x'],[t] => opdOk x x' && (match kd,P.underlying t with | .list,some (.slice _) => true | .str,some .string => true | .map,some (.map _ _) => true | _,_ => false) | _,_ => false) | _ => false) | _ => false
 | .konst v => match op with | .call c => (match c.callee with | .builtin .len => (match c.args.toList,c.argTypes.toList with | [_],[t] => (match P.underlying t,v with | some (.array n _),.int .i64 m => decide (m = n) | _,_ => false) | _,_ => false) | _ => false) | _ => false
 | .append x y sz e bytes _ => match op with | .call c => (match c.callee with | .builtin .append => (match c.args.toList,c.argTypes.toList with | [x',y'],[t,t2] => opdOk x x' && opdOk y y' && appendOk P t sz bytes && rowTy P t sz e && append2Ok P t2 | _,_ => false) | _ => false) | _ => false
 | .min x y => match op with | .call c => (match c.callee with | .builtin .min => (match c.args.toList with | [x',y'] => opdOk x x' && opdOk y y' | _ => false) | _ => false) | _ => false
 | .max x y => match op with | .call c => (match c.callee with | .builtin .max => (match c.args.toList with | [x',y'] => opdOk x x' && opdOk y y' | _ => false) | _ => false) | _ => false
 | .extract x i => match op with | .extract x' i' => decide (i' = i) && opdOk x x' | _ => false
 | .assert x t z ok => match op with | .typeAssert x' _ t' ok' => decide (t' = t) && decide (ok' = ok) && opdOk x x' && !isIface (P.underlying t) && zeroV P t z | _ => false
 | .panic x => match op with | .panic x' => opdOk x x' | _ => false
 | .call f xs _ => match op with | .call c => (match c.callee with | .value f' => opdOk f f' && opdsOk xs c.args.toList | _ => false) | _ => false
 | .sdata x _ => match op with | .call c => (match c.callee with | .builtin .unsafeSliceData => (match c.args.toList with | [x'] => opdOk x x' | _ => false) | _ => false) | _ => false
 | .ustr p n e => match op with | .call c => (match c.callee with | .builtin .unsafeString => (match c.args.toList,c.argTypes.toList with | [p',n'],[pt,_] => opdOk p p' && opdOk n n' && (match P.underlying pt with | some (.pointer e') => Nat.beq e' e && Nat.beq (P.cellsOf e') 1 | _ => false) | _,_ => false) | _ => false) | _ => false
 | .uptr x u n => match op with | .convert s d x' => uptrOk P s d u n && opdOk x x' | _ => false
 | .ident f x => match op with | .call c => (match c.callee with | .value (.func f') => decide (f' = f) && identOk P f && (match c.args.toList with | [x'] => opdOk x x' | _ => false) | _ => false) | _ => false
 | .mkbuf z e n c bytes => match op with | .makeSlice t n' c' => mksliceOk P t z bytes && rowTy P t z.cells.length e && opdOk n n' && opdOk c c' | _ => false
 | .slcA x l h len sz => match op with | .slice t y l' h' m' => opdOk x y && optOk l l' && optOk h h' && m'.isNone && arrPtrOk P t len sz | _ => false
 | .strL x => match op with | .convert s d x' => strOk P s d && opdOk x x' | _ => false
 | .bytesS x => match op with | .convert s d x' => bytesOk P s d && opdOk x x' | _ => false
 | .idxB f x y => match op with | .call c => (match c.callee with | .value (.func f') => decide (f' = f) && idxBOk P f && (match c.args.toList with | [x',y'] => opdOk x x' && opdOk y y' | _ => false) | _ => false) | _ => false
 | .copyS x y => match op with | .call c => (match c.callee with | .builtin .copy => (match c.args.toList,c.argTypes.toList with | [x',y'],[t,_] => opdOk x x' && opdOk y y' && copyOk P t | _,_ => false) | _ => false) | _ => false
 | .appR x y sz bytes => match op with | .call c => (match c.callee with | .builtin .append => (match c.args.toList,c.argTypes.toList with | [x',y'],[t,t2] => opdOk x x' && opdOk y y' && appendOk P t sz bytes && append2Ok P t2 | _,_ => false) | _ => false) | _ => false
 | .mkslice z e n c bytes => match op with | .makeSlice t n' c' => mksliceOk P t z bytes && rowTy P t z.cells.length e && opdOk n n' && opdOk c c' | _ => false
section
variable {P:Program} {G:Nat → Option (List AV)} {g:Gh} {st:St} {a:Act} {w:World} {o:Oper}
theorem isIface_no {d:Option TypeDesc} (h:(!isIface d) = true) : ∃ e,d = some e ∧ ∀ ms,e ≠ .interface ms := by
 cases d with
 | none => simp [isIface] at h
 | some e => exact ⟨e,rfl,fun ms he => by subst he; simp [isIface] at h⟩
theorem arr_of {α:Type} (x:Array α) {l:List α} (h:x.toList = l) : x = l.toArray := by rw [← h]
theorem call_eq {c:Call} {cal:Callee} {xs:List Operand} {ts:List TypeId} (h1:c.callee = cal) (h2:c.args.toList = xs) (h3:c.argTypes.toList = ts) : c = { callee := cal,args := xs.toArray,argTypes := ts.toArray } := by
 cases c; simp only at h1 h2 h3; subst h1; rw [arr_of _ h2,arr_of _ h3]
theorem fits_sconv (k:Rel G g st [] a.tmps w) {x:Opd} {x' : Operand} (hx:opdOk x x' = true) {s d:TypeId} (hs:P.underlying s = some .string) (hd:P.underlying d = some .string) (ho:o.op = .convert s d x') {n:List UInt8} (h:(opd st.fr x).1 = .str n) : Fits P G g st (.val (.str n) st) o a w := by
 have h1 := k.read hx
 rw [h] at h1; simp only [VX,V] at h1
 exact fits_pure k (cv := .string ⟨n.toArray⟩) (by simp [execOp,ho,Act.eval_eq,h1,convert,run_underlying hs,run_underlying hd]) (VF_scalar rfl (by simp only [VX,V]) (by simp) (by simp))
theorem ret1_some {v:AV} {s:St} {r:OpR} (h:ret1 v s = some r) : r = .val v s := by simp [ret1] at h; exact h.symm
end
end Go.Proofs.YtkofimhnehkdoaaGreatDoor.Rf
end
section
namespace Go.Proofs.YtkofimhnehkdoaaGreatDoor.Rf
section
variable {P:Program} {G:Nat → Option (List AV)} {g g' : Gh} {st:St} {a:Act} {w w' : World} {o:Oper} {tm:Array Value} {ps:List (AV × Value)}
theorem Fr.mem_of_get : ∀ {fr:Fr} {s:Nat} {v:AV},fr.get s = v → v ≠ .none → (s,v) ∈ fr
 | [],s,v,h,hn => by simp [Fr.get] at h; exact absurd h.symm hn
 | (t,u) :: r,s,v,h,hn => by
   simp only [Fr.get] at h
   split at h
   · rename_i e; subst e; subst h; simp
   · exact List.mem_cons_of_mem _ (Fr.mem_of_get h hn)
theorem Fr.noLast_get {fr:Fr} {s t u:Nat} (h:fr.noLast s = true) (k:fr.get t = .lastr u) : u ≠ s := by
 have := Fr.mem_of_get k (by simp)
 simp only [Fr.noLast,List.all_eq_true] at h
 have h2 := h _ this
 simp only [k] at h2
 simpa using h2
theorem VF.like2 {fr fr' : Fr} {tm' : Array Value} {r:Root} {v:AV} {cv:Value} (hb:∀ t cs,fr.get t = .box cs → ∃ cs',fr'.get t = .box cs')
   (hp:∀ t,v = .lastr t → ∀ xs sz,fr.get t = .pend xs sz → fr'.get t = .pend xs sz ∧ tm'.getD t undef = tm.getD t undef) (h:VF g w fr tm r v cv) : VF g w fr' tm' r v cv := by
 cases v <;> simp only [VF,VX] at h ⊢ <;> first
   | exact h
   | (obtain ⟨⟨h1,cs,h2⟩,h3⟩ := h; exact ⟨⟨h1,hb _ cs h2⟩,h3⟩)
   | (obtain ⟨⟨xs,sz,a,c,h1,h2,h3⟩,h4⟩ := h; obtain ⟨p,q⟩ := hp _ rfl xs sz h1; exact ⟨⟨xs,sz,a,c,p,q.trans h2,h3⟩,h4⟩)
theorem run_storeVar_each {t:TypeId} {n:Nat} {agg:Bool} (h:tyOk P t n agg = true) {b q:Nat} {cu:Value} (hn:cu.cells.toList.length = n) (h1:Ones cu.cells.toList)
   (hc:∀ j,j < n → (∃ u,w.cell? ⟨b,q + j,none⟩ = some u) ∧ w.frozen? ⟨b,q + j,none⟩ = false) : ∃ w',(storeVar t ⟨b,q,none⟩ cu).run P w = .ok () w' ∧ Wr w w' b q cu.cells.toList := by
 have hsz : (sizeOf t).run P w = .ok n w := by
   unfold tyOk at h
   cases hi : P.info? t with
   | none => simp [hi] at h
   | some i =>
     cases hu : P.underlying t with
     | none => simp [hi,hu] at h
     | some d =>
       simp only [hi,hu,Bool.and_eq_true,decide_eq_true_eq] at h
       simp [sizeOf,typeInfo,hi,h.1.1]
 obtain ⟨w',r1,r2⟩ := run_storeCells_each (P := P) b q cu.cells.toList 0 w (fun j hj => by rw [Nat.add_zero]; exact hc j (by rw [← hn]; exact hj)) h1
 rw [Nat.add_zero] at r2
 refine ⟨w',?_,r2⟩
 simp only [storeVar,Sem.run_bind,hsz,Result.andThen_ok]
 rw [if_neg (by simp at hn; simpa using hn)]
 simpa using r1
theorem spread_len {v:AV} {cv:Value} (hp:v.plain = true) (hv:V g w v cv) : v.cp.cells.length = v.spread.length := by
 rw [← (V.cells hp hv).1.len,← (V.cellsCp hp hv).1.len]
theorem opd_lastr_loose {fr:Fr} {p s:Nat} {tk:Bool} (h:(opd fr (.t p tk)).1 = .lastr s) (k:(fr.get p).loose = false) : False := by
 simp only [opd] at h
 cases hv : fr.get p <;> rw [hv] at h k <;> first | (simp [AV.loose] at k; done) | (simp at h; done)
theorem fits_store_last (k:Rel G g st [] a.tmps w) {p:Nat} {tk:Bool} {v:Opd} {y u:Operand} (hx:opdOk (.t p tk) y = true) (hv:opdOk v u = true) {t:TypeId} {n:Nat} {agg:Bool} (ht:tyOk P t n agg = true) (ho:o.op = .store t y u) (hp:(opd st.fr v).1.plain = true)
   {s:Nat} (h:(opd (opd st.fr v).2 (.t p tk)).1 = .lastr s) {xs:List AV} {sz:Nat} (hs:(opd st.fr v).2.get s = .pend xs sz) (hl:(opd st.fr v).1.spread.length = n) (hn:n = sz) (hps:p ≠ s) (hno:((opd st.fr v).2.set p .none).noLast s = true) :
   Fits P G g st (.val (.tup []) { st with fr := ((opd st.fr v).2.set p .none).set s (.list (xs ++ [(opd st.fr v).1.cp]) (.own sz 0)) }) o a w := by
 subst hn
 obtain ⟨g1,k1,s1,_⟩ := k.take hv
 simp only [List.nil_append] at k1
 have hr := k1.read hx
 simp only at hr
 rw [h] at hr
 simp only [VX] at hr
 obtain ⟨xs',sz',ad,c,r1,r2,r3⟩ := hr
 rw [hs] at r1; cases r1
 have hu := k1.ps 0 _ _ rfl
 rw [VF_loose (AV.loose_of_plain hp),VX_plain hp] at hu
 have hc := V.cells hp hu.1
 have hcn : (Act.opd a.tmps u).cells.toList.length = n := by rw [hc.1.len]; exact hl
 have hf := k1.fr s
 simp only at hf
 rw [hs,r2] at hf
 simp only [VF] at hf
 obtain ⟨ad',c',f1,f2,f3,f4,f5⟩ := hf
 cases f1
 obtain ⟨b,q,sp⟩ := ad
 simp only at f4; subst f4
 obtain ⟨hE,htail⟩ := f5.get
 simp only at hE htail r3
 have hle : (xs.length + 1) * n ≤ c * n := Nat.mul_le_mul_right n f2
 rw [Nat.add_mul,Nat.one_mul] at hle
 obtain ⟨w',hw1,hw2⟩ := run_storeVar_each (w := w) ht (b := b) (q := q + xs.length * n) hcn hc.2 (fun j hj => (htail _ (by omega) (by omega)).2)
 have htags : ∀ o,q + xs.length * n ≤ o → o < q + xs.length * n + (Act.opd a.tmps u).cells.toList.length → g1.ow b o = .tail (.fr s) 0 := fun o h1 h2 => (htail o h1 (by omega)).1
 have sm := same_fill hw2 htags
 have hi : (fun t => t ≠ Tag.tail (.fr s) 0) Tag.imm := by simp
 have hlay : Lay g1 w n [(opd st.fr v).1.cp] (Act.opd a.tmps u).cells.toList :=
   RowR.lay ⟨_,[],by simp,by rw [spread_len hp hu.1]; exact hl,(V.cellsCp hp hu.1).1,by simp [RowR]⟩ hc.2
 have hE2 : VE (g1.fill b (q + xs.length * n) (Act.opd a.tmps u).cells.toList.length) w' n (xs ++ [(opd st.fr v).1.cp]) b q :=
   VE.append (VE.mono (sm.ext hi) _ _ _ _ hE) (hlay.2.2 _ _ _ _ (sm.ext hi) fun j u hu => by
     have hj := (List.getElem?_eq_some_iff.1 hu).1
     exact ⟨by rw [fill_in (by omega) (by omega)]; trivial,hw2.new j u hu⟩)
 have hget : ∀ x,(((opd st.fr v).2.set p .none).set s (.list (xs ++ [(opd st.fr v).1.cp]) (.own n 0))).get x = if s = x then .list (xs ++ [(opd st.fr v).1.cp]) (.own n 0) else if p = x then .none else (opd st.fr v).2.get x := fun x => by
   rw [Fr.get_set,Fr.get_set]
 refine fits_skip (w' := w') (g' := g1.fill b (q + xs.length * n) (Act.opd a.tmps u).cells.toList.length) ?_ (Rel.push0 ?_ VF_undef) (s1.trans (stay_fill hw2 htags))
 · simp [execOp,ho,Act.eval_eq,r3,Instr.storeAt,Instr.sureAddr,hw1]
 · refine ⟨fun x => ?_,fun j x cx hj => by simp at hj,k1.hp.same sm hi (fun _ => by simp) (fun _ _ => by simp) (fun _ _ _ => by simp) rfl,fun d o hd => ?_,k1.gl.same sm hi (by simp)⟩
   · simp only
     rw [hget]
     split
     · rename_i e; subst e
       rw [VF_loose rfl,r2]
       refine ⟨?_,?_⟩
       · simp only [VX,V]
         exact ⟨some ⟨b,q,none⟩,c,by simp,by simpa using f2,f3,⟨fun e => (by cases e),fun e => (by cases e)⟩,(fun e => by cases e),fun ad e => by cases e; exact ⟨fun _ => rfl,fun h => absurd rfl h,n,hE2⟩⟩
       · simp only [Owns]
         intro ad n' c' e
         cases e
         refine ⟨hE2,fun o h1 h2 => ?_⟩
         simp only [List.length_append,List.length_cons,List.length_nil,Nat.add_mul,Nat.one_mul,Nat.zero_add] at h1 h2
         obtain ⟨t1,t2,t3⟩ := htail o (by omega) h2
         exact ⟨by rw [fill_out (by rw [hcn]; omega)]; exact t1,by rw [hw2.old o (by rw [hcn]; omega)]; exact t2,by rw [hw2.frz o]; exact t3⟩
     · rename_i hsx
       split
       · simp [VF,VX,V,Owns]
       · rename_i hpx
         have f := VF.same (r := .fr x) sm hi (fun _ _ _ => rfl) (fun i => by simpa using fun e => absurd e.symm hsx) (by simp) rfl (k1.fr x)
         refine VF.like2 (fun t cs ht => ?_) (fun t ht ys sz hy => ?_) f
         · refine ⟨cs,?_⟩
           rw [hget,if_neg (fun e => by subst e; simp only at ht; rw [hs] at ht; cases ht),if_neg (fun e => ?_)]
           · exact ht
           · subst e
             exact opd_lastr_loose h (by simp only at ht; rw [ht]; rfl)
         · have hne : t ≠ s := Fr.noLast_get hno (t := x) (by rw [Fr.get_set,if_neg hpx]; exact ht)
           refine ⟨?_,rfl⟩
           rw [hget,if_neg (fun e => hne e.symm),if_neg (fun e => ?_)]
           · exact hy
           · subst e
             exact opd_lastr_loose h (by simp only at hy; rw [hy]; rfl)
   · rw [hw2.size] at hd
     simp only [Gh.fill]
     rw [k1.fresh d o hd]
     split
     · rename_i hh; obtain ⟨rfl,h1,h2⟩ := hh
       have := htags o h1 h2
       rw [k1.fresh d o hd] at this; cases this
     · rfl
end
end Go.Proofs.YtkofimhnehkdoaaGreatDoor.Rf
end
