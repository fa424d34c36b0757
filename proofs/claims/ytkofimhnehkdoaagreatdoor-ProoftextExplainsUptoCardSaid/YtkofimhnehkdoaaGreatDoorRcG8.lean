/- A part of the proof: see the last text. -/
import Derived.Test.YtkofimhnehkdoaaGreatDoorRcG7
import Derived.Lib.Bytealg
import Derived.Lib.ConvBytes
import Derived.Lib.MakeNoZero
import Derived.Laws.IdiomCopy
set_option linter.unusedVariables false
set_option linter.unusedSimpArgs false
section
namespace Go.Proofs.YtkofimhnehkdoaaGreatDoor.Rf
section
variable {P:Program} {G:Nat → Option (List AV)} {g g' : Gh} {st:St} {a:Act} {w w' : World} {o:Oper} {tm:Array Value} {ps:List (AV × Value)}
theorem same_kill {id b:Nat} (hbt:∀ o,g.ow b o = .obj id) (how:∀ c o,c ≠ b → g'.ow c o = g.ow c o) (hold:∀ c,c ≠ b → w'.heap[c]? = w.heap[c]?) (hrow:∀ c e n,Row0 w c e n → Row0 w' c e n)
   (hhb:∀ (i c:Nat),g.hb[i]? = some c → g'.hb[i]? = some c) : Same (fun t => t ≠ .obj id) g w g' w' :=
 have ne : ∀ c o,g.ow c o ≠ .obj id → c ≠ b := fun c o h e => by subst e; exact h (hbt o)
 { ow := fun c o _ h => how c o (ne c o h),cell := fun c o _ h => cell?_of_block' (hold c (ne c o h)),frz := fun c o _ h _ => frozen?_of_block' (hold c (ne c o h)),blk := fun c _ h => hold c (ne c 0 (h 0).1),row := hrow,te := fun _ => by simp,hb := hhb }
theorem Rel.kill (k:Rel G g st ps tm w) {id b:Nat} {ob:HObj} (hid:st.hp[id]? = some ob) (hbt:∀ o,g.ow b o = .obj id) (hlt:b < w.heap.size) (how:∀ c o,c ≠ b → g'.ow c o = g.ow c o) (hhb:g'.hb = g.hb) (hbx:g'.bx = g.bx)
   (hold:∀ c,c ≠ b → w'.heap[c]? = w.heap[c]?) (hrow:∀ c e n,Row0 w c e n → Row0 w' c e n) (hsize:w'.heap.size = w.heap.size) : Rel G g' { st with hp := st.hp.set id .dead } ps tm w' := by
 have sm := same_kill (g' := g') (w' := w') hbt how hold hrow (fun i c h => by rw [hhb]; exact h)
 have hi : (fun t => t ≠ Tag.obj id) Tag.imm := by simp
 refine ⟨fun s => (k.fr s).same sm hi (fun t _ _ => by rw [hbx]) (fun i => by simp) (by simp) (by rw [hbx]),fun j v cv hj => (k.ps j v cv hj).same sm hi (fun t _ _ => by rw [hbx]) (fun i => by simp) (by simp) (by rw [hbx]),
   ⟨by rw [hhb]; simp; exact k.hp.len,fun x ox hx hlive => ?_⟩,fun c o hc => ?_,k.gl.same sm hi (by simp)⟩
 · simp only [List.getElem?_set] at hx
   by_cases e : id = x
   · subst e
     simp only [if_true] at hx
     split at hx
     · cases hx; cases hlive
     · cases hx
   · rw [if_neg e] at hx
     obtain ⟨b',e1,e2,e3⟩ := k.hp.obj x ox hx hlive
     have hne : ∀ i,g.ow b' i ≠ .obj id := fun i => by rw [e2 i]; simpa using fun h => e h.symm
     exact ⟨b',by rw [hhb]; exact e1,fun i => (sm.ow b' i e3.lt (hne i)).trans (e2 i),e3.same sm hi e2 (by simpa using fun h => e h.symm) (fun i => by simp) (fun i j => by simp)⟩
 · rw [hsize] at hc
   rw [how c o (by omega)]; exact k.fresh c o hc
theorem stay_kill {id b:Nat} (hbt:∀ o,g.ow b o = .obj id) (how:∀ c o,c ≠ b → g'.ow c o = g.ow c o) (hhb:g'.hb = g.hb) (hold:∀ c,c ≠ b → w'.heap[c]? = w.heap[c]?) (hrow:∀ c e n,Row0 w c e n → Row0 w' c e n)
   (hsize:w'.heap.size = w.heap.size) (h1:w'.os = w.os) (h2:w'.tape = w.tape) (h3:w'.output = w.output) : Stay g w g' w' :=
 have sm := same_kill (g' := g') (w' := w') hbt how hold hrow (fun i c h => by rw [hhb]; exact h)
 have hk : ∀ c o,(g.ow c o).kept → g.ow c o ≠ .obj id := fun c o hk e => by rw [e] at hk; exact hk
 { ow := fun c o hl h => sm.ow c o hl (hk c o h),cell := fun c o hl h => sm.cell c o hl (hk c o h),frz := fun c o hl h he => sm.frz c o hl (hk c o h) he,blk := fun c hl h => sm.blk c hl (fun o => ⟨hk c o (h o).1,(h o).2⟩),row := hrow,te := fun _ => trivial,hb := fun i c h => by rw [hhb]; exact h,os := h1,tape := h2,output := h3,size := by rw [hsize]; exact Nat.le_refl _ }
theorem stay_ghost {T:Tag → Prop} (h:Same T g w g' w) (ho:T .out) (hi:T .imm) : Stay g w g' w :=
 { ow := fun b o hl ht => h.ow b o hl (by have he := h.te hi; revert ht; cases g.ow b o <;> simp [Tag.kept] <;> assumption)
   cell := fun _ _ _ _ => rfl,frz := fun _ _ _ _ _ => rfl,blk := fun _ _ _ => rfl,row := fun _ _ _ h => h,te := fun _ => trivial,hb := h.hb,os := rfl,tape := rfl,output := rfl,size := Nat.le_refl _ }
theorem Rel.addobj (k:Rel G g st ps tm w) {b:Nat} {ob:HObj} (hbt:∀ o,g.ow b o = .obj st.hp.length) (ho:∀ g1 : Gh,Ext g w g1 w → ObjRel g1 w st.hp.length b ob) :
   Rel G { g with hb := g.hb ++ [b] } { st with hp := st.hp ++ [ob] } ps tm w ∧ Stay g w { g with hb := g.hb ++ [b] } w := by
 have sm : Same (fun _ => True) g w { g with hb := g.hb ++ [b] } w := { ow := fun _ _ _ _ => rfl,cell := fun _ _ _ _ => rfl,frz := fun _ _ _ _ _ => rfl,blk := fun _ _ _ => rfl,row := fun _ _ _ h => h,te := fun _ => trivial,hb := fun i c h => by show (g.hb ++ [b])[i]? = _; rw [List.getElem?_append,if_pos (List.getElem?_eq_some_iff.1 h).1]; exact h }
 have hlen := k.hp.len
 refine ⟨⟨fun s => (k.fr s).same sm trivial (fun t _ _ => rfl) (fun _ => trivial) trivial rfl,fun j v cv hj => (k.ps j v cv hj).same sm trivial (fun t _ _ => rfl) (fun _ => trivial) trivial rfl,⟨by simp [hlen],fun x ox hx hlive => ?_⟩,k.fresh,k.gl.same sm trivial trivial⟩,stay_ghost sm trivial trivial⟩
 rw [List.getElem?_append] at hx
 split at hx
 · obtain ⟨b',e1,e2,e3⟩ := k.hp.obj x ox hx hlive
   exact ⟨b',sm.hb _ _ e1,e2,e3.same sm trivial e2 trivial (fun _ => trivial) (fun _ _ => trivial)⟩
 · have : x = st.hp.length := by
     obtain ⟨h1,_⟩ := List.getElem?_eq_some_iff.1 hx; simp at h1; omega
   subst this; simp at hx; subst hx
   exact ⟨b,by show (g.hb ++ [b])[_]? = _; rw [List.getElem?_append,if_neg (by omega)]; simp [hlen],hbt,ho _ (sm.ext trivial)⟩
theorem VC.of_cells : ∀ {l:List AV} {us:List Value} {b off:Nat},VS g w l us → Ones us → (∀ o,(g.ow b o).ro) → (∀ (j:Nat) u,us[j]? = some u → w.cell? ⟨b,off + j,none⟩ = some u) → VC g w l b off
 | [],_,_,_,_,_,_,_ => by simp [VC]
 | c :: l,us,b,off,hv,h1,hr,hc => by
   simp only [VS] at hv
   obtain ⟨u,r,rfl,hu,hv⟩ := hv
   simp only [VC]
   refine ⟨⟨hr _,u,by simpa using hc 0 u rfl,h1 u (by simp),hu⟩,VC.of_cells hv (fun x hx => h1 x (by simp [hx])) hr fun j x hj => ?_⟩
   have := hc (j + 1) x (by simpa using hj)
   rwa [show off + (j + 1) = off + 1 + j by omega] at this
theorem Ones.sub {vs us:List Value} (h:Ones vs) (hs:∀ u,u ∈ us → u ∈ vs) : Ones us := fun u hu => h u (hs u hu)
theorem chunks_len (sz:Nat) (agg:Bool) : ∀ (n:Nat) (l:List AV),(chunks sz agg n l).length = n
 | 0,_ => rfl
 | n + 1,l => by simp [chunks,chunks_len sz agg n]
theorem VE.of_chunks {sz:Nat} {agg:Bool} (hsz:agg = true ∨ sz = 1) {b:Nat} (hr:∀ o,(g.ow b o).ro) : ∀ {n:Nat} {l:List AV} {us:List Value} {off:Nat},n * sz ≤ l.length → VS g w l us → Ones us → (∀ (j:Nat) u,us[j]? = some u → w.cell? ⟨b,off + j,none⟩ = some u) → VE g w sz (chunks sz agg n l) b off
 | 0,_,_,_,_,_,_,_ => by simp [chunks,VE]
 | n + 1, l,us,off,hl,hv,h1,hc => by
   rw [Nat.succ_mul] at hl
   have hn : VE g w sz (chunks sz agg n (l.drop sz)) b (off + sz) := VE.of_chunks hsz hr (us := us.drop sz) (by simp; omega) (hv.drop sz) (h1.sub fun u hu => List.mem_of_mem_drop hu) fun j u hj => by
     rw [List.getElem?_drop] at hj
     have := hc _ u hj
     rwa [← Nat.add_assoc] at this
   have hhead : VC g w ((l.take sz).map AV.cp1) b off := VC.of_cells (us := us.take sz) (hv.take sz).cp1 (h1.sub fun u hu => List.mem_of_mem_take hu) hr fun j u hj => by
     rw [List.getElem?_take] at hj
     split at hj
     · exact hc j u hj
     · cases hj
   cases agg with
   | true =>
     simp only [chunks,if_true]
     refine VE.cons_mk ?_ hhead hn
     simp [AV.cells]; omega
   | false =>
     have h2 : sz = 1 := by simpa using hsz
     subst h2
     simp only [chunks,Bool.false_eq_true,if_false]
     cases l with
     | nil => simp at hl
     | cons c l =>
       simp only [List.take_succ_cons,List.take_zero,List.map_cons,List.map_nil] at hhead
       simp only [List.headD_cons]
       have hcell : (c.cp1).cells = [c.cp1] := by
         have hvc := hv; simp only [VS] at hvc
         obtain ⟨u,r,rfl,hu,_⟩ := hvc
         have ho := h1 u (by simp)
         cases c <;> first
           | rfl
           | (simp only [V] at hu; obtain ⟨vs,rfl,_⟩ := hu; simp [Value.oneCell'] at ho)
       exact VE.cons_mk (by rw [hcell]; rfl) (by rw [hcell]; exact hhead) hn
theorem Rel.frz1 (k:Rel G g st [] tm w) {lo s i sz:Nat} {agg:Bool} {st' : St} (h:Rf.frz1 lo st s i sz agg = some st') : ∃ g',Rel G g' st' [] tm w ∧ Stay g w g' w := by
 unfold Rf.frz1 at h
 split at h
 · rename_i cs hs
   split at h
   · rename_i id q n z hc
     split at h
     · rename_i t0 ds hid
       split at h
       · rename_i hq
         obtain ⟨_,hz,hsz,hlen⟩ := hq
         subst hz
         cases h
         obtain ⟨b,k1,k2,k3⟩ := k.hp.obj id _ hid rfl
         simp only [ObjRel] at k3
         obtain ⟨vs,sp,ty,f1,⟨f2,f3⟩,_⟩ := k3
         have hlt := (Array.getElem?_eq_some_iff.1 f1).1
         let g' : Gh := { ow := fun c o => if c = b then .imm else g.ow c o,hb := g.hb,bx := g.bx }
         have how : ∀ c o,c ≠ b → g'.ow c o = g.ow c o := fun c o e => by show (if c = b then _ else _) = _; rw [if_neg e]
         have hro : ∀ o,(g'.ow b o).ro := fun o => by show (if b = b then Tag.imm else _).ro; rw [if_pos rfl]; trivial
         have kk := k.kill (g' := g') (w' := w) hid k2 hlt how rfl rfl (fun _ _ => rfl) (fun _ _ _ h => h) rfl
         have ss := stay_kill (g' := g') (w' := w) k2 how rfl (fun _ _ => rfl) (fun _ _ _ h => h) rfl rfl rfl rfl
         have sm := same_kill (g' := g') (w' := w) k2 how (fun _ _ => rfl) (fun _ _ _ h => h) (fun _ _ h => h)
         have hi : (fun t => t ≠ Tag.obj id) Tag.imm := by simp
         have fk := kk.fr s
         simp only at fk
         rw [hs] at fk
         simp only [VF] at fk
         obtain ⟨us,bt,u1,u2,⟨u3,u3'⟩,u4,u5⟩ := fk
         obtain ⟨cv,c1,c2⟩ := u3.get hc
         have hnew : V g' w (.list (chunks z agg n (ds.drop q)) .no) cv := by
           simp only [V] at c2 ⊢
           obtain ⟨b',o',c,⟨d1,⟨d2,d3⟩,d4,_⟩,d5⟩ := c2
           have hb' : b' = b := by rw [show g'.hb = g.hb from rfl,k1] at d1; cases d1; rfl
           subst hb'
           refine ⟨some ⟨b',o',none⟩,c,by rw [chunks_len]; exact d5,by rw [chunks_len]; exact d2,d3,⟨fun e => (by cases e),fun e => (by cases e)⟩,(fun e => by cases e),fun ad e => ?_⟩
           cases e
           refine ⟨fun _ => rfl,fun hn => absurd rfl hn,z,?_⟩
           by_cases hn : n = 0
           · subst hn; simp [chunks,VE]
           · have ho : o' = q := d4 (by omega)
             subst ho
             refine VE.of_chunks hsz hro (us := vs.drop o') (by simp; omega) (VS.mono (sm.ext hi) _ _ (f2.drop o')) (Ones.sub f3 fun u hu => List.mem_of_mem_drop hu) fun j u hj => ?_
             rw [List.getElem?_drop] at hj
             have : (vs ++ sp)[o' + j]? = some u := by rw [List.getElem?_append,if_pos (List.getElem?_eq_some_iff.1 hj).1]; exact hj
             simp [World.cell?,f1,this]
         have hset : VS g' w (cs.set i (.list (chunks z agg n (ds.drop q)) .no)) us := by
           refine VS.mk (by simp [u3.len]) fun j v u h1 h2 => ?_
           rw [List.getElem?_set] at h1
           by_cases e : i = j
           · subst e
             simp only [if_true] at h1
             split at h1
             · cases h1; rw [c1] at h2; cases h2; exact hnew
             · cases h1
           · rw [if_neg e] at h1; exact u3.get' h1 h2
         have hown : OwnsL g' w (.fr s) (cs.set i (.list (chunks z agg n (ds.drop q)) .no)) us := fun j xs sz e cv h1 h2 => by
           rw [List.getElem?_set] at h1
           by_cases ej : i = j
           · subst ej
             simp only [if_true] at h1
             split at h1 <;> cases h1
           · rw [if_neg ej] at h1; exact u5 j xs sz e cv h1 h2
         have l : FrLike st.fr tm (st.fr.set s (.box (cs.set i (.list (chunks z agg n (ds.drop q)) .no)))) tm :=
           ⟨fun t ds' ht => by
               rw [Fr.get_set]; by_cases e : s = t
               · rw [if_pos e]; exact ⟨_,rfl⟩
               · rw [if_neg e]; exact ⟨ds',ht⟩,
            fun t xs sz ht => by
               rw [Fr.get_set]; by_cases e : s = t
               · subst e; rw [hs] at ht; cases ht
               · rw [if_neg e]; exact ⟨ht,rfl⟩⟩
         refine ⟨g',⟨fun t => ?_,fun j v cv hj => by simp at hj,kk.hp,kk.fresh,kk.gl⟩,ss⟩
         simp only
         by_cases e : s = t
         · subst e
           rw [Fr.get_set,if_pos rfl]
           simp only [VF]
           exact ⟨us,bt,u1,u2,⟨hset,u3'⟩,u4,hown⟩
         · rw [Fr.get_set,if_neg e]
           exact VF.like l (kk.fr t)
       · cases h
     · cases h
   · cases h; exact ⟨g,k,Stay.refl g w⟩
   · cases h
 · cases h
theorem Rel.frzs {lo:Nat} : ∀ {l:List (Nat × Nat × Nat × Bool)} {g:Gh} {st st' : St},Rel G g st [] tm w → Rf.frzs lo l st = some st' → ∃ g',Rel G g' st' [] tm w ∧ Stay g w g' w
 | [],g,st,st',k,h => by simp [Rf.frzs] at h; subst h; exact ⟨g,k,Stay.refl g w⟩
 | (s,i,sz,agg) :: r,g,st,st',k,h => by
   simp only [Rf.frzs] at h
   split at h
   · rename_i s1 h1
     obtain ⟨g1,k1,q1⟩ := k.frz1 h1
     obtain ⟨g2,k2,q2⟩ := Rel.frzs k1 h
     exact ⟨g2,k2,q1.trans q2⟩
   · cases h
theorem Rel.rorow (k:Rel G g st ps tm w) (hold:∀ b,b < w.heap.size → w'.heap[b]? = w.heap[b]?) (hsize:w'.heap.size = w.heap.size + 1) (h1:w'.os = w.os) (h2:w'.tape = w.tape) (h3:w'.output = w.output) :
   ∃ g',Rel G g' st ps tm w' ∧ Stay g w g' w' ∧ (∀ o,(g'.ow w.heap.size o).ro) := by
 let g' : Gh := { ow := fun b o => if b = w.heap.size then .imm else g.ow b o,hb := g.hb,bx := g.bx }
 have how : ∀ b o,b < w.heap.size → g'.ow b o = g.ow b o := fun b o e => by show (if b = _ then _ else _) = _; rw [if_neg (by omega)]
 have sm : Same (fun _ => True) g w g' w' := Same.grow hold (fun b o h _ => how b o h) (fun _ _ h => h)
 refine ⟨g',⟨fun s => (k.fr s).same sm trivial (fun t _ _ => rfl) (fun _ => trivial) trivial rfl,fun j v cv hj => (k.ps j v cv hj).same sm trivial (fun t _ _ => rfl) (fun _ => trivial) trivial rfl,k.hp.same sm trivial (fun _ => trivial) (fun _ _ => trivial) (fun _ _ _ => trivial) rfl,fun b o hb => ?_,k.gl.same sm trivial trivial⟩,?_,fun o => ?_⟩
 · show (if b = _ then _ else _) = _; rw [if_neg (by omega)]; exact k.fresh b o (by omega)
 · exact { ow := fun b o hl _ => how b o hl,cell := fun b o hl _ => cell?_of_block' (hold b hl),frz := fun b o hl _ _ => frozen?_of_block' (hold b hl),blk := fun b hl _ => hold b hl,row := sm.row,te := fun _ => trivial,hb := fun _ _ h => h,os := h1,tape := h2,output := h3,size := by omega }
 · show (if _ = _ then Tag.imm else _).ro; rw [if_pos rfl]; trivial
def bytesOk (P:Program) (s d:TypeId) : Bool :=
 (match P.underlying d with
  | some (.slice e) => (match P.underlying e with | some (.int .u8) => true | _ => false)
  | _ => false) && (match P.underlying s with | some .string => true | _ => false)
theorem fits_bytesS (k:Rel G g st [] a.tmps w) {x:Opd} {y:Operand} (hx:opdOk x y = true) {s d:TypeId} (hs:bytesOk P s d = true) (ho:o.op = .convert s d y) {bs:List UInt8} (hv:(opd st.fr x).1 = .str bs) (hl:bs.length ≤ 140737488355328) :
   Fits P G g st (.val (.list (bs.map fun b => .int .u8 b.toNat) .no) st) o a w := by
 have hr := k.read hx; rw [hv] at hr; simp only [VX,V] at hr
 unfold bytesOk at hs
 simp only [Bool.and_eq_true] at hs
 obtain ⟨h1,h2⟩ := hs
 split at h1 <;> try (cases h1; done)
 rename_i e he
 split at h1 <;> try (cases h1; done)
 rename_i hi
 split at h2 <;> try (cases h2; done)
 rename_i hd
 have hrun := Lib.run_convert_string_bytes (P := P) w s d e ⟨bs.toArray⟩ hd he hi
 obtain ⟨g1,k1,s1,hro⟩ := k.rorow (w' := Lib.bytesWorld w e ⟨bs.toArray⟩) (fun b hb => Lib.bytesWorld_at_old w e _ b hb) (Lib.bytesWorld_size w e _) rfl rfl rfl
 have hsz : (⟨bs.toArray⟩ : ByteArray).size = bs.length := by show bs.toArray.size = _; simp
 refine fits_value (g' := g1) (cv := .slice (some ⟨w.heap.size,0,none⟩) (⟨bs.toArray⟩ : ByteArray).size (grownCap w (⟨bs.toArray⟩ : ByteArray).size 0 e)) (by simp [execOp,ho,Act.eval_eq,hr,hrun]) (k1.push0 ?_) s1
 refine VF_scalar rfl (VX_of_V ?_) (by simp) (by simp)
 rw [hsz]
 simp only [V]
 refine ⟨_,_,by rw [List.length_map],by rw [List.length_map]; exact grownCap_ge w bs.length 0 e,?_,⟨fun e => (by cases e),fun e => (by cases e)⟩,(fun e => by cases e),fun ad e' => ?_⟩
 · have := grownCap_le_maxLen w bs.length 0 e (by simp [maxLen]; omega)
   simpa [maxLen] using this
 · cases e'
   refine ⟨fun _ => rfl,fun hn => absurd rfl hn,1,?_⟩
   have hcells := fun j (hj:j < bs.length) => Lib.bytesWorld_cell w e ⟨bs.toArray⟩ j (by rw [hsz]; exact hj)
   refine (Lay.bytes (g := g1) (w := Lib.bytesWorld w e ⟨bs.toArray⟩) bs).2.2 _ _ _ _ ⟨fun _ _ _ _ => ⟨rfl,rfl⟩,fun _ _ _ h => h,fun _ _ h => h⟩ fun j v hj => ⟨hro _,?_⟩
   rw [List.getElem?_map] at hj
   cases hb : bs[j]? with
   | none => rw [hb] at hj; simp at hj
   | some x =>
     rw [hb] at hj; simp at hj; subst hj
     rw [Nat.zero_add,hcells j (List.getElem?_eq_some_iff.1 hb).1]
     simp [List.getD,hb]
theorem idxB_lib : ∀ (l:List UInt8) (c:UInt8),Lib.indexByte l c = idxB l c
 | [],_ => rfl
 | b :: l,c => by simp only [Lib.indexByte,idxB,idxB_lib l c]
theorem idxB_find {fn : Func} (h : fn.name = "internal/bytealg.IndexByteString") : Extern.find fn = some Extern.BytealgIndexByte.indexByte := by
 have h1 : ∀ (a b c : Array TypeId), (((Extern.allGenericRows.lookup "internal/bytealg.IndexByteString").map (· a b c)) <|> ((Extern.allTypedRows.lookup "internal/bytealg.IndexByteString").map (· b c)) <|> Extern.allRows.lookup "internal/bytealg.IndexByteString") = some Extern.BytealgIndexByte.indexByte := by
   intro a b c; kernel_rfl
 unfold Extern.find
 rw [h]
 simp only [h1]
 rfl
def idxBOk (P:Program) (f:FuncId) : Bool :=
 match P.funcs[f]? with
 | some fn => !(fn.name == "runtime.NumGoroutine") && fn.body.isNone && (Extern.findNext fn).isNone && fn.name == "internal/bytealg.IndexByteString"
 | none => false
theorem fits_idxB (k:Rel G g st [] a.tmps w) {f:FuncId} (hf:idxBOk P f = true) {x c:Opd} {x' c' : Operand} (hx:opdOk x x' = true) (hc:opdOk c c' = true) {ts:Array TypeId} (ho:o.op = .call { callee := .value (.func f),args := #[x',c'],argTypes := ts })
   {bs:List UInt8} {n:Int} (h1:(opd st.fr x).1 = .str bs) (h2:(opd st.fr c).1 = .int .u8 n) : Fits P G g st (.val (.int .i64 (idxB bs (UInt8.ofNat n.toNat))) st) o a w := by
 have r1 := k.read hx; rw [h1] at r1; simp only [VX,V] at r1
 have r2 := k.read hc; rw [h2] at r2; simp only [VX,V] at r2
 unfold idxBOk at hf
 split at hf
 · rename_i fn hfn
   simp only [Bool.and_eq_true,Bool.not_eq_true',beq_iff_eq,beq_eq_false_iff_ne,ne_eq,Option.isNone_iff_eq_none] at hf
   obtain ⟨⟨⟨q1,q2⟩,q3⟩,q4⟩ := hf
   have hr := run_callFunc_extern hfn (by simpa using q1) (by simp [q2]) q3 (idxB_find q4) #[Value.string ⟨bs.toArray⟩,Value.int .u8 n] w
   rw [Lib.run_indexByteString] at hr
   simp only [Result.andThen_ok,idxB_lib] at hr
   refine fits_pure k (cv := .int .i64 (idxB bs (UInt8.ofNat n.toNat))) ?_ (VF_scalar rfl (by simp only [VX,V]) (by simp) (by simp))
   have e3 : Act.opd a.tmps (.func f) = Value.func (.func f) #[] #[] := rfl
   simp [execOp,ho,resolve,Deferred.ofValue,show a.eval = Act.opd a.tmps from funext (Act.eval_eq a),e3,r1,r2,invoke,hr]
 · cases hf
theorem firstCells_str (s:List UInt8) (n:Nat) : (Builtin.firstCells 1 n (.string ⟨s.toArray⟩)).run P w = .ok ((s.take n).map fun b => Value.int .u8 b.toNat).toArray w := by
 have h1 : (⟨s.toArray⟩ : ByteArray).extract 0 n = ⟨(s.take n).toArray⟩ := by
   apply ByteArray.ext; simp
 simp [Builtin.firstCells,h1]
def copyOk (P:Program) (t:TypeId) : Bool :=
 match P.underlying t with
 | some (.slice e) => (match P.info? e with | some i => decide (i.size = 1) | none => false)
 | _ => false
theorem copyOk_run {t:TypeId} (h:copyOk P t = true) : ∃ e,P.underlying t = some (.slice e) ∧ ∀ w,(sizeOf e).run P w = .ok 1 w := by
 unfold copyOk at h
 split at h <;> try (cases h; done)
 rename_i e he
 cases hi : P.info? e with
 | none => simp [hi] at h
 | some i => simp [hi] at h; exact ⟨e,he,fun w => by simp [sizeOf,typeInfo,hi,h]⟩
theorem fits_copyS (k:Rel G g st [] a.tmps w) {x y:Opd} {x' y' : Operand} (hx:opdOk x x' = true) (hy:opdOk y y' = true) {t t2:TypeId} (ht:copyOk P t = true) (ho:o.op = .call { callee := .builtin .copy,args := #[x',y'],argTypes := #[t,t2] })
   {id q n:Nat} (h1:(opd st.fr x).1 = .sref id q n 1) {s:List UInt8} (h2:(opd st.fr y).1 = .str s) {t0:Nat} {cs:List AV} (h0:min s.length n ≠ 0) (hid:st.hp[id]? = some (.cells t0 cs)) (hfit:q + min s.length n ≤ cs.length) :
   Fits P G g st (.val (.int .i64 (min s.length n : Nat)) { st with hp := st.hp.set id (.cells t0 (put cs q ((s.take (min s.length n)).map fun b => .int .u8 b.toNat))) }) o a w := by
 have r1 := k.read hx; rw [h1] at r1; simp only [VX,V] at r1
 have r2 := k.read hy; rw [h2] at r2; simp only [VX,V] at r2
 obtain ⟨b,o',c,⟨e1,⟨e2,e3⟩,e4,_⟩,e5⟩ := r1
 have : o' = q := e4 (by omega)
 subst this
 obtain ⟨e,u1,u2⟩ := copyOk_run ht
 have hu : V g w (.agg ((s.take (min s.length n)).map fun b => AV.int .u8 b.toNat)) (.agg ((s.take (min s.length n)).map fun b => Value.int .u8 b.toNat).toArray) := by
   simp only [V]
   refine ⟨_,rfl,VS.mk (by simp) fun i v u a1 a2 => ?_,fun u hu => by simp only [List.mem_map] at hu; obtain ⟨b,_,rfl⟩ := hu; rfl⟩
   rw [List.getElem?_map] at a1 a2
   cases hb : (s.take (min s.length n))[i]? with
   | none => rw [hb] at a1; simp at a1
   | some x => rw [hb] at a1 a2; simp at a1 a2; subst a1; subst a2; simp [V]
 have hcp : (AV.agg ((s.take (min s.length n)).map fun b => AV.int .u8 b.toNat)).spread = (s.take (min s.length n)).map fun b => AV.int .u8 b.toNat := by simp only [AV.spread,List.map_map]; rfl
 have hsl : (AV.agg ((s.take (min s.length n)).map fun b => AV.int .u8 b.toNat)).spread.length = min s.length n := by rw [hcp]; simp
 obtain ⟨b',vs,ty,f1,f2,f3,f4,f5⟩ := Rel.setobj (k.push0 (VF_scalar (r := .arg 0) rfl (VX_of_V hu) (by simp) (by simp))) rfl hid (off := o') (by rw [hsl]; exact hfit) (by rw [hsl]; omega)
 rw [e1] at f1; cases f1
 rw [hcp] at f4
 refine fits_value (cv := .int .i64 (min s.length n : Nat)) ?_ (f4.push0 (VF_scalar rfl (by simp only [VX,V]) (by simp) (by simp))) f5
 have hsz : (⟨s.toArray⟩ : ByteArray).size = s.length := by show s.toArray.size = _; simp
 have hst := run_storeCells_at P b o' ty ((s.take (min s.length n)).map fun b => Value.int .u8 b.toNat) 0 vs.toArray w f2 (by simp; omega) (fun v hv => by simp only [List.mem_map] at hv; obtain ⟨b,_,rfl⟩ := hv; rfl)
 have hfc := firstCells_str (P := P) (w := w) s (min s.length n)
 simp only [Nat.add_zero] at hst
 simp [execOp,ho,resolve,Act.eval_eq,invoke,builtin,Builtin.copy_,r2,e5,run_underlying u1,u2,Builtin.lenOf,hsz,goInt,Value.cells] at hst hfc ⊢
 simp [Nat.min_def] at hst hfc ⊢
 rw [hfc]
 simp [hst]
theorem fits_ustrR (k:Rel G g st [] a.tmps w) {p n:Opd} {p' n' : Operand} (hp:opdOk p p' = true) (hn:opdOk n n' = true) {pt it e:TypeId} (ht:P.underlying pt = some (.pointer e)) (hc:P.cellsOf e = 1) (ho:o.op = .call { callee := .builtin .unsafeString,args := #[p',n'],argTypes := #[pt,it] })
   {id:Nat} {m:Int} (h1:(opd st.fr p).1 = .ptr id 0) (h2:(opd st.fr n).1 = .int .i64 m) {cs l:List AV} (hid:st.hp[id]? = some (.cells e cs)) (he:e ≠ 0) (h0:0 < m) (h63:m ≤ 9223372036854775807) (hl:cut cs 0 m.toNat = some l) {bs:List UInt8} (hb:bytesOf l = some bs) :
   Fits P G g st (.val (.str bs) { st with hp := st.hp.set id .dead }) o a w := by
 have r1 := k.read hp; rw [h1] at r1; simp only [VX,V] at r1
 have r2 := k.read hn; rw [h2] at r2; simp only [VX,V] at r2
 obtain ⟨b,e1,e2⟩ := r1
 obtain ⟨b2,q2,x1,us,x2,x3,x4,x5⟩ := k.cutAt (p := .ptr id 0) (cv := .pointer (some ⟨b,0,none⟩)) (VX_of_V (by simp only [V]; exact ⟨b,e1,rfl⟩)) (cs := cs) (off := 0) (by simp only [Rf.behind,hid]) hl
 cases x1
 have hus := bytesOf_VS hb x4
 have hlen := bytesOf_len hb
 have hll := x4.len
 obtain ⟨b',k1,k2,k3⟩ := k.hp.obj id _ hid rfl
 rw [e1] at k1; cases k1
 simp only [ObjRel] at k3
 obtain ⟨vs,sp,ty,f1,⟨f2,_⟩,_,f4⟩ := k3
 obtain ⟨hty,hsp⟩ := f4 he
 subst hty; subst hsp
 rw [List.append_nil] at f1
 have hcl : (cut cs 0 m.toNat) = some l := hl
 have hfit : m.toNat ≤ vs.length := by
   unfold cut at hcl; split at hcl
   · rename_i h; have := f2.len; omega
   · cases hcl
 have hbl : bs.length = m.toNat := by omega
 have hsh : w.shape? b = some (ty,vs.length) := by unfold World.shape?; rw [f1]; simp
 have hr := Lib.run_unsafeString_row (P := P) w pt it o.type ty ht hc b vs.length hsh bs (by intro h; rw [h] at hbl; simp at hbl; omega) (by omega) (by omega) (fun j x hj => by
   rw [Addr.add_lit]; exact x3 j _ (by rw [hus,List.getElem?_map,hj]; rfl))
 have hm : m = (bs.length : Int) := by omega
 have hne : bs.length ≠ 0 := by omega
 have hh := fun c => heap_freeze w b bs.length c f1 hne
 have hos : (w.freeze ⟨b,0,none⟩ bs.length).os = w.os ∧ (w.freeze ⟨b,0,none⟩ bs.length).tape = w.tape ∧ (w.freeze ⟨b,0,none⟩ bs.length).output = w.output := by
   unfold World.freeze; rw [if_neg hne]; exact ⟨rfl,rfl,rfl⟩
 have hold : ∀ c,c ≠ b → (w.freeze ⟨b,0,none⟩ bs.length).heap[c]? = w.heap[c]? := fun c hc => by rw [hh c,if_neg hc]
 have hrow : ∀ c e n,Row0 w c e n → Row0 (w.freeze ⟨b,0,none⟩ bs.length) c e n := fun c e n ⟨ds,hj,q1,q2⟩ => by
   by_cases hc : c = b
   · subst hc; rw [f1] at q1; cases q1; exact ⟨_,_,by rw [hh c,if_pos rfl],q2⟩
   · exact ⟨ds,hj,by rw [hold c hc]; exact q1,q2⟩
 have hsize := size_freeze w ⟨b,0,none⟩ bs.length
 have kk := k.kill (g' := g) (w' := w.freeze ⟨b,0,none⟩ bs.length) hid k2 (Array.getElem?_eq_some_iff.1 f1).1 (fun _ _ _ => rfl) rfl rfl hold hrow hsize
 have ss := stay_kill (g' := g) (w' := w.freeze ⟨b,0,none⟩ bs.length) k2 (fun _ _ _ => rfl) rfl hold hrow hsize hos.1 hos.2.1 hos.2.2
 refine fits_value (g' := g) (cv := .string ⟨bs.toArray⟩) ?_ (kk.push0 (VF_scalar rfl (by simp only [VX,V]) (by simp) (by simp))) ss
 rw [hm] at r2
 simp [execOp,ho,resolve,Act.eval_eq,invoke,builtin,e2,r2,hr]
theorem VE.cellsVS {sz:Nat} : ∀ {ys:List AV} {b q:Nat},VE g w sz ys b q → ∃ news : List Value,news.length = ys.length * sz ∧ Ones news ∧ (∀ (j:Nat) v,news[j]? = some v → w.cell? ⟨b,q + j,none⟩ = some v) ∧ VS g w (ys.map AV.cells).flatten news
 | [],_,_,_ => ⟨[],by simp,by simp [Ones],by simp,by simp [VS]⟩
 | y :: ys,b,q,h => by
   obtain ⟨h1,h2⟩ := h.get (j := 0) rfl
   rw [Nat.zero_mul,Nat.add_zero] at h2
   have one : ∀ {cs:List AV} {q:Nat},VC g w cs b q → ∃ us : List Value,us.length = cs.length ∧ Ones us ∧ (∀ (j:Nat) v,us[j]? = some v → w.cell? ⟨b,q + j,none⟩ = some v) ∧ VS g w cs us := by
     intro cs
     induction cs with
     | nil => intro q _; exact ⟨[],rfl,by simp [Ones],by simp,by simp [VS]⟩
     | cons c cs ih =>
       intro q hc
       simp only [VC] at hc
       obtain ⟨⟨_,cv,c1,c2,c3⟩,c4⟩ := hc
       obtain ⟨us,u1,u2,u3,u4⟩ := ih c4
       refine ⟨cv :: us,by simp [u1],fun u hu => ?_,fun j v hv => ?_,by simp only [VS]; exact ⟨cv,us,rfl,c3,u4⟩⟩
       · simp at hu; rcases hu with rfl | hu
         · exact c2
         · exact u2 u hu
       · cases j with
         | zero => simp at hv; subst hv; simpa using c1
         | succ j => simp at hv; rw [show q + (j + 1) = q + 1 + j by omega]; exact u3 j v hv
   obtain ⟨us,u1,u2,u3,u4⟩ := one h2
   obtain ⟨vs,v1,v2,v3,v4⟩ := VE.cellsVS h.tail
   refine ⟨us ++ vs,by simp [u1,v1,h1,Nat.succ_mul,Nat.add_comm],fun u hu => ?_,fun j v hv => ?_,?_⟩
   · simp at hu; rcases hu with hu | hu
     · exact u2 u hu
     · exact v2 u hu
   · rw [List.getElem?_append] at hv; split at hv
     · exact u3 j v hv
     · have := v3 _ v hv
       rwa [show q + sz + (j - us.length) = q + j by omega] at this
   · rw [List.map_cons,List.flatten_cons]; exact VS.append u4 v4
theorem list_src {sz:Nat} {ys:List AV} {ow:Own} {Y:Value} (h:V g w (.list ys ow) Y) (hs:okSize sz ys = true) : ∃ news : List Value,news.length = ys.length * sz ∧ Ones news ∧ VS g w (ys.map AV.cells).flatten news ∧
   (∀ w' : World,(Builtin.lenOf Y).run P w' = .ok ys.length w') ∧ ∀ w' : World,(∀ b : Nat,w'.heap[b]? = w.heap[b]?) → (Builtin.firstCells sz ys.length Y).run P w' = .ok news.toArray w' := by
 simp only [V] at h
 obtain ⟨A,c,rfl,h2,h3,_,h5,h6⟩ := h
 cases A with
 | none =>
   have hc := h5 rfl; subst hc
   have : ys = [] := List.length_eq_zero_iff.1 (by omega)
   subst this
   exact ⟨[],by simp,by simp [Ones],by simp [VS],fun _ => by simp [Builtin.lenOf],fun _ _ => by simp [Builtin.firstCells]⟩
 | some ad =>
   obtain ⟨hsp,_,sz',hv⟩ := h6 ad rfl
   by_cases hy : ys = []
   · subst hy
     exact ⟨[],by simp,by simp [Ones],by simp [VS],fun _ => by simp [Builtin.lenOf],fun _ _ => by simp [Builtin.firstCells,loadCells,loadCellsFrom]⟩
   replace hsp := hsp (.inr (by have := List.length_pos_iff.2 hy; omega))
   obtain ⟨b,q,sp⟩ := ad
   simp only at hsp hv; subst hsp
   obtain ⟨news,n1,n2,n3,n4⟩ := (okSize_VE hs hv).cellsVS
   exact ⟨news,n1,n2,n4,fun _ => by simp [Builtin.lenOf],fun w' hw => firstCells_some n1 fun j v hj => by rw [cell?_of_block' (hw b)]; exact n3 j v hj⟩
theorem append2_d2 {t2:TypeId} (h:append2Ok P t2 = true) : ∃ d2,P.underlying t2 = some d2 ∧ ∀ kk,d2 ≠ .int kk := by
 unfold append2Ok at h
 cases hu : P.underlying t2 with
 | none => simp [hu] at h
 | some d => exact ⟨d,rfl,fun kk e => by subst e; simp [hu] at h⟩
theorem appendOk_pos {t:TypeId} {sz bytes:Nat} (ht:appendOk P t sz bytes = true) : 0 < sz := by
 unfold appendOk at ht
 cases hu : P.underlying t with
 | none => simp [hu] at ht
 | some d =>
   cases d <;> simp [hu] at ht
   rename_i e
   cases hi : P.info? e <;> simp [hi] at ht
   exact ht.1.2
theorem VS.sub_append {cs ds:List AV} {vs us:List Value} (h:VS g w cs vs) (k:VS g w ds us) : VS g w ((cs ++ ds).map AV.cp1) (vs ++ us) := (VS.append h k).cp1
theorem Rel.newbuf (k:Rel G g st [] tm w) {kn:List AV} {vs sp:List Value} (hv:VS g w kn vs) (h1:Ones vs) (e:TypeId) : ∃ g',Rel G g' { st with hp := st.hp ++ [.cells 0 (kn.map AV.cp1)] } [] tm (w.drew.alloc (.cells (vs ++ sp).toArray e)) ∧
   Stay g w g' (w.drew.alloc (.cells (vs ++ sp).toArray e)) ∧ g'.hb = g.hb ++ [w.heap.size] := by
 have hv' : VS g w.drew kn vs := VS.mono (g := g) (w := w) (g' := g) (w' := w.drew) ⟨fun _ _ _ _ => ⟨rfl,rfl⟩,fun _ _ _ h => h,fun _ _ h => h⟩ _ _ hv
 obtain ⟨g2,k2,s2,hg2⟩ := Rel.newobj (k.draws (w' := w.drew) rfl) (o := .cells 0 (kn.map AV.cp1)) (obj := .cells (vs ++ sp).toArray e) (fun g1 w1 sm _ h2 => by
   simp only [ObjRel]
   exact ⟨vs,sp,e,h2,⟨VS.mono (sm.ext trivial) _ _ hv'.cp1,h1⟩,OwnsL.cp1,fun h => absurd rfl h⟩)
 exact ⟨g2,k2,{ ow := s2.ow,cell := s2.cell,frz := s2.frz,blk := s2.blk,row := s2.row,te := s2.te,hb := s2.hb,os := s2.os,tape := s2.tape,output := s2.output,size := s2.size },hg2⟩
theorem fits_appR_nil (k:Rel G g st [] a.tmps w) {x y:Opd} {x' y' : Operand} (hx:opdOk x x' = true) (hy:opdOk y y' = true) {t t2:TypeId} {sz bytes:Nat} (ht:appendOk P t sz bytes = true) (ht2:append2Ok P t2 = true)
   (ho:o.op = .call { callee := .builtin .append,args := #[x',y'],argTypes := #[t,t2] }) (ha:(opd st.fr x).1 = .list [] .nil) {ys:List AV} {ow:Own} (hb:(opd st.fr y).1 = .list ys ow) (hne:ys ≠ []) (hs:okSize sz ys = true)
   (hby:ys.length * bytes ≤ 140737488355328) (h63:ys.length ≤ 9223372036854775807) : Fits P G g st (.val (.sref st.hp.length 0 ys.length sz) { st with hp := st.hp ++ [.cells 0 ((ys.map AV.cells).flatten.map AV.cp1)] }) o a w := by
 have r1 := k.read hx; rw [ha] at r1; simp only [VX,V] at r1
 have r2 := k.read hy; rw [hb] at r2; rw [VX_plain rfl] at r2
 obtain ⟨A,c,e1,e2,e3,e4,e5,e6⟩ := r1
 have hA := e4.1 trivial; subst hA
 have hc := e5 rfl; subst hc
 simp only [List.length_nil] at e1
 obtain ⟨news,n1,n2,n3,n4,n5⟩ := list_src r2 hs
 obtain ⟨d2,hu2,hd2⟩ := append2_d2 ht2
 have hpos := List.length_pos_iff.2 hne
 obtain ⟨C,e,rest,_,c1,c2,c3,c4⟩ := run_append_out (P := P) (w := w) (A := none) (n := 0) (c := 0) (olds := []) ht hu2 hd2 (n4 w) n1 (by simp) (n5 w.drew fun _ => rfl) (by simp [Builtin.firstCells]) (by omega) (by simpa using hby) (by simpa using h63) o.type
 simp only [List.nil_append,Nat.zero_add] at c1 c3 c4
 obtain ⟨g',k',s',hg'⟩ := k.newbuf (sp := rest) n3 n2 e
 refine fits_value (cv := .slice (some ⟨w.heap.size,0,none⟩) ys.length C) ?_ (k'.push0 (VF_scalar rfl (VX_of_V ?_) (by simp) (by simp))) s'
 · simp [execOp,ho,resolve,Act.eval_eq,invoke,builtin,e1,c4]
 · simp only [V]
   refine ⟨w.heap.size,0,C,⟨by rw [hg',List.getElem?_append,if_neg (by rw [k.hp.len]; omega),k.hp.len]; simp,⟨c1,c2⟩,fun _ => rfl,e,(news ++ rest).length,⟨_,0,heap_alloc_new w.drew _,by simp⟩,?_⟩,rfl⟩
   rw [List.length_append,n1,c3,← Nat.add_mul,Nat.zero_add]
   exact Nat.mul_le_mul_right sz (by omega)
theorem fits_appR (k:Rel G g st [] a.tmps w) {x y:Opd} {x' y' : Operand} (hx:opdOk x x' = true) (hy:opdOk y y' = true) {t t2:TypeId} {sz bytes:Nat} (ht:appendOk P t sz bytes = true) (ht2:append2Ok P t2 = true)
   (ho:o.op = .call { callee := .builtin .append,args := #[x',y'],argTypes := #[t,t2] }) {id n:Nat} (ha:(opd st.fr x).1 = .sref id 0 n sz) {ys:List AV} {ow:Own} (hb:(opd st.fr y).1 = .list ys ow) (hs:okSize sz ys = true)
   {t0:Nat} {cs:List AV} (hid:st.hp[id]? = some (.cells t0 cs)) (hfit:n * sz ≤ cs.length) (hby:(n + ys.length) * bytes ≤ 140737488355328) (h63:n + ys.length ≤ 9223372036854775807) :
   Fits P G g st (.val (.sref st.hp.length 0 (n + ys.length) sz) { st with hp := st.hp.set id .dead ++ [.cells 0 ((cs.take (n * sz) ++ (ys.map AV.cells).flatten).map AV.cp1)] }) o a w := by
 have r1 := k.read hx; rw [ha] at r1; simp only [VX,V] at r1
 have r2 := k.read hy; rw [hb] at r2; rw [VX_plain rfl] at r2
 obtain ⟨b,o',c,⟨e1,⟨e2,e3⟩,e4,te,M,eR,eM⟩,e5⟩ := r1
 obtain ⟨news,n1,n2,n3,n4,n5⟩ := list_src r2 hs
 obtain ⟨d2,hu2,hd2⟩ := append2_d2 ht2
 have hsz := appendOk_pos ht
 obtain ⟨b',k1,k2,k3⟩ := k.hp.obj id _ hid rfl
 rw [e1] at k1; cases k1
 simp only [ObjRel] at k3
 obtain ⟨vs,sp,ty,f1,⟨f2,f3⟩,_,_⟩ := k3
 have hvl := f2.len
 have hlt := (Array.getElem?_eq_some_iff.1 f1).1
 have hM : M = vs.length + sp.length := by
   obtain ⟨ds,hi,q1,q2⟩ := eR; rw [f1] at q1; cases q1; simpa using q2.symm
 have holds : VS g w (cs.take (n * sz)) (vs.take (n * sz)) := f2.take _
 have hones : Ones (vs.take (n * sz)) := Ones.sub f3 fun u hu => List.mem_of_mem_take hu
 have hol : (vs.take (n * sz)).length = n * sz := by simp; omega
 have hcellO : 0 < c → ∀ (j:Nat) v,(vs.take (n * sz))[j]? = some v → w.cell? ⟨b,o' + j,none⟩ = some v := fun hc j v hj => by
   rw [e4 hc,Nat.zero_add]
   rw [List.getElem?_take] at hj
   split at hj
   · have : (vs ++ sp)[j]? = some v := by rw [List.getElem?_append,if_pos (List.getElem?_eq_some_iff.1 hj).1]; exact hj
     simp [World.cell?,f1,this]
   · cases hj
 have hkl : (st.hp.set id HObj.dead).length = st.hp.length := by simp
 by_cases hroom : n + ys.length ≤ c
 · by_cases hc0 : c = 0
   · have hn0 : n = 0 := by omega
     have hy0 : ys = [] := List.length_eq_zero_iff.1 (by omega)
     subst hn0; subst hy0; subst hc0
     have hnews : news = [] := List.length_eq_zero_iff.1 (by simpa using n1)
     subst hnews
     have hap := run_append_in (P := P) (w := w) ht hu2 hd2 (b := b) (q := o') (n := 0) (c := 0) (m := 0) (n4 w) (news := []) (by simp) (n5 w fun _ => rfl) n2 (by omega) (fun o h1 h2 => by omega) o.type
     obtain ⟨w',r3,r4⟩ := hap
     have hw' := r4.none rfl
     subst hw'
     let g' : Gh := { ow := fun c o => if c = b then .obj st.hp.length else g.ow c o,hb := g.hb,bx := g.bx }
     have how : ∀ c o,c ≠ b → g'.ow c o = g.ow c o := fun c o e => by show (if c = b then _ else _) = _; rw [if_neg e]
     have kk := k.kill (g' := g') (w' := w') hid k2 hlt how rfl rfl (fun _ _ => rfl) (fun _ _ _ h => h) rfl
     have ss := stay_kill (g' := g') (w' := w') k2 how rfl (fun _ _ => rfl) (fun _ _ _ h => h) rfl rfl rfl rfl
     obtain ⟨ka,sa⟩ := kk.addobj (b := b) (ob := .cells 0 ((cs.take (0 * sz) ++ (([] : List AV).map AV.cells).flatten).map AV.cp1)) (fun o => by show (if b = b then _ else _) = _; rw [if_pos rfl]; simp) (fun g1 ex => by
       simp only [ObjRel]
       exact ⟨[],vs ++ sp,ty,by simpa using f1,⟨by simp [VS],by simp [Ones]⟩,OwnsL.cp1,fun h => absurd rfl h⟩)
     refine fits_value (cv := .slice (some ⟨b,o',none⟩) 0 0) ?_ (ka.push0 (VF_scalar rfl (VX_of_V ?_) (by simp) (by simp))) (ss.trans sa)
     · simp at r3; simp [execOp,ho,resolve,Act.eval_eq,invoke,builtin,e5,r3]
     · simp only [V]
       refine ⟨b,o',0,⟨?_,⟨by simp,by simp⟩,fun h => absurd h (by omega),te,M,eR,by omega⟩,by simp⟩
       show (g.hb ++ [b])[_]? = _
       rw [List.getElem?_append,if_neg (by rw [k.hp.len]; omega),k.hp.len]; simp
   · have hcp : 0 < c := by omega
     have ho' : o' = 0 := e4 hcp
     subst ho'
     obtain ⟨w',r3,r4⟩ := run_append_in (P := P) (w := w) ht hu2 hd2 (b := b) (q := 0) (n := n) (c := c) (n4 w) n1 (n5 w fun _ => rfl) n2 hroom (fun o h1 h2 => ⟨⟨(vs ++ sp)[o]'(by simp; omega),by simp [World.cell?,f1,show o < vs.length + sp.length by omega]⟩,blk_frozen' f1 o⟩) o.type
     let g' : Gh := { ow := fun c o => if c = b then .obj st.hp.length else g.ow c o,hb := g.hb,bx := g.bx }
     have how : ∀ c o,c ≠ b → g'.ow c o = g.ow c o := fun c o e => by show (if c = b then _ else _) = _; rw [if_neg e]
     have kk := k.kill (g' := g') (w' := w') hid k2 hlt how rfl rfl r4.blk r4.row r4.size
     have ss := stay_kill (g' := g') (w' := w') k2 how rfl r4.blk r4.row r4.size r4.os r4.tape r4.output
     have sm := same_kill (g' := g') (w' := w') k2 how r4.blk r4.row (fun _ _ h => h)
     have hi : (fun t => t ≠ Tag.obj id) Tag.imm := by simp
     have hle : (n + ys.length) * sz ≤ c * sz := Nat.mul_le_mul_right sz hroom
     rw [Nat.add_mul] at hle
     obtain ⟨ds,hdi,hd1,hd2'⟩ := r4.row _ _ _ eR
     -- the block's new cells
     have hfz : ∃ ds : Array Value,w'.heap[b]? = some (.cells ds ty (0,0)) ∧ ds.size = vs.length + sp.length := by
       obtain ⟨ds,hi',hd1,hd2⟩ := r4.row b ty (vs.length + sp.length) ⟨_,0,f1,by simp⟩
       have hf := r4.frz 0
       by_cases hz : hi' = 0
       · subst hz; exact ⟨ds,hd1,hd2⟩
       · exfalso
         rw [blk_frozen' f1 0] at hf
         unfold World.frozen? at hf; rw [hd1] at hf
         simp at hf; omega
     obtain ⟨ds,hds,hdl⟩ := hfz
     have hdget : ∀ j,w'.cell? ⟨b,j,none⟩ = ds[j]? := fun j => by simp [World.cell?,hds]
     have hsplit : ds.toList = (vs.take (n * sz) ++ news) ++ ds.toList.drop (n * sz + news.length) := by
       have hl1 : (vs.take (n * sz) ++ news).length = n * sz + news.length := by simp; omega
       have : ds.toList.take (n * sz + news.length) = vs.take (n * sz) ++ news := by
         apply List.ext_getElem?
         intro j
         rw [List.getElem?_take]
         by_cases hj : j < n * sz + news.length
         · rw [if_pos hj]
           have e1 : ds.toList[j]? = ds[j]? := by simp
           rw [e1,← hdget j,List.getElem?_append]
           by_cases hj2 : j < n * sz
           · rw [if_pos (by omega),r4.old j (by omega)]
             have hv : (vs.take (n * sz))[j]? = some ((vs.take (n * sz))[j]'(by omega)) := List.getElem?_eq_getElem (by omega)
             have := hcellO hcp j _ hv
             rw [Nat.zero_add] at this
             rw [this,hv]
           · rw [if_neg (by omega),hol]
             have hv : news[j - n * sz]? = some (news[j - n * sz]'(by omega)) := List.getElem?_eq_getElem (by omega)
             have := r4.new _ _ hv
             rw [show 0 + n * sz + (j - n * sz) = j by omega] at this
             rw [this,hv]
         · rw [if_neg hj,List.getElem?_eq_none (by omega)]
       rw [← this,List.take_append_drop]
     obtain ⟨ka,sa⟩ := kk.addobj (b := b) (ob := .cells 0 ((cs.take (n * sz) ++ (ys.map AV.cells).flatten).map AV.cp1)) (fun o => by show (if b = b then _ else _) = _; rw [if_pos rfl]; simp) (fun g1 ex => by
       simp only [ObjRel]
       refine ⟨vs.take (n * sz) ++ news,ds.toList.drop (n * sz + news.length),ty,?_,⟨?_,?_⟩,OwnsL.cp1,fun h => absurd rfl h⟩
       · rw [← hsplit]; simpa using hds
       · exact VS.mono ex _ _ (VS.mono (sm.ext hi) _ _ (holds.sub_append n3))
       · intro u hu; simp only [List.mem_append] at hu
         rcases hu with hu | hu
         · exact hones u hu
         · exact n2 u hu)
     refine fits_value (cv := .slice (some ⟨b,0,none⟩) (n + ys.length) c) ?_ (ka.push0 (VF_scalar rfl (VX_of_V ?_) (by simp) (by simp))) (ss.trans sa)
     · simp [execOp,ho,resolve,Act.eval_eq,invoke,builtin,e5,r3]
     · simp only [V]
       refine ⟨b,0,c,⟨?_,⟨hroom,e3⟩,fun _ => rfl,te,M,r4.row _ _ _ eR,eM⟩,rfl⟩
       show (g.hb ++ [b])[_]? = _
       rw [List.getElem?_append,if_neg (by rw [k.hp.len]; omega),k.hp.len]; simp
 · have hfo : (Builtin.firstCells sz n (.slice (some ⟨b,o',none⟩) n c)).run P w.drew = .ok (vs.take (n * sz)).toArray w.drew := by
     by_cases hn : n = 0
     · subst hn; simp [Builtin.firstCells,loadCells,loadCellsFrom]
     · exact firstCells_some hol fun j v hj => by rw [cell?_of_block' (w' := w.drew) (w := w) rfl]; exact hcellO (by omega) j v hj
   obtain ⟨C,e,rest,_,c1,c2,c3,c4⟩ := run_append_out (P := P) (w := w) (A := some ⟨b,o',none⟩) (n := n) (c := c) ht hu2 hd2 (n4 w) n1 hol (n5 w.drew fun _ => rfl) hfo hroom hby h63 o.type
   have kk := k.kill (g' := g) (w' := w) hid k2 hlt (fun _ _ _ => rfl) rfl rfl (fun _ _ => rfl) (fun _ _ _ h => h) rfl
   obtain ⟨g',k',s',hg'⟩ := kk.newbuf (sp := rest) (VS.append holds n3) (fun u hu => by
     simp only [List.mem_append] at hu
     rcases hu with hu | hu
     · exact hones u hu
     · exact n2 u hu) e
   refine fits_value (cv := .slice (some ⟨w.heap.size,0,none⟩) (n + ys.length) C) ?_ (k'.push0 (VF_scalar rfl (VX_of_V ?_) (by simp) (by simp))) s'
   · simp [execOp,ho,resolve,Act.eval_eq,invoke,builtin,e5,c4]
   · simp only [V]
     refine ⟨w.heap.size,0,C,⟨by rw [hg',List.getElem?_append,if_neg (by rw [k.hp.len]; omega),k.hp.len]; simp,⟨c1,c2⟩,fun _ => rfl,e,(vs.take (n * sz) ++ news ++ rest).length,⟨_,0,heap_alloc_new w.drew _,by simp⟩,?_⟩,rfl⟩
     rw [List.length_append,List.length_append,hol,n1,c3,← Nat.add_mul,← Nat.add_mul,Nat.zero_add]
     exact Nat.mul_le_mul_right sz (by omega)
end
end Go.Proofs.YtkofimhnehkdoaaGreatDoor.Rf
end
section
namespace Go.Proofs.YtkofimhnehkdoaaGreatDoor.Rf
section
variable {P:Program} {G:Nat → Option (List AV)} {g g' : Gh} {st:St} {a:Act} {w w' : World} {o:Oper} {tm:Array Value} {ps:List (AV × Value)}
theorem room_find {fn : Func} (h : fn.name = "internal/bytealg.MakeNoZero") : Extern.find fn = some (Extern.BytealgMakeNoZero.makeNoZero fn.params fn.resultTypes) := by
 have h1 : ∀ (a b c : Array TypeId), (((Extern.allGenericRows.lookup "internal/bytealg.MakeNoZero").map (· a b c)) <|> ((Extern.allTypedRows.lookup "internal/bytealg.MakeNoZero").map (· b c)) <|> Extern.allRows.lookup "internal/bytealg.MakeNoZero") = some (Extern.BytealgMakeNoZero.makeNoZero b c) := by
   intro a b c; kernel_rfl
 unfold Extern.find
 rw [h]
 simp only [h1]
 rfl
def roomOk (P:Program) (f:FuncId) (e:Nat) : Bool :=
 match P.funcs[f]? with
 | some fn => (!(fn.name == "runtime.NumGoroutine") && fn.body.isNone && (Extern.findNext fn).isNone && fn.name == "internal/bytealg.MakeNoZero") && (match fn.resultTypes.toList with | [t] => (match P.underlying t with | some (.slice e') => decide (e' = e) | _ => false) | _ => false)
 | none => false
theorem fits_room (k:Rel G g st [] a.tmps w) {f:FuncId} {e:Nat} (hf:roomOk P f e = true) {x:Opd} {x' : Operand} (hx:opdOk x x' = true) {ts:Array TypeId} (ho:o.op = .call { callee := .value (.func f),args := #[x'],argTypes := ts })
   {n:Int} (h1:(opd st.fr x).1 = .int .i64 n) (h0:0 ≤ n) (hn:n ≤ 140737488355328) : Fits P G g st (.val (.room n.toNat e) st) o a w := by
 have r1 := k.read hx; rw [h1] at r1; simp only [VX,V] at r1
 unfold roomOk at hf
 split at hf
 · rename_i fn hfn
   simp only [Bool.and_eq_true,Bool.not_eq_true',beq_iff_eq,beq_eq_false_iff_ne,ne_eq,Option.isNone_iff_eq_none] at hf
   obtain ⟨⟨⟨⟨q1,q2⟩,q3⟩,q4⟩,q5⟩ := hf
   split at q5
   · rename_i t ht
     split at q5
     · rename_i e' hu
       simp only [decide_eq_true_eq] at q5
       subst q5
       have hrt : fn.resultTypes = #[t] := by
         apply Array.ext'; rw [ht]
       obtain ⟨m,rfl⟩ := Int.eq_ofNat_of_zero_le h0
       obtain ⟨cs,hrun,hle,hmax⟩ := Lib.run_makeNoZero (P := P) w fn.params t e' hu m (by omega)
       have hr := run_callFunc_extern hfn (by simpa using q1) (by simp [q2]) q3 (room_find q4) #[Value.int .i64 m] w
       rw [hrt,hrun] at hr
       simp only [Result.andThen_ok] at hr
       obtain ⟨sm,p1,p2,p0,p3,p4,p5,p6⟩ := (k.push0 (v := .tup []) (cv := undef) VF_undef).append_out (sz := 1) (C := cs.size) (m := 0) (e := e') (cells := cs.toList) (by simp) (Nat.zero_le _)
       have hm63 : cs.size ≤ 9223372036854775807 := hmax (by unfold maxLen; omega)
       have e0 : cs.toList.toArray = cs := rfl
       rw [e0] at sm p0 p3 p4 p5 p6
       refine fits_value (cv := .slice (some ⟨w.heap.size,0,none⟩) m cs.size) (w' := w.drew.drew.alloc (.cells cs e')) ?_ ((p6 _ _ ?_).draws (w' := w.drew.drew.alloc (.cells cs e')) rfl) (p5.heap rfl rfl rfl rfl)
       · have e3 : Act.opd a.tmps (.func f) = Value.func (.func f) #[] #[] := rfl
         simp [execOp,ho,resolve,Deferred.ofValue,show a.eval = Act.opd a.tmps from funext (Act.eval_eq a),e3,r1,invoke,hr]
       · simp only [VF]
         refine ⟨_,_,rfl,hle,hm63,⟨rfl,rfl,⟨_,p0,Nat.zero_le _⟩,fun q hq => by omega⟩,fun ad n' c' e' => ?_⟩
         cases e'
         refine ⟨by simp [VE],fun q h1 h2 => p4 q (by omega) (by simpa using h2)⟩
     · cases q5
   · cases q5
 · cases hf
theorem fits_cutroom (k:Rel G g st [] a.tmps w) {s:Nat} {y:Operand} (hx:opdOk (.t s false) y = true) {b:Opd} {b' : Operand} (hb:opdOk b b' = true) {t:TypeId} (hu:sliceOk P t 1 = true) (ho:o.op = .slice t y none (some b') none)
   {n e:Nat} (hv:st.fr.get s = .room n e) {kk:IntKind} (hi:(opd st.fr b).1 = .int kk 0) : Fits P G g st (.val (.list [] (.own 1 e)) { st with fr := st.fr.set s .none }) o a w := by
 have f := k.fr s
 rw [hv] at f; simp only [VF] at f
 obtain ⟨A,c,r1,r2,r3,r4,r5⟩ := f
 have hy : Act.opd a.tmps y = .slice (some A) n c := by
   cases y <;> simp [opdOk] at hx
   rename_i t0; subst hx; exact r1
 obtain ⟨e1,u1,u2⟩ := sliceOk_run hu
 have hbd := run_bounds (P := P) (w := w) true (len := n) (cap := c) (opt_vals k (x := none) (y := none) (d := 0) (n := 0) rfl rfl) (opt_vals k (x := some b) (y := some b') (d := n) (n := 0) hb (by simp [bound,hi])) (Nat.le_refl 0) (Nat.zero_le c)
 simp only [show a.eval = Act.opd a.tmps from funext (Act.eval_eq a)] at hbd
 have hA : A.add 0 = A := by
   obtain ⟨b,q,sp⟩ := A
   have := r4.2.1; simp only at this; subst this
   exact Addr.add_lit b q 0
 have l : FrLike st.fr a.tmps (st.fr.set s .none) a.tmps := ⟨fun t cs ht => by
     rw [Fr.get_set]; by_cases e : s = t
     · subst e; rw [hv] at ht; cases ht
     · rw [if_neg e]; exact ⟨cs,ht⟩,
   fun t xs sz ht => by
     rw [Fr.get_set]; by_cases e : s = t
     · subst e; rw [hv] at ht; cases ht
     · rw [if_neg e]; exact ⟨ht,rfl⟩⟩
 refine fits_value (cv := .slice (some A) 0 c) (w' := w) (g' := g.mv (.fr s) (.arg 0)) ?_ (Rel.mv k (fun _ _ => ⟨by simp,by simp,by simp,by simp⟩) (fun t cs _ => by simp) l (fun u => ?_) (fun j v cv hj => ?_)) (Gh.mv_stay g w _ _)
 · by_cases hc : c = 0
   · simp [execOp,ho,Act.eval_eq,hy,Instr.sliceAt,Sem.run_bind,run_underlying u1,Instr.slice,show a.eval = Act.opd a.tmps from funext (Act.eval_eq a),hbd,u2,hA,hc] at hbd ⊢
     try simp [hbd,hA]
   · simp [execOp,ho,Act.eval_eq,hy,Instr.sliceAt,Sem.run_bind,run_underlying u1,Instr.slice,show a.eval = Act.opd a.tmps from funext (Act.eval_eq a),hbd,u2,hA,hc] at hbd ⊢
     try simp [hbd,hA]
 · by_cases hu : s = u
   · subst hu; left
     rw [Fr.get_set,if_pos rfl,VF_loose rfl]
     exact ⟨by simp [VX,V],trivial⟩
   · right; exact ⟨by simpa using fun e => hu e.symm,by simp,by rw [Fr.get_set,if_neg hu],rfl⟩
 · cases j with
   | succ j => simp at hj
   | zero =>
     simp at hj; obtain ⟨rfl,rfl⟩ := hj; left
     rw [VF_loose rfl]
     refine ⟨?_,?_⟩
     · simp only [VX,V]
       refine ⟨some A,c,rfl,Nat.zero_le _,r3,⟨fun e => (by cases e),fun e => (by cases e)⟩,(fun e => by cases e),fun ad e' => ?_⟩
       cases e'
       exact ⟨fun _ => r4.2.1,fun _ => r4.mono (g.mv_ext w _ _),1,by simp [VE]⟩
     · simp only [Owns]
       intro ad n' c' e'
       cases e'
       exact r5.mv _ _ _ rfl
theorem fits_capN (k:Rel G g st [] a.tmps w) {x:Opd} {y:Operand} (hx:opdOk x y = true) {t:TypeId} {e:TypeId} (hu:P.underlying t = some (.slice e)) (hv:(opd st.fr x).1 = .list [] .nil)
   (ho:o.op = .call { callee := .builtin .cap,args := #[y],argTypes := #[t] }) : Fits P G g st (.val (.int .i64 0) st) o a w := by
 have h1 := k.read hx; rw [hv] at h1; simp only [VX,V] at h1
 obtain ⟨A,c,e1,_,_,h4,h5,_⟩ := h1
 have h0 := h5 (h4.1 trivial)
 subst h0
 refine fits_pure k (cv := .int .i64 0) ?_ (VF_scalar rfl (by simp only [VX,V]) (by simp) (by simp))
 simp [execOp,ho,resolve,Act.eval_eq,invoke,builtin,Builtin.cap_,run_underlying hu,e1,goInt]
theorem fits_copyN (k:Rel G g st [] a.tmps w) {x y:Opd} {x' y' : Operand} (hx:opdOk x x' = true) (hy:opdOk y y' = true) {t t2:TypeId} (ht:copyOk P t = true) (ho:o.op = .call { callee := .builtin .copy,args := #[x',y'],argTypes := #[t,t2] })
   {o1 o2:Own} (h1:(opd st.fr x).1 = .list [] o1) (h2:(opd st.fr y).1 = .list [] o2) : Fits P G g st (.val (.int .i64 0) st) o a w := by
 have r1 := k.read hx; rw [h1] at r1; simp only [VX,V] at r1
 have r2 := k.read hy; rw [h2] at r2; simp only [VX,V] at r2
 obtain ⟨A,c,e1,_⟩ := r1
 obtain ⟨B,d,e2,_⟩ := r2
 unfold copyOk at ht
 split at ht <;> try (cases ht; done)
 rename_i e he
 cases hi : P.info? e with
 | none => simp [hi] at ht
 | some i =>
   simp [hi] at ht
   have hr := run_copy_none (P := P) w t t2 o.type e A B 0 c 0 d he (by simp [hi,ht]) rfl
   refine fits_pure k (cv := .int .i64 0) ?_ (VF_scalar rfl (by simp only [VX,V]) (by simp) (by simp))
   simp only [List.length_nil] at e1 e2
   simp [execOp,ho,resolve,Act.eval_eq,invoke,builtin,e1,e2,hr,goInt]
end
end Go.Proofs.YtkofimhnehkdoaaGreatDoor.Rf
end
