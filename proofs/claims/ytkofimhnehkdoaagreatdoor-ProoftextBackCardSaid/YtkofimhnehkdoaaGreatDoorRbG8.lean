/- A part of the proof: see the last text. -/
import Derived.Test.YtkofimhnehkdoaaGreatDoorRbG7
import Derived.Lib.Bytealg
import Derived.Lib.ConvBytes
set_option linter.unusedVariables false
set_option linter.unusedSimpArgs false
section
namespace Go.Proofs.YtkofimhnehkdoaaGreatDoor.Rf
section
variable {P:Program} {G:Nat → Option (List AV)} {g g' : Gh} {st:St} {a:Act} {w w' : World} {o:Oper} {tm:Array Value} {ps:List (AV × Value)}
theorem same_kill {id b:Nat} (hbt:∀ o,g.ow b o = .obj id) (how:∀ c o,c ≠ b → g'.ow c o = g.ow c o) (hold:∀ c,c ≠ b → w'.heap[c]? = w.heap[c]?) (hrow:∀ c e n,Row0 w c e n → Row0 w' c e n)
   (hhb:∀ (i c:Nat),g.hb[i]? = some c → g'.hb[i]? = some c) : Same (fun t => t ≠ .obj id) g w g' w' :=
 have ne : ∀ c o,g.ow c o ≠ .obj id → c ≠ b := fun c o h e => by subst e; exact h (hbt o)
 { ow := fun c o _ h => how c o (ne c o h),cell := fun c o _ h => cell?_of_block' (hold c (ne c o h)),frz := fun c o _ h _ => frozen?_of_block' (hold c (ne c o h)),blk := fun c _ h => hold c (ne c 0 (h 0).1),row := hrow,te := fun _ => by simp,hb := hhb }
theorem Rel.kill (k:Rel G g st ps tm w) {id b:Nat} {ob:HObj} (hid:st.hp[id]? = some ob) (hbt:∀ o,g.ow b o = .obj id) (hlt:b < w.heap.size) (how:∀ c o,c ≠ b → g'.ow c o = g.ow c o) (hhb:g'.hb = g.hb) (hbx:g'.bx = g.bx)
   (hold:∀ c,c ≠ b → w'.heap[c]? = w.heap[c]?) (hrow:∀ c e n,Row0 w c e n → Row0 w' c e n) (hsize:w'.heap.size = w.heap.size) : Rel G g' { st with hp := st.hp.set id .dead } ps tm w' := by
 have sm := same_kill (g' := g') (w' := w') hbt how hold hrow (fun i c h => by rw [hhb]; exact h)
 have hi : (fun t => t ≠ Tag.obj id) Tag.imm := by simp
 refine ⟨fun s => (k.fr s).same sm hi (fun t _ _ => by rw [hbx]) (fun i => by simp) (by simp) (by rw [hbx]),fun j v cv hj => (k.ps j v cv hj).same sm hi (fun t _ _ => by rw [hbx]) (fun i => by simp) (by simp) (by rw [hbx]),
   ⟨by rw [hhb]; simp; exact k.hp.len,fun x ox hx hlive => ?_⟩,fun c o hc => ?_,k.gl.same sm hi (by simp)⟩
 · simp only [List.getElem?_set] at hx
   by_cases e : id = x
   · subst e
     simp only [if_true] at hx
     split at hx
     · cases hx; cases hlive
     · cases hx
   · rw [if_neg e] at hx
     obtain ⟨b',e1,e2,e3⟩ := k.hp.obj x ox hx hlive
     have hne : ∀ i,g.ow b' i ≠ .obj id := fun i => by rw [e2 i]; simpa using fun h => e h.symm
     exact ⟨b',by rw [hhb]; exact e1,fun i => (sm.ow b' i e3.lt (hne i)).trans (e2 i),e3.same sm hi e2 (by simpa using fun h => e h.symm) (fun i => by simp) (fun i j => by simp)⟩
 · rw [hsize] at hc
   rw [how c o (by omega)]; exact k.fresh c o hc
theorem stay_kill {id b:Nat} (hbt:∀ o,g.ow b o = .obj id) (how:∀ c o,c ≠ b → g'.ow c o = g.ow c o) (hhb:g'.hb = g.hb) (hold:∀ c,c ≠ b → w'.heap[c]? = w.heap[c]?) (hrow:∀ c e n,Row0 w c e n → Row0 w' c e n)
   (hsize:w'.heap.size = w.heap.size) (h1:w'.os = w.os) (h2:w'.tape = w.tape) (h3:w'.output = w.output) : Stay g w g' w' :=
 have sm := same_kill (g' := g') (w' := w') hbt how hold hrow (fun i c h => by rw [hhb]; exact h)
 have hk : ∀ c o,(g.ow c o).kept → g.ow c o ≠ .obj id := fun c o hk e => by rw [e] at hk; exact hk
 { ow := fun c o hl h => sm.ow c o hl (hk c o h),cell := fun c o hl h => sm.cell c o hl (hk c o h),frz := fun c o hl h he => sm.frz c o hl (hk c o h) he,blk := fun c hl h => sm.blk c hl (fun o => ⟨hk c o (h o).1,(h o).2⟩),row := hrow,te := fun _ => trivial,hb := fun i c h => by rw [hhb]; exact h,os := h1,tape := h2,output := h3,size := by rw [hsize]; exact Nat.le_refl _ }
theorem stay_ghost {T:Tag → Prop} (h:Same T g w g' w) (ho:T .out) (hi:T .imm) : Stay g w g' w :=
 { ow := fun b o hl ht => h.ow b o hl (by have he := h.te hi; revert ht; cases g.ow b o <;> simp [Tag.kept] <;> assumption)
   cell := fun _ _ _ _ => rfl,frz := fun _ _ _ _ _ => rfl,blk := fun _ _ _ => rfl,row := fun _ _ _ h => h,te := fun _ => trivial,hb := h.hb,os := rfl,tape := rfl,output := rfl,size := Nat.le_refl _ }
theorem Rel.addobj (k:Rel G g st ps tm w) {b:Nat} {ob:HObj} (hbt:∀ o,g.ow b o = .obj st.hp.length) (ho:∀ g1 : Gh,Ext g w g1 w → ObjRel g1 w st.hp.length b ob) :
   Rel G { g with hb := g.hb ++ [b] } { st with hp := st.hp ++ [ob] } ps tm w ∧ Stay g w { g with hb := g.hb ++ [b] } w := by
 have sm : Same (fun _ => True) g w { g with hb := g.hb ++ [b] } w := { ow := fun _ _ _ _ => rfl,cell := fun _ _ _ _ => rfl,frz := fun _ _ _ _ _ => rfl,blk := fun _ _ _ => rfl,row := fun _ _ _ h => h,te := fun _ => trivial,hb := fun i c h => by show (g.hb ++ [b])[i]? = _; rw [List.getElem?_append,if_pos (List.getElem?_eq_some_iff.1 h).1]; exact h }
 have hlen := k.hp.len
 refine ⟨⟨fun s => (k.fr s).same sm trivial (fun t _ _ => rfl) (fun _ => trivial) trivial rfl,fun j v cv hj => (k.ps j v cv hj).same sm trivial (fun t _ _ => rfl) (fun _ => trivial) trivial rfl,⟨by simp [hlen],fun x ox hx hlive => ?_⟩,k.fresh,k.gl.same sm trivial trivial⟩,stay_ghost sm trivial trivial⟩
 rw [List.getElem?_append] at hx
 split at hx
 · obtain ⟨b',e1,e2,e3⟩ := k.hp.obj x ox hx hlive
   exact ⟨b',sm.hb _ _ e1,e2,e3.same sm trivial e2 trivial (fun _ => trivial) (fun _ _ => trivial)⟩
 · have : x = st.hp.length := by
     obtain ⟨h1,_⟩ := List.getElem?_eq_some_iff.1 hx; simp at h1; omega
   subst this; simp at hx; subst hx
   exact ⟨b,by show (g.hb ++ [b])[_]? = _; rw [List.getElem?_append,if_neg (by omega)]; simp [hlen],hbt,ho _ (sm.ext trivial)⟩
theorem VC.of_cells : ∀ {l:List AV} {us:List Value} {b off:Nat},VS g w l us → Ones us → (∀ o,(g.ow b o).ro) → (∀ (j:Nat) u,us[j]? = some u → w.cell? ⟨b,off + j,none⟩ = some u) → VC g w l b off
 | [],_,_,_,_,_,_,_ => by simp [VC]
 | c :: l,us,b,off,hv,h1,hr,hc => by
   simp only [VS] at hv
   obtain ⟨u,r,rfl,hu,hv⟩ := hv
   simp only [VC]
   refine ⟨⟨hr _,u,by simpa using hc 0 u rfl,h1 u (by simp),hu⟩,VC.of_cells hv (fun x hx => h1 x (by simp [hx])) hr fun j x hj => ?_⟩
   have := hc (j + 1) x (by simpa using hj)
   rwa [show off + (j + 1) = off + 1 + j by omega] at this
theorem Ones.sub {vs us:List Value} (h:Ones vs) (hs:∀ u,u ∈ us → u ∈ vs) : Ones us := fun u hu => h u (hs u hu)
theorem chunks_len (sz:Nat) (agg:Bool) : ∀ (n:Nat) (l:List AV),(chunks sz agg n l).length = n
 | 0,_ => rfl
 | n + 1,l => by simp [chunks,chunks_len sz agg n]
theorem VE.of_chunks {sz:Nat} {agg:Bool} (hsz:agg = true ∨ sz = 1) {b:Nat} (hr:∀ o,(g.ow b o).ro) : ∀ {n:Nat} {l:List AV} {us:List Value} {off:Nat},n * sz ≤ l.length → VS g w l us → Ones us → (∀ (j:Nat) u,us[j]? = some u → w.cell? ⟨b,off + j,none⟩ = some u) → VE g w sz (chunks sz agg n l) b off
 | 0,_,_,_,_,_,_,_ => by simp [chunks,VE]
 | n + 1, l,us,off,hl,hv,h1,hc => by
   rw [Nat.succ_mul] at hl
   have hn : VE g w sz (chunks sz agg n (l.drop sz)) b (off + sz) := VE.of_chunks hsz hr (us := us.drop sz) (by simp; omega) (hv.drop sz) (h1.sub fun u hu => List.mem_of_mem_drop hu) fun j u hj => by
     rw [List.getElem?_drop] at hj
     have := hc _ u hj
     rwa [← Nat.add_assoc] at this
   have hhead : VC g w ((l.take sz).map AV.cp1) b off := VC.of_cells (us := us.take sz) (hv.take sz).cp1 (h1.sub fun u hu => List.mem_of_mem_take hu) hr fun j u hj => by
     rw [List.getElem?_take] at hj
     split at hj
     · exact hc j u hj
     · cases hj
   cases agg with
   | true =>
     simp only [chunks,if_true]
     refine VE.cons_mk ?_ hhead hn
     simp [AV.cells]; omega
   | false =>
     have h2 : sz = 1 := by simpa using hsz
     subst h2
     simp only [chunks,Bool.false_eq_true,if_false]
     cases l with
     | nil => simp at hl
     | cons c l =>
       simp only [List.take_succ_cons,List.take_zero,List.map_cons,List.map_nil] at hhead
       simp only [List.headD_cons]
       have hcell : (c.cp1).cells = [c.cp1] := by
         have hvc := hv; simp only [VS] at hvc
         obtain ⟨u,r,rfl,hu,_⟩ := hvc
         have ho := h1 u (by simp)
         cases c <;> first
           | rfl
           | (simp only [V] at hu; obtain ⟨vs,rfl,_⟩ := hu; simp [Value.oneCell'] at ho)
       exact VE.cons_mk (by rw [hcell]; rfl) (by rw [hcell]; exact hhead) hn
theorem Rel.frz1 (k:Rel G g st [] tm w) {lo s i sz:Nat} {agg:Bool} {st' : St} (h:Rf.frz1 lo st s i sz agg = some st') : ∃ g',Rel G g' st' [] tm w ∧ Stay g w g' w := by
 unfold Rf.frz1 at h
 split at h
 · rename_i cs hs
   split at h
   · rename_i id q n z hc
     split at h
     · rename_i t0 ds hid
       split at h
       · rename_i hq
         obtain ⟨_,hz,hsz,hlen⟩ := hq
         subst hz
         cases h
         obtain ⟨b,k1,k2,k3⟩ := k.hp.obj id _ hid rfl
         simp only [ObjRel] at k3
         obtain ⟨vs,sp,ty,f1,⟨f2,f3⟩,_⟩ := k3
         have hlt := (Array.getElem?_eq_some_iff.1 f1).1
         let g' : Gh := { ow := fun c o => if c = b then .imm else g.ow c o,hb := g.hb,bx := g.bx }
         have how : ∀ c o,c ≠ b → g'.ow c o = g.ow c o := fun c o e => by show (if c = b then _ else _) = _; rw [if_neg e]
         have hro : ∀ o,(g'.ow b o).ro := fun o => by show (if b = b then Tag.imm else _).ro; rw [if_pos rfl]; trivial
         have kk := k.kill (g' := g') (w' := w) hid k2 hlt how rfl rfl (fun _ _ => rfl) (fun _ _ _ h => h) rfl
         have ss := stay_kill (g' := g') (w' := w) k2 how rfl (fun _ _ => rfl) (fun _ _ _ h => h) rfl rfl rfl rfl
         have sm := same_kill (g' := g') (w' := w) k2 how (fun _ _ => rfl) (fun _ _ _ h => h) (fun _ _ h => h)
         have hi : (fun t => t ≠ Tag.obj id) Tag.imm := by simp
         have fk := kk.fr s
         simp only at fk
         rw [hs] at fk
         simp only [VF] at fk
         obtain ⟨us,bt,u1,u2,⟨u3,u3'⟩,u4,u5⟩ := fk
         obtain ⟨cv,c1,c2⟩ := u3.get hc
         have hnew : V g' w (.list (chunks z agg n (ds.drop q)) .no) cv := by
           simp only [V] at c2 ⊢
           obtain ⟨b',o',c,⟨d1,⟨d2,d3⟩,d4,_⟩,d5⟩ := c2
           have hb' : b' = b := by rw [show g'.hb = g.hb from rfl,k1] at d1; cases d1; rfl
           subst hb'
           refine ⟨some ⟨b',o',none⟩,c,by rw [chunks_len]; exact d5,by rw [chunks_len]; exact d2,d3,⟨fun e => (by cases e),fun e => (by cases e)⟩,(fun e => by cases e),fun ad e => ?_⟩
           cases e
           refine ⟨fun _ => rfl,fun hn => absurd rfl hn,z,?_⟩
           by_cases hn : n = 0
           · subst hn; simp [chunks,VE]
           · have ho : o' = q := d4 (by omega)
             subst ho
             refine VE.of_chunks hsz hro (us := vs.drop o') (by simp; omega) (VS.mono (sm.ext hi) _ _ (f2.drop o')) (Ones.sub f3 fun u hu => List.mem_of_mem_drop hu) fun j u hj => ?_
             rw [List.getElem?_drop] at hj
             have : (vs ++ sp)[o' + j]? = some u := by rw [List.getElem?_append,if_pos (List.getElem?_eq_some_iff.1 hj).1]; exact hj
             simp [World.cell?,f1,this]
         have hset : VS g' w (cs.set i (.list (chunks z agg n (ds.drop q)) .no)) us := by
           refine VS.mk (by simp [u3.len]) fun j v u h1 h2 => ?_
           rw [List.getElem?_set] at h1
           by_cases e : i = j
           · subst e
             simp only [if_true] at h1
             split at h1
             · cases h1; rw [c1] at h2; cases h2; exact hnew
             · cases h1
           · rw [if_neg e] at h1; exact u3.get' h1 h2
         have hown : OwnsL g' w (.fr s) (cs.set i (.list (chunks z agg n (ds.drop q)) .no)) us := fun j xs sz e cv h1 h2 => by
           rw [List.getElem?_set] at h1
           by_cases ej : i = j
           · subst ej
             simp only [if_true] at h1
             split at h1 <;> cases h1
           · rw [if_neg ej] at h1; exact u5 j xs sz e cv h1 h2
         have l : FrLike st.fr tm (st.fr.set s (.box (cs.set i (.list (chunks z agg n (ds.drop q)) .no)))) tm :=
           ⟨fun t ds' ht => by
               rw [Fr.get_set]; by_cases e : s = t
               · rw [if_pos e]; exact ⟨_,rfl⟩
               · rw [if_neg e]; exact ⟨ds',ht⟩,
            fun t xs sz ht => by
               rw [Fr.get_set]; by_cases e : s = t
               · subst e; rw [hs] at ht; cases ht
               · rw [if_neg e]; exact ⟨ht,rfl⟩⟩
         refine ⟨g',⟨fun t => ?_,fun j v cv hj => by simp at hj,kk.hp,kk.fresh,kk.gl⟩,ss⟩
         simp only
         by_cases e : s = t
         · subst e
           rw [Fr.get_set,if_pos rfl]
           simp only [VF]
           exact ⟨us,bt,u1,u2,⟨hset,u3'⟩,u4,hown⟩
         · rw [Fr.get_set,if_neg e]
           exact VF.like l (kk.fr t)
       · cases h
     · cases h
   · cases h; exact ⟨g,k,Stay.refl g w⟩
   · cases h
 · cases h
theorem Rel.frzs {lo:Nat} : ∀ {l:List (Nat × Nat × Nat × Bool)} {g:Gh} {st st' : St},Rel G g st [] tm w → Rf.frzs lo l st = some st' → ∃ g',Rel G g' st' [] tm w ∧ Stay g w g' w
 | [],g,st,st',k,h => by simp [Rf.frzs] at h; subst h; exact ⟨g,k,Stay.refl g w⟩
 | (s,i,sz,agg) :: r,g,st,st',k,h => by
   simp only [Rf.frzs] at h
   split at h
   · rename_i s1 h1
     obtain ⟨g1,k1,q1⟩ := k.frz1 h1
     obtain ⟨g2,k2,q2⟩ := Rel.frzs k1 h
     exact ⟨g2,k2,q1.trans q2⟩
   · cases h
theorem Rel.rorow (k:Rel G g st ps tm w) (hold:∀ b,b < w.heap.size → w'.heap[b]? = w.heap[b]?) (hsize:w'.heap.size = w.heap.size + 1) (h1:w'.os = w.os) (h2:w'.tape = w.tape) (h3:w'.output = w.output) :
   ∃ g',Rel G g' st ps tm w' ∧ Stay g w g' w' ∧ (∀ o,(g'.ow w.heap.size o).ro) := by
 let g' : Gh := { ow := fun b o => if b = w.heap.size then .imm else g.ow b o,hb := g.hb,bx := g.bx }
 have how : ∀ b o,b < w.heap.size → g'.ow b o = g.ow b o := fun b o e => by show (if b = _ then _ else _) = _; rw [if_neg (by omega)]
 have sm : Same (fun _ => True) g w g' w' := Same.grow hold (fun b o h _ => how b o h) (fun _ _ h => h)
 refine ⟨g',⟨fun s => (k.fr s).same sm trivial (fun t _ _ => rfl) (fun _ => trivial) trivial rfl,fun j v cv hj => (k.ps j v cv hj).same sm trivial (fun t _ _ => rfl) (fun _ => trivial) trivial rfl,k.hp.same sm trivial (fun _ => trivial) (fun _ _ => trivial) (fun _ _ _ => trivial) rfl,fun b o hb => ?_,k.gl.same sm trivial trivial⟩,?_,fun o => ?_⟩
 · show (if b = _ then _ else _) = _; rw [if_neg (by omega)]; exact k.fresh b o (by omega)
 · exact { ow := fun b o hl _ => how b o hl,cell := fun b o hl _ => cell?_of_block' (hold b hl),frz := fun b o hl _ _ => frozen?_of_block' (hold b hl),blk := fun b hl _ => hold b hl,row := sm.row,te := fun _ => trivial,hb := fun _ _ h => h,os := h1,tape := h2,output := h3,size := by omega }
 · show (if _ = _ then Tag.imm else _).ro; rw [if_pos rfl]; trivial
def bytesOk (P:Program) (s d:TypeId) : Bool :=
 (match P.underlying d with
  | some (.slice e) => (match P.underlying e with | some (.int .u8) => true | _ => false)
  | _ => false) && (match P.underlying s with | some .string => true | _ => false)
theorem fits_bytesS (k:Rel G g st [] a.tmps w) {x:Opd} {y:Operand} (hx:opdOk x y = true) {s d:TypeId} (hs:bytesOk P s d = true) (ho:o.op = .convert s d y) {bs:List UInt8} (hv:(opd st.fr x).1 = .str bs) (hl:bs.length ≤ 140737488355328) :
   Fits P G g st (.val (.list (bs.map fun b => .int .u8 b.toNat) .no) st) o a w := by
 have hr := k.read hx; rw [hv] at hr; simp only [VX,V] at hr
 unfold bytesOk at hs
 simp only [Bool.and_eq_true] at hs
 obtain ⟨h1,h2⟩ := hs
 split at h1 <;> try (cases h1; done)
 rename_i e he
 split at h1 <;> try (cases h1; done)
 rename_i hi
 split at h2 <;> try (cases h2; done)
 rename_i hd
 have hrun := Lib.run_convert_string_bytes (P := P) w s d e ⟨bs.toArray⟩ hd he hi
 obtain ⟨g1,k1,s1,hro⟩ := k.rorow (w' := Lib.bytesWorld w e ⟨bs.toArray⟩) (fun b hb => Lib.bytesWorld_at_old w e _ b hb) (Lib.bytesWorld_size w e _) rfl rfl rfl
 have hsz : (⟨bs.toArray⟩ : ByteArray).size = bs.length := by show bs.toArray.size = _; simp
 refine fits_value (g' := g1) (cv := .slice (some ⟨w.heap.size,0,none⟩) (⟨bs.toArray⟩ : ByteArray).size (grownCap w (⟨bs.toArray⟩ : ByteArray).size 0 e)) (by simp [execOp,ho,Act.eval_eq,hr,hrun]) (k1.push0 ?_) s1
 refine VF_scalar rfl (VX_of_V ?_) (by simp) (by simp)
 rw [hsz]
 simp only [V]
 refine ⟨_,_,by rw [List.length_map],by rw [List.length_map]; exact grownCap_ge w bs.length 0 e,?_,⟨fun e => (by cases e),fun e => (by cases e)⟩,(fun e => by cases e),fun ad e' => ?_⟩
 · have := grownCap_le_maxLen w bs.length 0 e (by simp [maxLen]; omega)
   simpa [maxLen] using this
 · cases e'
   refine ⟨fun _ => rfl,fun hn => absurd rfl hn,1,?_⟩
   have hcells := fun j (hj:j < bs.length) => Lib.bytesWorld_cell w e ⟨bs.toArray⟩ j (by rw [hsz]; exact hj)
   refine (Lay.bytes (g := g1) (w := Lib.bytesWorld w e ⟨bs.toArray⟩) bs).2.2 _ _ _ _ ⟨fun _ _ _ _ => ⟨rfl,rfl⟩,fun _ _ _ h => h,fun _ _ h => h⟩ fun j v hj => ⟨hro _,?_⟩
   rw [List.getElem?_map] at hj
   cases hb : bs[j]? with
   | none => rw [hb] at hj; simp at hj
   | some x =>
     rw [hb] at hj; simp at hj; subst hj
     rw [Nat.zero_add,hcells j (List.getElem?_eq_some_iff.1 hb).1]
     simp [List.getD,hb]
theorem idxB_lib : ∀ (l:List UInt8) (c:UInt8),Lib.indexByte l c = idxB l c
 | [],_ => rfl
 | b :: l,c => by simp only [Lib.indexByte,idxB,idxB_lib l c]
theorem idxB_find {fn : Func} (h : fn.name = "internal/bytealg.IndexByteString") : Extern.find fn = some Extern.BytealgIndexByte.indexByte := by
 have h1 : ∀ (a b c : Array TypeId), (((Extern.allGenericRows.lookup "internal/bytealg.IndexByteString").map (· a b c)) <|> ((Extern.allTypedRows.lookup "internal/bytealg.IndexByteString").map (· b c)) <|> Extern.allRows.lookup "internal/bytealg.IndexByteString") = some Extern.BytealgIndexByte.indexByte := by
   intro a b c; kernel_rfl
 unfold Extern.find
 rw [h]
 simp only [h1]
 rfl
def idxBOk (P:Program) (f:FuncId) : Bool :=
 match P.funcs[f]? with
 | some fn => !(fn.name == "runtime.NumGoroutine") && fn.body.isNone && (Extern.findNext fn).isNone && fn.name == "internal/bytealg.IndexByteString"
 | none => false
theorem fits_idxB (k:Rel G g st [] a.tmps w) {f:FuncId} (hf:idxBOk P f = true) {x c:Opd} {x' c' : Operand} (hx:opdOk x x' = true) (hc:opdOk c c' = true) {ts:Array TypeId} (ho:o.op = .call { callee := .value (.func f),args := #[x',c'],argTypes := ts })
   {bs:List UInt8} {n:Int} (h1:(opd st.fr x).1 = .str bs) (h2:(opd st.fr c).1 = .int .u8 n) : Fits P G g st (.val (.int .i64 (idxB bs (UInt8.ofNat n.toNat))) st) o a w := by
 have r1 := k.read hx; rw [h1] at r1; simp only [VX,V] at r1
 have r2 := k.read hc; rw [h2] at r2; simp only [VX,V] at r2
 unfold idxBOk at hf
 split at hf
 · rename_i fn hfn
   simp only [Bool.and_eq_true,Bool.not_eq_true',beq_iff_eq,beq_eq_false_iff_ne,ne_eq,Option.isNone_iff_eq_none] at hf
   obtain ⟨⟨⟨q1,q2⟩,q3⟩,q4⟩ := hf
   have hr := run_callFunc_extern hfn (by simpa using q1) (by simp [q2]) q3 (idxB_find q4) #[Value.string ⟨bs.toArray⟩,Value.int .u8 n] w
   rw [Lib.run_indexByteString] at hr
   simp only [Result.andThen_ok,idxB_lib] at hr
   refine fits_pure k (cv := .int .i64 (idxB bs (UInt8.ofNat n.toNat))) ?_ (VF_scalar rfl (by simp only [VX,V]) (by simp) (by simp))
   have e3 : Act.opd a.tmps (.func f) = Value.func (.func f) #[] #[] := rfl
   simp [execOp,ho,resolve,Deferred.ofValue,show a.eval = Act.opd a.tmps from funext (Act.eval_eq a),e3,r1,r2,invoke,hr]
 · cases hf
theorem firstCells_str (s:List UInt8) (n:Nat) : (Builtin.firstCells 1 n (.string ⟨s.toArray⟩)).run P w = .ok ((s.take n).map fun b => Value.int .u8 b.toNat).toArray w := by
 have h1 : (⟨s.toArray⟩ : ByteArray).extract 0 n = ⟨(s.take n).toArray⟩ := by
   apply ByteArray.ext; simp
 simp [Builtin.firstCells,h1]
def copyOk (P:Program) (t:TypeId) : Bool :=
 match P.underlying t with
 | some (.slice e) => (match P.info? e with | some i => decide (i.size = 1) | none => false)
 | _ => false
theorem copyOk_run {t:TypeId} (h:copyOk P t = true) : ∃ e,P.underlying t = some (.slice e) ∧ ∀ w,(sizeOf e).run P w = .ok 1 w := by
 unfold copyOk at h
 split at h <;> try (cases h; done)
 rename_i e he
 cases hi : P.info? e with
 | none => simp [hi] at h
 | some i => simp [hi] at h; exact ⟨e,he,fun w => by simp [sizeOf,typeInfo,hi,h]⟩
theorem fits_copyS (k:Rel G g st [] a.tmps w) {x y:Opd} {x' y' : Operand} (hx:opdOk x x' = true) (hy:opdOk y y' = true) {t t2:TypeId} (ht:copyOk P t = true) (ho:o.op = .call { callee := .builtin .copy,args := #[x',y'],argTypes := #[t,t2] })
   {id q n:Nat} (h1:(opd st.fr x).1 = .sref id q n 1) {s:List UInt8} (h2:(opd st.fr y).1 = .str s) {t0:Nat} {cs:List AV} (h0:min s.length n ≠ 0) (hid:st.hp[id]? = some (.cells t0 cs)) (hfit:q + min s.length n ≤ cs.length) :
   Fits P G g st (.val (.int .i64 (min s.length n : Nat)) { st with hp := st.hp.set id (.cells t0 (put cs q ((s.take (min s.length n)).map fun b => .int .u8 b.toNat))) }) o a w := by
 have r1 := k.read hx; rw [h1] at r1; simp only [VX,V] at r1
 have r2 := k.read hy; rw [h2] at r2; simp only [VX,V] at r2
 obtain ⟨b,o',c,⟨e1,⟨e2,e3⟩,e4,_⟩,e5⟩ := r1
 have : o' = q := e4 (by omega)
 subst this
 obtain ⟨e,u1,u2⟩ := copyOk_run ht
 have hu : V g w (.agg ((s.take (min s.length n)).map fun b => AV.int .u8 b.toNat)) (.agg ((s.take (min s.length n)).map fun b => Value.int .u8 b.toNat).toArray) := by
   simp only [V]
   refine ⟨_,rfl,VS.mk (by simp) fun i v u a1 a2 => ?_,fun u hu => by simp only [List.mem_map] at hu; obtain ⟨b,_,rfl⟩ := hu; rfl⟩
   rw [List.getElem?_map] at a1 a2
   cases hb : (s.take (min s.length n))[i]? with
   | none => rw [hb] at a1; simp at a1
   | some x => rw [hb] at a1 a2; simp at a1 a2; subst a1; subst a2; simp [V]
 have hcp : (AV.agg ((s.take (min s.length n)).map fun b => AV.int .u8 b.toNat)).spread = (s.take (min s.length n)).map fun b => AV.int .u8 b.toNat := by simp only [AV.spread,List.map_map]; rfl
 have hsl : (AV.agg ((s.take (min s.length n)).map fun b => AV.int .u8 b.toNat)).spread.length = min s.length n := by rw [hcp]; simp
 obtain ⟨b',vs,ty,f1,f2,f3,f4,f5⟩ := Rel.setobj (k.push0 (VF_scalar (r := .arg 0) rfl (VX_of_V hu) (by simp) (by simp))) rfl hid (off := o') (by rw [hsl]; exact hfit) (by rw [hsl]; omega)
 rw [e1] at f1; cases f1
 rw [hcp] at f4
 refine fits_value (cv := .int .i64 (min s.length n : Nat)) ?_ (f4.push0 (VF_scalar rfl (by simp only [VX,V]) (by simp) (by simp))) f5
 have hsz : (⟨s.toArray⟩ : ByteArray).size = s.length := by show s.toArray.size = _; simp
 have hst := run_storeCells_at P b o' ty ((s.take (min s.length n)).map fun b => Value.int .u8 b.toNat) 0 vs.toArray w f2 (by simp; omega) (fun v hv => by simp only [List.mem_map] at hv; obtain ⟨b,_,rfl⟩ := hv; rfl)
 have hfc := firstCells_str (P := P) (w := w) s (min s.length n)
 simp only [Nat.add_zero] at hst
 simp [execOp,ho,resolve,Act.eval_eq,invoke,builtin,Builtin.copy_,r2,e5,run_underlying u1,u2,Builtin.lenOf,hsz,goInt,Value.cells] at hst hfc ⊢
 simp [Nat.min_def] at hst hfc ⊢
 rw [hfc]
 simp [hst]
theorem fits_ustrR (k:Rel G g st [] a.tmps w) {p n:Opd} {p' n' : Operand} (hp:opdOk p p' = true) (hn:opdOk n n' = true) {pt it e:TypeId} (ht:P.underlying pt = some (.pointer e)) (hc:P.cellsOf e = 1) (ho:o.op = .call { callee := .builtin .unsafeString,args := #[p',n'],argTypes := #[pt,it] })
   {id:Nat} {m:Int} (h1:(opd st.fr p).1 = .ptr id 0) (h2:(opd st.fr n).1 = .int .i64 m) {cs l:List AV} (hid:st.hp[id]? = some (.cells e cs)) (he:e ≠ 0) (h0:0 < m) (h63:m ≤ 9223372036854775807) (hl:cut cs 0 m.toNat = some l) {bs:List UInt8} (hb:bytesOf l = some bs) :
   Fits P G g st (.val (.str bs) { st with hp := st.hp.set id .dead }) o a w := by
 have r1 := k.read hp; rw [h1] at r1; simp only [VX,V] at r1
 have r2 := k.read hn; rw [h2] at r2; simp only [VX,V] at r2
 obtain ⟨b,e1,e2⟩ := r1
 obtain ⟨b2,q2,x1,us,x2,x3,x4,x5⟩ := k.cutAt (p := .ptr id 0) (cv := .pointer (some ⟨b,0,none⟩)) (VX_of_V (by simp only [V]; exact ⟨b,e1,rfl⟩)) (cs := cs) (off := 0) (by simp only [Rf.behind,hid]) hl
 cases x1
 have hus := bytesOf_VS hb x4
 have hlen := bytesOf_len hb
 have hll := x4.len
 obtain ⟨b',k1,k2,k3⟩ := k.hp.obj id _ hid rfl
 rw [e1] at k1; cases k1
 simp only [ObjRel] at k3
 obtain ⟨vs,sp,ty,f1,⟨f2,_⟩,_,f4⟩ := k3
 obtain ⟨hty,hsp⟩ := f4 he
 subst hty; subst hsp
 rw [List.append_nil] at f1
 have hcl : (cut cs 0 m.toNat) = some l := hl
 have hfit : m.toNat ≤ vs.length := by
   unfold cut at hcl; split at hcl
   · rename_i h; have := f2.len; omega
   · cases hcl
 have hbl : bs.length = m.toNat := by omega
 have hsh : w.shape? b = some (ty,vs.length) := by unfold World.shape?; rw [f1]; simp
 have hr := Lib.run_unsafeString_row (P := P) w pt it o.type ty ht hc b vs.length hsh bs (by intro h; rw [h] at hbl; simp at hbl; omega) (by omega) (by omega) (fun j x hj => by
   rw [Addr.add_lit]; exact x3 j _ (by rw [hus,List.getElem?_map,hj]; rfl))
 have hm : m = (bs.length : Int) := by omega
 have hne : bs.length ≠ 0 := by omega
 have hh := fun c => heap_freeze w b bs.length c f1 hne
 have hos : (w.freeze ⟨b,0,none⟩ bs.length).os = w.os ∧ (w.freeze ⟨b,0,none⟩ bs.length).tape = w.tape ∧ (w.freeze ⟨b,0,none⟩ bs.length).output = w.output := by
   unfold World.freeze; rw [if_neg hne]; exact ⟨rfl,rfl,rfl⟩
 have hold : ∀ c,c ≠ b → (w.freeze ⟨b,0,none⟩ bs.length).heap[c]? = w.heap[c]? := fun c hc => by rw [hh c,if_neg hc]
 have hrow : ∀ c e n,Row0 w c e n → Row0 (w.freeze ⟨b,0,none⟩ bs.length) c e n := fun c e n ⟨ds,hj,q1,q2⟩ => by
   by_cases hc : c = b
   · subst hc; rw [f1] at q1; cases q1; exact ⟨_,_,by rw [hh c,if_pos rfl],q2⟩
   · exact ⟨ds,hj,by rw [hold c hc]; exact q1,q2⟩
 have hsize := size_freeze w ⟨b,0,none⟩ bs.length
 have kk := k.kill (g' := g) (w' := w.freeze ⟨b,0,none⟩ bs.length) hid k2 (Array.getElem?_eq_some_iff.1 f1).1 (fun _ _ _ => rfl) rfl rfl hold hrow hsize
 have ss := stay_kill (g' := g) (w' := w.freeze ⟨b,0,none⟩ bs.length) k2 (fun _ _ _ => rfl) rfl hold hrow hsize hos.1 hos.2.1 hos.2.2
 refine fits_value (g' := g) (cv := .string ⟨bs.toArray⟩) ?_ (kk.push0 (VF_scalar rfl (by simp only [VX,V]) (by simp) (by simp))) ss
 rw [hm] at r2
 simp [execOp,ho,resolve,Act.eval_eq,invoke,builtin,e2,r2,hr]
theorem VE.cellsVS {sz:Nat} : ∀ {ys:List AV} {b q:Nat},VE g w sz ys b q → ∃ news : List Value,news.length = ys.length * sz ∧ Ones news ∧ (∀ (j:Nat) v,news[j]? = some v → w.cell? ⟨b,q + j,none⟩ = some v) ∧ VS g w (ys.map AV.cells).flatten news
 | [],_,_,_ => ⟨[],by simp,by simp [Ones],by simp,by simp [VS]⟩
 | y :: ys,b,q,h => by
   obtain ⟨h1,h2⟩ := h.get (j := 0) rfl
   rw [Nat.zero_mul,Nat.add_zero] at h2
   have one : ∀ {cs:List AV} {q:Nat},VC g w cs b q → ∃ us : List Value,us.length = cs.length ∧ Ones us ∧ (∀ (j:Nat) v,us[j]? = some v → w.cell? ⟨b,q + j,none⟩ = some v) ∧ VS g w cs us := by
     intro cs
     induction cs with
     | nil => intro q _; exact ⟨[],rfl,by simp [Ones],by simp,by simp [VS]⟩
     | cons c cs ih =>
       intro q hc
       simp only [VC] at hc
       obtain ⟨⟨_,cv,c1,c2,c3⟩,c4⟩ := hc
       obtain ⟨us,u1,u2,u3,u4⟩ := ih c4
       refine ⟨cv :: us,by simp [u1],fun u hu => ?_,fun j v hv => ?_,by simp only [VS]; exact ⟨cv,us,rfl,c3,u4⟩⟩
       · simp at hu; rcases hu with rfl | hu
         · exact c2
         · exact u2 u hu
       · cases j with
         | zero => simp at hv; subst hv; simpa using c1
         | succ j => simp at hv; rw [show q + (j + 1) = q + 1 + j by omega]; exact u3 j v hv
   obtain ⟨us,u1,u2,u3,u4⟩ := one h2
   obtain ⟨vs,v1,v2,v3,v4⟩ := VE.cellsVS h.tail
   refine ⟨us ++ vs,by simp [u1,v1,h1,Nat.succ_mul,Nat.add_comm],fun u hu => ?_,fun j v hv => ?_,?_⟩
   · simp at hu; rcases hu with hu | hu
     · exact u2 u hu
     · exact v2 u hu
   · rw [List.getElem?_append] at hv; split at hv
     · exact u3 j v hv
     · have := v3 _ v hv
       rwa [show q + sz + (j - us.length) = q + j by omega] at this
   · rw [List.map_cons,List.flatten_cons]; exact VS.append u4 v4
theorem list_src {sz:Nat} {ys:List AV} {ow:Own} {Y:Value} (h:V g w (.list ys ow) Y) (hs:okSize sz ys = true) : ∃ news : List Value,news.length = ys.length * sz ∧ Ones news ∧ VS g w (ys.map AV.cells).flatten news ∧
   (∀ w' : World,(Builtin.lenOf Y).run P w' = .ok ys.length w') ∧ ∀ w' : World,(∀ b : Nat,w'.heap[b]? = w.heap[b]?) → (Builtin.firstCells sz ys.length Y).run P w' = .ok news.toArray w' := by
 simp only [V] at h
 obtain ⟨A,c,rfl,h2,h3,_,h5,h6⟩ := h
 cases A with
 | none =>
   have hc := h5 rfl; subst hc
   have : ys = [] := List.length_eq_zero_iff.1 (by omega)
   subst this
   exact ⟨[],by simp,by simp [Ones],by simp [VS],fun _ => by simp [Builtin.lenOf],fun _ _ => by simp [Builtin.firstCells]⟩
 | some ad =>
   obtain ⟨hsp,_,sz',hv⟩ := h6 ad rfl
   by_cases hy : ys = []
   · subst hy
     exact ⟨[],by simp,by simp [Ones],by simp [VS],fun _ => by simp [Builtin.lenOf],fun _ _ => by simp [Builtin.firstCells,loadCells,loadCellsFrom]⟩
   replace hsp := hsp (.inr (by have := List.length_pos_iff.2 hy; omega))
   obtain ⟨b,q,sp⟩ := ad
   simp only at hsp hv; subst hsp
   obtain ⟨news,n1,n2,n3,n4⟩ := (okSize_VE hs hv).cellsVS
   exact ⟨news,n1,n2,n4,fun _ => by simp [Builtin.lenOf],fun w' hw => firstCells_some n1 fun j v hj => by rw [cell?_of_block' (hw b)]; exact n3 j v hj⟩
theorem append2_d2 {t2:TypeId} (h:append2Ok P t2 = true) : ∃ d2,P.underlying t2 = some d2 ∧ ∀ kk,d2 ≠ .int kk := by
 unfold append2Ok at h
 cases hu : P.underlying t2 with
 | none => simp [hu] at h
 | some d => exact ⟨d,rfl,fun kk e => by subst e; simp [hu] at h⟩
theorem appendOk_pos {t:TypeId} {sz bytes:Nat} (ht:appendOk P t sz bytes = true) : 0 < sz := by
 unfold appendOk at ht
 cases hu : P.underlying t with
 | none => simp [hu] at ht
 | some d =>
   cases d <;> simp [hu] at ht
   rename_i e
   cases hi : P.info? e <;> simp [hi] at ht
   exact ht.1.2
theorem VS.sub_append {cs ds:List AV} {vs us:List Value} (h:VS g w cs vs) (k:VS g w ds us) : VS g w ((cs ++ ds).map AV.cp1) (vs ++ us) := (VS.append h k).cp1
theorem Rel.newbuf (k:Rel G g st [] tm w) {kn:List AV} {vs sp:List Value} (hv:VS g w kn vs) (h1:Ones vs) (e:TypeId) : ∃ g',Rel G g' { st with hp := st.hp ++ [.cells 0 (kn.map AV.cp1)] } [] tm (w.drew.alloc (.cells (vs ++ sp).toArray e)) ∧
   Stay g w g' (w.drew.alloc (.cells (vs ++ sp).toArray e)) ∧ g'.hb = g.hb ++ [w.heap.size] := by
 have hv' : VS g w.drew kn vs := VS.mono (g := g) (w := w) (g' := g) (w' := w.drew) ⟨fun _ _ _ _ => ⟨rfl,rfl⟩,fun _ _ _ h => h,fun _ _ h => h⟩ _ _ hv
 obtain ⟨g2,k2,s2,hg2⟩ := Rel.newobj (k.draws (w' := w.drew) rfl) (o := .cells 0 (kn.map AV.cp1)) (obj := .cells (vs ++ sp).toArray e) (fun g1 w1 sm _ h2 => by
   simp only [ObjRel]
   exact ⟨vs,sp,e,h2,⟨VS.mono (sm.ext trivial) _ _ hv'.cp1,h1⟩,OwnsL.cp1,fun h => absurd rfl h⟩)
 exact ⟨g2,k2,{ ow := s2.ow,cell := s2.cell,frz := s2.frz,blk := s2.blk,row := s2.row,te := s2.te,hb := s2.hb,os := s2.os,tape := s2.tape,output := s2.output,size := s2.size },hg2⟩
theorem fits_appR_nil (k:Rel G g st [] a.tmps w) {x y:Opd} {x' y' : Operand} (hx:opdOk x x' = true) (hy:opdOk y y' = true) {t t2:TypeId} {sz bytes:Nat} (ht:appendOk P t sz bytes = true) (ht2:append2Ok P t2 = true)
   (ho:o.op = .call { callee := .builtin .append,args := #[x',y'],argTypes := #[t,t2] }) (ha:(opd st.fr x).1 = .list [] .nil) {ys:List AV} {ow:Own} (hb:(opd st.fr y).1 = .list ys ow) (hne:ys ≠ []) (hs:okSize sz ys = true)
   (hby:ys.length * bytes ≤ 140737488355328) (h63:ys.length ≤ 9223372036854775807) : Fits P G g st (.val (.sref st.hp.length 0 ys.length sz) { st with hp := st.hp ++ [.cells 0 ((ys.map AV.cells).flatten.map AV.cp1)] }) o a w := by
 have r1 := k.read hx; rw [ha] at r1; simp only [VX,V] at r1
 have r2 := k.read hy; rw [hb] at r2; rw [VX_plain rfl] at r2
 obtain ⟨A,c,e1,e2,e3,e4,e5,e6⟩ := r1
 have hA := e4.1 trivial; subst hA
 have hc := e5 rfl; subst hc
 simp only [List.length_nil] at e1
 obtain ⟨news,n1,n2,n3,n4,n5⟩ := list_src r2 hs
 obtain ⟨d2,hu2,hd2⟩ := append2_d2 ht2
 have hpos := List.length_pos_iff.2 hne
 obtain ⟨C,e,rest,_,c1,c2,c3,c4⟩ := run_append_out (P := P) (w := w) (A := none) (n := 0) (c := 0) (olds := []) ht hu2 hd2 (n4 w) n1 (by simp) (n5 w.drew fun _ => rfl) (by simp [Builtin.firstCells]) (by omega) (by simpa using hby) (by simpa using h63) o.type
 simp only [List.nil_append,Nat.zero_add] at c1 c3 c4
 obtain ⟨g',k',s',hg'⟩ := k.newbuf (sp := rest) n3 n2 e
 refine fits_value (cv := .slice (some ⟨w.heap.size,0,none⟩) ys.length C) ?_ (k'.push0 (VF_scalar rfl (VX_of_V ?_) (by simp) (by simp))) s'
 · simp [execOp,ho,resolve,Act.eval_eq,invoke,builtin,e1,c4]
 · simp only [V]
   refine ⟨w.heap.size,0,C,⟨by rw [hg',List.getElem?_append,if_neg (by rw [k.hp.len]; omega),k.hp.len]; simp,⟨c1,c2⟩,fun _ => rfl,e,(news ++ rest).length,⟨_,0,heap_alloc_new w.drew _,by simp⟩,?_⟩,rfl⟩
   rw [List.length_append,n1,c3,← Nat.add_mul,Nat.zero_add]
   exact Nat.mul_le_mul_right sz (by omega)
theorem fits_appR (k:Rel G g st [] a.tmps w) {x y:Opd} {x' y' : Operand} (hx:opdOk x x' = true) (hy:opdOk y y' = true) {t t2:TypeId} {sz bytes:Nat} (ht:appendOk P t sz bytes = true) (ht2:append2Ok P t2 = true)
   (ho:o.op = .call { callee := .builtin .append,args := #[x',y'],argTypes := #[t,t2] }) {id n:Nat} (ha:(opd st.fr x).1 = .sref id 0 n sz) {ys:List AV} {ow:Own} (hb:(opd st.fr y).1 = .list ys ow) (hs:okSize sz ys = true)
   {t0:Nat} {cs:List AV} (hid:st.hp[id]? = some (.cells t0 cs)) (hfit:n * sz ≤ cs.length) (hby:(n + ys.length) * bytes ≤ 140737488355328) (h63:n + ys.length ≤ 9223372036854775807) :
   Fits P G g st (.val (.sref st.hp.length 0 (n + ys.length) sz) { st with hp := st.hp.set id .dead ++ [.cells 0 ((cs.take (n * sz) ++ (ys.map AV.cells).flatten).map AV.cp1)] }) o a w := by
 have r1 := k.read hx; rw [ha] at r1; simp only [VX,V] at r1
 have r2 := k.read hy; rw [hb] at r2; rw [VX_plain rfl] at r2
 obtain ⟨b,o',c,⟨e1,⟨e2,e3⟩,e4,te,M,eR,eM⟩,e5⟩ := r1
 obtain ⟨news,n1,n2,n3,n4,n5⟩ := list_src r2 hs
 obtain ⟨d2,hu2,hd2⟩ := append2_d2 ht2
 have hsz := appendOk_pos ht
 obtain ⟨b',k1,k2,k3⟩ := k.hp.obj id _ hid rfl
 rw [e1] at k1; cases k1
 simp only [ObjRel] at k3
 obtain ⟨vs,sp,ty,f1,⟨f2,f3⟩,_,_⟩ := k3
 have hvl := f2.len
 have hlt := (Array.getElem?_eq_some_iff.1 f1).1
 have hM : M = vs.length + sp.length := by
   obtain ⟨ds,hi,q1,q2⟩ := eR; rw [f1] at q1; cases q1; simpa using q2.symm
 have holds : VS g w (cs.take (n * sz)) (vs.take (n * sz)) := f2.take _
 have hones : Ones (vs.take (n * sz)) := Ones.sub f3 fun u hu => List.mem_of_mem_take hu
 have hol : (vs.take (n * sz)).length = n * sz := by simp; omega
 have hcellO : 0 < c → ∀ (j:Nat) v,(vs.take (n * sz))[j]? = some v → w.cell? ⟨b,o' + j,none⟩ = some v := fun hc j v hj => by
   rw [e4 hc,Nat.zero_add]
   rw [List.getElem?_take] at hj
   split at hj
   · have : (vs ++ sp)[j]? = some v := by rw [List.getElem?_append,if_pos (List.getElem?_eq_some_iff.1 hj).1]; exact hj
     simp [World.cell?,f1,this]
   · cases hj
 have hkl : (st.hp.set id HObj.dead).length = st.hp.length := by simp
 by_cases hroom : n + ys.length ≤ c
 · by_cases hc0 : c = 0
   · have hn0 : n = 0 := by omega
     have hy0 : ys = [] := List.length_eq_zero_iff.1 (by omega)
     subst hn0; subst hy0; subst hc0
     have hnews : news = [] := List.length_eq_zero_iff.1 (by simpa using n1)
     subst hnews
     have hap := run_append_in (P := P) (w := w) ht hu2 hd2 (b := b) (q := o') (n := 0) (c := 0) (m := 0) (n4 w) (news := []) (by simp) (n5 w fun _ => rfl) n2 (by omega) (fun o h1 h2 => by omega) o.type
     obtain ⟨w',r3,r4⟩ := hap
     have hw' := r4.none rfl
     subst hw'
     let g' : Gh := { ow := fun c o => if c = b then .obj st.hp.length else g.ow c o,hb := g.hb,bx := g.bx }
     have how : ∀ c o,c ≠ b → g'.ow c o = g.ow c o := fun c o e => by show (if c = b then _ else _) = _; rw [if_neg e]
     have kk := k.kill (g' := g') (w' := w') hid k2 hlt how rfl rfl (fun _ _ => rfl) (fun _ _ _ h => h) rfl
     have ss := stay_kill (g' := g') (w' := w') k2 how rfl (fun _ _ => rfl) (fun _ _ _ h => h) rfl rfl rfl rfl
     obtain ⟨ka,sa⟩ := kk.addobj (b := b) (ob := .cells 0 ((cs.take (0 * sz) ++ (([] : List AV).map AV.cells).flatten).map AV.cp1)) (fun o => by show (if b = b then _ else _) = _; rw [if_pos rfl]; simp) (fun g1 ex => by
       simp only [ObjRel]
       exact ⟨[],vs ++ sp,ty,by simpa using f1,⟨by simp [VS],by simp [Ones]⟩,OwnsL.cp1,fun h => absurd rfl h⟩)
     refine fits_value (cv := .slice (some ⟨b,o',none⟩) 0 0) ?_ (ka.push0 (VF_scalar rfl (VX_of_V ?_) (by simp) (by simp))) (ss.trans sa)
     · simp at r3; simp [execOp,ho,resolve,Act.eval_eq,invoke,builtin,e5,r3]
     · simp only [V]
       refine ⟨b,o',0,⟨?_,⟨by simp,by simp⟩,fun h => absurd h (by omega),te,M,eR,by omega⟩,by simp⟩
       show (g.hb ++ [b])[_]? = _
       rw [List.getElem?_append,if_neg (by rw [k.hp.len]; omega),k.hp.len]; simp
   · have hcp : 0 < c := by omega
     have ho' : o' = 0 := e4 hcp
     subst ho'
     obtain ⟨w',r3,r4⟩ := run_append_in (P := P) (w := w) ht hu2 hd2 (b := b) (q := 0) (n := n) (c := c) (n4 w) n1 (n5 w fun _ => rfl) n2 hroom (fun o h1 h2 => ⟨⟨(vs ++ sp)[o]'(by simp; omega),by simp [World.cell?,f1,show o < vs.length + sp.length by omega]⟩,blk_frozen' f1 o⟩) o.type
     let g' : Gh := { ow := fun c o => if c = b then .obj st.hp.length else g.ow c o,hb := g.hb,bx := g.bx }
     have how : ∀ c o,c ≠ b → g'.ow c o = g.ow c o := fun c o e => by show (if c = b then _ else _) = _; rw [if_neg e]
     have kk := k.kill (g' := g') (w' := w') hid k2 hlt how rfl rfl r4.blk r4.row r4.size
     have ss := stay_kill (g' := g') (w' := w') k2 how rfl r4.blk r4.row r4.size r4.os r4.tape r4.output
     have sm := same_kill (g' := g') (w' := w') k2 how r4.blk r4.row (fun _ _ h => h)
     have hi : (fun t => t ≠ Tag.obj id) Tag.imm := by simp
     have hle : (n + ys.length) * sz ≤ c * sz := Nat.mul_le_mul_right sz hroom
     rw [Nat.add_mul] at hle
     obtain ⟨ds,hdi,hd1,hd2'⟩ := r4.row _ _ _ eR
     -- the block's new cells
     have hfz : ∃ ds : Array Value,w'.heap[b]? = some (.cells ds ty (0,0)) ∧ ds.size = vs.length + sp.length := by
       obtain ⟨ds,hi',hd1,hd2⟩ := r4.row b ty (vs.length + sp.length) ⟨_,0,f1,by simp⟩
       have hf := r4.frz 0
       by_cases hz : hi' = 0
       · subst hz; exact ⟨ds,hd1,hd2⟩
       · exfalso
         rw [blk_frozen' f1 0] at hf
         unfold World.frozen? at hf; rw [hd1] at hf
         simp at hf; omega
     obtain ⟨ds,hds,hdl⟩ := hfz
     have hdget : ∀ j,w'.cell? ⟨b,j,none⟩ = ds[j]? := fun j => by simp [World.cell?,hds]
     have hsplit : ds.toList = (vs.take (n * sz) ++ news) ++ ds.toList.drop (n * sz + news.length) := by
       have hl1 : (vs.take (n * sz) ++ news).length = n * sz + news.length := by simp; omega
       have : ds.toList.take (n * sz + news.length) = vs.take (n * sz) ++ news := by
         apply List.ext_getElem?
         intro j
         rw [List.getElem?_take]
         by_cases hj : j < n * sz + news.length
         · rw [if_pos hj]
           have e1 : ds.toList[j]? = ds[j]? := by simp
           rw [e1,← hdget j,List.getElem?_append]
           by_cases hj2 : j < n * sz
           · rw [if_pos (by omega),r4.old j (by omega)]
             have hv : (vs.take (n * sz))[j]? = some ((vs.take (n * sz))[j]'(by omega)) := List.getElem?_eq_getElem (by omega)
             have := hcellO hcp j _ hv
             rw [Nat.zero_add] at this
             rw [this,hv]
           · rw [if_neg (by omega),hol]
             have hv : news[j - n * sz]? = some (news[j - n * sz]'(by omega)) := List.getElem?_eq_getElem (by omega)
             have := r4.new _ _ hv
             rw [show 0 + n * sz + (j - n * sz) = j by omega] at this
             rw [this,hv]
         · rw [if_neg hj,List.getElem?_eq_none (by omega)]
       rw [← this,List.take_append_drop]
     obtain ⟨ka,sa⟩ := kk.addobj (b := b) (ob := .cells 0 ((cs.take (n * sz) ++ (ys.map AV.cells).flatten).map AV.cp1)) (fun o => by show (if b = b then _ else _) = _; rw [if_pos rfl]; simp) (fun g1 ex => by
       simp only [ObjRel]
       refine ⟨vs.take (n * sz) ++ news,ds.toList.drop (n * sz + news.length),ty,?_,⟨?_,?_⟩,OwnsL.cp1,fun h => absurd rfl h⟩
       · rw [← hsplit]; simpa using hds
       · exact VS.mono ex _ _ (VS.mono (sm.ext hi) _ _ (holds.sub_append n3))
       · intro u hu; simp only [List.mem_append] at hu
         rcases hu with hu | hu
         · exact hones u hu
         · exact n2 u hu)
     refine fits_value (cv := .slice (some ⟨b,0,none⟩) (n + ys.length) c) ?_ (ka.push0 (VF_scalar rfl (VX_of_V ?_) (by simp) (by simp))) (ss.trans sa)
     · simp [execOp,ho,resolve,Act.eval_eq,invoke,builtin,e5,r3]
     · simp only [V]
       refine ⟨b,0,c,⟨?_,⟨hroom,e3⟩,fun _ => rfl,te,M,r4.row _ _ _ eR,eM⟩,rfl⟩
       show (g.hb ++ [b])[_]? = _
       rw [List.getElem?_append,if_neg (by rw [k.hp.len]; omega),k.hp.len]; simp
 · have hfo : (Builtin.firstCells sz n (.slice (some ⟨b,o',none⟩) n c)).run P w.drew = .ok (vs.take (n * sz)).toArray w.drew := by
     by_cases hn : n = 0
     · subst hn; simp [Builtin.firstCells,loadCells,loadCellsFrom]
     · exact firstCells_some hol fun j v hj => by rw [cell?_of_block' (w' := w.drew) (w := w) rfl]; exact hcellO (by omega) j v hj
   obtain ⟨C,e,rest,_,c1,c2,c3,c4⟩ := run_append_out (P := P) (w := w) (A := some ⟨b,o',none⟩) (n := n) (c := c) ht hu2 hd2 (n4 w) n1 hol (n5 w.drew fun _ => rfl) hfo hroom hby h63 o.type
   have kk := k.kill (g' := g) (w' := w) hid k2 hlt (fun _ _ _ => rfl) rfl rfl (fun _ _ => rfl) (fun _ _ _ h => h) rfl
   obtain ⟨g',k',s',hg'⟩ := kk.newbuf (sp := rest) (VS.append holds n3) (fun u hu => by
     simp only [List.mem_append] at hu
     rcases hu with hu | hu
     · exact hones u hu
     · exact n2 u hu) e
   refine fits_value (cv := .slice (some ⟨w.heap.size,0,none⟩) (n + ys.length) C) ?_ (k'.push0 (VF_scalar rfl (VX_of_V ?_) (by simp) (by simp))) s'
   · simp [execOp,ho,resolve,Act.eval_eq,invoke,builtin,e5,c4]
   · simp only [V]
     refine ⟨w.heap.size,0,C,⟨by rw [hg',List.getElem?_append,if_neg (by rw [k.hp.len]; omega),k.hp.len]; simp,⟨c1,c2⟩,fun _ => rfl,e,(vs.take (n * sz) ++ news ++ rest).length,⟨_,0,heap_alloc_new w.drew _,by simp⟩,?_⟩,rfl⟩
     rw [List.length_append,List.length_append,hol,n1,c3,← Nat.add_mul,← Nat.add_mul,Nat.zero_add]
     exact Nat.mul_le_mul_right sz (by omega)
end
end Go.Proofs.YtkofimhnehkdoaaGreatDoor.Rf
end
section
namespace Go.Proofs.YtkofimhnehkdoaaGreatDoor.Rf
def isIface : Option TypeDesc → Bool
 | some (.interface _) => true
 | none => true
 | _ => false
def chkOp (P:Program) (i:IOp) (op:Op) : Bool :=
 match i with
 | .mv x => match op with | .move y => opdOk x y | .assign y => opdOk x y | _ => false
 | .pick c a b => match op with | .pick c' a' b' => opdOk c c' && opdOk a a' && opdOk b b' | _ => false
 | .alloc _ ty cs => match op with | .alloc t => zeroOk P t cs && (Nat.beq ty 0 || Nat.beq t ty) | _ => false
 | .box _ x => match op with | .box _ y => opdOk x y | _ => false
 | .build zs ps => match op with | .build t qs => zeroOk P t zs && (match placeOf P t with | some pl => partsOk pl ps qs.toList | none => false) && sizesOk P t | _ => false
 | .bslice z e n ps => match op with | .buildSlice t m qs => bsliceOk P t z n && (rowTy P t z.cells.length e || Nat.beq e 999999) && decide (n = m) && bpartsOk ps qs.toList | _ => false
 | .load x _ n agg tk => match op with | .load t y => opdOk x y && tyOk P t n agg | _ => false
 | .store x _ v n => match op with | .store t y u => opdOk x y && opdOk v u && (tyOk P t n true || tyOk P t n false) | _ => false
 | .nilchk x => match op with | .nilCheck y => opdOk x y | _ => false
 | .bin op' x y => match op with | .binOp o _ x' y' _ => decide (o = op') && opdOk x x' && opdOk y y' | _ => false
 | .eq neg k x y => match op with | .binOp o t x' y' _ => decide (o = if neg then .neq else .eql) && eqOk P k t x' y' && opdOk x x' && opdOk y y' | _ => false
 | .un op' x => match op with | .unOp o _ x' => decide (o = op') && opdOk x x' | _ => false
 | .conv k x => match op with | .convert s d x' => (match P.underlying s with | some (.int _) => true | _ => false) && (match P.underlying d with | some (.int k') => decide (k' = k) | _ => false) && opdOk x x' | _ => false
 | .sconv x => match op with | .convert s d x' => (match P.underlying s with | some .string => true | _ => false) && (match P.underlying d with | some .string => true | _ => false) && opdOk x x' | _ => false
 | .mkiface t x => match op with | .makeInterface t' x' => decide (t' = t) && !isIface (P.underlying t) && opdOk x x' | _ => false
 | .mkfunc f cs => match op with | .makeFunc fn first caps => (match fn with | .func f' => decide (f' = f) | _ => false) && decide (first.size = 0) && opdsOk cs caps.toList | _ => false
 | .mkmap => match op with | .makeMap _ r => r.isNone | _ => false
 | .faddr x off => match op with | .fieldAddr s y f => opdOk x y && (match P.underlying s with | some (.struct fs) => (match fs[f]? with | some x => (match P.info? x.type with | some i => fieldOk P s f off i.size | none => false) | none => false) | _ => false) | _ => false
 | .field x off n agg => match op with | .field s y f => opdOk x y && fieldOk2 P s f off n agg | _ => false
 | .iaddrL x i sz => match op with | .indexAddr t y u => opdOk x y && opdOk i u && sliceOk P t sz | _ => false
 | .iaddrA x i len sz => match op with | .indexAddr t y u => opdOk x y && opdOk i u && arrayOk P t len sz | _ => false
 | .idxS x i => match op with | .index t y u => opdOk x y && opdOk i u && (match P.underlying t with | some .string => true | _ => false) | _ => false
 | .slcS x l h => match op with | .slice t y l' h' m' => opdOk x y && optOk l l' && optOk h h' && m'.isNone && (match P.underlying t with | some .string => true | _ => false) | _ => false
 | .slcL x l h sz => match op with | .slice t y l' h' m' => opdOk x y && optOk l l' && optOk h h' && m'.isNone && sliceOk P t sz | _ => false
 | .lookup kd m k z ok tk => match op with | .lookup t m' k' ok' => opdOk m m' && opdOk k k' && mapOk P t kd z && decide (ok' = ok) | _ => false
 | .mapset kd m k v z => match op with | .mapUpdate t m' k' v' => opdOk m m' && opdOk k k' && opdOk v v' && mapOk P t kd z | _ => false
 | .len x kd => match op with | .call c => (match c.callee with | .builtin .len => (match c.args.toList,c.argTypes.toList with | [x'],[t] => opdOk x x' && (match kd,P.underlying t with | .list,some (.slice _) => true | .str,some .string => true | .map,some (.map _ _) => true | _,_ => false) | _,_ => false) | _ => false) | _ => false
 | .konst v => match op with | .call c => (match c.callee with | .builtin .len => (match c.args.toList,c.argTypes.toList with | [_],[t] => (match P.underlying t,v with | some (.array n _),.int .i64 m => decide (m = n) | _,_ => false) | _,_ => false) | _ => false) | _ => false
 | .append x y sz e bytes _ => match op with | .call c => (match c.callee with | .builtin .append => (match c.args.toList,c.argTypes.toList with | [x',y'],[t,t2] => opdOk x x' && opdOk y y' && appendOk P t sz bytes && rowTy P t sz e && append2Ok P t2 | _,_ => false) | _ => false) | _ => false
 | .min x y => match op with | .call c => (match c.callee with | .builtin .min => (match c.args.toList with | [x',y'] => opdOk x x' && opdOk y y' | _ => false) | _ => false) | _ => false
 | .max x y => match op with | .call c => (match c.callee with | .builtin .max => (match c.args.toList with | [x',y'] => opdOk x x' && opdOk y y' | _ => false) | _ => false) | _ => false
 | .extract x i => match op with | .extract x' i' => decide (i' = i) && opdOk x x' | _ => false
 | .assert x t z ok => match op with | .typeAssert x' _ t' ok' => decide (t' = t) && decide (ok' = ok) && opdOk x x' && !isIface (P.underlying t) && zeroV P t z | _ => false
 | .panic x => match op with | .panic x' => opdOk x x' | _ => false
 | .call f xs _ => match op with | .call c => (match c.callee with | .value f' => opdOk f f' && opdsOk xs c.args.toList | _ => false) | _ => false
 | .sdata x _ => match op with | .call c => (match c.callee with | .builtin .unsafeSliceData => (match c.args.toList with | [x'] => opdOk x x' | _ => false) | _ => false) | _ => false
 | .ustr p n e => match op with | .call c => (match c.callee with | .builtin .unsafeString => (match c.args.toList,c.argTypes.toList with | [p',n'],[pt,_] => opdOk p p' && opdOk n n' && (match P.underlying pt with | some (.pointer e') => Nat.beq e' e && Nat.beq (P.cellsOf e') 1 | _ => false) | _,_ => false) | _ => false) | _ => false
 | .uptr x u n => match op with | .convert s d x' => uptrOk P s d u n && opdOk x x' | _ => false
 | .ident f x => match op with | .call c => (match c.callee with | .value (.func f') => decide (f' = f) && identOk P f && (match c.args.toList with | [x'] => opdOk x x' | _ => false) | _ => false) | _ => false
 | .mkbuf z e n c bytes => match op with | .makeSlice t n' c' => mksliceOk P t z bytes && rowTy P t z.cells.length e && opdOk n n' && opdOk c c' | _ => false
 | .slcA x l h len sz => match op with | .slice t y l' h' m' => opdOk x y && optOk l l' && optOk h h' && m'.isNone && arrPtrOk P t len sz | _ => false
 | .strL x => match op with | .convert s d x' => strOk P s d && opdOk x x' | _ => false
 | .bytesS x => match op with | .convert s d x' => bytesOk P s d && opdOk x x' | _ => false
 | .idxB f x y => match op with | .call c => (match c.callee with | .value (.func f') => decide (f' = f) && idxBOk P f && (match c.args.toList with | [x',y'] => opdOk x x' && opdOk y y' | _ => false) | _ => false) | _ => false
 | .copyS x y => match op with | .call c => (match c.callee with | .builtin .copy => (match c.args.toList,c.argTypes.toList with | [x',y'],[t,_] => opdOk x x' && opdOk y y' && copyOk P t | _,_ => false) | _ => false) | _ => false
 | .appR x y sz bytes => match op with | .call c => (match c.callee with | .builtin .append => (match c.args.toList,c.argTypes.toList with | [x',y'],[t,t2] => opdOk x x' && opdOk y y' && appendOk P t sz bytes && append2Ok P t2 | _,_ => false) | _ => false) | _ => false
 | .mkslice z e n c bytes => match op with | .makeSlice t n' c' => mksliceOk P t z bytes && rowTy P t z.cells.length e && opdOk n n' && opdOk c c' | _ => false
section
variable {P:Program} {G:Nat → Option (List AV)} {g:Gh} {st:St} {a:Act} {w:World} {o:Oper}
theorem isIface_no {d:Option TypeDesc} (h:(!isIface d) = true) : ∃ e,d = some e ∧ ∀ ms,e ≠ .interface ms := by
 cases d with
 | none => simp [isIface] at h
 | some e => exact ⟨e,rfl,fun ms he => by subst he; simp [isIface] at h⟩
theorem arr_of {α:Type} (x:Array α) {l:List α} (h:x.toList = l) : x = l.toArray := by rw [← h]
theorem call_eq {c:Call} {cal:Callee} {xs:List Operand} {ts:List TypeId} (h1:c.callee = cal) (h2:c.args.toList = xs) (h3:c.argTypes.toList = ts) : c = { callee := cal,args := xs.toArray,argTypes := ts.toArray } := by
 cases c; simp only at h1 h2 h3; subst h1; rw [arr_of _ h2,arr_of _ h3]
theorem fits_sconv (k:Rel G g st [] a.tmps w) {x:Opd} {x' : Operand} (hx:opdOk x x' = true) {s d:TypeId} (hs:P.underlying s = some .string) (hd:P.underlying d = some .string) (ho:o.op = .convert s d x') {n:List UInt8} (h:(opd st.fr x).1 = .str n) : Fits P G g st (.val (.str n) st) o a w := by
 have h1 := k.read hx
 rw [h] at h1; simp only [VX,V] at h1
 exact fits_pure k (cv := .string ⟨n.toArray⟩) (by simp [execOp,ho,Act.eval_eq,h1,convert,run_underlying hs,run_underlying hd]) (VF_scalar rfl (by simp only [VX,V]) (by simp) (by simp))
theorem ret1_some {v:AV} {s:St} {r:OpR} (h:ret1 v s = some r) : r = .val v s := by simp [ret1] at h; exact h.symm
end
end Go.Proofs.YtkofimhnehkdoaaGreatDoor.Rf
end
