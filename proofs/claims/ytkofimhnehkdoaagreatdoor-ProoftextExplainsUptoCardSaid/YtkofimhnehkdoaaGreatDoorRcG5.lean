/- A part of the proof: see the last text. -/
import Derived.Test.YtkofimhnehkdoaaGreatDoorRcG4
set_option linter.unusedVariables false
set_option linter.unusedSimpArgs false
section
namespace Go.Proofs.YtkofimhnehkdoaaGreatDoor.Rf
section
variable {P:Program} {G:Nat → Option (List AV)} {g g' : Gh} {st:St} {a:Act} {w w' : World} {o:Oper} {tm:Array Value} {ps:List (AV × Value)}
theorem okSize_VE {sz sz' : Nat} {xs:List AV} {b q:Nat} (h:okSize sz xs = true) (hv:VE g w sz' xs b q) : VE g w sz xs b q := by
 cases xs with
 | nil => simp [VE]
 | cons x r =>
   have := (hv.get (j := 0) rfl).1
   simp [okSize] at h
   rw [h] at this; subst this; exact hv
structure Src (P:Program) (g:Gh) (w:World) (sz:Nat) (ys:List AV) (Y:Value) (news:List Value) : Prop where
 len : ∀ w' : World,(Builtin.lenOf Y).run P w' = .ok ys.length w'
 cells : ∀ w' : World,(∀ b : Nat,w'.heap[b]? = w.heap[b]?) → (Builtin.firstCells sz ys.length Y).run P w' = .ok news.toArray w'
 lay : Lay g w sz ys news
theorem Src.list {sz:Nat} {ys:List AV} {ow:Own} {Y:Value} (h:V g w (.list ys ow) Y) (hs:okSize sz ys = true) : ∃ news,Src P g w sz ys Y news := by
 simp only [V] at h
 obtain ⟨A,c,rfl,h2,h3,_,h5,h6⟩ := h
 cases A with
 | none =>
   have hc := h5 rfl; subst hc
   have : ys = [] := List.length_eq_zero_iff.1 (by omega)
   subst this
   exact ⟨[],⟨fun _ => by simp [Builtin.lenOf],fun _ _ => by simp [Builtin.firstCells],Lay.nil⟩⟩
 | some ad =>
   obtain ⟨hsp,_,sz',hv⟩ := h6 ad rfl
   by_cases hy : ys = []
   · subst hy
     exact ⟨[],⟨fun _ => by simp [Builtin.lenOf],fun _ _ => by simp [Builtin.firstCells,loadCells,loadCellsFrom],Lay.nil⟩⟩
   replace hsp := hsp (.inr (by have := List.length_pos_iff.2 hy; omega))
   obtain ⟨b,q,sp⟩ := ad
   simp only at hsp hv; subst hsp
   obtain ⟨news,n1,n2⟩ := Lay.of_VE (okSize_VE hs hv)
   exact ⟨news,⟨fun _ => by simp [Builtin.lenOf],fun w' hw => firstCells_some n1.1 fun j v hj => by rw [cell?_of_block' (hw b)]; exact n2 j v hj,n1⟩⟩
theorem Src.str (s:List UInt8) : Src P g w 1 (s.map fun b => AV.int .u8 b.toNat) (.string ⟨s.toArray⟩) (s.map fun b => Value.int .u8 b.toNat) := by
 refine ⟨fun _ => ?_,fun _ _ => ?_,Lay.bytes s⟩
 · simp [Builtin.lenOf]; show s.toArray.size = _; simp
 · have h1 : (⟨s.toArray⟩ : ByteArray).extract 0 s.length = ⟨s.toArray⟩ := by
     apply ByteArray.ext; simp
   simp [Builtin.firstCells,h1]
def append2Ok (P:Program) (t2:TypeId) : Bool :=
 match P.underlying t2 with
 | some (.slice _) | some .string => true
 | _ => false
theorem fits_append (k:Rel G g st [] a.tmps w) {x y:Opd} {x' y' : Operand} (hx:opdOk x x' = true) (hy:opdOk y y' = true) {t t2:TypeId} {sz bytes f:Nat} (ht:appendOk P t sz bytes = true) (hrt:rowTy P t sz f = true) (ht2:append2Ok P t2 = true)
   (ho:o.op = .call { callee := .builtin .append,args := #[x',y'],argTypes := #[t,t2] }) {xs ys:List AV} {ow:Own} (ha:(opd st.fr x).1 = .list xs ow) (hown:(ow = .nil ∨ ow = .own sz f) ∨ (ow = .tight ∧ f = 0)) (hs:okSize sz xs = true)
   (hy2:∀ g',VX g' w (opd st.fr x).2 a.tmps (opd (opd st.fr x).2 y).1 (Act.opd a.tmps y') → ∃ news,Src P g' w sz ys (Act.opd a.tmps y') news)
   (hby:(xs.length + ys.length) * bytes ≤ 140737488355328) (h63:xs.length + ys.length ≤ 9223372036854775807) (pend:Bool) (hp:pend = true → ys.length = 1) :
   Fits P G g st (.val (if pend then .pend xs sz else .list (xs ++ ys) (.own sz f)) { st with fr := (opd st.fr x).2 }) o a w := by
 obtain ⟨g1,k1,s1,hb1⟩ := k.take hx
 rw [ha] at k1; simp only [List.nil_append] at k1
 obtain ⟨news,src⟩ := hy2 g1 (k1.read hy)
 have fv := k1.ps 0 _ _ rfl
 rw [VF_loose rfl] at fv
 obtain ⟨hv,hO⟩ := fv
 simp only [VX,V] at hv
 obtain ⟨A,c,e1,e2,e3,e4,e5,e6⟩ := hv
 have hu2 : ∃ d2,P.underlying t2 = some d2 ∧ ∀ kk,d2 ≠ .int kk := by
   unfold append2Ok at ht2
   cases hu : P.underlying t2 with
   | none => simp [hu] at ht2
   | some d => exact ⟨d,rfl,fun kk e => by subst e; simp [hu] at ht2⟩
 obtain ⟨d2,hu2,hd2⟩ := hu2
 have hsz : 0 < sz := by
   unfold appendOk at ht
   cases hu : P.underlying t with
   | none => simp [hu] at ht
   | some d =>
     cases d <;> simp [hu] at ht
     rename_i e
     cases hi : P.info? e <;> simp [hi] at ht
     exact ht.1.2
 -- what the owner holds
 have hT : ∀ ad,A = some ad → Tail g1 w (.arg 0) 0 xs sz (.slice (some ad) xs.length c) := fun ad hA => by
   rcases hown with (rfl | rfl) | ⟨rfl,rfl⟩
   · have := e4.1 rfl; rw [hA] at this; cases this
   · simp only [Owns] at hO; rw [e1,hA] at hO; exact hO
   · have hc := e4.2 rfl
     obtain ⟨_,_,sz',hE⟩ := e6 ad hA
     intro a n c' e
     cases e
     exact ⟨okSize_VE hs hE,fun o h1 h2 => by rw [hc] at h2; omega⟩
 have hargs : (Builtin.append_ #[t,t2] o.type #[Act.opd a.tmps x',Act.opd a.tmps y']) = (Builtin.append_ #[t,t2] o.type #[.slice A xs.length c,Act.opd a.tmps y']) := by rw [e1]
 have run : ∀ {v:Value} {w1:World},(Builtin.append_ #[t,t2] o.type #[.slice A xs.length c,Act.opd a.tmps y']).run P w = .ok v w1 → (execOp a.eval o).run P w = .ok (.value v) w1 := fun {v w1} h => by
   simp [execOp,ho,resolve,Act.eval_eq,invoke,builtin,hargs,h]
 have lenOld : ∀ ad,A = some ad → ∃ olds : List Value,olds.length = xs.length * sz ∧ (∀ (j:Nat) v,olds[j]? = some v → w.cell? ⟨ad.block,ad.off + j,none⟩ = some v) := fun ad hA => by
   obtain ⟨us,u1,_,u3⟩ := (hT ad hA).get.1.flat
   exact ⟨us,u1,u3⟩
 by_cases hroom : xs.length + ys.length ≤ c
 · cases A with
   | none =>
     have hc := e5 rfl; subst hc
     have hx0 : xs = [] := List.length_eq_zero_iff.1 (by omega)
     have hy0 : ys = [] := List.length_eq_zero_iff.1 (by omega)
     have hpf : pend = false := by cases pend with
       | false => rfl
       | true => have := hp rfl; rw [hy0] at this; cases this
     subst hx0 hy0 hpf
     have hn0 : news = [] := List.length_eq_zero_iff.1 (by have := src.lay.1; simpa using this)
     subst hn0
     have hcel := src.cells w (fun _ => rfl)
     refine fits_value (g' := g1) (w' := w) (cv := .slice none 0 0) (run ?_) ?_ s1
     · unfold appendOk at ht
       cases hu : P.underlying t with
       | none => simp [hu] at ht
       | some d =>
         cases d <;> simp [hu] at ht
         rename_i e
         cases hi : P.info? e <;> simp [hi] at ht
         rename_i i
         have hm : (d2 matches .int _) = false := by cases d2 <;> first | rfl | exact absurd rfl (hd2 _)
         simp [Builtin.append_,run_underlying hu,run_underlying hu2,sizeOf,typeInfo,hi,ht.1.1.1,src.len w,hm]
         simp at hcel; simp [hcel]
     · refine Rel.push0 k1.less ?_
       rw [VF_loose rfl]
       refine ⟨by simp only [VX,V,Bool.false_eq_true,if_false]; exact ⟨none,0,rfl,by simp,by decide,⟨fun e => (by cases e),fun e => (by cases e)⟩,fun _ => rfl,fun ad e => by cases e⟩,?_⟩
       simp only [Bool.false_eq_true,if_false,Owns]
       intro ad n c e; cases e
   | some ad =>
     obtain ⟨b,q,sp⟩ := ad
     obtain ⟨hsp,_⟩ := e6 _ rfl
     replace hsp := hsp (.inl (by rcases hown with (rfl | rfl) | ⟨rfl,rfl⟩ <;> simp))
     simp only at hsp; subst hsp
     have T := hT _ rfl
     have hview : f ≠ 0 → sz = 1 ∧ View g1 w xs.length f ⟨b,q,none⟩ := fun hf => by
       rcases hown with (rfl | rfl) | ⟨rfl,rfl⟩
       · cases e4.1 rfl
       rotate_left
       · exact absurd rfl hf
       · have hz : sz = 1 := by
           unfold rowTy at hrt
           cases hu : P.underlying t with
           | none => simp [hu] at hrt; exact absurd hrt hf
           | some d => cases d <;> simp [hu] at hrt <;> first | exact absurd hrt hf | (rcases hrt with h | h; exact absurd h hf; exact h.2)
         exact ⟨hz,(e6 _ rfl).2.1 hf⟩
     obtain ⟨w',r1,r2⟩ := run_append_in ht hu2 hd2 (src.len w) src.lay.1 (src.cells w fun _ => rfl) src.lay.2.1 hroom (b := b) (q := q) (fun o h1 h2 => (T.get.2 o h1 h2).2) o.type
     cases pend with
     | false =>
       obtain ⟨g2,k2,s2⟩ := k1.append_in hview T e3 src.lay hroom r2
       exact fits_value (run r1) (by simpa using k2) (s1.trans s2)
     | true =>
       have hy1 := hp rfl
       obtain ⟨k2,s2⟩ := k1.append_in_pend T e3 (by have := src.lay.1; rwa [hy1,Nat.one_mul] at this) (by omega) r2
       rw [hy1] at r1
       exact fits_value (run r1) (by simpa using k2) (s1.trans s2)
 · -- a new row
   have hold : ∃ olds : List Value,olds.length = xs.length * sz ∧ (Builtin.firstCells sz xs.length (.slice A xs.length c)).run P w.drew = .ok olds.toArray w.drew ∧
       ∀ g' w' b' q',Ext g1 w g' w' → (∀ (j:Nat) v,olds[j]? = some v → (g'.ow b' (q' + j)).ro ∧ w'.cell? ⟨b',q' + j,none⟩ = some v) → VE g' w' sz xs b' q' := by
     cases A with
     | none =>
       have hc := e5 rfl; subst hc
       have hx0 : xs = [] := List.length_eq_zero_iff.1 (by omega)
       subst hx0
       exact ⟨[],by simp,by simp [Builtin.firstCells],fun _ _ _ _ _ _ => by simp [VE]⟩
     | some ad =>
       obtain ⟨b,q,sp⟩ := ad
       obtain ⟨hsp,_⟩ := e6 _ rfl
       replace hsp := hsp (.inl (by rcases hown with (rfl | rfl) | ⟨rfl,rfl⟩ <;> simp))
       simp only at hsp; subst hsp
       have T := hT _ rfl
       obtain ⟨olds,n1,n2⟩ := Lay.of_VE T.get.1
       exact ⟨olds,n1.1,firstCells_some n1.1 fun j v hj => n2 j v hj,n1.2.2⟩
   obtain ⟨olds,o1,o2,o3⟩ := hold
   obtain ⟨C,e,rest,c0,c1,c2,c3,c4⟩ := run_append_out ht hu2 hd2 (src.len w) src.lay.1 o1 (src.cells w.drew fun _ => rfl) o2 hroom hby h63 o.type
   have hlen : (olds ++ news ++ rest).length = C * sz := by
     simp only [List.length_append,o1,src.lay.1,c3,← Nat.add_mul]; congr 1; omega
   have getOld : ∀ (j:Nat) v,olds[j]? = some v → (olds ++ news ++ rest)[j]? = some v := fun j v hj => by
     have := (List.getElem?_eq_some_iff.1 hj).1
     rw [List.append_assoc,List.getElem?_append,if_pos this]; exact hj
   have getNew : ∀ (j:Nat) v,news[j]? = some v → (olds ++ news ++ rest)[xs.length * sz + j]? = some v := fun j v hj => by
     have := (List.getElem?_eq_some_iff.1 hj).1
     rw [List.append_assoc,List.getElem?_append,if_neg (by omega),show xs.length * sz + j - olds.length = j by omega,List.getElem?_append,if_pos this]; exact hj
   cases pend with
   | false =>
     obtain ⟨sm,q1,q1',q0,q2,q3,q4,q5⟩ := k1.append_out (C := C) (m := xs.length + ys.length) (e := e) hlen c1
     have hi : (fun t => t ≠ Tag.tail (.arg 0) 0) Tag.imm := by simp
     have hmul : xs.length * sz + ys.length * sz = (xs.length + ys.length) * sz := (Nat.add_mul _ _ _).symm
     have hE : VE (g1.fresh w.heap.size ((xs.length + ys.length) * sz)) (w.drew.alloc (.cells (olds ++ news ++ rest).toArray e)) sz (xs ++ ys) w.heap.size 0 := by
       refine VE.append (o3 _ _ _ _ (sm.ext hi) fun j v hj => ?_) (src.lay.2.2 _ _ _ _ (sm.ext hi) fun j v hj => ?_)
       · have := (List.getElem?_eq_some_iff.1 hj).1
         exact ⟨q1 j (by omega),q2 j v (getOld j v hj)⟩
       · have := (List.getElem?_eq_some_iff.1 hj).1
         have hl := src.lay.1
         refine ⟨?_,?_⟩
         · have := q1 (xs.length * sz + j) (by omega); rwa [← Nat.add_assoc] at this
         · have := q2 (xs.length * sz + j) v (getNew j v hj); rwa [← Nat.add_assoc] at this
     refine fits_value (run c4) (q5 _ _ ?_) (s1.trans q4)
     rw [VF_loose rfl]
     refine ⟨?_,?_⟩
     · simp only [VX,V,Bool.false_eq_true,if_false]
       exact ⟨some ⟨w.heap.size,0,none⟩,C,by simp,by simpa using c1,c2,⟨fun e => (by cases e),fun e => (by cases e)⟩,(fun e => by cases e),fun ad e' => by cases e'; exact ⟨fun _ => rfl,fun hf => by
         obtain ⟨f1,f2⟩ := c0 f hrt hf
         subst f1; subst f2
         refine ⟨rfl,rfl,⟨_,q0,by rw [hlen]; simp; omega⟩,fun o ho => q1' o (by simpa using ho)⟩,sz,hE⟩⟩
     · simp only [Owns,Bool.false_eq_true,if_false]
       intro ad n c' e'
       cases e'
       refine ⟨hE,fun o h1 h2 => ?_⟩
       simp only [Nat.zero_add,List.length_append] at h1 h2
       exact q3 o h1 h2
   | true =>
     have hy1 := hp rfl
     obtain ⟨sm,q1,_,_,q2,q3,q4,q5⟩ := k1.append_out (C := C) (m := xs.length) (e := e) hlen (by omega)
     have hi : (fun t => t ≠ Tag.tail (.arg 0) 0) Tag.imm := by simp
     have hE : VE (g1.fresh w.heap.size (xs.length * sz)) (w.drew.alloc (.cells (olds ++ news ++ rest).toArray e)) sz xs w.heap.size 0 := by
       refine o3 _ _ _ _ (sm.ext hi) fun j v hj => ?_
       have := (List.getElem?_eq_some_iff.1 hj).1
       exact ⟨q1 j (by omega),q2 j v (getOld j v hj)⟩
     rw [hy1] at c4
     refine fits_value (run c4) (q5 _ _ ?_) (s1.trans q4)
     simp only [VF,if_true]
     refine ⟨⟨w.heap.size,0,none⟩,C,rfl,by omega,c2,rfl,?_⟩
     intro ad n c' e'
     cases e'
     refine ⟨hE,fun o h1 h2 => ?_⟩
     simp only [Nat.zero_add] at h1 h2
     exact q3 o h1 h2
theorem fits_len (k:Rel G g st [] a.tmps w) {x:Opd} {x' : Operand} (hx:opdOk x x' = true) {t:TypeId} {d:TypeDesc} (hu:P.underlying t = some d) (ho:o.op = .call { callee := .builtin .len,args := #[x'],argTypes := #[t] }) {n:Nat}
   (h : (∃ xs ow,(opd st.fr x).1 = .list xs ow ∧ n = xs.length ∧ ∃ e,d = .slice e) ∨ (∃ s,(opd st.fr x).1 = .str s ∧ n = s.length ∧ d = .string) ∨ ((opd st.fr x).1 = .nilm ∧ n = 0 ∧ ∃ kt e,d = .map kt e) ∨
     (∃ id es,(opd st.fr x).1 = .map id ∧ st.hp[id]? = some (.map es) ∧ n = es.length ∧ ∃ kt e,d = .map kt e)) : Fits P G g st (.val (.int .i64 n) st) o a w := by
 have hr := k.read hx
 refine fits_int k ?_
 rcases h with ⟨xs,ow,h1,rfl,e,rfl⟩ | ⟨s,h1,rfl,rfl⟩ | ⟨h1,rfl,kt,e,rfl⟩ | ⟨id,es,h1,h2,rfl,kt,e,rfl⟩ <;> rw [h1] at hr <;> simp only [VX,V] at hr
 · obtain ⟨A,c,e1,_⟩ := hr
   simp [execOp,ho,resolve,Act.eval_eq,invoke,builtin,Builtin.len_,run_underlying hu,e1,goInt]
 · have : (⟨s.toArray⟩ : ByteArray).size = s.length := by show s.toArray.size = _; simp
   simp [execOp,ho,resolve,Act.eval_eq,invoke,builtin,Builtin.len_,run_underlying hu,hr,goInt,this]
 · simp [execOp,ho,resolve,Act.eval_eq,invoke,builtin,Builtin.len_,run_underlying hu,hr,goInt]
 · obtain ⟨b,e1,e2⟩ := hr
   obtain ⟨b',k1,k2,k3⟩ := k.hp.obj id _ h2 rfl
   rw [k1] at e1; cases e1
   simp only [ObjRel] at k3
   obtain ⟨ents,clock,k4,k5,_⟩ := k3
   have hg : (getObj b).run P w = .ok (.map ents clock) w := by simp [getObj,Sem.run,k4]
   simp [execOp,ho,resolve,Act.eval_eq,invoke,builtin,Builtin.len_,run_underlying hu,e2,goInt,hg,k5]
theorem fits_konst (k:Rel G g st [] a.tmps w) {t:TypeId} {n:Nat} {e:TypeId} (hu:P.underlying t = some (.array n e)) {x' : Operand} (ho:o.op = .call { callee := .builtin .len,args := #[x'],argTypes := #[t] }) : Fits P G g st (.val (.int .i64 n) st) o a w := by
 refine fits_int k ?_
 simp [execOp,ho,resolve,Act.eval_eq,invoke,builtin,Builtin.len_,run_underlying hu,goInt]
theorem fits_min (k:Rel G g st [] a.tmps w) {x y:Opd} {x' y' : Operand} (hx:opdOk x x' = true) (hy:opdOk y y' = true) {ts:Array TypeId} (ho:o.op = .call { callee := .builtin .min,args := #[x',y'],argTypes := ts }) {k1 k2:IntKind} {m n:Int}
   (h1:(opd st.fr x).1 = .int k1 m) (h2:(opd st.fr y).1 = .int k2 n) : Fits P G g st (.val (.int k1 (if n < m then n else m)) st) o a w := by
 have hr := k.read hx; have hs := k.read hy
 rw [h1] at hr; rw [h2] at hs; simp only [VX,V] at hr hs
 refine fits_int k ?_
 simp [execOp,ho,resolve,Act.eval_eq,invoke,builtin,Builtin.min_,Builtin.min2,hr,hs]
theorem fits_max (k:Rel G g st [] a.tmps w) {x y:Opd} {x' y' : Operand} (hx:opdOk x x' = true) (hy:opdOk y y' = true) {ts:Array TypeId} (ho:o.op = .call { callee := .builtin .max,args := #[x',y'],argTypes := ts }) {k1 k2:IntKind} {m n:Int}
   (h1:(opd st.fr x).1 = .int k1 m) (h2:(opd st.fr y).1 = .int k2 n) : Fits P G g st (.val (.int k1 (if n > m then n else m)) st) o a w := by
 have hr := k.read hx; have hs := k.read hy
 rw [h1] at hr; rw [h2] at hs; simp only [VX,V] at hr hs
 refine fits_int k ?_
 simp [execOp,ho,resolve,Act.eval_eq,invoke,builtin,Builtin.max_,Builtin.max2,hr,hs]
theorem fits_un (k:Rel G g st [] a.tmps w) {x:Opd} {x' : Operand} (hx:opdOk x x' = true) {op:UnOp} {t:TypeId} (ho:o.op = .unOp op t x') {v:AV} (h:unAV op (opd st.fr x).1 = some v) : Fits P G g st (.val v st) o a w := by
 have hr := k.read hx
 generalize (opd st.fr x).1 = p at *
 cases op <;> cases p <;> simp [unAV] at h <;> simp only [VX,V] at hr
 · subst h; refine fits_int k ?_; simp [execOp,ho,Act.eval_eq,hr,Op.unary,Op.intArith]
 · simp only [intBin] at h; cases h; refine fits_int k ?_; simp [execOp,ho,Act.eval_eq,hr,Op.unary,Op.intBits]
 · subst h; refine fits_bool k ?_; simp [execOp,ho,Act.eval_eq,hr,Op.unary]
theorem fits_conv (k:Rel G g st [] a.tmps w) {x:Opd} {x' : Operand} (hx:opdOk x x' = true) {s d:TypeId} {kk ks:IntKind} (hs:P.underlying s = some (.int ks)) (hd:P.underlying d = some (.int kk)) (ho:o.op = .convert s d x') {k0:IntKind} {n:Int} (h:(opd st.fr x).1 = .int k0 n) : Fits P G g st (.val (.int kk (kk.wrap n)) st) o a w := by
 have hr := k.read hx
 rw [h] at hr; simp only [VX,V] at hr
 refine fits_int k ?_
 simp [execOp,ho,Act.eval_eq,hr,convert,run_underlying hs,run_underlying hd,Conv.intToInt]
end
end Go.Proofs.YtkofimhnehkdoaaGreatDoor.Rf
end
section
namespace Go.Proofs.YtkofimhnehkdoaaGreatDoor.Rf
section
variable {P:Program} {G:Nat → Option (List AV)} {g g' : Gh} {st:St} {a:Act} {w w' : World} {o:Oper} {tm:Array Value} {ps:List (AV × Value)}
theorem Rel.reps {v v' : AV} {cv cv' : Value} (k:Rel G g st [(v,cv)] tm w) (h:VF g w st.fr tm (.arg 0) v' cv') : Rel G g st [(v',cv')] tm w := k.less.push0 h
theorem fits_extract (k:Rel G g st [] a.tmps w) {x:Opd} {x' : Operand} (hx:opdOk x x' = true) {i:Nat} (ho:o.op = .extract x' i) {vs:List AV} {v:AV} (h:(opd st.fr x).1 = .tup vs) (hv:vs[i]? = some v) (hp:v.plain = true) : Fits P G g st (.val v { st with fr := (opd st.fr x).2 }) o a w := by
 obtain ⟨g1,k1,s1,hb1⟩ := k.take hx
 rw [h] at k1; simp only [List.nil_append] at k1
 have fv := k1.ps 0 _ _ rfl
 rw [VF_loose rfl] at fv
 obtain ⟨f1,f2⟩ := fv
 simp only [VX,V] at f1
 obtain ⟨us,e1,e2⟩ := f1
 obtain ⟨u,hu,hvu⟩ := e2.get hv
 have own := f2 us e1
 have sm := same_mvI g1 w (.arg 0) i (.arg 0) 0
 have run : (execOp a.eval o).run P w = .ok (.value u) w := by simp [execOp,ho,Act.eval_eq,e1,Instr.extract,hu]
 have hi : (fun t => t ≠ Tag.tail (.arg 0) i ∧ t ≠ Tag.tail (.arg 0) 0) Tag.imm := ⟨by simp,by simp⟩
 refine fits_value (g' := g1.mvI (.arg 0) i (.arg 0) 0) run ?_ (s1.trans (stay_mvI _ _ _ _ _ _))
 refine ⟨fun s => (k1.fr s).same sm hi (fun _ _ _ => rfl) (fun j => ⟨by simp,by simp⟩) ⟨by simp,by simp⟩ rfl,fun j y cy hj => ?_,k1.hp.same sm hi (fun _ => ⟨by simp,by simp⟩) (fun _ _ => ⟨by simp,by simp⟩) (fun _ _ _ => ⟨by simp,by simp⟩) rfl,fun b q hb => ?_,k1.gl.same sm hi ⟨by simp,by simp⟩⟩
 · cases j with
   | succ j => simp at hj
   | zero =>
     simp at hj; obtain ⟨rfl,rfl⟩ := hj
     rw [VF_loose hvu.loose]
     refine ⟨VX_of_V (V.mono (sm.ext hi) _ _ hvu),?_⟩
     cases v <;> try trivial
     case list xs ow =>
       cases ow <;> try trivial
       exact (own i _ _ _ _ hv hu).mvI (sm.ext hi) fun _ _ _ => ⟨rfl,rfl⟩
 · show (g1.ow b q).mvI _ _ _ _ = _; rw [k1.fresh b q hb]; rfl
theorem plain_cp {v:AV} (h:v.plain = true) : v.cp.plain = true := by
 cases v <;> simp_all [AV.plain,AV.cp,AV.cpA,AV.cp1]
theorem fits_mkiface (k:Rel G g st [] a.tmps w) {x:Opd} {x' : Operand} (hx:opdOk x x' = true) {t:TypeId} {d:TypeDesc} (hu:P.underlying t = some d) (hd:∀ ms,d ≠ .interface ms) (ho:o.op = .makeInterface t x') (hp:(opd st.fr x).1.plain = true) :
   Fits P G g st (.val (.iface t (opd st.fr x).1.cp) { st with fr := (opd st.fr x).2 }) o a w := by
 obtain ⟨g1,k1,s1,hb1⟩ := k.take hx
 simp only [List.nil_append] at k1
 have fv := k1.ps 0 _ _ rfl
 rw [VF_loose (AV.loose_of_plain hp),VX_plain hp] at fv
 refine fits_value (g' := g1) (w' := w) (cv := .iface t (Act.opd a.tmps x')) ?_ (k1.reps (VF_scalar rfl (by simp only [VX,V]; exact ⟨_,rfl,fv.1.cp⟩) (by simp) (by simp))) s1
 simp [execOp,ho,Act.eval_eq,Instr.makeInterface,run_underlying hu]
theorem VS.cpAll : ∀ {cs:List AV} {vs:List Value},VS g w cs vs → VS g w (cs.map AV.cp) vs
 | [],_,h => by simpa [VS] using h
 | _ :: _,_,h => by simp only [VS] at h; obtain ⟨u,r,rfl,l,m⟩ := h; simp only [List.map_cons,VS]; exact ⟨u,r,rfl,l.cp,VS.cpAll m⟩
theorem VS.of_ps {vs:List AV} {us:List Value} (k:Rel G g st (vs.zip us) tm w) (hl:vs.length = us.length) (hp:plains vs = true) : VS g w vs us :=
 VS.mk hl.symm fun i v u hv hu => by
   have hz : (vs.zip us)[i]? = some (v,u) := by rw [List.getElem?_zip_eq_some]; exact ⟨hv,hu⟩
   have := k.ps i v u hz
   have hpl : v.plain = true := by simp only [plains,List.all_eq_true] at hp; exact hp v (List.mem_of_getElem? hv)
   rw [VF_loose (AV.loose_of_plain hpl),VX_plain hpl] at this; exact this.1
theorem fits_mkfunc (k:Rel G g st [] a.tmps w) {xs:List Opd} {os:List Operand} (hx:opdsOk xs os = true) {f:FuncId} (ho:o.op = .makeFunc (.func f) #[] os.toArray) (hp:plains (opds st.fr xs).1 = true) :
   Fits P G g st (.val (.func f ((opds st.fr xs).1.map AV.cp)) { st with fr := (opds st.fr xs).2 }) o a w := by
 obtain ⟨g1,k1,s1,hb1,hl⟩ := k.takes hx
 simp only [List.nil_append] at k1
 have hv := VS.of_ps k1 (by simpa using hl) hp
 refine fits_value (g' := g1) (w' := w) (cv := .func (.func f) #[] (os.map (Act.opd a.tmps)).toArray) ?_ (k1.less.push0 (VF_scalar rfl (by simp only [VX,V]; exact ⟨_,rfl,hv.cpAll⟩) (by simp) (by simp))) s1
 have : os.toArray.map a.eval = (os.map (Act.opd a.tmps)).toArray := by
   rw [show a.eval = Act.opd a.tmps from funext (Act.eval_eq a)]; simp
 simp [execOp,ho,Instr.makeFunc]
 exact fun x _ => Act.eval_eq a x
theorem fits_panic (k:Rel G g st [] a.tmps w) {x:Opd} {x' : Operand} (hx:opdOk x x' = true) (ho:o.op = .panic x') {t:Nat} {v:AV} (h:(opd st.fr x).1 = .iface t v) : Fits P G g st (.pan (.iface t v) st) o a w := by
 have hr := k.read hx
 rw [h] at hr; simp only [VX] at hr
 intro next Q _ h2
 have hr' := hr
 simp only [V] at hr'
 obtain ⟨u,e1,e2⟩ := hr'
 unfold Oper.wp
 have : (execOp a.eval o).run P w = .halt (.panic (Act.opd a.tmps x')) w := by simp [execOp,ho,Act.eval_eq,e1,Instr.panic]
 rw [this]
 exact h2 g w _ st _ rfl hr rfl k (Stay.refl g w)
def zeroV (P:Program) (t:TypeId) (z:AV) : Bool :=
 match P.info? t with
 | some i => match i.zero with | some u => same z u | none => false
 | none => false
theorem zeroV_run {t:TypeId} {z:AV} (h:zeroV P t z = true) : ∃ u,(∀ w,(zeroValue t).run P w = .ok u w) ∧ same z u = true := by
 unfold zeroV at h
 cases hi : P.info? t with
 | none => simp [hi] at h
 | some i =>
   simp only [hi] at h
   cases hz : i.zero with
   | none => simp [hz] at h
   | some u => exact ⟨u,fun w => by simp [zeroValue,typeInfo,hi,hz],by simpa [hz] using h⟩
theorem VF_pair {fr:Fr} {v:AV} {u:Value} {b:Bool} (h:V g w v u) (ho:∀ xs sz e,v = .list xs (.own sz e) → Tail g w (.arg 0) 0 xs sz u) : VF g w fr tm (.arg 0) (.tup [v,.bool b]) (.tuple #[u,.bool b]) := by
 rw [VF_loose rfl]
 refine ⟨by simp only [VX,V]; exact ⟨[u,.bool b],rfl,u,_,rfl,h,.bool b,[],rfl,by simp [V],rfl⟩,fun us e => ?_⟩
 have : us = [u,.bool b] := by
   have h2 : us.toArray = #[u,.bool b] := by injection e with e; exact e.symm
   simpa using congrArg Array.toList h2
 subst this
 intro i xs sz e cv h1 h2
 match i with
 | 0 => simp at h1 h2; subst h2; exact ho xs sz e h1
 | 1 => simp at h1
 | i + 2 => simp at h1
theorem fits_assert (k:Rel G g st [] a.tmps w) {x:Opd} {x' : Operand} (hx:opdOk x x' = true) {t xt:TypeId} {d:TypeDesc} (hu:P.underlying t = some d) (hd:∀ ms,d ≠ .interface ms) {z:AV} (hz:zeroV P t z = true) {ok:Bool} (ho:o.op = .typeAssert x' xt t ok) {r:AV}
   (h:(∃ v,(opd st.fr x).1 = .iface t v ∧ r = if ok then .tup [v.cp,.bool true] else v.cp) ∨ (ok = true ∧ r = .tup [z,.bool false] ∧ ((opd st.fr x).1 = .nili ∨ ∃ u v,u ≠ t ∧ (opd st.fr x).1 = .iface u v))) : Fits P G g st (.val r st) o a w := by
 have hr := k.read hx
 rcases h with ⟨v,h1,rfl⟩ | ⟨rfl,rfl,h⟩
 · rw [h1] at hr; simp only [VX,V] at hr
   obtain ⟨u,e1,e2⟩ := hr
   have run : (execOp a.eval o).run P w = .ok (.value (if ok then .tuple #[u,.bool true] else u)) w := by
     have : ∀ d : TypeDesc,(∀ ms,d ≠ .interface ms) → P.underlying t = some d → (execOp a.eval o).run P w = .ok (.value (if ok then .tuple #[u,.bool true] else u)) w := fun d hd hu => by
       cases d <;> first
         | (exact absurd rfl (hd _))
         | (simp [execOp,ho,Act.eval_eq,e1,Instr.typeAssert,run_underlying hu])
     exact this d hd hu
   cases ok
   · exact fits_pure k run (VF_cp e2.loose (VX_of_V e2))
   · exact fits_pure k run (VF_pair e2.cp fun xs sz e0 e => by
       have := (Owns.cp (g := g) (w := w) (r := .arg 0) (v := v) (cv := u)); rw [e] at this; exact this)
 · obtain ⟨zu,z1,z2⟩ := zeroV_run hz
   have run : (execOp a.eval o).run P w = .ok (.value (.tuple #[zu,.bool false])) w := by
     have : ∀ d : TypeDesc,(∀ ms,d ≠ .interface ms) → P.underlying t = some d → (execOp a.eval o).run P w = .ok (.value (.tuple #[zu,.bool false])) w := fun d hd hu => by
       rcases h with h | ⟨u,v,hne,h⟩ <;> rw [h] at hr <;> simp only [VX,V] at hr
       · cases d <;> first
           | (exact absurd rfl (hd _))
           | (simp [execOp,ho,Act.eval_eq,hr,Instr.typeAssert,run_underlying hu,z1])
       · obtain ⟨y,e1,_⟩ := hr
         cases d <;> first
           | (exact absurd rfl (hd _))
           | (simp [execOp,ho,Act.eval_eq,e1,Instr.typeAssert,run_underlying hu,z1,hne])
     exact this d hd hu
   exact fits_pure k run (VF_pair (V.of_same _ _ z2) fun xs sz e0 e => by subst e; cases xs <;> simp [same] at z2)
end
end Go.Proofs.YtkofimhnehkdoaaGreatDoor.Rf
end
section
namespace Go.Proofs.YtkofimhnehkdoaaGreatDoor.Rf
section
variable {P:Program} {G:Nat → Option (List AV)} {g g' : Gh} {st:St} {a:Act} {w w' : World} {o:Oper} {tm:Array Value} {ps:List (AV × Value)}
theorem fits_mkmap (k:Rel G g st [] a.tmps w) {t:TypeId} (ho:o.op = .makeMap t none) : Fits P G g st (.val (.map st.hp.length) { st with hp := st.hp ++ [.map []] }) o a w := by
 obtain ⟨g',k',s,hb⟩ := Rel.newobj k (o := .map []) (obj := .map #[] 0) (fun g1 w1 _ _ h1 => by
   simp only [ObjRel]; exact ⟨#[],0,h1,rfl,fun i kk v h => by simp at h⟩)
 refine fits_value (cv := .map (some w.heap.size)) (w' := w.alloc (.map #[] 0)) ?_ (k'.push0 ?_) s
 · simp [execOp,ho,Instr.makeMap]
 · exact VF_scalar rfl (VX_of_V (by simp only [V]; exact ⟨w.heap.size,by rw [hb,List.getElem?_append,if_neg (by rw [k.hp.len]; omega),k.hp.len]; simp,rfl⟩)) (by simp) (by simp)
def keyOk (kd:KeyK) (d:TypeDesc) : Bool :=
 match kd,d with
 | .int,.int _ | .str,.string | .bool,.bool => true
 | _,_ => false
theorem run_checkKey {t:TypeId} {d:TypeDesc} (hu:P.underlying t = some d) {kd:KeyK} (hd:keyOk kd d = true) (e:Bool) (n:Nat) (v:Value) : (Instr.checkKey e (n + 1) t v).run P w = .ok () w := by
 cases kd <;> cases d <;> simp [keyOk] at hd <;> simp [Instr.checkKey,run_underlying hu]
theorem keyEq_now {kd:KeyK} {d:TypeDesc} (hd:keyOk kd d = true) {k e:AV} {kc ec:Value} (hk:V g w k kc) (he:V g w e ec) {b:Bool} (h:keyEq kd k e = some b) : Instr.sameNow d kc ec = some b ∧ (b = true → ec = kc) := by
 cases kd <;> cases d <;> simp [keyOk] at hd <;> cases k <;> cases e <;> simp [keyEq] at h <;> simp only [V] at hk he <;> subst hk <;> subst he
 · obtain ⟨rfl,h⟩ := h; subst h; refine ⟨by simp [Instr.sameNow],fun e => by simp at e; rw [e]⟩
 · subst h
   rename_i a b
   have hb : ((⟨a.toArray⟩ : ByteArray) == ⟨b.toArray⟩) = (a == b) := by
     show (a.toArray == b.toArray) = (a == b)
     rw [Bool.eq_iff_iff]; simp
   exact ⟨by simp only [Instr.sameNow,hb],fun e => by simp at e; rw [e]⟩
 · subst h; exact ⟨by simp [Instr.sameNow],fun e => by simp at e; rw [e]⟩
def EntRel (g:Gh) (w:World) (es:List (AV × AV)) (L:List MapEntry) : Prop :=
 L.length = es.length ∧ ∀ (i:Nat) k v,es[i]? = some (k,v) → ∃ e,L[i]? = some e ∧ V g w k e.key ∧ V g w v e.val
theorem EntRel.tail {x:AV × AV} {es:List (AV × AV)} {e:MapEntry} {L:List MapEntry} (h:EntRel g w (x :: es) (e :: L)) : EntRel g w es L :=
 ⟨by simpa using h.1,fun i k v hi => by simpa using h.2 (i + 1) k v (by simpa using hi)⟩
theorem findKey_now {kd:KeyK} {d:TypeDesc} (hd:keyOk kd d = true) {k:AV} {kc:Value} (hk:V g w k kc) : ∀ {es:List (AV × AV)} {L:List MapEntry} (i0:Nat),EntRel g w es L → ∀ {r},findKey kd k es i0 = some r →
   match r with
   | none => Instr.findNow d kc L i0 = some none
   | some (j,v) => ∃ e kk,i0 ≤ j ∧ es[j - i0]? = some (kk,v) ∧ L[j - i0]? = some e ∧ V g w v e.val ∧ e.key = kc ∧ Instr.findNow d kc L i0 = some (some (j,e.val))
 | [],L,i0,h,r,hr => by
   simp [findKey] at hr; subst hr
   have : L = [] := List.length_eq_zero_iff.1 (by simpa using h.1)
   subst this; simp [Instr.findNow]
 | x :: es,[],i0,h,r,hr => by have := h.1; simp at this
 | x :: es,e :: L,i0,h,r,hr => by
   obtain ⟨e',e1,e2,e3⟩ := h.2 0 x.1 x.2 rfl
   simp at e1; subst e1
   simp only [findKey] at hr
   cases hq : keyEq kd k x.1 with
   | none => simp [hq] at hr
   | some b =>
     obtain ⟨s1,s2⟩ := keyEq_now hd hk e2 hq
     cases b with
     | true =>
       simp [hq] at hr; subst hr
       exact ⟨e,x.1,Nat.le_refl _,by simp,by simp,e3,s2 rfl,by simp [Instr.findNow,s1]⟩
     | false =>
       simp [hq] at hr
       have ih := findKey_now hd hk (i0 + 1) h.tail hr
       cases r with
       | none => simpa [Instr.findNow,s1] using ih
       | some p =>
         obtain ⟨j,v⟩ := p
         obtain ⟨e4,kk,f1,f2,f3,f4,f5,f6⟩ := ih
         refine ⟨e4,kk,by omega,?_,?_,f4,f5,by simpa [Instr.findNow,s1] using f6⟩
         · rw [show j - i0 = j - (i0 + 1) + 1 by omega]; simpa using f2
         · rw [show j - i0 = j - (i0 + 1) + 1 by omega]; simpa using f3
def mapOk (P:Program) (t:TypeId) (kd:KeyK) (z:AV) : Bool :=
 match P.underlying t with
 | some (.map kt e) => (match P.underlying kt with | some d => keyOk kd d | none => false) && zeroV P e z
 | _ => false
theorem run_lookup {t:TypeId} {kd:KeyK} {z:AV} (h:mapOk P t kd z = true) {k:AV} {kc:Value} (hk:V g w k kc) {es:List (AV × AV)} {L:Array MapEntry} (hE:EntRel g w es L.toList) {mv:Value} {ok:Bool}
   (hm:(mv = .map none ∧ es = []) ∨ ∃ b clock,mv = .map (some b) ∧ w.heap[b]? = some (.map L clock)) {r} (hr:findKey kd k es 0 = some r) :
   match r with
   | none => ∃ u,same z u = true ∧ (Instr.lookup t mv kc ok).run P w = .ok (if ok then .tuple #[u,.bool false] else u) w
   | some (j,v) => ∃ e kk,es[j]? = some (kk,v) ∧ L.toList[j]? = some e ∧ V g w v e.val ∧ (Instr.lookup t mv kc ok).run P w = .ok (if ok then .tuple #[e.val,.bool true] else e.val) w := by
 unfold mapOk at h
 cases hu : P.underlying t with
 | none => simp [hu] at h
 | some d =>
   cases d <;> simp [hu] at h
   rename_i kt e
   cases huk : P.underlying kt with
   | none => simp [huk] at h
   | some dk =>
     simp [huk] at h
     obtain ⟨zu,z1,z2⟩ := zeroV_run h.2
     rcases hm with ⟨rfl,rfl⟩ | ⟨b,clock,rfl,hb⟩
     · simp [findKey] at hr; subst hr
       exact ⟨zu,z2,by simp [Instr.lookup,run_underlying hu,run_checkKey huk h.1 true 9999,Instr.findKey,run_underlying huk,Instr.findNow,z1]⟩
     · have hg : (getObj b).run P w = .ok (.map L clock) w := by simp [getObj,Sem.run,hb]
       have hn := findKey_now h.1 hk 0 hE hr
       cases r with
       | none =>
         simp only at hn
         exact ⟨zu,z2,by simp [Instr.lookup,run_underlying hu,run_checkKey huk h.1 _ 9999,hg,Instr.findKey,run_underlying huk,hn,z1]⟩
       | some p =>
         obtain ⟨j,v⟩ := p
         obtain ⟨e4,kk,f1,f2,f3,f4,f5,f6⟩ := hn
         simp only [Nat.sub_zero] at f2 f3
         exact ⟨e4,kk,f2,f3,f4,by simp [Instr.lookup,run_underlying hu,run_checkKey huk h.1 _ 9999,hg,Instr.findKey,run_underlying huk,f6]⟩
theorem EntRel.of {id b:Nat} {es:List (AV × AV)} (h:ObjRel g w id b (.map es)) : ∃ L clock,w.heap[b]? = some (.map L clock) ∧ EntRel g w es L.toList ∧ ∀ (i:Nat) k v,es[i]? = some (k,v) → ∃ e,L[i]? = some e ∧ V g w k e.key ∧ V g w v e.val ∧ Owns g w (.mp id i) v e.val := by
 simp only [ObjRel] at h
 obtain ⟨L,clock,h1,h2,h3⟩ := h
 exact ⟨L,clock,h1,⟨by simpa using h2,fun i k v hi => by obtain ⟨e,e1,e2,e3,_⟩ := h3 i k v hi; exact ⟨e,by simpa using e1,e2,e3⟩⟩,h3⟩
theorem fits_lookup (k:Rel G g st [] a.tmps w) {m kx:Opd} {m' k' : Operand} (hm:opdOk m m' = true) (hk:opdOk kx k' = true) {t:TypeId} {kd:KeyK} {z:AV} (h:mapOk P t kd z = true) {ok:Bool} (ho:o.op = .lookup t m' k' ok) (hpk:(opd st.fr kx).1.plain = true)
   {es:List (AV × AV)} (hes:((opd st.fr m).1 = .nilm ∧ es = []) ∨ ∃ id,(opd st.fr m).1 = .map id ∧ st.hp[id]? = some (.map es)) {r} (hr:findKey kd (opd st.fr kx).1 es 0 = some r) :
   Fits P G g st (.val (match r with | none => if ok then .tup [z,.bool false] else z | some (_,v) => if ok then .tup [v.cp,.bool true] else v.cp) st) o a w := by
 have rk := k.read hk; rw [VX_plain hpk] at rk
 have rm := k.read hm
 have hL : ∃ L : Array MapEntry,EntRel g w es L.toList ∧ ((Act.opd a.tmps m' = .map none ∧ es = []) ∨ ∃ b clock,Act.opd a.tmps m' = .map (some b) ∧ w.heap[b]? = some (.map L clock)) := by
   rcases hes with ⟨h1,rfl⟩ | ⟨id,h1,h2⟩ <;> rw [h1] at rm <;> simp only [VX,V] at rm
   · exact ⟨#[],⟨rfl,fun i kk v h => by simp at h⟩,.inl ⟨rm,rfl⟩⟩
   · obtain ⟨b,e1,e2⟩ := rm
     obtain ⟨b',k1,k2,k3⟩ := k.hp.obj id _ h2 rfl
     rw [k1] at e1; cases e1
     obtain ⟨L,clock,l1,l2,_⟩ := EntRel.of k3
     exact ⟨L,l2,.inr ⟨_,clock,e2,l1⟩⟩
 obtain ⟨L,hE,hmv⟩ := hL
 have hrun := run_lookup (ok := ok) h rk hE hmv hr
 have ex : ∀ u,(Instr.lookup t (Act.opd a.tmps m') (Act.opd a.tmps k') ok).run P w = .ok u w → (execOp a.eval o).run P w = .ok (.value u) w := fun u e => by simp [execOp,ho,Act.eval_eq,e]
 cases r with
 | none =>
   obtain ⟨u,z1,z2⟩ := hrun
   have hno : ∀ xs sz e,z = .list xs (.own sz e) → Tail g w (.arg 0) 0 xs sz u := fun xs sz e0 e => by subst e; cases xs <;> simp [same] at z1
   cases ok
   · refine fits_pure k (ex _ z2) ?_
     have hz := V.of_same (g := g) (w := w) z u z1
     simp only [Bool.false_eq_true,if_false]
     rw [VF_loose hz.loose]; exact ⟨VX_of_V hz,Owns.of_same z1⟩
   · exact fits_pure k (ex _ z2) (VF_pair (V.of_same _ _ z1) hno)
 | some p =>
   obtain ⟨j,v⟩ := p
   obtain ⟨e,kk,f1,f2,f3,f4⟩ := hrun
   cases ok
   · exact fits_pure k (ex _ f4) (VF_cp f3.loose (VX_of_V f3))
   · exact fits_pure k (ex _ f4) (VF_pair f3.cp fun xs sz e0 e2 => by
       have := (Owns.cp (g := g) (w := w) (r := .arg 0) (v := v) (cv := e.val)); rw [e2] at this; exact this)
theorem Rel.takemap (k:Rel G g st [] tm w) {id:Nat} {es:List (AV × AV)} (hs:st.hp[id]? = some (.map es)) {i:Nat} {kk v:AV} (hv:es[i]? = some (kk,v)) {L:Array MapEntry} {b clock:Nat} (hb:g.hb[id]? = some b) (hL:w.heap[b]? = some (.map L clock)) {e:MapEntry} (he:L[i]? = some e) :
   Rel G (g.mvI (.mp id i) 0 (.arg 0) 0) { st with hp := st.hp.set id (.map (es.set i (kk,v.cp))) } [] tm w ∧ V (g.mvI (.mp id i) 0 (.arg 0) 0) w v e.val ∧ ∀ xs sz e0,v = .list xs (.own sz e0) → Tail (g.mvI (.mp id i) 0 (.arg 0) 0) w (.arg 0) 0 xs sz e.val := by
 obtain ⟨b',k1,f4,k3⟩ := k.hp.obj id _ hs rfl
 rw [k1] at hb; cases hb
 simp only [ObjRel] at k3
 obtain ⟨L',clock',f2,f3,f5⟩ := k3
 rw [f2] at hL; injection hL with hL; injection hL with hL1 hL2; subst hL1; subst hL2
 obtain ⟨e',g1,g2,g3,g4⟩ := f5 i kk v hv
 rw [he] at g1; cases g1
 have sm := same_mvI g w (.mp id i) 0 (.arg 0) 0
 have hi : (fun t => t ≠ Tag.tail (.mp id i) 0 ∧ t ≠ Tag.tail (.arg 0) 0) Tag.imm := ⟨by simp,by simp⟩
 refine ⟨⟨fun t => (k.fr t).same sm hi (fun _ _ _ => rfl) (fun i => ⟨by simp,by simp⟩) ⟨by simp,by simp⟩ rfl,fun j y cy hj => by simp at hj,⟨by simp; exact k.hp.len,fun x ob hx hlive => ?_⟩,fun b o hb => ?_,k.gl.same sm hi ⟨by simp,by simp⟩⟩,V.mono (sm.ext hi) _ _ g3,fun xs sz e0 e2 => ?_⟩
 · simp only [List.getElem?_set] at hx
   by_cases e0 : id = x
   · subst e0
     simp only [if_true] at hx
     split at hx
     · cases hx
       refine ⟨_,k1,fun j => ?_,?_⟩
       · show (g.ow _ _).mvI _ _ _ _ = _; rw [f4 j]; rfl
       · simp only [ObjRel]
         refine ⟨_,_,f2,by simpa using f3,fun j kj vj hj => ?_⟩
         rw [List.getElem?_set] at hj
         by_cases ej : i = j
         · subst ej
           simp only [if_true] at hj
           split at hj
           · cases hj
             exact ⟨e,he,V.mono (sm.ext hi) _ _ g2,(V.mono (sm.ext hi) _ _ g3).cp,Owns.cp⟩
           · cases hj
         · rw [if_neg ej] at hj
           obtain ⟨e3,h1,h2,h3,h4⟩ := f5 j kj vj hj
           refine ⟨e3,h1,V.mono (sm.ext hi) _ _ h2,V.mono (sm.ext hi) _ _ h3,h4.same sm hi fun i' => ⟨by simpa using fun h => absurd h.symm ej,by simp⟩⟩
     · cases hx
   · rw [if_neg e0] at hx
     obtain ⟨b',e1,e2,e3⟩ := k.hp.obj x ob hx hlive
     refine ⟨b',e1,fun i => ?_,e3.same sm hi e2 ⟨by simp,by simp⟩ (fun i => ⟨by simp,by simp⟩) (fun i' j => ⟨by simpa using fun h => absurd h.symm e0,by simp⟩)⟩
     show (g.ow _ _).mvI _ _ _ _ = _; rw [e2 i]; rfl
 · show (g.ow b o).mvI _ _ _ _ = _; rw [k.fresh b o hb]; rfl
 · subst e2
   simp only [Owns] at g4
   exact g4.mvI (sm.ext hi) fun _ _ _ => ⟨rfl,rfl⟩
theorem fits_lookup_take (k:Rel G g st [] a.tmps w) {m kx:Opd} {m' k' : Operand} (hm:opdOk m m' = true) (hk:opdOk kx k' = true) {t:TypeId} {kd:KeyK} {z:AV} (h:mapOk P t kd z = true) {ok:Bool} (ho:o.op = .lookup t m' k' ok) (hpk:(opd st.fr kx).1.plain = true)
   {id:Nat} {es:List (AV × AV)} (h1:(opd st.fr m).1 = .map id) (h2:st.hp[id]? = some (.map es)) {j:Nat} {v:AV} (hr:findKey kd (opd st.fr kx).1 es 0 = some (some (j,v))) (hpv:v.plain = true) :
   Fits P G g st (.val (if ok then .tup [v,.bool true] else v) { st with hp := st.hp.set id (.map (es.set j ((es.getD j default).1,v.cp))) }) o a w := by
 have rk := k.read hk; rw [VX_plain hpk] at rk
 have rm := k.read hm
 rw [h1] at rm; simp only [VX,V] at rm
 obtain ⟨b,e1,e2⟩ := rm
 obtain ⟨b',k1,k2,k3⟩ := k.hp.obj id _ h2 rfl
 have e1' := e1
 rw [k1] at e1; cases e1
 obtain ⟨L,clock,l1,l2,_⟩ := EntRel.of k3
 have hrun := run_lookup (ok := ok) h rk l2 (.inr ⟨_,clock,e2,l1⟩) hr
 obtain ⟨e,kk,f1,f2,f3,f4⟩ := hrun
 have hd : (es.getD j default).1 = kk := by rw [List.getD_eq_getElem?_getD,f1]; rfl
 rw [hd]
 obtain ⟨q1,q2,q3⟩ := k.takemap h2 f1 e1' l1 (by simpa using f2)
 refine fits_value (cv := if ok then .tuple #[e.val,.bool true] else e.val) (w' := w) (by simp [execOp,ho,Act.eval_eq,f4]) (q1.push0 ?_) (stay_mvI _ _ _ _ _ _)
 cases ok
 · simp only [Bool.false_eq_true,if_false]
   rw [VF_loose q2.loose]
   exact ⟨VX_of_V q2,owns_of_tail (fun vs e => by subst e; simp [AV.plain] at hpv) q3⟩
 · exact VF_pair q2 q3
def World.setMap (w:World) (b:Nat) (o:Obj) : World := { w with heap := w.heap.setIfInBounds b o }
theorem heap_setMap (w:World) (b:Nat) (o:Obj) (h:b < w.heap.size) (k:Nat) : (World.setMap w b o).heap[k]? = if k = b then some o else w.heap[k]? := by
 simp only [World.setMap,Array.getElem?_setIfInBounds]
 by_cases e : b = k
 · subst e; simp [h]
 · rw [if_neg e,if_neg (fun h => e h.symm)]
theorem row_setMap {b:Nat} {ob:Obj} (h:b < w.heap.size) (hm:∃ L c,w.heap[b]? = some (.map L c)) (c e n:Nat) (k:Row0 w c e n) : Row0 (World.setMap w b ob) c e n := by
 obtain ⟨cs,hi,k1,k2⟩ := k
 obtain ⟨L,cl,hm⟩ := hm
 have hc : c ≠ b := fun e => by subst e; rw [hm] at k1; cases k1
 exact ⟨cs,hi,by rw [heap_setMap w b ob h,if_neg hc]; exact k1,k2⟩
theorem same_setMap {b:Nat} {bt:Tag} {r q:Root} {i j:Nat} (hb:∀ o,g.ow b o = bt) {ob:Obj} (h:b < w.heap.size) (hm:∃ L c,w.heap[b]? = some (.map L c)) (hbt:bt ≠ .elt) :
   Same (offB bt r i q j) g w (g.mvI r i q j) (World.setMap w b ob) := by
 have hne : ∀ c o,offB bt r i q j (g.ow c o) → c ≠ b := fun c o ht e => by subst e; exact ht.1 (hb o)
 refine ⟨fun c o _ ht => Tag.mvI_off ht,fun c o _ ht => cell?_of_block' ?_,fun c o _ ht _ => frozen?_of_block' ?_,fun c _ ht => ?_,row_setMap h hm,fun _ => ⟨fun e => hbt e.symm,by simp,by simp⟩,fun _ _ h => h⟩
 · rw [heap_setMap w b ob h,if_neg (hne c o ht)]
 · rw [heap_setMap w b ob h,if_neg (hne c o ht)]
 · rw [heap_setMap w b ob h,if_neg (hne c 0 (ht 0).1)]
theorem stay_setMap {b:Nat} {bt:Tag} {r q:Root} {i j:Nat} (hb:∀ o,g.ow b o = bt) (hk:¬ bt.kept) {ob:Obj} (h:b < w.heap.size) (hm:∃ L c,w.heap[b]? = some (.map L c)) : Stay g w (g.mvI r i q j) (World.setMap w b ob) := by
 have hne : ∀ c o,(g.ow c o).kept → c ≠ b := fun c o ht e => by subst e; rw [hb] at ht; exact hk ht
 exact { ow := fun c o _ ht => by
           show (g.ow c o).mvI r i q j = _
           revert ht; cases g.ow c o <;> simp [Tag.kept,Tag.mvI]
         cell := fun c o _ ht => cell?_of_block' (by rw [heap_setMap w b ob h,if_neg (hne c o ht)])
         frz := fun c o _ ht _ => frozen?_of_block' (by rw [heap_setMap w b ob h,if_neg (hne c o ht)])
         blk := fun c _ ht => by rw [heap_setMap w b ob h,if_neg (hne c 0 (ht 0).1)]
         row := row_setMap h hm,te := fun _ => trivial
         hb := fun _ _ h => h,os := rfl,tape := rfl,output := rfl,size := by simp [World.setMap] }
theorem V.keep1 {v:AV} {cv:Value} (h:V g w v cv) : V g w v.keep1 cv := by
 cases v <;> simp only [AV.keep1] <;> first | exact h | exact h.cp
theorem Owns.keep1 {r q:Root} {v:AV} {cv:Value} (h:Owns g w r v cv) (k:∀ xs sz,Tail g w r 0 xs sz cv → Tail g' w' q 0 xs sz cv) : Owns g' w' q v.keep1 cv := by
 cases v <;> simp only [AV.keep1] <;> try exact Owns.cp
 case list xs ow => cases ow <;> first | trivial | exact k _ _ h
theorem Rel.setmap {u:AV} {cu:Value} (k:Rel G g st [(u,cu)] tm w) (hp:u.plain = true) {id:Nat} {es:List (AV × AV)} (hs:st.hp[id]? = some (.map es)) {b:Nat} (hb:g.hb[id]? = some b) {L:Array MapEntry} {clock:Nat} (hL:w.heap[b]? = some (.map L clock))
   {es' : List (AV × AV)} {L' : Array MapEntry} {clock' i : Nat} {kk:AV} (hi:es'[i]? = some (kk,u.keep1)) (hlen:L'.size = es'.length) (hnew:∃ e,L'[i]? = some e ∧ V g w kk e.key ∧ e.val = cu)
   (hold:∀ (j:Nat) x,j ≠ i → es'[j]? = some x → es[j]? = some x ∧ L'[j]? = L[j]?) :
   Rel G (g.mvI (.arg 0) 0 (.mp id i) 0) { st with hp := st.hp.set id (.map es') } [] tm (World.setMap w b (.map L' clock')) ∧ Stay g w (g.mvI (.arg 0) 0 (.mp id i) 0) (World.setMap w b (.map L' clock')) := by
 obtain ⟨b',k1,f4,k3⟩ := k.hp.obj id _ hs rfl
 rw [k1] at hb; cases hb
 simp only [ObjRel] at k3
 obtain ⟨L0,clock0,f2,f3,f5⟩ := k3
 rw [f2] at hL; injection hL with hL; injection hL with hL1 hL2; subst hL1; subst hL2
 have fu := k.ps 0 _ _ rfl
 rw [VF_loose (AV.loose_of_plain hp),VX_plain hp] at fu
 have hlt := (Array.getElem?_eq_some_iff.1 f2).1
 have sm := same_setMap (g := g) (w := w) (bt := .obj id) (r := .arg 0) (i := 0) (q := .mp id i) (j := 0) f4 (ob := .map L' clock') hlt ⟨_,_,f2⟩ (by simp)
 have hI : offB (.obj id) (.arg 0) 0 (.mp id i) 0 .imm := ⟨by simp,by simp,by simp⟩
 have hstay : Stay g w (g.mvI (.arg 0) 0 (.mp id i) 0) (World.setMap w b (.map L' clock')) := stay_setMap f4 (by simp [Tag.kept]) hlt ⟨_,_,f2⟩
 have hheap := heap_setMap w b (.map L' clock') hlt
 have hsize : (World.setMap w b (.map L' clock')).heap.size = w.heap.size := by simp [World.setMap]
 generalize World.setMap w b (.map L' clock') = w' at *
 refine ⟨⟨fun t => (k.fr t).same sm hI (fun _ _ _ => rfl) (fun i => ⟨by simp,by simp,by simp⟩) ⟨by simp,by simp,by simp⟩ rfl,fun j v cv hj => by simp at hj,⟨by simp; exact k.hp.len,fun x ob hx hlive => ?_⟩,fun c o hc => ?_,k.gl.same sm hI ⟨by simp,by simp,by simp⟩⟩,hstay⟩
 · simp only [List.getElem?_set] at hx
   by_cases e : id = x
   · subst e
     simp only [if_true] at hx
     split at hx
     · cases hx
       refine ⟨b,k1,fun j => ?_,?_⟩
       · show (g.ow _ _).mvI _ _ _ _ = _; rw [f4 j]; rfl
       · simp only [ObjRel]
         refine ⟨L',clock',by rw [hheap,if_pos rfl],hlen,fun j kj vj hj => ?_⟩
         by_cases ej : j = i
         · subst ej
           rw [hi] at hj; cases hj
           obtain ⟨e,e1,e2,e3⟩ := hnew
           refine ⟨e,e1,V.mono (sm.ext hI) _ _ e2,by rw [e3]; exact (V.mono (sm.ext hI) _ _ fu.1).keep1,?_⟩
           rw [e3]
           refine fu.2.keep1 fun xs sz ht => ht.mvI (sm.ext hI) fun c o hc => ⟨cell?_of_block' ?_,frozen?_of_block' ?_⟩
           all_goals
             rw [hheap,if_neg]
             intro e; subst e; rw [f4 o] at hc; cases hc
         · obtain ⟨h1,h2⟩ := hold j _ ej hj
           obtain ⟨e3,g1,g2,g3,g4⟩ := f5 j kj vj h1
           exact ⟨e3,by rw [h2]; exact g1,V.mono (sm.ext hI) _ _ g2,V.mono (sm.ext hI) _ _ g3,g4.same sm hI fun i' => ⟨by simp,by simp,by simpa using fun h => absurd h ej⟩⟩
     · cases hx
   · rw [if_neg e] at hx
     obtain ⟨b2,e1,e2,e3⟩ := k.hp.obj x ob hx hlive
     have hbl : b2 < w.heap.size := by
       exact e3.lt
     have hT : ∀ t,t = Tag.obj x → offB (.obj id) (.arg 0) 0 (.mp id i) 0 t := fun t ht => by subst ht; exact ⟨by simpa using fun h => e h.symm,by simp,by simp⟩
     exact ⟨b2,e1,fun i => (sm.ow b2 i hbl (hT _ (e2 i))).trans (e2 i),e3.same sm hI e2 (hT _ rfl) (fun i => ⟨by simp,by simp,by simp⟩) (fun i' j => ⟨by simp,by simp,by simpa using fun h => absurd h.symm e⟩)⟩
 · rw [hsize] at hc
   show (g.ow c o).mvI _ _ _ _ = _; rw [k.fresh c o hc]; rfl
theorem sameBits_key {kd:KeyK} {d:TypeDesc} (hd:keyOk kd d = true) {k e:AV} {kc:Value} (hk:V g w k kc) {b:Bool} (h:keyEq kd k e = some b) (n:Nat) : Instr.sameBits n kc kc = true := by
 cases kd <;> cases k <;> cases e <;> simp [keyEq] at h <;> simp only [V] at hk <;> subst hk <;> cases n <;> simp [Instr.sameBits]
 all_goals
   show ((_:Array UInt8) == _) = true
   simp
theorem findKey_some_eq {kd:KeyK} {k:AV} : ∀ {es:List (AV × AV)} {i0 j:Nat} {v:AV},findKey kd k es i0 = some (some (j,v)) → ∃ e : AV,keyEq kd k e = some true
 | [],_,_,_,h => by simp [findKey] at h
 | x :: es,i0,j,v,h => by
   simp only [findKey] at h
   cases hq : keyEq kd k x.1 with
   | none => simp [hq] at h
   | some b =>
     cases b with
     | true => exact ⟨_,hq⟩
     | false => simp [hq] at h; exact findKey_some_eq h
theorem fits_mapset (k:Rel G g st [] a.tmps w) {m kx v:Opd} {m' k' v' : Operand} (hm:opdOk m m' = true) (hk:opdOk kx k' = true) (hv:opdOk v v' = true) {t:TypeId} {kd:KeyK} {z:AV} (h:mapOk P t kd z = true) (ho:o.op = .mapUpdate t m' k' v') (hpv:(opd st.fr v).1.plain = true) (hpk:(opd (opd st.fr v).2 kx).1.plain = true)
   {id:Nat} {es:List (AV × AV)} (h1:(opd (opd st.fr v).2 m).1 = .map id) (h2:st.hp[id]? = some (.map es)) {r} (hr:findKey kd (opd (opd st.fr v).2 kx).1 es 0 = some r) :
   Fits P G g st (.val (.tup []) { fr := (opd st.fr v).2,hp := st.hp.set id (.map (match r with | some (i,_) => es.set i ((es.getD i default).1,(opd st.fr v).1.keep1) | none => es ++ [((opd (opd st.fr v).2 kx).1,(opd st.fr v).1.keep1)])) }) o a w := by
 obtain ⟨g1,k1,s1,hb1⟩ := k.take hv
 simp only [List.nil_append] at k1
 have rk := k1.read hk; simp only at rk; rw [VX_plain hpk] at rk
 have rm := k1.read hm; simp only at rm
 rw [h1] at rm; simp only [VX,V] at rm
 obtain ⟨b,e1,e2⟩ := rm
 obtain ⟨b',k2,_,k3⟩ := k1.hp.obj id _ h2 rfl
 have e1' := e1
 rw [k2] at e1; cases e1
 obtain ⟨L,clock,l1,l2,l3⟩ := EntRel.of k3
 unfold mapOk at h
 cases hu : P.underlying t with
 | none => simp [hu] at h
 | some d =>
   cases d <;> simp [hu] at h
   rename_i kt e
   cases huk : P.underlying kt with
   | none => simp [huk] at h
   | some dk =>
     simp [huk] at h
     have hg : (getObj b).run P w = .ok (.map L clock) w := by simp [getObj,Sem.run,l1]
     have hst : ∀ L' clock',(setObj b (.map L' clock')).run P w = .ok () (World.setMap w b (.map L' clock')) := fun L' clock' => by simp [setObj,Sem.run,l1,World.setMap]
     have hn := findKey_now h.1 rk 0 l2 hr
     cases r with
     | none =>
       simp only at hn
       obtain ⟨q1,q2⟩ := k1.setmap hpv h2 e1' l1 (es' := es ++ [((opd (opd st.fr v).2 kx).1,(opd st.fr v).1.keep1)]) (L' := L.push { key := Act.opd a.tmps k',val := Act.opd a.tmps v',born := clock }) (clock' := clock + 1) (i := es.length) (kk := (opd (opd st.fr v).2 kx).1)
         (by simp) (by have := l2.1; simp at this ⊢; exact this) ⟨_,by rw [Array.getElem?_push,if_pos (by have := l2.1; simpa using this.symm)],rk,rfl⟩
         (fun j x hj hx => by
           have hlt := (List.getElem?_eq_some_iff.1 hx).1
           simp at hlt
           rw [List.getElem?_append,if_pos (by omega)] at hx
           refine ⟨hx,?_⟩
           rw [Array.getElem?_push,if_neg (by have := l2.1; simp at this; omega)])
       refine fits_skip ?_ (q1.push0 VF_undef) (s1.trans q2)
       simp [execOp,ho,Act.eval_eq,Instr.mapUpdate,run_underlying hu,e2,hg,run_checkKey huk h.1 _ 9999,Instr.findKey,run_underlying huk,hn,hst]
     | some p =>
       obtain ⟨i,v0⟩ := p
       obtain ⟨e4,kk,f1,f2,f3,f4,f5,f6⟩ := hn
       simp only [Nat.sub_zero] at f2 f3
       have hd : (es.getD i default).1 = kk := by rw [List.getD_eq_getElem?_getD,f2]; rfl
       have hLi : L[i]? = some e4 := by simpa using f3
       obtain ⟨e5,g1',g2',g3',_⟩ := l3 i kk v0 f2
       rw [hLi] at g1'; cases g1'
       have hil : i < L.size := (Array.getElem?_eq_some_iff.1 hLi).1
       have hsb : Instr.sameBits 10000 (Act.opd a.tmps k') (Act.opd a.tmps k') = true := by
         obtain ⟨e6,hq⟩ := findKey_some_eq hr
         exact sameBits_key h.1 rk hq _
       have hmod : ∀ j : Nat,(L.modify i fun e => { e with key := Act.opd a.tmps k',val := Act.opd a.tmps v' })[j]? = if i = j then some { e4 with key := Act.opd a.tmps k',val := Act.opd a.tmps v' } else L[j]? := fun j => by
         rw [Array.getElem?_modify]
         by_cases ej : i = j
         · subst ej; simp [hLi]
         · simp [ej]
       obtain ⟨q1,q2⟩ := k1.setmap hpv h2 e1' l1 (es' := es.set i ((es.getD i default).1,(opd st.fr v).1.keep1)) (L' := L.modify i fun e => { e with key := Act.opd a.tmps k',val := Act.opd a.tmps v' }) (clock' := clock) (i := i) (kk := kk)
         (by rw [hd,List.getElem?_set,if_pos rfl,if_pos (List.getElem?_eq_some_iff.1 f2).1]) (by have := l2.1; simp at this ⊢; exact this) ⟨_,by rw [hmod,if_pos rfl],by rw [← f5]; exact g2',rfl⟩
         (fun j x hj hx => by
           rw [List.getElem?_set,if_neg (fun e => hj e.symm)] at hx
           exact ⟨hx,by rw [hmod,if_neg (fun e => hj e.symm)]⟩)
       refine fits_skip ?_ (q1.push0 VF_undef) (s1.trans q2)
       simp [execOp,ho,Act.eval_eq,Instr.mapUpdate,run_underlying hu,e2,hg,run_checkKey huk h.1 _ 9999,Instr.findKey,run_underlying huk,f6,hLi,f5,Instr.keyThatStays,hsb,hst]
end
end Go.Proofs.YtkofimhnehkdoaaGreatDoor.Rf
end
