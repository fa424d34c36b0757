/- A part of the proof: see the last text. -/
import Derived.Test.YtkofimhnehkdoaaGreatDoorRcG8
set_option linter.unusedVariables false
set_option linter.unusedSimpArgs false
section
namespace Go.Proofs.YtkofimhnehkdoaaGreatDoor.Rf
def isIface : Option TypeDesc → Bool
 | some (.interface _) => true
 | none => true
 | _ => false
def chkOp (P:Program) (i:IOp) (op:Op) : Bool :=
 match i with
 | .mv x => match op with | .move y => opdOk x y | .assign y => opdOk x y | _ => false
 | .pick c a b => match op with | .pick c' a' b' => opdOk c c' && opdOk a a' && opdOk b b' | _ => false
 | .alloc _ ty cs => match op with | .alloc t => zeroOk P t cs && (Nat.beq ty 0 || Nat.beq t ty) | _ => false
 | .box _ x => match op with | .box _ y => opdOk x y | _ => false
 | .build zs ps => match op with | .build t qs => zeroOk P t zs && (match placeOf P t with | some pl => partsOk pl ps qs.toList | none => false) && sizesOk P t | _ => false
 | .bslice z e n ps => match op with | .buildSlice t m qs => bsliceOk P t z n && (rowTy P t z.cells.length e || Nat.beq e 999999) && decide (n = m) && bpartsOk ps qs.toList | _ => false
 | .load x _ n agg tk => match op with | .load t y => opdOk x y && tyOk P t n agg | _ => false
 | .store x _ v n => match op with | .store t y u => opdOk x y && opdOk v u && (tyOk P t n true || tyOk P t n false) | _ => false
 | .nilchk x => match op with | .nilCheck y => opdOk x y | _ => false
 | .bin op' x y => match op with | .binOp o _ x' y' _ => decide (o = op') && opdOk x x' && opdOk y y' | _ => false
 | .eq neg k x y => match op with | .binOp o t x' y' _ => decide (o = if neg then .neq else .eql) && eqOk P k t x' y' && opdOk x x' && opdOk y y' | _ => false
 | .un op' x => match op with | .unOp o _ x' => decide (o = op') && opdOk x x' | _ => false
 | .conv k x => match op with | .convert s d x' => (match P.underlying s with | some (.int _) => true | _ => false) && (match P.underlying d with | some (.int k') => decide (k' = k) | _ => false) && opdOk x x' | _ => false
 | .sconv x => match op with | .convert s d x' => (match P.underlying s with | some .string => true | _ => false) && (match P.underlying d with | some .string => true | _ => false) && opdOk x x' | _ => false
 | .mkiface t x => match op with | .makeInterface t' x' => decide (t' = t) && !isIface (P.underlying t) && opdOk x x' | _ => false
 | .mkfunc f cs => match op with | .makeFunc fn first caps => (match fn with | .func f' => decide (f' = f) | _ => false) && decide (first.size = 0) && opdsOk cs caps.toList | _ => false
 | .mkmap => match op with | .makeMap _ r => r.isNone | _ => false
 | .faddr x off => match op with | .fieldAddr s y f => opdOk x y && (match P.underlying s with | some (.struct fs) => (match fs[f]? with | some x => (match P.info? x.type with | some i => fieldOk P s f off i.size | none => false) | none => false) | _ => false) | _ => false
 | .field x off n agg => match op with | .field s y f => opdOk x y && fieldOk2 P s f off n agg | _ => false
 | .iaddrL x i sz => match op with | .indexAddr t y u => opdOk x y && opdOk i u && sliceOk P t sz | _ => false
 | .iaddrA x i len sz => match op with | .indexAddr t y u => opdOk x y && opdOk i u && arrayOk P t len sz | _ => false
 | .idxS x i => match op with | .index t y u => opdOk x y && opdOk i u && (match P.underlying t with | some .string => true | _ => false) | _ => false
 | .slcS x l h => match op with | .slice t y l' h' m' => opdOk x y && optOk l l' && optOk h h' && m'.isNone && (match P.underlying t with | some .string => true | _ => false) | _ => false
 | .slcL x l h sz => match op with | .slice t y l' h' m' => opdOk x y && optOk l l' && optOk h h' && m'.isNone && sliceOk P t sz | _ => false
 | .lookup kd m k z ok tk => match op with | .lookup t m' k' ok' => opdOk m m' && opdOk k k' && mapOk P t kd z && decide (ok' = ok) | _ => false
 | .mapset kd m k v z => match op with | .mapUpdate t m' k' v' => opdOk m m' && opdOk k k' && opdOk v v' && mapOk P t kd z | _ => false
 | .len x kd => match op with | .call c => (match c.callee with | .builtin .len => (match c.args.toList,c.argTypes.toList with | [x'],[t] => opdOk x x' && (match kd,P.underlying t with | .list,some (.slice _) => true | .str,some .string => true | .map,some (.map _ _) => true | _,_ => false) | _,_ => false) | _ => false) | _ => false
 | .konst v => match op with | .call c => (match c.callee with | .builtin .len => (match c.args.toList,c.argTypes.toList with | [_],[t] => (match P.underlying t,v with | some (.array n _),.int .i64 m => decide (m = n) | _,_ => false) | _,_ => false) | _ => false) | _ => false
 | .append x y sz e bytes _ => match op with | .call c => (match c.callee with | .builtin .append => (match c.args.toList,c.argTypes.toList with | [x',y'],[t,t2] => opdOk x x' && opdOk y y' && appendOk P t sz bytes && rowTy P t sz e && append2Ok P t2 | _,_ => false) | _ => false) | _ => false
 | .min x y => match op with | .call c => (match c.callee with | .builtin .min => (match c.args.toList with | [x',y'] => opdOk x x' && opdOk y y' | _ => false) | _ => false) | _ => false
 | .max x y => match op with | .call c => (match c.callee with | .builtin .max => (match c.args.toList with | [x',y'] => opdOk x x' && opdOk y y' | _ => false) | _ => false) | _ => false
 | .extract x i => match op with | .extract x' i' => decide (i' = i) && opdOk x x' | _ => false
 | .assert x t z ok => match op with | .typeAssert x' _ t' ok' => decide (t' = t) && decide (ok' = ok) && opdOk x x' && !isIface (P.underlying t) && zeroV P t z | _ => false
 | .panic x => match op with | .panic x' => opdOk x x' | _ => false
 | .call f xs _ => match op with | .call c => (match c.callee with | .value f' => opdOk f f' && opdsOk xs c.args.toList | _ => false) | _ => false
 | .sdata x _ => match op with | .call c => (match c.callee with | .builtin .unsafeSliceData => (match c.args.toList with | [x'] => opdOk x x' | _ => false) | _ => false) | _ => false
 | .ustr p n e => match op with | .call c => (match c.callee with | .builtin .unsafeString => (match c.args.toList,c.argTypes.toList with | [p',n'],[pt,_] => opdOk p p' && opdOk n n' && (match P.underlying pt with | some (.pointer e') => Nat.beq e' e && Nat.beq (P.cellsOf e') 1 | _ => false) | _,_ => false) | _ => false) | _ => false
 | .uptr x u n => match op with | .convert s d x' => uptrOk P s d u n && opdOk x x' | _ => false
 | .ident f x => match op with | .call c => (match c.callee with | .value (.func f') => decide (f' = f) && identOk P f && (match c.args.toList with | [x'] => opdOk x x' | _ => false) | _ => false) | _ => false
 | .mkbuf z e n c bytes => match op with | .makeSlice t n' c' => mksliceOk P t z bytes && rowTy P t z.cells.length e && opdOk n n' && opdOk c c' | _ => false
 | .slcA x l h len sz => match op with | .slice t y l' h' m' => opdOk x y && optOk l l' && optOk h h' && m'.isNone && arrPtrOk P t len sz | _ => false
 | .strL x => match op with | .convert s d x' => strOk P s d && opdOk x x' | _ => false
 | .bytesS x => match op with | .convert s d x' => bytesOk P s d && opdOk x x' | _ => false
 | .idxB f x y => match op with | .call c => (match c.callee with | .value (.func f') => decide (f' = f) && idxBOk P f && (match c.args.toList with | [x',y'] => opdOk x x' && opdOk y y' | _ => false) | _ => false) | _ => false
 | .copyS x y => match op with | .call c => (match c.callee with | .builtin .copy => (match c.args.toList,c.argTypes.toList with | [x',y'],[t,_] => opdOk x x' && opdOk y y' && copyOk P t | _,_ => false) | _ => false) | _ => false
 | .appR x y sz bytes => match op with | .call c => (match c.callee with | .builtin .append => (match c.args.toList,c.argTypes.toList with | [x',y'],[t,t2] => opdOk x x' && opdOk y y' && appendOk P t sz bytes && append2Ok P t2 | _,_ => false) | _ => false) | _ => false
 | .mkslice z e n c bytes => match op with | .makeSlice t n' c' => mksliceOk P t z bytes && rowTy P t z.cells.length e && opdOk n n' && opdOk c c' | _ => false
 | .mkroom f e x => match op with | .call c => (match c.callee with | .value (.func f') => decide (f' = f) && roomOk P f e && (match c.args.toList with | [x'] => opdOk x x' | _ => false) | _ => false) | _ => false
 | .slcR s b => match op with | .slice t y none (some b') none => opdOk (.t s false) y && opdOk b b' && sliceOk P t 1 | _ => false
 | .capN x => match op with | .call c => (match c.callee with | .builtin .cap => (match c.args.toList,c.argTypes.toList with | [x'],[t] => opdOk x x' && (match P.underlying t with | some (.slice _) => true | _ => false) | _,_ => false) | _ => false) | _ => false
 | .copyN x y => match op with | .call c => (match c.callee with | .builtin .copy => (match c.args.toList,c.argTypes.toList with | [x',y'],[t,_] => opdOk x x' && opdOk y y' && copyOk P t | _,_ => false) | _ => false) | _ => false
section
variable {P:Program} {G:Nat → Option (List AV)} {g:Gh} {st:St} {a:Act} {w:World} {o:Oper}
theorem isIface_no {d:Option TypeDesc} (h:(!isIface d) = true) : ∃ e,d = some e ∧ ∀ ms,e ≠ .interface ms := by
 cases d with
 | none => simp [isIface] at h
 | some e => exact ⟨e,rfl,fun ms he => by subst he; simp [isIface] at h⟩
theorem arr_of {α:Type} (x:Array α) {l:List α} (h:x.toList = l) : x = l.toArray := by rw [← h]
theorem call_eq {c:Call} {cal:Callee} {xs:List Operand} {ts:List TypeId} (h1:c.callee = cal) (h2:c.args.toList = xs) (h3:c.argTypes.toList = ts) : c = { callee := cal,args := xs.toArray,argTypes := ts.toArray } := by
 cases c; simp only at h1 h2 h3; subst h1; rw [arr_of _ h2,arr_of _ h3]
theorem fits_sconv (k:Rel G g st [] a.tmps w) {x:Opd} {x' : Operand} (hx:opdOk x x' = true) {s d:TypeId} (hs:P.underlying s = some .string) (hd:P.underlying d = some .string) (ho:o.op = .convert s d x') {n:List UInt8} (h:(opd st.fr x).1 = .str n) : Fits P G g st (.val (.str n) st) o a w := by
 have h1 := k.read hx
 rw [h] at h1; simp only [VX,V] at h1
 exact fits_pure k (cv := .string ⟨n.toArray⟩) (by simp [execOp,ho,Act.eval_eq,h1,convert,run_underlying hs,run_underlying hd]) (VF_scalar rfl (by simp only [VX,V]) (by simp) (by simp))
theorem ret1_some {v:AV} {s:St} {r:OpR} (h:ret1 v s = some r) : r = .val v s := by simp [ret1] at h; exact h.symm
end
end Go.Proofs.YtkofimhnehkdoaaGreatDoor.Rf
end
section
namespace Go.Proofs.YtkofimhnehkdoaaGreatDoor.Rf
section
variable {P:Program} {G:Nat → Option (List AV)} {g g' : Gh} {st:St} {a:Act} {w w' : World} {o:Oper} {tm:Array Value} {ps:List (AV × Value)}
theorem Fr.mem_of_get : ∀ {fr:Fr} {s:Nat} {v:AV},fr.get s = v → v ≠ .none → (s,v) ∈ fr
 | [],s,v,h,hn => by simp [Fr.get] at h; exact absurd h.symm hn
 | (t,u) :: r,s,v,h,hn => by
   simp only [Fr.get] at h
   split at h
   · rename_i e; subst e; subst h; simp
   · exact List.mem_cons_of_mem _ (Fr.mem_of_get h hn)
theorem Fr.noLast_get {fr:Fr} {s t u:Nat} (h:fr.noLast s = true) (k:fr.get t = .lastr u) : u ≠ s := by
 have := Fr.mem_of_get k (by simp)
 simp only [Fr.noLast,List.all_eq_true] at h
 have h2 := h _ this
 simp only [k] at h2
 simpa using h2
theorem VF.like2 {fr fr' : Fr} {tm' : Array Value} {r:Root} {v:AV} {cv:Value} (hb:∀ t cs,fr.get t = .box cs → ∃ cs',fr'.get t = .box cs')
   (hp:∀ t,v = .lastr t → ∀ xs sz,fr.get t = .pend xs sz → fr'.get t = .pend xs sz ∧ tm'.getD t undef = tm.getD t undef) (h:VF g w fr tm r v cv) : VF g w fr' tm' r v cv := by
 cases v <;> simp only [VF,VX] at h ⊢ <;> first
   | exact h
   | (obtain ⟨⟨h1,cs,h2⟩,h3⟩ := h; exact ⟨⟨h1,hb _ cs h2⟩,h3⟩)
   | (obtain ⟨⟨xs,sz,a,c,h1,h2,h3⟩,h4⟩ := h; obtain ⟨p,q⟩ := hp _ rfl xs sz h1; exact ⟨⟨xs,sz,a,c,p,q.trans h2,h3⟩,h4⟩)
theorem run_storeVar_each {t:TypeId} {n:Nat} {agg:Bool} (h:tyOk P t n agg = true) {b q:Nat} {cu:Value} (hn:cu.cells.toList.length = n) (h1:Ones cu.cells.toList)
   (hc:∀ j,j < n → (∃ u,w.cell? ⟨b,q + j,none⟩ = some u) ∧ w.frozen? ⟨b,q + j,none⟩ = false) : ∃ w',(storeVar t ⟨b,q,none⟩ cu).run P w = .ok () w' ∧ Wr w w' b q cu.cells.toList := by
 have hsz : (sizeOf t).run P w = .ok n w := by
   unfold tyOk at h
   cases hi : P.info? t with
   | none => simp [hi] at h
   | some i =>
     cases hu : P.underlying t with
     | none => simp [hi,hu] at h
     | some d =>
       simp only [hi,hu,Bool.and_eq_true,decide_eq_true_eq] at h
       simp [sizeOf,typeInfo,hi,h.1.1]
 obtain ⟨w',r1,r2⟩ := run_storeCells_each (P := P) b q cu.cells.toList 0 w (fun j hj => by rw [Nat.add_zero]; exact hc j (by rw [← hn]; exact hj)) h1
 rw [Nat.add_zero] at r2
 refine ⟨w',?_,r2⟩
 simp only [storeVar,Sem.run_bind,hsz,Result.andThen_ok]
 rw [if_neg (by simp at hn; simpa using hn)]
 simpa using r1
theorem spread_len {v:AV} {cv:Value} (hp:v.plain = true) (hv:V g w v cv) : v.cp.cells.length = v.spread.length := by
 rw [← (V.cells hp hv).1.len,← (V.cellsCp hp hv).1.len]
theorem opd_lastr_loose {fr:Fr} {p s:Nat} {tk:Bool} (h:(opd fr (.t p tk)).1 = .lastr s) (k:(fr.get p).loose = false) : False := by
 simp only [opd] at h
 cases hv : fr.get p <;> rw [hv] at h k <;> first | (simp [AV.loose] at k; done) | (simp at h; done)
theorem fits_store_last (k:Rel G g st [] a.tmps w) {p:Nat} {tk:Bool} {v:Opd} {y u:Operand} (hx:opdOk (.t p tk) y = true) (hv:opdOk v u = true) {t:TypeId} {n:Nat} {agg:Bool} (ht:tyOk P t n agg = true) (ho:o.op = .store t y u) (hp:(opd st.fr v).1.plain = true)
   {s:Nat} (h:(opd (opd st.fr v).2 (.t p tk)).1 = .lastr s) {xs:List AV} {sz:Nat} (hs:(opd st.fr v).2.get s = .pend xs sz) (hl:(opd st.fr v).1.spread.length = n) (hn:n = sz) (hps:p ≠ s) (hno:((opd st.fr v).2.set p .none).noLast s = true) :
   Fits P G g st (.val (.tup []) { st with fr := ((opd st.fr v).2.set p .none).set s (.list (xs ++ [(opd st.fr v).1.cp]) (.own sz 0)) }) o a w := by
 subst hn
 obtain ⟨g1,k1,s1,_⟩ := k.take hv
 simp only [List.nil_append] at k1
 have hr := k1.read hx
 simp only at hr
 rw [h] at hr
 simp only [VX] at hr
 obtain ⟨xs',sz',ad,c,r1,r2,r3⟩ := hr
 rw [hs] at r1; cases r1
 have hu := k1.ps 0 _ _ rfl
 rw [VF_loose (AV.loose_of_plain hp),VX_plain hp] at hu
 have hc := V.cells hp hu.1
 have hcn : (Act.opd a.tmps u).cells.toList.length = n := by rw [hc.1.len]; exact hl
 have hf := k1.fr s
 simp only at hf
 rw [hs,r2] at hf
 simp only [VF] at hf
 obtain ⟨ad',c',f1,f2,f3,f4,f5⟩ := hf
 cases f1
 obtain ⟨b,q,sp⟩ := ad
 simp only at f4; subst f4
 obtain ⟨hE,htail⟩ := f5.get
 simp only at hE htail r3
 have hle : (xs.length + 1) * n ≤ c * n := Nat.mul_le_mul_right n f2
 rw [Nat.add_mul,Nat.one_mul] at hle
 obtain ⟨w',hw1,hw2⟩ := run_storeVar_each (w := w) ht (b := b) (q := q + xs.length * n) hcn hc.2 (fun j hj => (htail _ (by omega) (by omega)).2)
 have htags : ∀ o,q + xs.length * n ≤ o → o < q + xs.length * n + (Act.opd a.tmps u).cells.toList.length → g1.ow b o = .tail (.fr s) 0 := fun o h1 h2 => (htail o h1 (by omega)).1
 have sm := same_fill hw2 htags
 have hi : (fun t => t ≠ Tag.tail (.fr s) 0) Tag.imm := by simp
 have hlay : Lay g1 w n [(opd st.fr v).1.cp] (Act.opd a.tmps u).cells.toList :=
   RowR.lay ⟨_,[],by simp,by rw [spread_len hp hu.1]; exact hl,(V.cellsCp hp hu.1).1,by simp [RowR]⟩ hc.2
 have hE2 : VE (g1.fill b (q + xs.length * n) (Act.opd a.tmps u).cells.toList.length) w' n (xs ++ [(opd st.fr v).1.cp]) b q :=
   VE.append (VE.mono (sm.ext hi) _ _ _ _ hE) (hlay.2.2 _ _ _ _ (sm.ext hi) fun j u hu => by
     have hj := (List.getElem?_eq_some_iff.1 hu).1
     exact ⟨by rw [fill_in (by omega) (by omega)]; trivial,hw2.new j u hu⟩)
 have hget : ∀ x,(((opd st.fr v).2.set p .none).set s (.list (xs ++ [(opd st.fr v).1.cp]) (.own n 0))).get x = if s = x then .list (xs ++ [(opd st.fr v).1.cp]) (.own n 0) else if p = x then .none else (opd st.fr v).2.get x := fun x => by
   rw [Fr.get_set,Fr.get_set]
 refine fits_skip (w' := w') (g' := g1.fill b (q + xs.length * n) (Act.opd a.tmps u).cells.toList.length) ?_ (Rel.push0 ?_ VF_undef) (s1.trans (stay_fill hw2 htags))
 · simp [execOp,ho,Act.eval_eq,r3,Instr.storeAt,Instr.sureAddr,hw1]
 · refine ⟨fun x => ?_,fun j x cx hj => by simp at hj,k1.hp.same sm hi (fun _ => by simp) (fun _ _ => by simp) (fun _ _ _ => by simp) rfl,fun d o hd => ?_,k1.gl.same sm hi (by simp)⟩
   · simp only
     rw [hget]
     split
     · rename_i e; subst e
       rw [VF_loose rfl,r2]
       refine ⟨?_,?_⟩
       · simp only [VX,V]
         exact ⟨some ⟨b,q,none⟩,c,by simp,by simpa using f2,f3,⟨fun e => (by cases e),fun e => (by cases e)⟩,(fun e => by cases e),fun ad e => by cases e; exact ⟨fun _ => rfl,fun h => absurd rfl h,n,hE2⟩⟩
       · simp only [Owns]
         intro ad n' c' e
         cases e
         refine ⟨hE2,fun o h1 h2 => ?_⟩
         simp only [List.length_append,List.length_cons,List.length_nil,Nat.add_mul,Nat.one_mul,Nat.zero_add] at h1 h2
         obtain ⟨t1,t2,t3⟩ := htail o (by omega) h2
         exact ⟨by rw [fill_out (by rw [hcn]; omega)]; exact t1,by rw [hw2.old o (by rw [hcn]; omega)]; exact t2,by rw [hw2.frz o]; exact t3⟩
     · rename_i hsx
       split
       · simp [VF,VX,V,Owns]
       · rename_i hpx
         have f := VF.same (r := .fr x) sm hi (fun _ _ _ => rfl) (fun i => by simpa using fun e => absurd e.symm hsx) (by simp) rfl (k1.fr x)
         refine VF.like2 (fun t cs ht => ?_) (fun t ht ys sz hy => ?_) f
         · refine ⟨cs,?_⟩
           rw [hget,if_neg (fun e => by subst e; simp only at ht; rw [hs] at ht; cases ht),if_neg (fun e => ?_)]
           · exact ht
           · subst e
             exact opd_lastr_loose h (by simp only at ht; rw [ht]; rfl)
         · have hne : t ≠ s := Fr.noLast_get hno (t := x) (by rw [Fr.get_set,if_neg hpx]; exact ht)
           refine ⟨?_,rfl⟩
           rw [hget,if_neg (fun e => hne e.symm),if_neg (fun e => ?_)]
           · exact hy
           · subst e
             exact opd_lastr_loose h (by simp only at hy; rw [hy]; rfl)
   · rw [hw2.size] at hd
     simp only [Gh.fill]
     rw [k1.fresh d o hd]
     split
     · rename_i hh; obtain ⟨rfl,h1,h2⟩ := hh
       have := htags o h1 h2
       rw [k1.fresh d o hd] at this; cases this
     · rfl
end
end Go.Proofs.YtkofimhnehkdoaaGreatDoor.Rf
end
section
namespace Go.Proofs.YtkofimhnehkdoaaGreatDoor.Rf
section
variable {P:Program} {G:Nat → Option (List AV)} {g:Gh} {st:St} {a:Act} {w:World} {o:Oper} {call:CallF} {lo:Nat} {r:OpR}
set_option maxHeartbeats 4000000 in
theorem op_sound (hc : CallOK P G call) (k:Rel G g st [] a.tmps w) {i:IOp} (hk:chkOp P i o.op = true) (hr:evalOp G call lo i st = some r) : Fits P G g st r o a w := by
 cases i with
 | mv x =>
   simp only [evalOp] at hr; cases ret1_some hr
   simp only [chkOp] at hk; split at hk
   · rename_i ho; exact fits_mv k hk (.inl ho)
   · rename_i ho; exact fits_mv k hk (.inr ho)
   · cases hk
 | pick c x y =>
   simp only [chkOp] at hk; split at hk
   · rename_i ho
     simp only [Bool.and_eq_true] at hk
     simp only [evalOp] at hr; split at hr
     · rename_i t ht; cases ret1_some hr; exact fits_pick k hk.1.1 hk.1.2 hk.2 ho ht
     · cases hr
   · cases hk
 | alloc heap ty cs =>
   simp only [chkOp] at hk; split at hk
   · rename_i ho
     simp only [Bool.and_eq_true,Bool.or_eq_true] at hk
     have := fits_alloc (P := P) k hk.1 ho (ty := ty) (fun h => by
       rcases hk.2 with h2 | h2
       · exact absurd (Nat.eq_of_beq_eq_true h2) h
       · exact Nat.eq_of_beq_eq_true h2) heap
     simp only [evalOp] at hr; cases heap
     · cases ret1_some hr; exact this
     · cases ret1_some hr; exact this
   · cases hk
 | box heap x =>
   simp only [chkOp] at hk; split at hk
   · rename_i ho
     simp only [evalOp] at hr
     split at hr
     · cases hr
     · rename_i hp
       have := fits_box (P := P) k hk ho (by simpa using hp) heap
       cases heap
       · cases ret1_some hr; exact this
       · cases ret1_some hr; exact this
   · cases hk
 | build zs ps =>
   simp only [chkOp] at hk; split at hk
   · rename_i t qs ho
     simp only [Bool.and_eq_true] at hk
     obtain ⟨⟨h1,h2⟩,h3⟩ := hk
     split at h2
     · rename_i pl hpl
       simp only [evalOp] at hr
       split at hr
       · cases hr
       · rename_i hp
         split at hr
         · rename_i cs hcs; cases ret1_some hr
           exact fits_build k h1 hpl h3 h2 (by rw [ho,← arr_of qs rfl]) (by simpa using hp) hcs
         · cases hr
     · cases h2
   · cases hk
 | bslice z e n ps =>
   simp only [chkOp] at hk; split at hk
   · rename_i t m qs ho
     simp only [Bool.and_eq_true,decide_eq_true_eq] at hk
     obtain ⟨⟨⟨h1,hrt⟩,rfl⟩,h3⟩ := hk
     simp only [evalOp] at hr
     split at hr
     · cases hr
     · rename_i hp
       split at hr
       · rename_i xs hxs; cases ret1_some hr
         exact fits_bslice k h1 hrt h3 (by rw [ho,← arr_of qs rfl]) (by simpa using hp) hxs
       · cases hr
   · cases hk
 | load x mm n agg tk =>
   simp only [chkOp] at hk; split at hk
   · rename_i t y ho
     simp only [Bool.and_eq_true] at hk
     simp only [evalOp] at hr
     split at hr
     · cases hr
     split at hr
     · rename_i cs off hb
       split at hr
       · rename_i l hl
         cases tk with
         | false => cases ret1_some hr; exact fits_load k hk.1 hk.2 ho hb hl
         | true =>
           simp only [if_true] at hr
           split at hr
           · rename_i hn
             obtain ⟨rfl,rfl⟩ := hn
             split at hr
             · rename_i st' hput; cases ret1_some hr; exact fits_load_take k hk.1 hk.2 ho hb hl hput
             · cases hr
           · cases hr
       · cases hr
     · cases hr
   · cases hk
 | store x mm v n =>
   simp only [chkOp] at hk; split at hk
   · rename_i t y u ho
     simp only [Bool.and_eq_true] at hk
     obtain ⟨⟨h1,h2⟩,h3⟩ := hk
     have hty : ∃ agg,tyOk P t n agg = true := by
       simp only [Bool.or_eq_true] at h3; rcases h3 with h | h <;> exact ⟨_,h⟩
     obtain ⟨agg,hty⟩ := hty
     simp only [evalOp] at hr
     split at hr
     · cases hr
     · rename_i hp
       simp only [not_or,Bool.not_eq_false] at hp
       replace hp := hp.1
       split at hr
       · rename_i s hx
         split at hr
         · rename_i p tk xs sz hs
           split at hr
           · rename_i hh; cases ret1_some hr; exact fits_store_last k h1 h2 hty ho (by simpa using hp) hx hs hh.1 hh.2.1 hh.2.2.1 hh.2.2.2
           · cases hr
         · cases hr
       · split at hr
         · rename_i cs off hb
           split at hr
           · rename_i hn
             split at hr
             · rename_i st' hput; cases ret1_some hr; exact fits_store k h1 h2 hty ho (by simpa using hp) hb hn hput
             · cases hr
           · cases hr
         · cases hr
   · cases hk
 | nilchk x =>
   simp only [chkOp] at hk; split at hk
   · rename_i y ho
     simp only [evalOp] at hr
     split at hr
     · rename_i i q hv; cases ret1_some hr; exact fits_nilchk k hk ho hv (.inl ⟨_,_,rfl⟩)
     · rename_i i q hv; cases ret1_some hr; exact fits_nilchk k hk ho hv (.inr (.inl ⟨_,_,rfl⟩))
     · rename_i i q hv; cases ret1_some hr; exact fits_nilchk k hk ho hv (.inr (.inr ⟨_,_,rfl⟩))
     · cases hr
   · cases hk
 | bin op' x y =>
   simp only [chkOp] at hk; split at hk
   · rename_i b t x' y' t' ho
     simp only [Bool.and_eq_true,decide_eq_true_eq] at hk
     obtain ⟨⟨rfl,h1⟩,h2⟩ := hk
     simp only [evalOp] at hr
     split at hr
     · rename_i v hv; cases ret1_some hr; exact fits_bin k h1 h2 ho hv
     · cases hr
   · cases hk
 | eq neg kd x y =>
   simp only [chkOp] at hk; split at hk
   · rename_i b t x' y' t' ho
     simp only [Bool.and_eq_true,decide_eq_true_eq] at hk
     obtain ⟨⟨⟨rfl,h0⟩,h1⟩,h2⟩ := hk
     simp only [evalOp] at hr
     split at hr
     · rename_i v hv; cases ret1_some hr; exact fits_eq k h1 h2 h0 ho hv
     · cases hr
   · cases hk
 | un op' x =>
   simp only [chkOp] at hk; split at hk
   · rename_i b t x' ho
     simp only [Bool.and_eq_true,decide_eq_true_eq] at hk
     obtain ⟨rfl,h1⟩ := hk
     simp only [evalOp] at hr
     split at hr
     · rename_i v hv; cases ret1_some hr; exact fits_un k h1 ho hv
     · cases hr
   · cases hk
 | conv kk x =>
   simp only [chkOp] at hk; split at hk
   · rename_i s d x' ho
     simp only [Bool.and_eq_true] at hk
     obtain ⟨⟨h1,h2⟩,h3⟩ := hk
     split at h1
     · rename_i ks hs
       split at h2
       · rename_i k' hd
         simp only [decide_eq_true_eq] at h2; subst h2
         simp only [evalOp] at hr
         split at hr
         · rename_i k0 n hv; cases ret1_some hr; exact fits_conv k h3 hs hd ho hv
         · cases hr
       · cases h2
     · cases h1
   · cases hk
 | sconv x =>
   simp only [chkOp] at hk; split at hk
   · rename_i s d x' ho
     simp only [Bool.and_eq_true] at hk
     obtain ⟨⟨h1,h2⟩,h3⟩ := hk
     split at h1
     · rename_i hs
       split at h2
       · rename_i hd
         simp only [evalOp] at hr
         split at hr
         · rename_i n hv; cases ret1_some hr; exact fits_sconv k h3 hs hd ho hv
         · cases hr
       · cases h2
     · cases h1
   · cases hk
 | mkiface t x =>
   simp only [chkOp] at hk; split at hk
   · rename_i t' x' ho
     simp only [Bool.and_eq_true,decide_eq_true_eq] at hk
     obtain ⟨⟨rfl,h1⟩,h2⟩ := hk
     obtain ⟨e,he,hne⟩ := isIface_no h1
     simp only [evalOp] at hr
     split at hr
     · rename_i hp; cases ret1_some hr; exact fits_mkiface k h2 he hne ho hp
     · cases hr
   · cases hk
 | mkfunc f cs =>
   simp only [chkOp] at hk; split at hk
   · rename_i fn first caps ho
     simp only [Bool.and_eq_true,decide_eq_true_eq] at hk
     obtain ⟨⟨h1,h2⟩,h3⟩ := hk
     split at h1
     · simp only [decide_eq_true_eq] at h1; subst h1
       have hfirst : first = #[] := Array.eq_empty_of_size_eq_zero h2
       subst hfirst
       simp only [evalOp] at hr
       split at hr
       · rename_i hp; cases ret1_some hr; exact fits_mkfunc k h3 (by rw [ho,← arr_of caps rfl]) hp
       · cases hr
     · cases h1
   · cases hk
 | mkmap =>
   simp only [chkOp] at hk; split at hk
   · rename_i t rr ho
     simp only [evalOp] at hr; cases ret1_some hr
     simp only [Option.isNone_iff_eq_none] at hk; subst hk
     exact fits_mkmap k ho
   · cases hk
 | faddr x off =>
   simp only [chkOp] at hk; split at hk
   · rename_i s y f ho
     simp only [Bool.and_eq_true] at hk
     obtain ⟨h1,h2⟩ := hk
     have hf : ∃ n,fieldOk P s f off n = true := by
       revert h2
       repeat' split
       all_goals first | exact fun h => ⟨_,h⟩ | (intro h; cases h)
     obtain ⟨n,hf⟩ := hf
     simp only [evalOp] at hr
     split at hr
     · rename_i i q hv; cases ret1_some hr; exact fits_faddr k h1 hf ho hv (.inl ⟨_,_,rfl,rfl⟩)
     · rename_i i q hv; cases ret1_some hr; exact fits_faddr k h1 hf ho hv (.inr (.inl ⟨_,_,rfl,rfl⟩))
     · rename_i i q hv; cases ret1_some hr; exact fits_faddr k h1 hf ho hv (.inr (.inr (.inl ⟨_,_,rfl,rfl⟩)))
     · rename_i i q hv; cases ret1_some hr; exact fits_faddr k h1 hf ho hv (.inr (.inr (.inr ⟨_,_,rfl,rfl⟩)))
     · cases hr
   · cases hk
 | field x off n agg =>
   simp only [chkOp] at hk; split at hk
   · rename_i s y f ho
     simp only [Bool.and_eq_true] at hk
     simp only [evalOp] at hr
     split at hr
     · rename_i cs hv
       split at hr
       · rename_i l hl; cases ret1_some hr; exact fits_field k hk.1 hk.2 ho hv hl
       · cases hr
     · cases hr
   · cases hk
 | iaddrL x i sz =>
   simp only [chkOp] at hk; split at hk
   · rename_i t y u ho
     simp only [Bool.and_eq_true] at hk
     obtain ⟨⟨h1,h2⟩,h3⟩ := hk
     simp only [evalOp] at hr
     split at hr
     · rename_i xs ow kk j hj hv
       split at hr
       · rename_i hb
         split at hr
         · rename_i e he
           split at hr
           · rename_i hs; cases ret1_some hr; exact fits_iaddrL k h1 h2 h3 ho hv hj hb.1 hb.2 he hs
           · cases hr
         · cases hr
       · cases hr
     · rename_i id q n s kk j hj hv
       split at hr
       · rename_i hb; obtain ⟨hb1,hb2,rfl⟩ := hb; cases ret1_some hr; exact fits_iaddrR k h1 h2 h3 ho hv hj hb1 hb2
       · cases hr
     · rename_i s tk kk j hj _ _
       split at hr
       · rename_i xs sz' hv
         split at hr
         · rename_i hb; obtain ⟨hb1,rfl⟩ := hb; cases ret1_some hr; exact fits_iaddrL_last k h1 h2 h3 ho hv hj hb1
         · cases hr
       · cases hr
     · cases hr
   · cases hk
 | iaddrA x i len sz =>
   simp only [chkOp] at hk; split at hk
   · rename_i t y u ho
     simp only [Bool.and_eq_true] at hk
     obtain ⟨⟨h1,h2⟩,h3⟩ := hk
     simp only [evalOp] at hr
     split at hr
     · rename_i id q kk j hv hj
       split at hr
       · rename_i hb; cases ret1_some hr; exact fits_iaddrA k h1 h2 h3 ho hv hj hb.1 hb.2 (.inl ⟨_,_,rfl,rfl⟩)
       · cases hr
     · rename_i id q kk j hv hj
       split at hr
       · rename_i hb; cases ret1_some hr; exact fits_iaddrA k h1 h2 h3 ho hv hj hb.1 hb.2 (.inr (.inl ⟨_,_,rfl,rfl⟩))
       · cases hr
     · rename_i id q kk j hv hj
       split at hr
       · rename_i hb; cases ret1_some hr; exact fits_iaddrA k h1 h2 h3 ho hv hj hb.1 hb.2 (.inr (.inr (.inl ⟨_,_,rfl,rfl⟩)))
       · cases hr
     · rename_i id q kk j hv hj
       split at hr
       · rename_i hb; cases ret1_some hr; exact fits_iaddrA k h1 h2 h3 ho hv hj hb.1 hb.2 (.inr (.inr (.inr ⟨_,_,rfl,rfl⟩)))
       · cases hr
     · cases hr
   · cases hk
 | idxS x i =>
   simp only [chkOp] at hk; split at hk
   · rename_i t y u ho
     simp only [Bool.and_eq_true] at hk
     obtain ⟨⟨h1,h2⟩,h3⟩ := hk
     split at h3
     · rename_i hu
       simp only [evalOp] at hr
       split at hr
       · rename_i s kk j hv hj
         split at hr
         · rename_i h0
           split at hr
           · rename_i c hcc; cases ret1_some hr; exact fits_idxS k h1 h2 hu ho hv hj h0 hcc
           · cases hr
         · cases hr
       · cases hr
     · cases h3
   · cases hk
 | slcS x l h =>
   simp only [chkOp] at hk; split at hk
   · rename_i t y l' h' m' ho
     simp only [Bool.and_eq_true,Option.isNone_iff_eq_none] at hk
     obtain ⟨⟨⟨⟨h1,h2⟩,h3⟩,rfl⟩,h5⟩ := hk
     split at h5
     · rename_i hu
       simp only [evalOp] at hr
       split at hr
       · rename_i s hv
         split at hr
         · rename_i lo' hi' hl hh
           split at hr
           · rename_i hb; cases ret1_some hr; exact fits_slcS k h1 h2 h3 hu ho hv hl hh hb.1 hb.2
           · cases hr
         · cases hr
       · cases hr
     · cases h5
   · cases hk
 | slcL x l h sz =>
   simp only [chkOp] at hk; split at hk
   · rename_i t y l' h' m' ho
     simp only [Bool.and_eq_true,Option.isNone_iff_eq_none] at hk
     obtain ⟨⟨⟨⟨h1,h2⟩,h3⟩,rfl⟩,h5⟩ := hk
     simp only [evalOp] at hr
     split at hr
     · rename_i xs ow hv
       split at hr
       · rename_i lo' hi' hl hh
         split at hr
         · rename_i hb; cases ret1_some hr; exact fits_slcL k h1 h2 h3 h5 ho hv hb.2.2 hl hh hb.1 hb.2.1
         · cases hr
       · cases hr
     · rename_i id q n s hv
       split at hr
       · rename_i lo' hi' hl hh
         split at hr
         · rename_i hb; obtain ⟨hb1,hb2,rfl⟩ := hb; cases ret1_some hr; exact fits_slcR k h1 h2 h3 h5 ho hv hl hh hb1 hb2
         · cases hr
       · cases hr
     · cases hr
   · cases hk
 | lookup kd m kx z ok tk =>
   simp only [chkOp] at hk; split at hk
   · rename_i t m' k' ok' ho
     simp only [Bool.and_eq_true,decide_eq_true_eq] at hk
     obtain ⟨⟨⟨h1,h2⟩,h3⟩,rfl⟩ := hk
     simp only [evalOp] at hr
     split at hr
     · rename_i id hm
       split at hr
       · rename_i es hes
         split at hr
         · cases hr
         · rename_i hp
           split at hr
           · rename_i j v hfk
             cases tk with
             | true =>
               simp only [if_true] at hr
               split at hr
               · rename_i hlv; cases ret1_some hr; exact fits_lookup_take k h1 h2 h3 ho (by simpa using hp) hm hes hfk hlv.2
               · cases hr
             | false =>
               cases ret1_some hr
               exact fits_lookup k h1 h2 h3 ho (by simpa using hp) (.inr ⟨id,hm,hes⟩) hfk
           · rename_i hfk
             cases ret1_some hr
             exact fits_lookup k h1 h2 h3 ho (by simpa using hp) (.inr ⟨id,hm,hes⟩) hfk
           · cases hr
       · cases hr
     · rename_i hm
       split at hr
       · cases hr
       · rename_i hp
         simp only [findKey] at hr
         cases ret1_some hr
         exact fits_lookup k h1 h2 h3 ho (by simpa using hp) (.inl ⟨hm,rfl⟩) (r := none) rfl
     · cases hr
   · cases hk
 | mapset kd m kx v z =>
   simp only [chkOp] at hk; split at hk
   · rename_i t m' k' v' ho
     simp only [Bool.and_eq_true] at hk
     obtain ⟨⟨⟨h1,h2⟩,h3⟩,h4⟩ := hk
     simp only [evalOp] at hr
     split at hr
     · cases hr
     · rename_i hp
       simp only [not_or,Bool.not_eq_false] at hp
       split at hr
       · rename_i id hm
         split at hr
         · rename_i es hes
           split at hr
           · split at hr
             · rename_i j v hfk; cases ret1_some hr; exact fits_mapset k h1 h2 h3 h4 ho hp.1 hp.2 hm hes hfk
             · rename_i hfk; cases ret1_some hr; exact fits_mapset k h1 h2 h3 h4 ho hp.1 hp.2 hm hes hfk
             · cases hr
           · cases hr
         · cases hr
       · cases hr
   · cases hk
 | len x kd =>
   simp only [chkOp] at hk; split at hk
   · rename_i c ho
     split at hk
     · rename_i hcal
       split at hk
       · rename_i x' t ha hts
         simp only [Bool.and_eq_true] at hk
         obtain ⟨h1,h2⟩ := hk
         rw [call_eq hcal ha hts] at ho
         simp only [evalOp] at hr
         split at hr
         · rename_i xs ow hv; cases ret1_some hr
           split at h2 <;> first | (cases h2; done) | (exfalso; contradiction) | (rename_i e hu; exact fits_len k h1 hu ho (.inl ⟨xs,ow,hv,rfl,_,rfl⟩))
         · rename_i id q n sz hv; cases ret1_some hr
           split at h2 <;> first | (cases h2; done) | (exfalso; contradiction) | (rename_i e hu; exact fits_lenR k h1 hu hv ho)
         · rename_i s hv; cases ret1_some hr
           split at h2 <;> first | (cases h2; done) | (exfalso; contradiction) | (rename_i hu; exact fits_len k h1 hu ho (.inr (.inl ⟨s,hv,rfl,rfl⟩))) | cases h2
         · rename_i hv; cases ret1_some hr
           split at h2 <;> first | (cases h2; done) | (exfalso; contradiction) | (rename_i kt e hu; exact fits_len k h1 hu ho (n := 0) (.inr (.inr (.inl ⟨hv,rfl,_,_,rfl⟩))))
         · rename_i id hv
           split at hr
           · rename_i es hes; cases ret1_some hr
             split at h2 <;> first | (cases h2; done) | (exfalso; contradiction) | (rename_i kt e hu; exact fits_len k h1 hu ho (.inr (.inr (.inr ⟨id,es,hv,hes,rfl,_,_,rfl⟩))))
           · cases hr
         · cases hr
       · cases hk
     · cases hk
   · cases hk
 | konst v =>
   simp only [chkOp] at hk; split at hk
   · rename_i c ho
     split at hk
     · rename_i hcal
       split at hk
       · rename_i x' t ha hts
         rw [call_eq hcal ha hts] at ho
         split at hk
         · rename_i n e m hu
           simp only [decide_eq_true_eq] at hk; subst hk
           simp only [evalOp] at hr; cases ret1_some hr
           exact fits_konst k hu ho
         · cases hk
       · cases hk
     · cases hk
   · cases hk
 | append x y sz e bytes pend =>
   simp only [chkOp] at hk; split at hk
   · rename_i c ho
     split at hk
     · rename_i hcal
       split at hk
       · rename_i x' y' t t2 ha hts
         simp only [Bool.and_eq_true] at hk
         obtain ⟨⟨⟨⟨h1,h2⟩,h3⟩,hrt⟩,h4⟩ := hk
         rw [call_eq hcal ha hts] at ho
         simp only [evalOp] at hr
         split at hr
         · rename_i xs ow hv
           split at hr
           · rename_i hown
             split at hr
             · rename_i ys ow2 hy
               split at hr
               · rename_i hb
                 have hsrc : ∀ g',VX g' w (opd st.fr x).2 a.tmps (opd (opd st.fr x).2 y).1 (Act.opd a.tmps y') → ∃ news,Src P g' w sz ys (Act.opd a.tmps y') news := fun g' h => by
                   rw [hy] at h; exact Src.list h hb.1
                 cases pend with
                 | true =>
                   simp only [if_true] at hr
                   split at hr
                   · rename_i h1'; cases ret1_some hr
                     exact fits_append k h1 h2 h3 hrt h4 ho hv hown.1 hown.2 hsrc hb.2.1 hb.2.2 true (fun _ => h1'.1)
                   · cases hr
                 | false => cases ret1_some hr; exact fits_append k h1 h2 h3 hrt h4 ho hv hown.1 hown.2 hsrc hb.2.1 hb.2.2 false (fun h => by cases h)
               · cases hr
             · rename_i s hy
               split at hr
               · rename_i hb
                 obtain ⟨rfl,hb2,rfl,hb3⟩ := hb
                 cases ret1_some hr
                 exact fits_append (ys := s.map fun b => AV.int .u8 b.toNat) k h1 h2 h3 hrt h4 ho hv hown.1 hown.2 (fun g' h => by
                   rw [hy] at h; simp only [VX,V] at h; rw [h]; exact ⟨_,Src.str s⟩) (by simpa using hb2) (by simpa using hb3) false (fun h => by cases h)
               · cases hr
             · cases hr
           · cases hr
         · cases hr
       · cases hk
     · cases hk
   · cases hk
 | min x y =>
   simp only [chkOp] at hk; split at hk
   · rename_i c ho
     split at hk
     · rename_i hcal
       split at hk
       · rename_i x' y' ha
         simp only [Bool.and_eq_true] at hk
         rw [call_eq hcal ha rfl] at ho
         simp only [evalOp] at hr
         split at hr
         · rename_i h1 h2; cases ret1_some hr; exact fits_min k hk.1 hk.2 ho h1 h2
         · cases hr
       · cases hk
     · cases hk
   · cases hk
 | max x y =>
   simp only [chkOp] at hk; split at hk
   · rename_i c ho
     split at hk
     · rename_i hcal
       split at hk
       · rename_i x' y' ha
         simp only [Bool.and_eq_true] at hk
         rw [call_eq hcal ha rfl] at ho
         simp only [evalOp] at hr
         split at hr
         · rename_i h1 h2; cases ret1_some hr; exact fits_max k hk.1 hk.2 ho h1 h2
         · cases hr
       · cases hk
     · cases hk
   · cases hk
 | extract x i =>
   simp only [chkOp] at hk; split at hk
   · rename_i x' i' ho
     simp only [Bool.and_eq_true,decide_eq_true_eq] at hk
     obtain ⟨rfl,h1⟩ := hk
     simp only [evalOp] at hr
     split at hr
     · rename_i vs hv
       split at hr
       · rename_i u hu
         split at hr
         · rename_i hp; cases ret1_some hr; exact fits_extract k h1 ho hv hu hp
         · cases hr
       · cases hr
     · cases hr
   · cases hk
 | assert x t z ok =>
   simp only [chkOp] at hk; split at hk
   · rename_i x' xt t' ok' ho
     simp only [Bool.and_eq_true,decide_eq_true_eq] at hk
     obtain ⟨⟨⟨⟨rfl,rfl⟩,h1⟩,h2⟩,h3⟩ := hk
     obtain ⟨e,he,hne⟩ := isIface_no h2
     simp only [evalOp] at hr
     split at hr
     · rename_i u v hv
       split at hr
       · rename_i hut; subst hut; cases ret1_some hr
         exact fits_assert k h1 he hne h3 ho (.inl ⟨v,hv,rfl⟩)
       · rename_i hut
         split at hr
         · rename_i hok; cases ret1_some hr
           exact fits_assert k h1 he hne h3 ho (.inr ⟨hok,rfl,.inr ⟨u,v,hut,hv⟩⟩)
         · cases hr
     · rename_i hv
       split at hr
       · rename_i hok; cases ret1_some hr
         exact fits_assert k h1 he hne h3 ho (.inr ⟨hok,rfl,.inl hv⟩)
       · cases hr
     · cases hr
   · cases hk
 | panic x =>
   simp only [chkOp] at hk; split at hk
   · rename_i x' ho
     simp only [evalOp] at hr
     split at hr
     · rename_i t v hv; simp only [Option.some.injEq] at hr; subst hr; exact fits_panic k hk ho hv
     · cases hr
   · cases hk
 | call f xs q =>
   simp only [chkOp] at hk; split at hk
   · rename_i c ho
     split at hk
     · rename_i f' hcal
       simp only [Bool.and_eq_true] at hk
       rw [call_eq hcal rfl rfl] at ho
       simp only [evalOp] at hr
       split at hr
       · cases hr
       · rename_i hp
         split at hr
         · rename_i fid caps hv
           split at hr
           · cases hr
           · rename_i hpc
             split at hr
             · rename_i v hp' hcall; cases ret1_some hr
               exact fits_call (r := .ret v hp') hc k hk.1 hk.2 ho (by simpa using hp) hv (by simpa using hpc) hcall
             · rename_i v hp' hcall; simp only [Option.some.injEq] at hr; subst hr
               exact fits_call (r := .pan v hp') hc k hk.1 hk.2 ho (by simpa using hp) hv (by simpa using hpc) hcall
             · cases hr
         · cases hr
     · cases hk
   · cases hk
 | sdata x e =>
   simp only [chkOp] at hk; split at hk
   · rename_i c ho
     split at hk
     · rename_i hcal
       split at hk
       · rename_i x' ha
         rw [call_eq hcal ha rfl] at ho
         simp only [evalOp] at hr
         split at hr
         · rename_i xs hv; cases ret1_some hr; exact fits_sdata_nil k hk ho hv
         · rename_i xs e' hv
           split at hr
           · rename_i hh; cases ret1_some hr
             obtain ⟨q1,rfl,q2,q3⟩ := hh
             exact fits_sdata k hk ho hv (by intro h; rw [h] at q1; simp at q1) q2 q3
           · cases hr
         · cases hr
       · cases hk
     · cases hk
   · cases hk
 | ustr p n e =>
   simp only [chkOp] at hk; split at hk
   · rename_i c ho
     split at hk
     · rename_i hcal
       split at hk
       · rename_i p' n' pt it ha hts
         simp only [Bool.and_eq_true] at hk
         rw [call_eq hcal ha hts] at ho
         obtain ⟨⟨h1,h2⟩,h3⟩ := hk
         simp only [evalOp] at hr
         split at hr
         · rename_i m hp hn
           split at hr
           · rename_i hm; subst hm; cases ret1_some hr; exact fits_ustr_nil k h1 h2 ho hp hn
           · cases hr
         · rename_i id q m hp hn
           split at hr
           · rename_i t0 cs hid
             split at hr
             · rename_i hh
               obtain ⟨⟨q1,q2⟩,⟨q3,q4⟩,q5,q6⟩ := hh
               split at hr
               · rename_i l hl
                 split at hr
                 · rename_i bs hb; cases ret1_some hr
                   subst q2; subst q3
                   split at h3
                   · rename_i e2 hu
                     simp only [Bool.and_eq_true] at h3
                     have he := Nat.eq_of_beq_eq_true h3.1
                     subst he
                     exact fits_ustrR k h1 h2 hu (Nat.eq_of_beq_eq_true h3.2) ho hp hn hid q4 q5 q6 hl hb
                   · cases h3
                 · cases hr
               · cases hr
             · cases hr
           · cases hr
         · rename_i xs e' m hp hn
           split at hr
           · rename_i bs hb
             split at hr
             · rename_i hh; cases ret1_some hr
               obtain ⟨rfl,q1,rfl,q2⟩ := hh
               split at h3
               · rename_i e2 hu
                 simp only [Bool.and_eq_true] at h3
                 have he := Nat.eq_of_beq_eq_true h3.1
                 subst he
                 exact fits_ustr k h1 h2 hu (Nat.eq_of_beq_eq_true h3.2) ho hp hn hb (by intro h; rw [h] at q1; simp at q1) (by omega)
               · cases h3
             · cases hr
           · cases hr
         · cases hr
       · cases hk
     · cases hk
   · cases hk
 | uptr x u n =>
   simp only [chkOp] at hk; split at hk
   · rename_i s d x' ho
     simp only [Bool.and_eq_true] at hk
     simp only [evalOp] at hr
     split at hr
     · rename_i i j hv
       split at hr
       · rename_i ty cs hh
         split at hr
         · rename_i hq; cases ret1_some hr
           obtain ⟨rfl,rfl,q1,q2,q3⟩ := hq
           exact fits_uptr k hk.2 hk.1 ho hv hh q1 q2 (by intro h; rw [h] at q2; simp at q2; exact q3 q2.symm)
         · cases hr
       · cases hr
     · cases hr
   · cases hk
 | ident f x =>
   simp only [chkOp] at hk; split at hk
   · rename_i c ho
     split at hk
     · rename_i f' hcal
       simp only [Bool.and_eq_true,decide_eq_true_eq] at hk
       obtain ⟨⟨rfl,h1⟩,h2⟩ := hk
       split at h2
       · rename_i x' ha
         rw [call_eq hcal ha rfl] at ho
         simp only [evalOp] at hr
         split at hr
         · rename_i i j hv; cases ret1_some hr
           unfold identOk at h1
           split at h1
           · rename_i fn hf
             simp only [Bool.and_eq_true,Bool.not_eq_true',beq_iff_eq,beq_eq_false_iff_ne,ne_eq,Option.isNone_iff_eq_none] at h1
             obtain ⟨⟨⟨q1,q2⟩,q3⟩,q4⟩ := h1
             have hfind : Extern.find fn = some Extern.AbiNoEscape.same := noEscape_find q4
             exact fits_ident k hf (by simpa using q1) (by simp [q2]) q3 hfind h2 ho hv
           · cases h1
         · cases hr
       · cases h2
     · cases hk
   · cases hk
 | bytesS x =>
   simp only [chkOp] at hk; split at hk
   · rename_i s d y ho
     simp only [Bool.and_eq_true] at hk
     obtain ⟨h1,h2⟩ := hk
     simp only [evalOp] at hr
     split at hr
     · rename_i bs hv
       split at hr
       · rename_i hl; cases ret1_some hr; exact fits_bytesS k h2 h1 ho hv hl
       · cases hr
     · cases hr
   · cases hk
 | idxB f x y =>
   simp only [chkOp] at hk; split at hk
   · rename_i c ho
     split at hk
     · rename_i f' hcal
       simp only [Bool.and_eq_true,decide_eq_true_eq] at hk
       obtain ⟨⟨rfl,h1⟩,h2⟩ := hk
       split at h2
       · rename_i x' y' ha
         simp only [Bool.and_eq_true] at h2
         rw [call_eq hcal ha rfl] at ho
         simp only [evalOp] at hr
         split at hr
         · rename_i bs n hv hw; cases ret1_some hr
           exact fits_idxB k h1 h2.1 h2.2 ho hv hw
         · cases hr
       · cases h2
     · cases hk
   · cases hk
 | copyS x y =>
   simp only [chkOp] at hk; split at hk
   · rename_i c ho
     split at hk
     · rename_i hcal
       split at hk
       · rename_i x' y' t t2 ha hts
         simp only [Bool.and_eq_true] at hk
         obtain ⟨⟨h1,h2⟩,h3⟩ := hk
         rw [call_eq hcal ha hts] at ho
         simp only [evalOp] at hr
         split at hr
         · rename_i id q n sz s hv hw
           split at hr
           · cases hr
           · rename_i h0
             split at hr
             · rename_i t0 cs hid
               split at hr
               · rename_i hq; obtain ⟨_,rfl,hfit⟩ := hq; cases ret1_some hr
                 exact fits_copyS k h1 h2 h3 ho hv hw h0 hid hfit
               · cases hr
             · cases hr
         · cases hr
       · cases hk
     · cases hk
   · cases hk
 | appR x y sz bytes =>
   simp only [chkOp] at hk; split at hk
   · rename_i c ho
     split at hk
     · rename_i hcal
       split at hk
       · rename_i x' y' t t2 ha hts
         simp only [Bool.and_eq_true] at hk
         obtain ⟨⟨⟨h1,h2⟩,h3⟩,h4⟩ := hk
         rw [call_eq hcal ha hts] at ho
         simp only [evalOp] at hr
         split at hr
         · rename_i ys ow hv hw
           split at hr
           · rename_i hq; obtain ⟨q1,q2,q3,q4⟩ := hq; cases ret1_some hr
             exact fits_appR_nil k h1 h2 h3 h4 ho hv hw (by intro e; rw [e] at q1; simp at q1) q2 q3 q4
           · cases hr
         · rename_i id q n s ys ow hv hw
           split at hr
           · rename_i t0 cs hid
             split at hr
             · rename_i hq; obtain ⟨⟨_,rfl,rfl⟩,q2,q3,q4,q5⟩ := hq; cases ret1_some hr
               exact fits_appR k h1 h2 h3 h4 ho hv hw q3 hid q2 q4 q5
             · cases hr
           · cases hr
         · cases hr
       · cases hk
     · cases hk
   · cases hk
 | mkbuf z e n c bytes =>
   simp only [chkOp] at hk; split at hk
   · rename_i t n' c' ho
     simp only [Bool.and_eq_true] at hk
     obtain ⟨⟨⟨h1,h2⟩,h3⟩,h4⟩ := hk
     simp only [evalOp] at hr
     split at hr
     · rename_i l m hn hc
       split at hr
       · rename_i hq; cases ret1_some hr
         exact fits_mkbuf k h1 h2 h3 h4 ho hn hc hq.1 hq.2.1 hq.2.2.1 hq.2.2.2
       · cases hr
     · cases hr
   · cases hk
 | slcA x l h len sz =>
   simp only [chkOp] at hk; split at hk
   · rename_i t y l' h' m' ho
     simp only [Bool.and_eq_true,Option.isNone_iff_eq_none] at hk
     obtain ⟨⟨⟨⟨h1,h2⟩,h3⟩,rfl⟩,h5⟩ := hk
     simp only [evalOp] at hr
     split at hr
     · rename_i id q hv
       split at hr
       · rename_i ty cs lo' hi' hcs hl hh
         split at hr
         · rename_i hb; obtain ⟨hb1,hb2,hb3,hb4⟩ := hb; cases ret1_some hr; exact fits_slcA k h1 h2 h3 h5 ho hv hcs hl hh hb1 hb2 hb3 hb4
         · cases hr
       · cases hr
     · cases hr
   · cases hk
 | strL x =>
   simp only [chkOp] at hk; split at hk
   · rename_i s d y ho
     simp only [Bool.and_eq_true] at hk
     obtain ⟨h1,h2⟩ := hk
     simp only [evalOp] at hr
     split at hr
     · rename_i xs ow hv
       split at hr
       · rename_i bs hb; cases ret1_some hr; exact fits_strL k h2 h1 ho hv hb
       · cases hr
     · rename_i id q n sz hv
       split at hr
       · rename_i ty cs hcs
         split at hr
         · rename_i hs; subst hs
           split at hr
           · rename_i l hl
             split at hr
             · rename_i bs hb; cases ret1_some hr; exact fits_strR k h2 h1 ho hv hcs hl hb
             · cases hr
           · cases hr
         · cases hr
       · cases hr
     · cases hr
   · cases hk
 | mkroom f e x =>
   simp only [chkOp] at hk; split at hk
   · rename_i c ho
     split at hk
     · rename_i f' hcal
       simp only [Bool.and_eq_true,decide_eq_true_eq] at hk
       obtain ⟨⟨rfl,h1⟩,h2⟩ := hk
       split at h2
       · rename_i x' ha
         rw [call_eq hcal ha rfl] at ho
         simp only [evalOp] at hr
         split at hr
         · rename_i n hv
           split at hr
           · rename_i hq; cases ret1_some hr; exact fits_room k h1 h2 ho hv hq.1 hq.2
           · cases hr
         · cases hr
       · cases h2
     · cases hk
   · cases hk
 | slcR s b =>
   simp only [chkOp] at hk; split at hk
   · rename_i t y b' ho
     simp only [Bool.and_eq_true] at hk
     obtain ⟨⟨h1,h2⟩,h3⟩ := hk
     simp only [evalOp] at hr
     split at hr
     · rename_i n e kk i hv hw
       split at hr
       · rename_i h0; subst h0; cases ret1_some hr; exact fits_cutroom k h1 h2 h3 ho hv hw
       · cases hr
     · cases hr
   · cases hk
 | capN x =>
   simp only [chkOp] at hk; split at hk
   · rename_i c ho
     split at hk
     · rename_i hcal
       split at hk
       · rename_i x' t ha hts
         simp only [Bool.and_eq_true] at hk
         obtain ⟨h1,h2⟩ := hk
         split at h2
         · rename_i e hu
           rw [call_eq hcal ha hts] at ho
           simp only [evalOp] at hr
           split at hr
           · rename_i hv; cases ret1_some hr; exact fits_capN k h1 hu hv ho
           · cases hr
         · cases h2
       · cases hk
     · cases hk
   · cases hk
 | copyN x y =>
   simp only [chkOp] at hk; split at hk
   · rename_i c ho
     split at hk
     · rename_i hcal
       split at hk
       · rename_i x' y' t t2 ha hts
         simp only [Bool.and_eq_true] at hk
         obtain ⟨⟨h1,h2⟩,h3⟩ := hk
         rw [call_eq hcal ha hts] at ho
         simp only [evalOp] at hr
         split at hr
         · rename_i o1 o2 hv hw; cases ret1_some hr; exact fits_copyN k h1 h2 h3 ho hv hw
         · cases hr
       · cases hk
     · cases hk
   · cases hk
 | mkslice z e n c bytes =>
   simp only [chkOp] at hk; split at hk
   · rename_i t n' c' ho
     simp only [Bool.and_eq_true] at hk
     obtain ⟨⟨⟨h1,h2⟩,h3⟩,h4⟩ := hk
     simp only [evalOp] at hr
     split at hr
     · rename_i l m hn hc
       split at hr
       · rename_i hq; cases ret1_some hr
         exact fits_mkslice k h1 h2 h3 h4 ho hn hc hq.1 hq.2.1 hq.2.2.1 hq.2.2.2
       · cases hr
     · cases hr
   · cases hk
end
end Go.Proofs.YtkofimhnehkdoaaGreatDoor.Rf
end
