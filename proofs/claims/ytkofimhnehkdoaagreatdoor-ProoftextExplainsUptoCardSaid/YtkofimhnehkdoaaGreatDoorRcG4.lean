/- A part of the proof: see the last text. -/
import Derived.Test.YtkofimhnehkdoaaGreatDoorRcG3
import Derived.Laws.Slices
import Derived.Laws.AppendOwn
import Derived.Below
set_option linter.unusedVariables false
set_option linter.unusedSimpArgs false
section
namespace Go.Proofs.YtkofimhnehkdoaaGreatDoor.Rf
section
variable {P:Program} {G:Nat → Option (List AV)} {g g' : Gh} {st:St} {a:Act} {w w' : World} {o:Oper} {tm:Array Value} {ps:List (AV × Value)}
def isConstNil : Operand → Bool
 | .const .nilIface => true
 | _ => false
def eqOk (P:Program) (k:EqK) (t:TypeId) (x y:Operand) : Bool :=
 match k,P.underlying t with
 | .bool,some .bool => true
 | .ptr,some (.pointer e) => (match P.info? e with | some i => decide (0 < i.size) | none => false)
 | .iface,some (.interface _) => isConstNil x || isConstNil y
 | .ifaceT tx,some (.interface _) => (match P.info? tx with | some i => i.comparable | none => false) && (match P.underlying tx with | some (.int _) => true | _ => false)
 | .func,some (.func _ _ _) => true
 | .map,some (.map _ _) => true
 | .slice,some (.slice _) => true
 | _,_ => false
section
variable (d:Nat) {t:TypeId}
theorem eqIn_bool (hu:P.underlying t = some .bool) (m n:Bool) : (Op.equalIn (d + 1) t (.bool m) (.bool n)).run P w = .ok (m == n) w := by simp [Op.equalIn,run_underlying hu]
theorem eqIn_pnn {e:TypeId} (hu:P.underlying t = some (.pointer e)) (y:Option Addr) : (Op.equalIn (d + 1) t (.pointer none) (.pointer y)).run P w = .ok y.isNone w := by simp [Op.equalIn,run_underlying hu]
theorem eqIn_psn {e:TypeId} (hu:P.underlying t = some (.pointer e)) (x:Addr) : (Op.equalIn (d + 1) t (.pointer (some x)) (.pointer none)).run P w = .ok false w := by simp [Op.equalIn,run_underlying hu]
theorem eqIn_pss {e:TypeId} (hu:P.underlying t = some (.pointer e)) {i:TypeInfo} (hi:P.info? e = some i) (h0:0 < i.size) (b o1 o2:Nat) : (Op.equalIn (d + 1) t (.pointer (some ⟨b,o1,none⟩)) (.pointer (some ⟨b,o2,none⟩))).run P w = .ok (o1 == o2) w := by
 have hd : ((⟨b,o1,none⟩ : Addr) == ⟨b,o2,none⟩) = (o1 == o2) := by
   rw [Bool.eq_iff_iff]; simp
 simp [Op.equalIn,run_underlying hu,sizeOf,typeInfo,hi,Nat.ne_of_gt h0,sameAddr,hd]
theorem eqIn_inn {ms:Array (String × TypeId)} (hu:P.underlying t = some (.interface ms)) : (Op.equalIn (d + 1) t .nilIface .nilIface).run P w = .ok true w := by simp [Op.equalIn,run_underlying hu]
theorem eqIn_ins {ms:Array (String × TypeId)} (hu:P.underlying t = some (.interface ms)) (x:TypeId) (v:Value) : (Op.equalIn (d + 1) t .nilIface (.iface x v)).run P w = .ok false w := by simp [Op.equalIn,run_underlying hu]
theorem eqIn_isn {ms:Array (String × TypeId)} (hu:P.underlying t = some (.interface ms)) (x:TypeId) (v:Value) : (Op.equalIn (d + 1) t (.iface x v) .nilIface).run P w = .ok false w := by simp [Op.equalIn,run_underlying hu]
theorem eqIn_iii {ms:Array (String × TypeId)} (hu:P.underlying t = some (.interface ms)) {tx:TypeId} {i:TypeInfo} {q:IntKind} (hi:P.info? tx = some i) (hc:i.comparable = true) (hx:P.underlying tx = some (.int q)) (k:IntKind) (a b:Int) : (Op.equalIn (d + 2) t (.iface tx (.int k a)) (.iface tx (.int k b))).run P w = .ok (a == b) w := by simp [Op.equalIn,run_underlying hu,run_underlying hx,typeInfo,hi,hc]
theorem eqIn_iij {ms:Array (String × TypeId)} (hu:P.underlying t = some (.interface ms)) {tx ty:TypeId} (hne:tx ≠ ty) (vx vy:Value) : (Op.equalIn (d + 1) t (.iface tx vx) (.iface ty vy)).run P w = .ok false w := by simp [Op.equalIn,run_underlying hu,hne]
theorem eqIn_fnn {ps rs:Array TypeId} {vd:Bool} (hu:P.underlying t = some (.func ps rs vd)) : (Op.equalIn (d + 1) t .nilFunc .nilFunc).run P w = .ok true w := by simp [Op.equalIn,run_underlying hu]
theorem eqIn_fns {ps rs:Array TypeId} {vd:Bool} (hu:P.underlying t = some (.func ps rs vd)) (f:Fn) (x y:Array Value) : (Op.equalIn (d + 1) t .nilFunc (.func f x y)).run P w = .ok false w := by simp [Op.equalIn,run_underlying hu]
theorem eqIn_fsn {ps rs:Array TypeId} {vd:Bool} (hu:P.underlying t = some (.func ps rs vd)) (f:Fn) (x y:Array Value) : (Op.equalIn (d + 1) t (.func f x y) .nilFunc).run P w = .ok false w := by simp [Op.equalIn,run_underlying hu]
theorem eqIn_mnx {k e:TypeId} (hu:P.underlying t = some (.map k e)) (y:Option Nat) : (Op.equalIn (d + 1) t (.map none) (.map y)).run P w = .ok y.isNone w := by simp [Op.equalIn,run_underlying hu]
theorem eqIn_msn {k e:TypeId} (hu:P.underlying t = some (.map k e)) (y:Nat) : (Op.equalIn (d + 1) t (.map (some y)) (.map none)).run P w = .ok false w := by simp [Op.equalIn,run_underlying hu]
theorem eqIn_snx {e:TypeId} (hu:P.underlying t = some (.slice e)) (y:Option Addr) (a b c d' : Nat) : (Op.equalIn (d + 1) t (.slice none a b) (.slice y c d')).run P w = .ok y.isNone w := by simp [Op.equalIn,run_underlying hu]
theorem eqIn_ssn {e:TypeId} (hu:P.underlying t = some (.slice e)) (y:Addr) (a b c d' : Nat) : (Op.equalIn (d + 1) t (.slice (some y) a b) (.slice none c d')).run P w = .ok false w := by simp [Op.equalIn,run_underlying hu]
end
def odd : Value → Bool
 | .int _ _ | .float _ _ | .complex _ _ _ | .string _ => false
 | _ => true
theorem fits_eq_of (k:Rel G g st [] a.tmps w) {x' y' : Operand} {neg:Bool} {t t' : TypeId} (ho:o.op = .binOp (if neg then .neq else .eql) t x' y' t') {X Y:Value} (hX:Act.opd a.tmps x' = X) (hY:Act.opd a.tmps y' = Y) {b:Bool} (h1:odd X = true)
   (hg:∀ op,(eqGuard op t x' y' X Y).run P w = .ok () w) (h:(Op.equalIn (9999 + 1) t X Y).run P w = .ok b w) : Fits P G g st (.val (.bool (if neg then !b else b)) st) o a w := by
 refine fits_bool k ?_
 have h2 : (Op.equal t X Y).run P w = .ok b w := h
 cases neg
 · have ho' : o.op = .binOp .eql t x' y' t' := ho
   simp only [execOp,ho',Act.eval_eq,hX,hY,Sem.run_bind,hg,Result.andThen_ok,Bool.false_eq_true,if_false]
   cases X <;> simp [odd] at h1 <;> simp [binOp,h2]
 · have ho' : o.op = .binOp .neq t x' y' t' := ho
   simp only [execOp,ho',Act.eval_eq,hX,hY,Sem.run_bind,hg,Result.andThen_ok,if_true]
   cases X <;> simp [odd] at h1 <;> simp [binOp,h2]
theorem eqGuard_plain {op:BinOp} {t:TypeId} {x y:Operand} {X Y:Value} (h1:∀ cs,X ≠ .agg cs) (h2:X ≠ .nilIface ∨ Y ≠ .nilIface) : (eqGuard op t x y X Y).run P w = .ok () w := by
 unfold eqGuard
 cases op <;> simp only [] <;> try rfl
 all_goals
   cases X <;> cases Y <;> first
     | rfl
     | (exact absurd rfl (h1 _))
     | (rcases h2 with h2 | h2 <;> exact absurd rfl h2)
theorem eqGuard_nil {op:BinOp} {t:TypeId} {x y:Operand} (h:(isConstNil x || isConstNil y) = true) : (eqGuard op t x y .nilIface .nilIface).run P w = .ok () w := by
 unfold eqGuard
 cases op <;> simp only [] <;> try rfl
 all_goals
   cases x <;> cases y <;> first
     | rfl
     | (simp [isConstNil] at h; done)
theorem fits_eq (k:Rel G g st [] a.tmps w) {x y:Opd} {x' y' : Operand} (hx:opdOk x x' = true) (hy:opdOk y y' = true) {neg:Bool} {kd:EqK} {t t' : TypeId} (hk:eqOk P kd t x' y' = true)
   (ho:o.op = .binOp (if neg then .neq else .eql) t x' y' t') {b:Bool} (h:eqAV kd (opd st.fr x).1 (opd st.fr y).1 = some b) : Fits P G g st (.val (.bool (if neg then !b else b)) st) o a w := by
 have hr := k.read hx
 have hs := k.read hy
 generalize (opd st.fr x).1 = p at *
 generalize (opd st.fr y).1 = q at *
 unfold eqOk at hk
 cases kd <;> cases hu : P.underlying t <;> simp only [hu] at hk <;> try (simp at hk; done)
 all_goals
   rename_i d
   cases d <;> simp only [] at hk <;> try (simp at hk; done)
 · -- bool
   cases p <;> cases q <;> simp [eqAV] at h
   simp only [VX,V] at hr hs; subst h
   exact fits_eq_of k ho hr hs rfl (fun op => eqGuard_plain (by simp) (by simp)) (eqIn_bool _ hu _ _)
 · -- ptr
   cases p <;> cases q <;> simp only [eqAV] at h <;> try (cases h; done)
   · simp only [VX,V] at hr hs; obtain ⟨b1,r1,r2⟩ := hr; obtain ⟨b2,s1,s2⟩ := hs
     split at h <;> simp at h
     subst h; rename_i e1; subst e1
     rw [r1] at s1; cases s1
     rename_i e _ _ _
     cases hi : P.info? e with
     | none => simp [hi] at hk
     | some i =>
       simp [hi] at hk
       exact fits_eq_of k ho r2 s2 rfl (fun op => eqGuard_plain (by simp) (by simp)) (eqIn_pss _ hu hi hk _ _ _)
   · simp only [VX,V] at hr hs; obtain ⟨b1,r1,r2⟩ := hr; cases h
     exact fits_eq_of k ho r2 hs rfl (fun op => eqGuard_plain (by simp) (by simp)) (eqIn_psn _ hu _)
   · simp only [VX,V] at hr hs; obtain ⟨b1,s1,s2⟩ := hs; cases h
     exact fits_eq_of k ho hr s2 rfl (fun op => eqGuard_plain (by simp) (by simp)) (eqIn_pnn _ hu _)
   · simp only [VX,V] at hr hs; cases h
     exact fits_eq_of k ho hr hs rfl (fun op => eqGuard_plain (by simp) (by simp)) (eqIn_pnn _ hu _)
 · -- iface
   cases p <;> cases q <;> simp only [eqAV] at h <;> try (cases h; done)
   · simp only [VX,V] at hr hs; obtain ⟨u,r2,_⟩ := hr; cases h
     exact fits_eq_of k ho r2 hs rfl (fun op => eqGuard_plain (by simp) (by simp)) (eqIn_isn _ hu _ _)
   · simp only [VX,V] at hr hs; obtain ⟨u,s2,_⟩ := hs; cases h
     exact fits_eq_of k ho hr s2 rfl (fun op => eqGuard_plain (by simp) (by simp)) (eqIn_ins _ hu _ _)
   · simp only [VX,V] at hr hs; cases h
     exact fits_eq_of k ho hr hs rfl (fun op => eqGuard_nil hk) (eqIn_inn _ hu)
 · -- func
   cases p <;> cases q <;> simp only [eqAV] at h <;> try (cases h; done)
   · simp only [VX,V] at hr hs; obtain ⟨u,r2,_⟩ := hr; cases h
     exact fits_eq_of k ho r2 hs rfl (fun op => eqGuard_plain (by simp) (by simp)) (eqIn_fsn _ hu _ _ _)
   · simp only [VX,V] at hr hs; obtain ⟨u,s2,_⟩ := hs; cases h
     exact fits_eq_of k ho hr s2 rfl (fun op => eqGuard_plain (by simp) (by simp)) (eqIn_fns _ hu _ _ _)
   · simp only [VX,V] at hr hs; cases h
     exact fits_eq_of k ho hr hs rfl (fun op => eqGuard_plain (by simp) (by simp)) (eqIn_fnn _ hu)
 · -- map
   cases p <;> cases q <;> simp only [eqAV] at h <;> try (cases h; done)
   · simp only [VX,V] at hr hs; obtain ⟨u,_,r2⟩ := hr; cases h
     exact fits_eq_of k ho r2 hs rfl (fun op => eqGuard_plain (by simp) (by simp)) (eqIn_msn _ hu _)
   · simp only [VX,V] at hr hs; obtain ⟨u,_,s2⟩ := hs; cases h
     exact fits_eq_of k ho hr s2 rfl (fun op => eqGuard_plain (by simp) (by simp)) (eqIn_mnx _ hu _)
   · simp only [VX,V] at hr hs; cases h
     exact fits_eq_of k ho hr hs rfl (fun op => eqGuard_plain (by simp) (by simp)) (eqIn_mnx _ hu _)
 · -- slice
   cases p <;> cases q <;> simp only [eqAV] at h <;> try (cases h; done)
   rename_i xs o1 ys o2
   simp only [VX,V] at hr hs
   obtain ⟨A,c,e1,e2,e3,e4,e5,e6⟩ := hr
   obtain ⟨A',c',d1,d2,d3,d4,d5,d6⟩ := hs
   cases ys with
   | cons z zs => cases xs <;> simp [eqAV] at h
   | nil =>
     cases o2 <;> try (cases xs <;> cases o1 <;> simp [eqAV] at h; done)
     have hA' := d4.1 rfl; subst hA'
     cases xs with
     | nil =>
       cases o1 <;> simp [eqAV] at h
       have hA := e4.1 rfl; subst hA; subst h
       exact fits_eq_of k ho e1 d1 rfl (fun op => eqGuard_plain (by simp) (by simp)) (eqIn_snx _ hu _ _ _ _ _)
     | cons z zs =>
       simp [eqAV] at h; subst h
       cases A with
       | none => have := e5 rfl; simp at e2; omega
       | some ad => exact fits_eq_of k ho e1 d1 rfl (fun op => eqGuard_plain (by simp) (by simp)) (eqIn_ssn _ hu _ _ _ _ _)
 · -- interfaces,of one type of integers
   rename_i tx ms
   simp only [Bool.and_eq_true] at hk
   obtain ⟨hk1,hk2⟩ := hk
   cases hi : P.info? tx with
   | none => simp [hi] at hk1
   | some i =>
     simp only [hi] at hk1
     cases hx : P.underlying tx with
     | none => simp [hx] at hk2
     | some dx =>
       cases dx <;> simp only [hx] at hk2 <;> try (cases hk2; done)
       cases p <;> cases q <;> simp only [eqAV] at h <;> try (cases h; done)
       · rename_i t1 v1 t2 v2
         simp only [VX,V] at hr hs; obtain ⟨u1,r2,r3⟩ := hr; obtain ⟨u2,s2,s3⟩ := hs
         cases v1 <;> cases v2 <;> simp only [] at h <;> try (cases h; done)
         split at h
         · rename_i he; subst he
           split at h
           · rename_i hq; obtain ⟨rfl,rfl⟩ := hq; cases h
             simp only [V] at r3 s3; subst r3; subst s3
             exact fits_eq_of k ho r2 s2 rfl (fun op => eqGuard_plain (by simp) (by simp)) (eqIn_iii _ hu hi hk1 hx _ _ _)
           · cases h
         · rename_i hne; cases h
           exact fits_eq_of k ho r2 s2 rfl (fun op => eqGuard_plain (by simp) (by simp)) (eqIn_iij _ hu hne _ _)
       · simp only [VX,V] at hr hs; obtain ⟨u,r2,_⟩ := hr; cases h
         exact fits_eq_of k ho r2 hs rfl (fun op => eqGuard_plain (by simp) (by simp)) (eqIn_isn _ hu _ _)
       · simp only [VX,V] at hr hs; obtain ⟨u,s2,_⟩ := hs; cases h
         exact fits_eq_of k ho hr s2 rfl (fun op => eqGuard_plain (by simp) (by simp)) (eqIn_ins _ hu _ _)
end
end Go.Proofs.YtkofimhnehkdoaaGreatDoor.Rf
end
section
namespace Go.Proofs.YtkofimhnehkdoaaGreatDoor.Rf
section
variable {P:Program} {G:Nat → Option (List AV)} {g g' : Gh} {st:St} {a:Act} {w w' : World} {o:Oper} {tm:Array Value} {ps:List (AV × Value)}
theorem VC.flat : ∀ {cs:List AV} {b off:Nat},VC g w cs b off → ∃ us : List Value,us.length = cs.length ∧ Ones us ∧ ∀ (j:Nat) v,us[j]? = some v → w.cell? ⟨b,off + j,none⟩ = some v
 | [],_,_,_ => ⟨[],rfl,by simp [Ones],by simp⟩
 | c :: cs,b,off,h => by
   simp only [VC] at h
   obtain ⟨⟨_,cv,h1,h2,_⟩,h3⟩ := h
   obtain ⟨us,u1,u2,u3⟩ := VC.flat h3
   refine ⟨cv :: us,by simp [u1],fun u hu => ?_,fun j v hv => ?_⟩
   · simp at hu; rcases hu with rfl | hu
     · exact h2
     · exact u2 u hu
   · cases j with
     | zero => simp at hv; subst hv; simpa using h1
     | succ j => simp at hv; rw [show off + (j + 1) = off + 1 + j by omega]; exact u3 j v hv
theorem VE.tail {sz:Nat} {x:AV} {xs:List AV} {b off:Nat} (h:VE g w sz (x :: xs) b off) : VE g w sz xs b (off + sz) := by cases x <;> simp only [VE] at h <;> exact h.2
theorem VE.flat {sz:Nat} : ∀ {xs:List AV} {b off:Nat},VE g w sz xs b off → ∃ us : List Value,us.length = xs.length * sz ∧ Ones us ∧ ∀ (j:Nat) v,us[j]? = some v → w.cell? ⟨b,off + j,none⟩ = some v
 | [],_,_,_ => ⟨[],by simp,by simp [Ones],by simp⟩
 | x :: xs,b,off,h => by
   obtain ⟨h1,h2⟩ := h.get (j := 0) rfl
   rw [Nat.zero_mul,Nat.add_zero] at h2
   obtain ⟨us,u1,u2,u3⟩ := h2.flat
   obtain ⟨vs,v1,v2,v3⟩ := VE.flat h.tail
   refine ⟨us ++ vs,by simp [u1,v1,h1,Nat.succ_mul,Nat.add_comm],fun u hu => ?_,fun j v hv => ?_⟩
   · simp at hu; rcases hu with hu | hu
     · exact u2 u hu
     · exact v2 u hu
   · rw [List.getElem?_append] at hv; split at hv
     · exact u3 j v hv
     · have := v3 _ v hv
       rwa [show off + sz + (j - us.length) = off + j by omega] at this
theorem VC.copy (e:Ext g w g' w') : ∀ {cs:List AV} {b off b' off' : Nat},VC g w cs b off → (∀ j,j < cs.length → (g'.ow b' (off' + j)).ro ∧ w'.cell? ⟨b',off' + j,none⟩ = w.cell? ⟨b,off + j,none⟩) → VC g' w' cs b' off'
 | [],_,_,_,_,_,_ => by simp [VC]
 | c :: cs,b,off,b',off',h,hc => by
   simp only [VC] at h ⊢
   obtain ⟨⟨_,cv,h1,h2,h3⟩,h4⟩ := h
   have h0 := hc 0 (by simp)
   simp only [Nat.add_zero] at h0
   refine ⟨⟨h0.1,cv,h0.2.trans h1,h2,V.mono e _ _ h3⟩,VC.copy e h4 fun j hj => ?_⟩
   have := hc (j + 1) (by simpa using hj)
   rwa [show off' + (j + 1) = off' + 1 + j by omega,show off + (j + 1) = off + 1 + j by omega] at this
theorem VE.cons_mk {sz:Nat} {x:AV} {xs:List AV} {b off:Nat} (h1:x.cells.length = sz) (h2:VC g w x.cells b off) (h3:VE g w sz xs b (off + sz)) : VE g w sz (x :: xs) b off := by
 cases x <;> simp only [VE] <;> simp only [AV.cells] at h1 h2 <;> first
   | exact ⟨⟨h1,h2⟩,h3⟩
   | (simp only [VC] at h2; exact ⟨⟨h1,h2.1⟩,h3⟩)
theorem VE.copy {sz:Nat} (e:Ext g w g' w') : ∀ {xs:List AV} {b off b' off' : Nat},VE g w sz xs b off → (∀ j,j < xs.length * sz → (g'.ow b' (off' + j)).ro ∧ w'.cell? ⟨b',off' + j,none⟩ = w.cell? ⟨b,off + j,none⟩) → VE g' w' sz xs b' off'
 | [],_,_,_,_,_,_ => by simp [VE]
 | x :: xs,b,off,b',off',h,hc => by
   obtain ⟨h1,h2⟩ := h.get (j := 0) rfl
   rw [Nat.zero_mul,Nat.add_zero] at h2
   refine VE.cons_mk h1 (VC.copy e h2 fun j hj => hc j ?_) (VE.copy e h.tail fun j hj => ?_)
   · simp only [List.length_cons,Nat.succ_mul]; omega
   · have := hc (sz + j) (by simp only [List.length_cons,Nat.succ_mul]; omega)
     rwa [show off' + (sz + j) = off' + sz + j by omega,show off + (sz + j) = off + sz + j by omega] at this
theorem VE.append {sz:Nat} : ∀ {xs ys:List AV} {b off:Nat},VE g w sz xs b off → VE g w sz ys b (off + xs.length * sz) → VE g w sz (xs ++ ys) b off
 | [],ys,b,off,_,k => by simpa using k
 | x :: xs,ys,b,off,h,k => by
   obtain ⟨h1,h2⟩ := h.get (j := 0) rfl
   rw [Nat.zero_mul,Nat.add_zero] at h2
   refine VE.cons_mk h1 h2 (VE.append h.tail ?_)
   rwa [show off + sz + xs.length * sz = off + (x :: xs).length * sz by simp only [List.length_cons,Nat.succ_mul]; omega]
structure Wr (w w' : World) (b q:Nat) (vs:List Value) : Prop where
 size : w'.heap.size = w.heap.size
 os : w'.os = w.os
 tape : w'.tape = w.tape
 output : w'.output = w.output
 blk : ∀ k,k ≠ b → w'.heap[k]? = w.heap[k]?
 new : ∀ (j:Nat) v,vs[j]? = some v → w'.cell? ⟨b,q + j,none⟩ = some v
 old : ∀ o,(o < q ∨ q + vs.length ≤ o) → w'.cell? ⟨b,o,none⟩ = w.cell? ⟨b,o,none⟩
 frz : ∀ o,w'.frozen? ⟨b,o,none⟩ = w.frozen? ⟨b,o,none⟩
 none : vs = [] → w' = w
 row : ∀ c e n,Row0 w c e n → Row0 w' c e n
theorem row_setCell (w:World) (p:Addr) (v:Value) (c e n:Nat) (k:Row0 w c e n) : Row0 (w.setCell p v) c e n := by
 obtain ⟨ds,hi,k1,k2⟩ := k
 by_cases hc : p.block = c
 · refine ⟨if p.spot.isSome then ds else ds.setIfInBounds p.off v,hi,?_,?_⟩
   · simp [World.setCell,Array.getElem?_modify,hc,k1]
   · split <;> simp [k2]
 · exact ⟨ds,hi,by simp [World.setCell,Array.getElem?_modify,hc,k1],k2⟩
theorem run_storeCells_each (b q:Nat) : ∀ (vs:List Value) (i:Nat) (w:World),(∀ j,j < vs.length → (∃ u,w.cell? ⟨b,q + i + j,none⟩ = some u) ∧ w.frozen? ⟨b,q + i + j,none⟩ = false) → Ones vs →
   ∃ w',(storeCells ⟨b,q,none⟩ vs i).run P w = .ok () w' ∧ Wr w w' b (q + i) vs
 | [],i,w,_,_ => ⟨w,rfl,rfl,rfl,rfl,rfl,fun _ _ => rfl,by simp,fun _ _ => rfl,fun _ => rfl,fun _ => rfl,fun _ _ _ h => h⟩
 | v :: vs,i,w,h,h1 => by
   obtain ⟨⟨u,hu⟩,hf⟩ := h 0 (by simp)
   simp only [Nat.add_zero] at hu hf
   have hv := h1 v (by simp)
   have ne : ∀ j,(⟨b,q + i,none⟩ : Addr) ≠ ⟨b,q + i + (j + 1),none⟩ := fun j e => by injection e with _ e2; omega
   obtain ⟨w',r1,r2⟩ := run_storeCells_each b q vs (i + 1) (w.setCell ⟨b,q + i,none⟩ v) (fun j hj => by
     have := h (j + 1) (by simpa using hj)
     rw [show q + (i + 1) + j = q + i + (j + 1) by omega,World.cell?_setCell_other _ _ _ _ (ne j),World.frozen?_setCell]; exact this) (fun x hx => h1 x (by simp [hx]))
   refine ⟨w',?_,?_⟩
   · simp only [storeCells,Sem.run_bind,Addr.add_lit,run_store P w _ v _ hv,hu,hf,Bool.false_eq_true,if_false,Result.andThen_ok]
     exact r1
   · refine ⟨by rw [r2.size]; simp,r2.os,r2.tape,r2.output,fun k hk => ?_,fun j x hx => ?_,fun o ho => ?_,fun o => ?_,(fun e => by cases e),fun c e n k => r2.row _ _ _ (row_setCell _ _ _ _ _ _ k)⟩
     · rw [r2.blk k hk]; exact RowKit.Below.heap_setCell _ _ _ _ hk
     · cases j with
       | zero =>
         simp at hx; subst hx
         rw [Nat.add_zero,r2.old (q + i) (.inl (by omega))]
         exact World.cell?_setCell_same _ _ _ hu
       | succ j => simp at hx; rw [show q + i + (j + 1) = q + (i + 1) + j by omega]; exact r2.new j x hx
     · have ho' : o < q + (i + 1) ∨ q + (i + 1) + vs.length ≤ o := by simp at ho; omega
       rw [r2.old o ho',World.cell?_setCell_other]
       intro e; injection e with _ e2; simp at ho; omega
     · rw [r2.frz o,World.frozen?_setCell]
def appendOk (P:Program) (t:TypeId) (sz bytes:Nat) : Bool :=
 match P.underlying t with
 | some (.slice e) =>
   (match P.info? e with
    | some i => decide (i.size = sz) && decide (i.bytes = bytes) && decide (0 < sz) && (match i.zero with | some z => decide (z.cells.size = sz) | none => false)
    | none => false)
 | _ => false
def rowTy (P:Program) (t:TypeId) (sz e:Nat) : Bool := Nat.beq e 0 || (match P.underlying t with | some (.slice e') => Nat.beq e' e && Nat.beq sz 1 | _ => false)
theorem firstCells_some {sz m:Nat} {b q len cap:Nat} {news:List Value} (hl:news.length = m * sz) (h:∀ (j:Nat) v,news[j]? = some v → w.cell? ⟨b,q + j,none⟩ = some v) :
   (Builtin.firstCells sz m (.slice (some ⟨b,q,none⟩) len cap)).run P w = .ok news.toArray w :=
 run_firstCells_some (P := P) w sz m _ len cap news hl (fun j v hv => by rw [Addr.add_lit]; exact h j v hv)
theorem run_append_in {t t2:TypeId} {sz bytes:Nat} (ht:appendOk P t sz bytes = true) {d2:TypeDesc} (hu2:P.underlying t2 = some d2) (hd2:∀ k,d2 ≠ .int k) {b q n c m:Nat} {Y:Value} (hY:(Builtin.lenOf Y).run P w = .ok m w) {news:List Value} (hl:news.length = m * sz)
   (hf:(Builtin.firstCells sz m Y).run P w = .ok news.toArray w) (h1:Ones news) (hroom:n + m ≤ c) (hc:∀ o,q + n * sz ≤ o → o < q + c * sz → (∃ u,w.cell? ⟨b,o,none⟩ = some u) ∧ w.frozen? ⟨b,o,none⟩ = false) (ty:TypeId) :
   ∃ w',(Builtin.append_ #[t,t2] ty #[.slice (some ⟨b,q,none⟩) n c,Y]).run P w = .ok (.slice (some ⟨b,q,none⟩) (n + m) c) w' ∧ Wr w w' b (q + n * sz) news := by
 unfold appendOk at ht
 cases hu : P.underlying t with
 | none => simp [hu] at ht
 | some d =>
   cases d <;> simp [hu] at ht
   rename_i e
   cases hi : P.info? e with
   | none => simp [hi] at ht
   | some i =>
     simp [hi] at ht
     obtain ⟨⟨⟨h2,h3⟩,h4⟩,h5⟩ := ht
     have hlen : (n + m) * sz ≤ c * sz := Nat.mul_le_mul_right sz hroom
     rw [Nat.add_mul] at hlen
     obtain ⟨w',r1,r2⟩ := run_storeCells_each (P := P) b (q + n * sz) news 0 w (fun j hj => hc _ (by omega) (by omega)) h1
     rw [Nat.add_zero] at r2
     refine ⟨w',?_,r2⟩
     have hm : (d2 matches .int _) = false := by cases d2 <;> first | rfl | exact absurd rfl (hd2 _)
     simp [Builtin.append_,run_underlying hu,run_underlying hu2,sizeOf,typeInfo,hi,h2,hY,hroom,hf,Addr.add_lit,r1,hm]
theorem arr3 (a b:List Value) (z:Array Value) : a.toArray ++ (b.toArray ++ z) = (a ++ (b ++ z.toList)).toArray := by apply Array.ext'; simp
theorem zeroCells_size (z:Array Value) (n:Nat) : (Builtin.zeroCells z n).size = n * z.size := by simp [Builtin.zeroCells]
theorem cap_cut (need t:Nat) (h:need ≤ 9223372036854775807) : need ≤ need + t % (2 ^ 63 - need) ∧ need + t % (2 ^ 63 - need) ≤ 9223372036854775807 := by
 have : t % (2 ^ 63 - need) < 2 ^ 63 - need := Nat.mod_lt _ (by omega)
 omega
theorem run_append_out {t t2:TypeId} {sz bytes:Nat} (ht:appendOk P t sz bytes = true) {d2:TypeDesc} (hu2:P.underlying t2 = some d2) (hd2:∀ k,d2 ≠ .int k) {A:Option Addr} {n c m:Nat} {Y:Value} (hY:(Builtin.lenOf Y).run P w = .ok m w) {news olds:List Value} (hl:news.length = m * sz) (hlo:olds.length = n * sz)
   (hf:(Builtin.firstCells sz m Y).run P w.drew = .ok news.toArray w.drew) (hfo:(Builtin.firstCells sz n (.slice A n c)).run P w.drew = .ok olds.toArray w.drew) (hroom:¬ n + m ≤ c) (hby:(n + m) * bytes ≤ 140737488355328) (h63:n + m ≤ 9223372036854775807) (ty:TypeId) :
   ∃ (C:Nat) (e:TypeId) (rest:List Value),(∀ f,rowTy P t sz f = true → f ≠ 0 → e = f ∧ sz = 1) ∧ n + m ≤ C ∧ C ≤ 9223372036854775807 ∧ rest.length = (C - (n + m)) * sz ∧ (Builtin.append_ #[t,t2] ty #[.slice A n c,Y]).run P w = .ok (.slice (some ⟨w.heap.size,0,none⟩) (n + m) C) (w.drew.alloc (.cells (olds ++ news ++ rest).toArray e)) := by
 unfold appendOk at ht
 cases hu : P.underlying t with
 | none => simp [hu] at ht
 | some d =>
   cases d <;> simp [hu] at ht
   rename_i e
   cases hi : P.info? e with
   | none => simp [hi] at ht
   | some i =>
     simp [hi] at ht
     obtain ⟨⟨⟨h2,h3⟩,h4⟩,h5⟩ := ht
     cases hz : i.zero with
     | none => simp [hz] at h5
     | some z =>
       simp [hz] at h5
       have h48 := growslice_fits (bytes := i.bytes) (show c < n + m by omega) (by rw [h3]; exact hby)
       have h48' : ¬ (Builtin.nextslicecap (n + m) c * i.bytes > 2 ^ 48) := by simp; omega
       have h63' : ¬ ((n + m : Nat) : Int) > IntKind.i64.max := by
         show ¬ ((n + m : Nat) : Int) > 9223372036854775807
         omega
       obtain ⟨c1,c2⟩ := cap_cut (n + m) (w.tape w.drawn (.appendCap (n + m) c e)) h63
       refine ⟨n + m + w.tape w.drawn (.appendCap (n + m) c e) % (2 ^ 63 - (n + m)),e,(Builtin.zeroCells z.cells (w.tape w.drawn (.appendCap (n + m) c e) % (2 ^ 63 - (n + m)))).toList,fun f hf hf0 => ?_,c1,c2,?_,?_⟩
       · unfold rowTy at hf; simp only [hu,Bool.or_eq_true,Bool.and_eq_true] at hf
         rcases hf with hf | hf
         · exact absurd (Nat.eq_of_beq_eq_true hf) hf0
         · exact ⟨Nat.eq_of_beq_eq_true hf.1,Nat.eq_of_beq_eq_true hf.2⟩
       · rw [Array.length_toList,zeroCells_size,h5]; congr 1; omega
       · have hcut : (Question.appendCap (n + m) c e).cut (w.tape w.drawn (.appendCap (n + m) c e)) = n + m + w.tape w.drawn (.appendCap (n + m) c e) % (2 ^ 63 - (n + m)) := rfl
         have hm : (d2 matches .int _) = false := by cases d2 <;> first | rfl | exact absurd rfl (hd2 _)
         simp [Builtin.append_,run_underlying hu,run_underlying hu2,sizeOf,typeInfo,zeroValue,hi,hz,h2,hY,hroom,h63',h48',Question.forced,hcut,hf,hfo,newRow,hm]
         rw [if_neg (by omega),arr3]
def Gh.fill (g:Gh) (b q m:Nat) : Gh := { g with ow := fun c o => if c = b ∧ q ≤ o ∧ o < q + m then .elt else g.ow c o }
theorem same_fill {r:Root} {i:Nat} {b q:Nat} {news:List Value} (h:Wr w w' b q news) (ht:∀ o,q ≤ o → o < q + news.length → g.ow b o = .tail r i) : Same (fun t => t ≠ .tail r i) g w (g.fill b q news.length) w' := by
 have off : ∀ c o,g.ow c o ≠ .tail r i → ¬ (c = b ∧ q ≤ o ∧ o < q + news.length) := fun c o hn ⟨e,h1,h2⟩ => by subst e; exact hn (ht o h1 h2)
 have cel : ∀ c o,g.ow c o ≠ .tail r i → w'.cell? ⟨c,o,none⟩ = w.cell? ⟨c,o,none⟩ := fun c o hn => by
   by_cases e : c = b
   · subst e
     have := off c o hn
     exact h.old o (by simp at this; omega)
   · exact cell?_of_block' (h.blk c e)
 refine ⟨fun c o _ hn => by simp only [Gh.fill]; rw [if_neg (off c o hn)],fun c o _ hn => cel c o hn,fun c o _ hn _ => ?_,fun c _ hn => ?_,h.row,fun _ => by simp,fun _ _ h => h⟩
 · by_cases e : c = b
   · subst e; exact h.frz o
   · exact frozen?_of_block' (h.blk c e)
 · by_cases e : c = b
   · subst e
     by_cases hz : news = []
     · rw [h.none hz]
     · have : 0 < news.length := List.length_pos_iff.2 hz
       exact absurd (ht q (Nat.le_refl _) (by omega)) (hn q).1
   · exact h.blk c e
theorem stay_fill {r:Root} {i:Nat} {b q:Nat} {news:List Value} (h:Wr w w' b q news) (ht:∀ o,q ≤ o → o < q + news.length → g.ow b o = .tail r i) : Stay g w (g.fill b q news.length) w' := by
 have sm := same_fill h ht
 have hn : ∀ c o,(g.ow c o).kept → g.ow c o ≠ .tail r i := fun c o hk e => by rw [e] at hk; exact hk
 exact { ow := fun c o hl hk => sm.ow c o hl (hn c o hk),cell := fun c o hl hk => sm.cell c o hl (hn c o hk),frz := fun c o hl hk he => sm.frz c o hl (hn c o hk) he,blk := fun c hl hk => sm.blk c hl (fun o => ⟨hn c o (hk o).1,(hk o).2⟩),row := h.row,te := fun _ => trivial,hb := sm.hb,os := h.os,tape := h.tape,output := h.output,size := by rw [h.size]; exact Nat.le_refl _ }
def Gh.fresh (g:Gh) (n m:Nat) : Gh := { g with ow := fun c o => if c = n then (if o < m then .elt else .tail (.arg 0) 0) else (match g.ow c o with | .tail (.arg 0) i => if i = 0 then .out else .tail (.arg 0) i | t => t) }
theorem fresh_off {n m c o:Nat} (hc:c ≠ n) (h:g.ow c o ≠ .tail (.arg 0) 0) : (g.fresh n m).ow c o = g.ow c o := by
 simp only [Gh.fresh]; rw [if_neg hc]
 revert h
 cases g.ow c o <;> intro h <;> try rfl
 case tail r i =>
   cases r <;> try rfl
   case arg j =>
     cases j with
     | succ j => rfl
     | zero =>
       simp only []
       by_cases e : i = 0
       · subst e; exact absurd rfl h
       · rw [if_neg e]
end
end Go.Proofs.YtkofimhnehkdoaaGreatDoor.Rf
end
section
namespace Go.Proofs.YtkofimhnehkdoaaGreatDoor.Rf
section
variable {P:Program} {G:Nat → Option (List AV)} {g g' : Gh} {st:St} {a:Act} {w w' : World} {o:Oper} {tm:Array Value} {ps:List (AV × Value)}
def Lay (g:Gh) (w:World) (sz:Nat) (ys:List AV) (news:List Value) : Prop :=
 news.length = ys.length * sz ∧ Ones news ∧
 ∀ g' w' b' q',Ext g w g' w' → (∀ (j:Nat) v,news[j]? = some v → (g'.ow b' (q' + j)).ro ∧ w'.cell? ⟨b',q' + j,none⟩ = some v) → VE g' w' sz ys b' q'
theorem Lay.of_VE {sz:Nat} {ys:List AV} {b q:Nat} (h:VE g w sz ys b q) : ∃ news,Lay g w sz ys news ∧ ∀ (j:Nat) v,news[j]? = some v → w.cell? ⟨b,q + j,none⟩ = some v := by
 obtain ⟨us,u1,u2,u3⟩ := h.flat
 refine ⟨us,⟨u1,u2,fun g' w' b' q' e hc => VE.copy e h fun j hj => ?_⟩,u3⟩
 have hu : us[j]? = some us[j] := List.getElem?_eq_getElem (by omega)
 exact ⟨(hc j _ hu).1,by rw [(hc j _ hu).2,u3 j _ hu]⟩
theorem Lay.nil {sz:Nat} : Lay g w sz [] [] := ⟨by simp,by simp [Ones],fun _ _ _ _ _ _ => by simp [VE]⟩
theorem Lay.bytes (s:List UInt8) : Lay g w 1 (s.map fun b => AV.int .u8 b.toNat) (s.map fun b => Value.int .u8 b.toNat) := by
 refine ⟨by simp,by intro u hu; simp at hu; obtain ⟨b,_,rfl⟩ := hu; rfl,fun g' w' b' q' e hc => ?_⟩
 induction s generalizing q' with
 | nil => simp [VE]
 | cons x s ih =>
   simp only [List.map_cons]
   refine VE.cons_mk rfl ?_ (ih _ fun j v hv => ?_)
   · have := hc 0 (.int .u8 x.toNat) (by simp)
     rw [Nat.add_zero] at this
     simp only [AV.cells,VC]
     exact ⟨⟨this.1,_,this.2,rfl,by simp [V]⟩,trivial⟩
   · have := hc (j + 1) v (by simpa using hv)
     rwa [show q' + (j + 1) = q' + 1 + j by omega] at this
theorem Tail.get {r:Root} {i:Nat} {xs:List AV} {sz:Nat} {ad:Addr} {n c:Nat} (h:Tail g w r i xs sz (.slice (some ad) n c)) : VE g w sz xs ad.block ad.off ∧
   ∀ o,ad.off + xs.length * sz ≤ o → o < ad.off + c * sz → g.ow ad.block o = .tail r i ∧ (∃ u,w.cell? ⟨ad.block,o,none⟩ = some u) ∧ w.frozen? ⟨ad.block,o,none⟩ = false := h ad n c rfl
theorem fill_in {b q m o:Nat} (h1:q ≤ o) (h2:o < q + m) : (g.fill b q m).ow b o = .elt := if_pos ⟨rfl,h1,h2⟩
theorem fill_out {b q m o:Nat} (h:¬ (q ≤ o ∧ o < q + m)) : (g.fill b q m).ow b o = g.ow b o := if_neg fun ⟨_,h1,h2⟩ => h ⟨h1,h2⟩
theorem View.more {xs ys:List AV} {e b q c:Nat} {news:List Value} (h:View g w xs.length e ⟨b,q,none⟩) (hw:Wr w w' b (q + xs.length * 1) news) (hl:news.length = ys.length * 1) (hc:xs.length + ys.length ≤ c) (hcell:∀ o,q + xs.length * 1 ≤ o → o < q + c * 1 → ∃ u,w.cell? ⟨b,o,none⟩ = some u) : View (g.fill b (q + xs.length * 1) news.length) w' (xs ++ ys).length e ⟨b,q,none⟩ := by
 obtain ⟨h1,h2,⟨n,h3,h4⟩,h5⟩ := h
 simp only at h1; subst h1
 simp only [Nat.mul_one,Nat.zero_add] at *
 refine ⟨rfl,rfl,⟨n,hw.row _ _ _ h3,?_⟩,fun o ho => ?_⟩
 · rw [List.length_append]
   by_cases hy : ys.length = 0
   · omega
   · obtain ⟨u,hu⟩ := hcell (xs.length + ys.length - 1) (by omega) (by omega)
     obtain ⟨cs,hi,r1,r2⟩ := h3
     simp only [World.cell?,r1] at hu
     simp at hu
     have := (Array.getElem?_eq_some_iff.1 hu).1
     omega
 · simp only [Gh.fill]
   split
   · rfl
   · rename_i hn
     exact h5 o (by simp at ho hn; omega)
theorem Rel.append_in {v:AV} {cv:Value} (k:Rel G g st [(v,cv)] tm w) {xs ys:List AV} {sz b q c:Nat} {e0:Nat} (hview:e0 ≠ 0 → sz = 1 ∧ View g w xs.length e0 ⟨b,q,none⟩) (hT:Tail g w (.arg 0) 0 xs sz (.slice (some ⟨b,q,none⟩) xs.length c)) (hc:c ≤ 9223372036854775807) {news:List Value} (hl:Lay g w sz ys news)
   (hroom:xs.length + ys.length ≤ c) (hw:Wr w w' b (q + xs.length * sz) news) :
   ∃ g',Rel G g' st [(.list (xs ++ ys) (.own sz e0),.slice (some ⟨b,q,none⟩) (xs.length + ys.length) c)] tm w' ∧ Stay g w g' w' := by
 obtain ⟨hE,htail⟩ := hT.get
 simp only at hE htail
 have hle : (xs.length + ys.length) * sz ≤ c * sz := Nat.mul_le_mul_right sz hroom
 rw [Nat.add_mul] at hle
 have htags : ∀ o,q + xs.length * sz ≤ o → o < q + xs.length * sz + news.length → g.ow b o = .tail (.arg 0) 0 := fun o h1 h2 => (htail o h1 (by rw [hl.1] at h2; omega)).1
 have sm := same_fill hw htags
 have hi : (fun t => t ≠ Tag.tail (.arg 0) 0) Tag.imm := by simp
 have hE2 : VE (g.fill b (q + xs.length * sz) news.length) w' sz (xs ++ ys) b q :=
   VE.append (VE.mono (sm.ext hi) _ _ _ _ hE) (hl.2.2 _ _ _ _ (sm.ext hi) fun j u hu => by
     have hj : j < news.length := (List.getElem?_eq_some_iff.1 hu).1
     exact ⟨by rw [fill_in (by omega) (by omega)]; trivial,hw.new j u hu⟩)
 refine ⟨g.fill b (q + xs.length * sz) news.length,⟨fun s => (k.fr s).same sm hi (fun _ _ _ => rfl) (fun i => by simp) (by simp) rfl,fun j x cx hj => ?_,k.hp.same sm hi (fun _ => by simp) (fun _ _ => by simp) (fun _ _ _ => by simp) rfl,fun d o hd => ?_,k.gl.same sm hi (by simp)⟩,stay_fill hw htags⟩
 · cases j with
   | succ j => simp at hj
   | zero =>
     simp at hj; obtain ⟨rfl,rfl⟩ := hj
     rw [VF_loose rfl]
     refine ⟨?_,?_⟩
     · simp only [VX,V]
       exact ⟨some ⟨b,q,none⟩,c,by simp,by simpa using hroom,hc,⟨fun e => (by cases e),fun e => (by cases e)⟩,(fun e => by cases e),fun ad e => by cases e; exact ⟨fun _ => rfl,fun hn => by
         obtain ⟨s1,s2⟩ := hview hn
         subst s1
         exact s2.more hw hl.1 hroom fun o h1 h2 => (htail o h1 h2).2.1,sz,hE2⟩⟩
     · simp only [Owns]
       intro ad n c' e
       cases e
       refine ⟨hE2,fun o h1 h2 => ?_⟩
       simp only [List.length_append,Nat.add_mul] at h1 h2
       obtain ⟨t1,t2,t3⟩ := htail o (by omega) h2
       exact ⟨by rw [fill_out (by rw [hl.1]; omega)]; exact t1,by rw [hw.old o (by rw [hl.1]; omega)]; exact t2,by rw [hw.frz o]; exact t3⟩
 · rw [hw.size] at hd
   simp only [Gh.fill]
   rw [k.fresh d o hd]
   split
   · rename_i h; obtain ⟨rfl,h1,h2⟩ := h
     have := htags o h1 h2
     rw [k.fresh d o hd] at this; cases this
   · rfl
theorem Rel.append_in_pend {v:AV} {cv:Value} (k:Rel G g st [(v,cv)] tm w) {xs:List AV} {sz b q c:Nat} (hT:Tail g w (.arg 0) 0 xs sz (.slice (some ⟨b,q,none⟩) xs.length c)) (hc:c ≤ 9223372036854775807) {news:List Value} (hl:news.length = sz)
   (hroom:xs.length + 1 ≤ c) (hw:Wr w w' b (q + xs.length * sz) news) :
   Rel G g st [(.pend xs sz,.slice (some ⟨b,q,none⟩) (xs.length + 1) c)] tm w' ∧ Stay g w g w' := by
 obtain ⟨hE,htail⟩ := hT.get
 simp only at hE htail
 have hle : (xs.length + 1) * sz ≤ c * sz := Nat.mul_le_mul_right sz hroom
 rw [Nat.add_mul,Nat.one_mul] at hle
 have htags : ∀ o,q + xs.length * sz ≤ o → o < q + xs.length * sz + news.length → g.ow b o = .tail (.arg 0) 0 := fun o h1 h2 => (htail o h1 (by rw [hl] at h2; omega)).1
 have cel : ∀ c o,g.ow c o ≠ .tail (.arg 0) 0 → w'.cell? ⟨c,o,none⟩ = w.cell? ⟨c,o,none⟩ := fun c o hn => by
   by_cases e : c = b
   · subst e
     refine hw.old o ?_
     by_cases h1 : q + xs.length * sz ≤ o <;> by_cases h2 : o < q + xs.length * sz + news.length
     · exact absurd (htags o h1 h2) hn
     all_goals omega
   · exact cell?_of_block' (hw.blk c e)
 have frz : ∀ c o,w'.frozen? ⟨c,o,none⟩ = w.frozen? ⟨c,o,none⟩ := fun c o => by
   by_cases e : c = b
   · subst e; exact hw.frz o
   · exact frozen?_of_block' (hw.blk c e)
 have sm : Same (fun t => t ≠ .tail (.arg 0) 0) g w g w' := ⟨fun _ _ _ _ => rfl,fun c o _ hn => cel c o hn,fun c o _ _ _ => frz c o,fun c _ hn => by
   by_cases e : c = b
   · subst e
     by_cases hz : news = []
     · rw [hw.none hz]
     · have : 0 < news.length := List.length_pos_iff.2 hz
       exact absurd (htags _ (Nat.le_refl _) (by omega)) (hn _).1
   · exact hw.blk c e,hw.row,fun _ => by simp,fun _ _ h => h⟩
 have hi : (fun t => t ≠ Tag.tail (.arg 0) 0) Tag.imm := by simp
 have hk : ∀ c o,(g.ow c o).kept → g.ow c o ≠ .tail (.arg 0) 0 := fun c o hk e => by rw [e] at hk; exact hk
 refine ⟨⟨fun s => (k.fr s).same sm hi (fun _ _ _ => rfl) (fun i => by simp) (by simp) rfl,fun j x cx hj => ?_,k.hp.same sm hi (fun _ => by simp) (fun _ _ => by simp) (fun _ _ _ => by simp) rfl,fun d o hd => k.fresh d o (by rw [hw.size] at hd; exact hd),k.gl.same sm hi (by simp)⟩,
   { ow := fun _ _ _ _ => rfl,cell := fun c o _ h => cel c o (hk c o h),frz := fun c o _ _ _ => frz c o,blk := fun c hl' h => sm.blk c hl' (fun o => ⟨hk c o (h o).1,(h o).2⟩),row := hw.row,te := fun _ => trivial,hb := fun _ _ h => h,os := hw.os,tape := hw.tape,output := hw.output,size := by rw [hw.size]; exact Nat.le_refl _ }⟩
 cases j with
 | succ j => simp at hj
 | zero =>
   simp at hj; obtain ⟨rfl,rfl⟩ := hj
   simp only [VF]
   refine ⟨_,c,rfl,hroom,hc,rfl,?_⟩
   intro ad n c' e
   cases e
   refine ⟨VE.mono (sm.ext hi) _ _ _ _ hE,fun o h1 h2 => ?_⟩
   simp only at h1 h2
   obtain ⟨t1,⟨u,t2⟩,t3⟩ := htail o h1 h2
   refine ⟨t1,?_,by rw [frz]; exact t3⟩
   by_cases h3 : o < q + xs.length * sz + news.length
   · have hj : o - (q + xs.length * sz) < news.length := by omega
     exact ⟨_,by rw [← hw.new (o - (q + xs.length * sz)) _ (List.getElem?_eq_getElem hj)]; congr 2; omega⟩
   · exact ⟨u,by rw [hw.old o (by omega)]; exact t2⟩
theorem fresh_in {n m o:Nat} (h:o < m) : (g.fresh n m).ow n o = .elt := (if_pos rfl).trans (if_pos h)
theorem fresh_tail {n m o:Nat} (h:¬ o < m) : (g.fresh n m).ow n o = .tail (.arg 0) 0 := (if_pos rfl).trans (if_neg h)
theorem blk_frozen' {b:Nat} {cs:Array Value} {t:TypeId} (h:w.heap[b]? = some (.cells cs t (0,0))) (o:Nat) : w.frozen? ⟨b,o,none⟩ = false := by
 unfold World.frozen?; rw [h]; simp
theorem Rel.append_out {v:AV} {cv:Value} (k:Rel G g st [(v,cv)] tm w) {sz C m:Nat} {e:TypeId} {cells:List Value} (hlen:cells.length = C * sz) (hm:m ≤ C) :
   Same (fun t => t ≠ .tail (.arg 0) 0) g w (g.fresh w.heap.size (m * sz)) (w.drew.alloc (.cells cells.toArray e)) ∧
   (∀ j,j < m * sz → ((g.fresh w.heap.size (m * sz)).ow w.heap.size (0 + j)).ro) ∧
   (∀ j,j < m * sz → (g.fresh w.heap.size (m * sz)).ow w.heap.size j = .elt) ∧ Row0 (w.drew.alloc (.cells cells.toArray e)) w.heap.size e cells.length ∧
   (∀ (j:Nat) u,cells[j]? = some u → (w.drew.alloc (.cells cells.toArray e)).cell? ⟨w.heap.size,0 + j,none⟩ = some u) ∧
   (∀ o,m * sz ≤ o → o < C * sz → (g.fresh w.heap.size (m * sz)).ow w.heap.size o = .tail (.arg 0) 0 ∧ (∃ u,(w.drew.alloc (.cells cells.toArray e)).cell? ⟨w.heap.size,o,none⟩ = some u) ∧ (w.drew.alloc (.cells cells.toArray e)).frozen? ⟨w.heap.size,o,none⟩ = false) ∧
   Stay g w (g.fresh w.heap.size (m * sz)) (w.drew.alloc (.cells cells.toArray e)) ∧
   ∀ x cx,VF (g.fresh w.heap.size (m * sz)) (w.drew.alloc (.cells cells.toArray e)) st.fr tm (.arg 0) x cx → Rel G (g.fresh w.heap.size (m * sz)) st [(x,cx)] tm (w.drew.alloc (.cells cells.toArray e)) := by
 have hold : ∀ b,b < w.heap.size → (w.drew.alloc (.cells cells.toArray e)).heap[b]? = w.heap[b]? := fun b hb => heap_alloc_old w.drew _ b hb
 have hnew : (w.drew.alloc (.cells cells.toArray e)).heap[w.heap.size]? = some (.cells cells.toArray e) := heap_alloc_new w.drew _
 have sm : Same (fun t => t ≠ .tail (.arg 0) 0) g w (g.fresh w.heap.size (m * sz)) (w.drew.alloc (.cells cells.toArray e)) :=
   Same.grow hold (fun b o hb hn => fresh_off (by omega) hn) (fun _ _ h => h)
 have hi : (fun t => t ≠ Tag.tail (.arg 0) 0) Tag.imm := by simp
 have hcell : ∀ (j:Nat) u,cells[j]? = some u → (w.drew.alloc (.cells cells.toArray e)).cell? ⟨w.heap.size,j,none⟩ = some u := fun j u hu => by
   have := cell_of_row _ w.heap.size j cells.toArray e (0,0) hnew
   rw [this]; simpa using hu
 have hmul := Nat.mul_le_mul_right sz hm
 refine ⟨sm,fun j hj => by rw [fresh_in (by omega)]; trivial,fun j hj => fresh_in hj,⟨cells.toArray,0,hnew,by simp⟩,fun j u hu => by rw [Nat.zero_add]; exact hcell j u hu,fun o h1 h2 => ⟨?_,?_,?_⟩,?_,fun x cx hx => ?_⟩
 · exact fresh_tail (by omega)
 · exact ⟨_,hcell o _ (List.getElem?_eq_getElem (by omega))⟩
 · exact blk_frozen' hnew o
 · have hk : ∀ c o,(g.ow c o).kept → g.ow c o ≠ .tail (.arg 0) 0 := fun c o hk e => by rw [e] at hk; exact hk
   exact { ow := fun b o hl h => sm.ow b o hl (hk b o h),cell := fun b o hl h => sm.cell b o hl (hk b o h),frz := fun b o hl h he => sm.frz b o hl (hk b o h) he,blk := fun b hl h => hold b hl,row := sm.row,te := fun _ => trivial,hb := sm.hb,os := rfl,tape := rfl,output := rfl,size := by simp }
 · refine ⟨fun s => (k.fr s).same sm hi (fun _ _ _ => rfl) (fun i => by simp) (by simp) rfl,fun j y cy hj => ?_,k.hp.same sm hi (fun _ => by simp) (fun _ _ => by simp) (fun _ _ _ => by simp) rfl,fun d o hd => ?_,k.gl.same sm hi (by simp)⟩
   · cases j with
     | succ j => simp at hj
     | zero => simp at hj; obtain ⟨rfl,rfl⟩ := hj; exact hx
   · simp at hd
     have h1 : d ≠ w.heap.size := by omega
     have h2 := k.fresh d o (by omega)
     rw [fresh_off h1 (by rw [h2]; simp)]; exact h2
end
end Go.Proofs.YtkofimhnehkdoaaGreatDoor.Rf
end
