/- A part of the proof: see the last text. -/
import Derived.Test.YtkofimhnehkdoaaGreatDoorRpG1
import Derived.Laws.Strings
import Derived.Laws.Entries
import Derived.Laws.Slices
import Derived.Laws.AppendOwn
import Derived.Below
set_option linter.unusedVariables false
set_option linter.unusedSimpArgs false
section
namespace Go.Proofs.YtkofimhnehkdoaaGreatDoor.Rf
section
variable {P:Program} {G:Nat → Option (List AV)} {g g' : Gh} {st:St} {a:Act} {w w' : World} {o:Oper} {tm:Array Value} {ps:List (AV × Value)}
theorem VF_undef {fr:Fr} {r:Root} : VF g w fr tm r (.tup []) undef := by
 rw [VF_loose rfl]; exact ⟨VX_of_V (by simp only [V]; exact ⟨[],rfl,by simp [VS]⟩),fun us e => OwnsL.none (by simp)⟩
theorem fits_store (k:Rel G g st [] a.tmps w) {x v:Opd} {y u:Operand} (hx:opdOk x y = true) (hv:opdOk v u = true) {t:TypeId} {n:Nat} {agg:Bool} (ht:tyOk P t n agg = true) (ho:o.op = .store t y u) (hp:(opd st.fr v).1.plain = true) {lo:Nat}
   {cs:List AV} {off:Nat} {st' : St} (h:Rf.behind G { st with fr := (opd st.fr v).2 } (opd (opd st.fr v).2 x).1 = some (cs,off)) (hn:(opd st.fr v).1.spread.length = n ∧ off + n ≤ cs.length)
   (hput:behindPut lo { st with fr := (opd st.fr v).2 } (put cs off (opd st.fr v).1.spread) (opd (opd st.fr v).2 x).1 = some st') : Fits P G g st (.val (.tup []) st') o a w := by
 obtain ⟨g1,k1,s1,_⟩ := k.take hv
 have hpos : 0 < n := by
   unfold tyOk at ht
   cases hi : P.info? t <;> cases hu : P.underlying t <;> simp [hi,hu] at ht
   exact ht.1.2
 have hr := k1.read hx
 simp only [List.nil_append] at k1
 simp only at hr
 have hc := V.cells hp (by have := k1.ps 0 _ _ rfl; rw [VF_loose (AV.loose_of_plain hp),VX_plain hp] at this; exact this.1)
 have hcn : (Act.opd a.tmps u).cells.toList.length = n := by rw [hc.1.len]; exact hn.1
 generalize (opd (opd st.fr v).2 x).1 = p at *
 cases p <;> simp only [behindPut] at hput <;> try (cases hput; done)
 case lref s off' =>
   cases hput
   simp only [Rf.behind] at h
   cases hf : (opd st.fr v).2.get s <;> simp [hf] at h
   obtain ⟨rfl,rfl⟩ := h
   obtain ⟨vs,ty,e1,e2,e3,e4⟩ := Rel.setbox k1 hp hf (off := off') (by rw [hn.1]; exact hn.2) (by rw [hn.1]; exact hpos)
   simp only [VX] at hr
   refine fits_skip ?_ (e3.push0 VF_undef) (s1.trans e4)
   simp [execOp,ho,Act.eval_eq,hr.1,Instr.storeAt,Instr.sureAddr,run_storeVar_at ht e1 hcn hc.2 (by rw [e2]; exact hn.2)]
 case ptr id off' =>
   split at hput
   case isFalse => cases hput
   simp only [Rf.behind] at h
   cases hf : st.hp[id]? with
   | none => simp [hf] at h
   | some ob =>
     cases ob with
     | dead => simp [hf] at h
     | map es => simp [hf] at h
     | cells t0 ds =>
       simp [hf] at h hput
       subst hput
       obtain ⟨rfl,rfl⟩ := h
       obtain ⟨b,vs,ty,e0,e1,e2,e3,e4⟩ := Rel.setobj k1 hp hf (off := off') (by rw [hn.1]; exact hn.2) (by rw [hn.1]; exact hpos)
       simp only [VX,V] at hr
       obtain ⟨b',h1,h2⟩ := hr
       rw [e0] at h1; cases h1
       refine fits_skip ?_ (e3.push0 VF_undef) (s1.trans e4)
       simp [execOp,ho,Act.eval_eq,h2,Instr.storeAt,Instr.sureAddr,run_storeVar_at ht e1 hcn hc.2 (Nat.le_trans hn.2 e2)]
theorem take_one {α:Type} {vs:List α} {off:Nat} {u:α} (h:vs[off]? = some u) : vs.take off ++ [u] ++ vs.drop (off + 1) = vs := by
 obtain ⟨h1,h2⟩ := List.getElem?_eq_some_iff.1 h
 rw [List.append_assoc,List.singleton_append,← h2,← List.drop_eq_getElem_cons h1,List.take_append_drop]
theorem same_mvI (g:Gh) (w:World) (r:Root) (i:Nat) (q:Root) (j:Nat) : Same (fun t => t ≠ .tail r i ∧ t ≠ .tail q j) g w (g.mvI r i q j) w :=
 ⟨fun b o _ h => by
   show (g.ow b o).mvI r i q j = _
   revert h
   cases g.ow b o <;> intro h <;> try rfl
   case tail x k => simp only [ne_eq,Tag.tail.injEq] at h; simp only [Tag.mvI]; rw [if_neg h.1,if_neg h.2],fun _ _ _ _ => rfl,fun _ _ _ _ _ => rfl,fun _ _ _ => rfl,fun _ _ _ h => h,fun _ => ⟨by simp,by simp⟩,fun _ _ h => h⟩
theorem stay_mvI (g:Gh) (w:World) (r:Root) (i:Nat) (q:Root) (j:Nat) : Stay g w (g.mvI r i q j) w :=
 { ow := fun b o _ ht => by
     show (g.ow b o).mvI r i q j = _
     revert ht; cases g.ow b o <;> simp [Tag.kept,Tag.mvI]
   cell := fun _ _ _ _ => rfl,frz := fun _ _ _ _ _ => rfl,blk := fun _ _ _ => rfl,row := fun _ _ _ h => h,te := fun _ => trivial,hb := fun _ _ h => h,os := rfl,tape := rfl,output := rfl,size := Nat.le_refl _ }
theorem owns_of_tail {r:Root} {c:AV} {u:Value} (hc:∀ vs,c ≠ .tup vs) (h:∀ xs sz e,c = .list xs (.own sz e) → Tail g w r 0 xs sz u) : Owns g w r c u := by
 cases c <;> try trivial
 case list xs o => cases o <;> first | trivial | exact h _ _ _ rfl
 case tup vs => exact absurd rfl (hc vs)
theorem Rel.takebox (k:Rel G g st [] tm w) {s:Nat} {cs:List AV} (hs:st.fr.get s = .box cs) {off:Nat} {c:AV} (hc:cs[off]? = some c) :
   ∃ u,w.cell? ⟨g.bx (.fr s),off,none⟩ = some u ∧ Rel G (g.mvI (.fr s) off (.arg 0) 0) { st with fr := st.fr.set s (.box (Rf.put cs off [c.cp1])) } [(c,u)] tm w := by
 have f := k.fr s; rw [hs] at f; simp only [VF] at f
 obtain ⟨vs,ty,f1,f2,f3,f4,f5⟩ := f
 obtain ⟨u,hu,hcu⟩ := f3.1.get hc
 have h1 := f3.2 u (List.mem_of_getElem? hu)
 have sm := same_mvI g w (.fr s) off (.arg 0) 0
 have hi : (fun t => t ≠ Tag.tail (.fr s) off ∧ t ≠ Tag.tail (.arg 0) 0) Tag.imm := ⟨by simp,by simp⟩
 have hlt : off < cs.length := (List.getElem?_eq_some_iff.1 hc).1
 have l : FrLike st.fr tm (st.fr.set s (.box (Rf.put cs off [c.cp1]))) tm := ⟨fun x ds hx => by
     rw [Fr.get_set]; by_cases e : s = x
     · rw [if_pos e]; exact ⟨_,rfl⟩
     · rw [if_neg e]; exact ⟨ds,hx⟩,fun x xs sz hx => ⟨by
     rw [Fr.get_set]; by_cases e : s = x
     · subst e; rw [hs] at hx; cases hx
     · rw [if_neg e]; exact hx,rfl⟩⟩
 refine ⟨u,by simp [World.cell?,f2,hu],⟨fun t => ?_,fun j v cv hj => ?_,?_,fun b o hb => ?_,?_⟩⟩
 · by_cases e : s = t
   · subst e
     simp only [Fr.get_set,if_true,VF]
     refine ⟨vs,ty,f1,f2,⟨?_,f3.2⟩,fun o => ?_,?_⟩
     · have := VS.put (off := off) (VS.mono (sm.ext hi) _ _ f3.1) (ns := [c.cp1]) (us := [u]) (by simp only [VS]; exact ⟨u,[],rfl,(V.mono (sm.ext hi) _ _ hcu).cp1,rfl⟩)
       simp only [List.length_singleton] at this
       rwa [take_one hu] at this
     · show (g.ow _ _).mvI _ _ _ _ = _
       rw [show (g.mvI (.fr s) off (.arg 0) 0).bx (.fr s) = g.bx (.fr s) from rfl,f4 o]; rfl
     · have := OwnsL.put (g := g.mvI (.fr s) off (.arg 0) 0) (w := w) (r := .fr s) (cs := cs) (ns := [c.cp1]) (vs := vs) (us := [u]) (off := off) f3.1.len rfl (by omega)
         (fun i xs sz e cv h1 h2 h3 => (f5 i xs sz e cv h1 h2).same sm hi ⟨by simp at h3 ⊢; omega,by simp⟩)
         (fun i xs sz e cv h1 h2 => by
           cases i with
           | zero => simp at h1; exact absurd h1 (AV.cp1_not_own _ _ _ _)
           | succ i => simp at h1)
       simp only [List.length_singleton] at this
       rwa [take_one hu] at this
   · simp only [Fr.get_set,if_neg e]
     exact VF.like l ((k.fr t).same sm hi (fun _ _ _ => rfl) (fun i => ⟨by simpa using fun h => absurd h.symm e,by simp⟩) ⟨by simp,by simp⟩ rfl)
 · cases j with
   | succ j => simp at hj
   | zero =>
     simp at hj; obtain ⟨rfl,rfl⟩ := hj
     rw [VF_loose hcu.loose]
     refine ⟨VX_of_V (V.mono (sm.ext hi) _ _ hcu),owns_of_tail (hcu.not_tup h1) fun xs sz e0 e => ?_⟩
     subst e
     exact (f5 off xs sz e0 u hc hu).mvI (sm.ext hi) fun _ _ _ => ⟨rfl,rfl⟩
 · exact k.hp.same sm hi (fun _ => ⟨by simp,by simp⟩) (fun _ _ => ⟨by simp,by simp⟩) (fun _ _ _ => ⟨by simp,by simp⟩) rfl
 · show (g.ow b o).mvI _ _ _ _ = _; rw [k.fresh b o hb]; rfl
 · exact k.gl.same sm hi ⟨by simp,by simp⟩
theorem Rel.takeobj (k:Rel G g st [] tm w) {id:Nat} {cs:List AV} {t0:Nat} (hs:st.hp[id]? = some (.cells t0 cs)) {off:Nat} {c:AV} (hc:cs[off]? = some c) :
   ∃ b u,g.hb[id]? = some b ∧ w.cell? ⟨b,off,none⟩ = some u ∧ Rel G (g.mvI (.ob id) off (.arg 0) 0) { st with hp := st.hp.set id (.cells t0 (Rf.put cs off [c.cp1])) } [(c,u)] tm w := by
 obtain ⟨b,k1,f4,k3⟩ := k.hp.obj id _ hs rfl
 simp only [ObjRel] at k3
 obtain ⟨vs,sp,ty,f2,f3,f5,f6⟩ := k3
 obtain ⟨u,hu,hcu⟩ := f3.1.get hc
 have hu2 : (vs ++ sp)[off]? = some u := by rw [List.getElem?_append,if_pos (List.getElem?_eq_some_iff.1 hu).1]; exact hu
 have h1 := f3.2 u (List.mem_of_getElem? hu)
 have sm := same_mvI g w (.ob id) off (.arg 0) 0
 have hi : (fun t => t ≠ Tag.tail (.ob id) off ∧ t ≠ Tag.tail (.arg 0) 0) Tag.imm := ⟨by simp,by simp⟩
 have hlt : off < cs.length := (List.getElem?_eq_some_iff.1 hc).1
 refine ⟨b,u,k1,by simp [World.cell?,f2,hu2],⟨fun t => ?_,fun j v cv hj => ?_,⟨by simp; exact k.hp.len,fun x ob hx hlive => ?_⟩,fun b o hb => ?_,?_⟩⟩
 · exact (k.fr t).same sm hi (fun _ _ _ => rfl) (fun i => ⟨by simp,by simp⟩) ⟨by simp,by simp⟩ rfl
 · cases j with
   | succ j => simp at hj
   | zero =>
     simp at hj; obtain ⟨rfl,rfl⟩ := hj
     rw [VF_loose hcu.loose]
     refine ⟨VX_of_V (V.mono (sm.ext hi) _ _ hcu),owns_of_tail (hcu.not_tup h1) fun xs sz e0 e => ?_⟩
     subst e
     exact (f5 off xs sz e0 u hc hu).mvI (sm.ext hi) fun _ _ _ => ⟨rfl,rfl⟩
 · simp only [List.getElem?_set] at hx
   by_cases e : id = x
   · subst e
     simp only [if_true] at hx
     split at hx
     · cases hx
       refine ⟨b,k1,fun i => ?_,?_⟩
       · show (g.ow _ _).mvI _ _ _ _ = _; rw [f4 i]; rfl
       · simp only [ObjRel]
         refine ⟨vs,sp,ty,f2,⟨?_,f3.2⟩,?_,f6⟩
         · have := VS.put (off := off) (VS.mono (sm.ext hi) _ _ f3.1) (ns := [c.cp1]) (us := [u]) (by simp only [VS]; exact ⟨u,[],rfl,(V.mono (sm.ext hi) _ _ hcu).cp1,rfl⟩)
           simp only [List.length_singleton] at this
           rwa [take_one hu] at this
         · have := OwnsL.put (g := g.mvI (.ob id) off (.arg 0) 0) (w := w) (r := .ob id) (cs := cs) (ns := [c.cp1]) (vs := vs) (us := [u]) (off := off) f3.1.len rfl (by omega)
             (fun i xs sz e cv h1 h2 h3 => (f5 i xs sz e cv h1 h2).same sm hi ⟨by simp at h3 ⊢; omega,by simp⟩)
             (fun i xs sz e cv h1 h2 => by
               cases i with
               | zero => simp at h1; exact absurd h1 (AV.cp1_not_own _ _ _ _)
               | succ i => simp at h1)
           simp only [List.length_singleton] at this
           rwa [take_one hu] at this
     · cases hx
   · rw [if_neg e] at hx
     obtain ⟨b',e1,e2,e3⟩ := k.hp.obj x ob hx hlive
     refine ⟨b',e1,fun i => ?_,e3.same sm hi e2 ⟨by simp,by simp⟩ (fun i => ⟨by simpa using fun h => absurd h.symm e,by simp⟩) (fun i j => ⟨by simp,by simp⟩)⟩
     show (g.ow _ _).mvI _ _ _ _ = _; rw [e2 i]; rfl
 · show (g.ow b o).mvI _ _ _ _ = _; rw [k.fresh b o hb]; rfl
 · exact k.gl.same sm hi ⟨by simp,by simp⟩
theorem fits_load_take (k:Rel G g st [] a.tmps w) {x:Opd} {y:Operand} (hx:opdOk x y = true) {t:TypeId} (ht:tyOk P t 1 false = true) (ho:o.op = .load t y) {lo:Nat} {st' : St}
   {cs l:List AV} {off:Nat} (h:Rf.behind G st (opd st.fr x).1 = some (cs,off)) (hl:cut cs off 1 = some l) (hput:behindPut lo st (put cs off (l.map AV.cp1)) (opd st.fr x).1 = some st') : Fits P G g st (.val (ofCells false l) st') o a w := by
 have hr := k.read hx
 obtain ⟨hl1,hl2⟩ := cut_get hl
 match l,hl1 with
 | [c], _ =>
   have hc := hl2 0 c rfl
   rw [Nat.add_zero] at hc
   simp only [ofCells,Bool.false_eq_true,if_false,List.headD,List.map_cons,List.map_nil] at hput ⊢
   have run : ∀ b u,Act.opd a.tmps y = .pointer (some ⟨b,off,none⟩) → w.cell? ⟨b,off,none⟩ = some u → (execOp a.eval o).run P w = .ok (.value u) w := fun b u e1 e2 => by
     have := run_loadVar_at (w := w) ht (b := b) (off := off) (us := [u]) rfl (fun i v hv => by
       cases i with
       | zero => simp at hv; subst hv; simpa using e2
       | succ i => simp at hv)
     simp only [Bool.false_eq_true,if_false,List.headD] at this
     simp [execOp,ho,Act.eval_eq,e1,Instr.loadAt,Instr.sureAddr,this]
   generalize (opd st.fr x).1 = p at *
   cases p <;> simp only [behindPut] at hput <;> try (cases hput; done)
   case lref s off' =>
     cases hput
     simp only [Rf.behind] at h
     cases hf : st.fr.get s <;> simp [hf] at h
     obtain ⟨rfl,rfl⟩ := h
     obtain ⟨u,e1,e2⟩ := k.takebox hf hc
     simp only [VX] at hr
     exact fits_value (run _ u hr.1 e1) e2 (stay_mvI _ _ _ _ _ _)
   case ptr id off' =>
     split at hput
     case isFalse => cases hput
     simp only [Rf.behind] at h
     cases hf : st.hp[id]? with
     | none => simp [hf] at h
     | some ob =>
       cases ob with
       | dead => simp [hf] at h
       | map es => simp [hf] at h
       | cells t0 ds =>
         simp [hf] at h hput
         subst hput
         obtain ⟨rfl,rfl⟩ := h
         obtain ⟨b,u,e0,e1,e2⟩ := k.takeobj hf hc
         simp only [VX,V] at hr
         obtain ⟨b',h1,h2⟩ := hr
         rw [e0] at h1; cases h1
         exact fits_value (run _ u h2 e1) e2 (stay_mvI _ _ _ _ _ _)
end
end Go.Proofs.YtkofimhnehkdoaaGreatDoor.Rf
end
section
namespace Go.Proofs.YtkofimhnehkdoaaGreatDoor.Rf
section
variable {P:Program} {G:Nat → Option (List AV)} {g g' : Gh} {st:St} {a:Act} {w w' : World} {o:Oper} {tm:Array Value} {ps:List (AV × Value)}
def fieldOk (P:Program) (s:TypeId) (f off n:Nat) : Bool :=
 match P.underlying s with
 | some (.struct fs) => match fs[f]? with | some x => decide (x.offset = off) && (match P.info? x.type with | some i => decide (i.size = n) && decide (0 < n) | none => false) | none => false
 | _ => false
theorem run_fieldAt {s:TypeId} {f off n b q:Nat} (h:fieldOk P s f off n = true) : (Instr.fieldAt s (.pointer (some ⟨b,q,none⟩)) f).run P w = .ok (.pointer (some ⟨b,q + off,none⟩)) w := by
 unfold fieldOk at h
 cases hu : P.underlying s with
 | none => simp [hu] at h
 | some d =>
   cases d <;> simp [hu] at h
   rename_i fs
   cases hf : fs[f]? with
   | none => simp [hf] at h
   | some x =>
     cases hi : P.info? x.type with
     | none => simp [hf,hi] at h
     | some i =>
       simp [hf,hi] at h
       obtain ⟨h1,h2,h3⟩ := h
       simp [Instr.fieldAt,run_underlying hu,hf,Instr.sureAddr,fieldPlace,sizeOf,typeInfo,hi,h2,Nat.ne_of_gt h3,h1,Addr.add_lit]
theorem fits_faddr (k:Rel G g st [] a.tmps w) {x:Opd} {y:Operand} (hx:opdOk x y = true) {s:TypeId} {f off n:Nat} (hf:fieldOk P s f off n = true) (ho:o.op = .fieldAddr s y f) {v v' : AV} (hv:(opd st.fr x).1 = v)
   (hk:(∃ i q,v = .ptr i q ∧ v' = .ptr i (q + off)) ∨ (∃ i q,v = .lref i q ∧ v' = .lref i (q + off)) ∨ (∃ e q,v = .eref e q ∧ v' = .eref e (q + off)) ∨ ∃ i q,v = .glob i q ∧ v' = .glob i (q + off)) : Fits P G g st (.val v' st) o a w := by
 have h1 := k.read hx; rw [hv] at h1
 have run : ∀ b q,Act.opd a.tmps y = .pointer (some ⟨b,q,none⟩) → (execOp a.eval o).run P w = .ok (.value (.pointer (some ⟨b,q + off,none⟩))) w := fun b q e => by
   simp [execOp,ho,Act.eval_eq,e,run_fieldAt hf]
 rcases hk with ⟨i,q,rfl,rfl⟩ | ⟨i,q,rfl,rfl⟩ | ⟨i,q,rfl,rfl⟩ | ⟨i,q,rfl,rfl⟩ <;> simp only [VX,V] at h1
 · obtain ⟨b,h2,h1⟩ := h1
   exact fits_pure k (run _ _ h1) (VF_scalar rfl (by simp only [VX,V]; exact ⟨b,h2,rfl⟩) (by simp) (by simp))
 · obtain ⟨h1,h2⟩ := h1
   exact fits_pure k (run _ _ h1) (VF_scalar rfl (by simp only [VX]; exact ⟨trivial,h2⟩) (by simp) (by simp))
 · obtain ⟨b,o0,h1,h2⟩ := h1
   exact fits_pure k (run _ _ h1) (VF_scalar rfl (by simp only [VX]; exact ⟨b,o0,by rw [Nat.add_assoc],h2⟩) (by simp) (by simp))
 · exact fits_pure k (run _ _ h1) (VF_scalar rfl (by simp only [VX,V]) (by simp) (by simp))
theorem VE.get {sz:Nat} : ∀ {xs:List AV} {b off:Nat},VE g w sz xs b off → ∀ {j:Nat} {x:AV},xs[j]? = some x → x.cells.length = sz ∧ VC g w x.cells b (off + j * sz)
 | [],_,_,_,_,_,h => by simp at h
 | y :: xs,b,off,h,0,x,hx => by
   simp at hx; subst hx
   rw [Nat.zero_mul,Nat.add_zero]
   cases y <;> simp only [VE] at h <;> simp only [AV.cells] <;> first
     | exact h.1
     | exact ⟨h.1.1,by simp only [VC]; exact ⟨h.1.2,trivial⟩⟩
 | y :: xs,b,off,h,j + 1,x,hx => by
   have h2 : VE g w sz xs b (off + sz) := by cases y <;> simp only [VE] at h <;> exact h.2
   have := VE.get h2 (j := j) (by simpa using hx)
   rwa [show off + sz + j * sz = off + (j + 1) * sz by rw [Nat.succ_mul]; omega] at this
def sliceOk (P:Program) (t:TypeId) (sz:Nat) : Bool :=
 match P.underlying t with
 | some (.slice e) => (match P.info? e with | some i => decide (i.size = sz) | none => false)
 | _ => false
theorem run_indexAt_slice {t:TypeId} {sz:Nat} (h:sliceOk P t sz = true) {b q n c:Nat} {kk:IntKind} {j:Int} (h0:0 ≤ j) (h1:j < n) :
   (Instr.indexAt t (.slice (some ⟨b,q,none⟩) n c) (.int kk j)).run P w = .ok (.pointer (some ⟨b,q + j.toNat * sz,none⟩)) w := by
 unfold sliceOk at h
 cases hu : P.underlying t with
 | none => simp [hu] at h
 | some d =>
   cases d <;> simp [hu] at h
   rename_i e
   cases hi : P.info? e with
   | none => simp [hi] at h
   | some i =>
     simp [hi] at h
     simp [Instr.indexAt,asIntOf,run_underlying hu,sizeOf,typeInfo,hi,h,h0,h1,Addr.add_lit]
theorem fits_iaddrL (k:Rel G g st [] a.tmps w) {x i:Opd} {y u:Operand} (hx:opdOk x y = true) (hi:opdOk i u = true) {t:TypeId} {sz:Nat} (hf:sliceOk P t sz = true) (ho:o.op = .indexAddr t y u) {xs:List AV} {ow:Own} (hv:(opd st.fr x).1 = .list xs ow)
   {kk:IntKind} {j:Int} (hj:(opd st.fr i).1 = .int kk j) (h0:0 ≤ j) (h1:j < xs.length) {e:AV} (he:xs[j.toNat]? = some e) (hs:e.cells.length = sz) : Fits P G g st (.val (.eref e 0) st) o a w := by
 have hr := k.read hx; rw [hv] at hr; simp only [VX,V] at hr
 have hri := k.read hi; rw [hj] at hri; simp only [VX,V] at hri
 obtain ⟨A,c,e1,e2,e3,e4,e5,e6⟩ := hr
 cases A with
 | none => have := e5 rfl; omega
 | some ad =>
   obtain ⟨hsp,_,sz',hE⟩ := e6 ad rfl
   replace hsp := hsp (.inr (by omega))
   obtain ⟨ab,ao,asp⟩ := ad
   simp only at hsp hE; subst hsp
   obtain ⟨g1,g2⟩ := hE.get he
   have : sz' = sz := by omega
   subst this
   refine fits_pure k (cv := .pointer (some ⟨ab,ao + j.toNat * sz',none⟩)) ?_ (VF_scalar rfl (by simp only [VX]; exact ⟨ab,_,rfl,g2⟩) (by simp) (by simp))
   simp [execOp,ho,Act.eval_eq,e1,hri,run_indexAt_slice hf h0 h1]
theorem fits_iaddrL_last (k:Rel G g st [] a.tmps w) {s:Nat} {tk:Bool} {i:Opd} {y u:Operand} (hx:opdOk (.t s tk) y = true) (hi:opdOk i u = true) {t:TypeId} {sz:Nat} (hf:sliceOk P t sz = true) (ho:o.op = .indexAddr t y u) {xs:List AV} (hv:st.fr.get s = .pend xs sz)
   {kk:IntKind} {j:Int} (hj:(opd st.fr i).1 = .int kk j) (h1:j = xs.length) : Fits P G g st (.val (.lastr s) st) o a w := by
 have f := k.fr s; rw [hv] at f; simp only [VF] at f
 obtain ⟨ad,c,e1,e2,e3,e4,e5⟩ := f
 cases y <;> simp [opdOk] at hx
 subst hx
 have hri := k.read hi; rw [hj] at hri; simp only [VX,V] at hri
 obtain ⟨ab,ao,asp⟩ := ad
 simp only at e4; subst e4
 refine fits_pure k (cv := .pointer (some ⟨ab,ao + xs.length * sz,none⟩)) ?_ (VF_scalar rfl (by simp only [VX]; exact ⟨xs,sz,_,c,hv,e1,rfl⟩) (by simp) (by simp))
 have h2 : j.toNat = xs.length := by omega
 have := run_indexAt_slice (w := w) hf (b := ab) (q := ao) (n := xs.length + 1) (c := c) (kk := kk) (j := j) (by omega) (by omega)
 rw [h2] at this
 simp [execOp,ho,Act.eval_eq,hri,this]
 rw [show Act.opd a.tmps (Operand.tmp s) = _ from e1,this]; rfl
def arrayOk (P:Program) (t:TypeId) (len sz:Nat) : Bool :=
 match P.underlying t with
 | some (.array n e) => decide (n = len) && (match P.info? e with | some i => decide (i.size = sz) | none => false)
 | _ => false
theorem run_indexAt_array {t:TypeId} {len sz:Nat} (h:arrayOk P t len sz = true) {b q:Nat} {kk:IntKind} {j:Int} (h0:0 ≤ j) (h1:j < len) :
   (Instr.indexAt t (.pointer (some ⟨b,q,none⟩)) (.int kk j)).run P w = .ok (.pointer (some ⟨b,q + j.toNat * sz,none⟩)) w := by
 unfold arrayOk at h
 cases hu : P.underlying t with
 | none => simp [hu] at h
 | some d =>
   cases d <;> simp [hu] at h
   rename_i n e
   cases hi : P.info? e with
   | none => simp [hi] at h
   | some i =>
     simp [hi] at h
     obtain ⟨rfl,h⟩ := h
     simp [Instr.indexAt,asIntOf,run_underlying hu,sizeOf,typeInfo,hi,h,h0,h1,Instr.sureAddr,Addr.add_lit]
theorem fits_iaddrA (k:Rel G g st [] a.tmps w) {x i:Opd} {y u:Operand} (hx:opdOk x y = true) (hi:opdOk i u = true) {t:TypeId} {len sz:Nat} (hf:arrayOk P t len sz = true) (ho:o.op = .indexAddr t y u) {v v' : AV} (hv:(opd st.fr x).1 = v)
   {kk:IntKind} {j:Int} (hj:(opd st.fr i).1 = .int kk j) (h0:0 ≤ j) (h1:j < len)
   (hk:(∃ i q,v = .ptr i q ∧ v' = .ptr i (q + j.toNat * sz)) ∨ (∃ i q,v = .lref i q ∧ v' = .lref i (q + j.toNat * sz)) ∨ (∃ e q,v = .eref e q ∧ v' = .eref e (q + j.toNat * sz)) ∨ ∃ i q,v = .glob i q ∧ v' = .glob i (q + j.toNat * sz)) : Fits P G g st (.val v' st) o a w := by
 have h2 := k.read hx; rw [hv] at h2
 have hri := k.read hi; rw [hj] at hri; simp only [VX,V] at hri
 have run : ∀ b q,Act.opd a.tmps y = .pointer (some ⟨b,q,none⟩) → (execOp a.eval o).run P w = .ok (.value (.pointer (some ⟨b,q + j.toNat * sz,none⟩))) w := fun b q e => by
   simp [execOp,ho,Act.eval_eq,e,hri,run_indexAt_array hf h0 h1]
 rcases hk with ⟨i,q,rfl,rfl⟩ | ⟨i,q,rfl,rfl⟩ | ⟨i,q,rfl,rfl⟩ | ⟨i,q,rfl,rfl⟩ <;> simp only [VX,V] at h2
 · obtain ⟨b,h3,h2⟩ := h2
   exact fits_pure k (run _ _ h2) (VF_scalar rfl (by simp only [VX,V]; exact ⟨b,h3,rfl⟩) (by simp) (by simp))
 · obtain ⟨h2,h3⟩ := h2
   exact fits_pure k (run _ _ h2) (VF_scalar rfl (by simp only [VX]; exact ⟨trivial,h3⟩) (by simp) (by simp))
 · obtain ⟨b,o0,h2,h3⟩ := h2
   exact fits_pure k (run _ _ h2) (VF_scalar rfl (by simp only [VX]; exact ⟨b,o0,by rw [Nat.add_assoc],h3⟩) (by simp) (by simp))
 · exact fits_pure k (run _ _ h2) (VF_scalar rfl (by simp only [VX,V]) (by simp) (by simp))
theorem fits_idxS (k:Rel G g st [] a.tmps w) {x i:Opd} {y u:Operand} (hx:opdOk x y = true) (hi:opdOk i u = true) {t:TypeId} (hf:P.underlying t = some .string) (ho:o.op = .index t y u) {s:List UInt8} (hv:(opd st.fr x).1 = .str s)
   {kk:IntKind} {j:Int} (hj:(opd st.fr i).1 = .int kk j) (h0:0 ≤ j) {c:UInt8} (hc:s[j.toNat]? = some c) : Fits P G g st (.val (.int .u8 c.toNat) st) o a w := by
 have hr := k.read hx; rw [hv] at hr; simp only [VX,V] at hr
 have hri := k.read hi; rw [hj] at hri; simp only [VX,V] at hri
 refine fits_pure k (cv := .int .u8 c.toNat) ?_ (VF_scalar rfl (by simp only [VX,V]) (by simp) (by simp))
 obtain ⟨h1,h2⟩ := List.getElem?_eq_some_iff.1 hc
 have hlt : j < ((⟨s.toArray⟩ : ByteArray).size : Int) := by show j < ((s.toArray.size : Nat) : Int); simp; omega
 have hb : ((⟨s.toArray⟩ : ByteArray)[j.toNat]'(by omega)) = c := by show s.toArray[j.toNat] = c; simpa using h2
 simp only [execOp,ho,Act.eval_eq,hr,hri,Sem.run_bind,run_index_string w t _ kk j hf,dif_pos (show 0 ≤ j ∧ j < ((⟨s.toArray⟩ : ByteArray).size : Int) from ⟨h0,hlt⟩),Result.andThen_ok,hb]
 rfl
theorem fits_int (k:Rel G g st [] a.tmps w) {kk:IntKind} {n:Int} (hrun:(execOp a.eval o).run P w = .ok (.value (.int kk n)) w) : Fits P G g st (.val (.int kk n) st) o a w :=
 fits_pure k hrun (VF_scalar rfl (by simp only [VX,V]) (by simp) (by simp))
theorem fits_bool (k:Rel G g st [] a.tmps w) {b:Bool} (hrun:(execOp a.eval o).run P w = .ok (.value (.bool b)) w) : Fits P G g st (.val (.bool b) st) o a w :=
 fits_pure k hrun (VF_scalar rfl (by simp only [VX,V]) (by simp) (by simp))
theorem run_eqGuard_int (op:BinOp) (t:TypeId) (x y:Operand) (k k' : IntKind) (m n:Int) : (eqGuard op t x y (.int k m) (.int k' n)).run P w = .ok () w := by
 unfold eqGuard; cases op <;> simp
theorem run_eqGuard_str (op:BinOp) (t:TypeId) (x y:Operand) (m n:ByteArray) : (eqGuard op t x y (.string m) (.string n)).run P w = .ok () w := by
 unfold eqGuard; cases op <;> simp
theorem fits_bin (k:Rel G g st [] a.tmps w) {x y:Opd} {x' y' : Operand} (hx:opdOk x x' = true) (hy:opdOk y y' = true) {op:BinOp} {t t' : TypeId} (ho:o.op = .binOp op t x' y' t') {v:AV} (h:binAV op (opd st.fr x).1 (opd st.fr y).1 = some v) : Fits P G g st (.val v st) o a w := by
 have hr := k.read hx
 have hs := k.read hy
 generalize (opd st.fr x).1 = p at *
 generalize (opd st.fr y).1 = q at *
 cases p <;> try (simp [binAV] at h; done)
 case int kk m =>
   cases q <;> try (simp [binAV] at h; done)
   case int k2 n =>
     simp only [VX,V] at hr hs
     have run : (execOp a.eval o).run P w = ((binOp op t (.int kk m) (.int k2 n)).run P w).andThen fun v w => .ok (.value v) w := by
       simp [execOp,ho,Act.eval_eq,hr,hs,run_eqGuard_int]
     cases op <;> simp only [binAV,shiftBin,intBin] at h
     all_goals
       repeat' split at h
       all_goals try (cases h; done)
       all_goals
         cases h
         first
           | (refine fits_int k ?_; rw [run]; simp only [binOp,Op.shift]; rw [if_neg (by assumption)]; rfl)
           | (refine fits_int k ?_; rw [run]; simp_all [binOp,Op.intArith,Op.intDiv,Op.intBits,Op.intCmp,Op.shift]; done)
           | (refine fits_bool k ?_; rw [run]; simp_all [binOp,Op.intArith,Op.intDiv,Op.intBits,Op.intCmp,Op.shift]; done)
 case str m =>
   cases q <;> try (simp [binAV] at h; done)
   case str n =>
     simp only [VX,V] at hr hs
     have run : (execOp a.eval o).run P w = ((binOp op t (.string ⟨m.toArray⟩) (.string ⟨n.toArray⟩)).run P w).andThen fun v w => .ok (.value v) w := by
       simp [execOp,ho,Act.eval_eq,hr,hs,run_eqGuard_str]
     have app : (⟨m.toArray⟩ : ByteArray) ++ (⟨n.toArray⟩ : ByteArray) = ⟨(m ++ n).toArray⟩ := by
       apply ByteArray.ext
       simp
     cases op <;> simp only [binAV,strBin] at h
     case add =>
       split at h
       · rename_i hle
         cases h
         refine fits_pure k (cv := .string ⟨(m ++ n).toArray⟩) ?_ (VF_scalar rfl (by simp only [VX,V]) (by simp) (by simp))
         rw [run]
         have h1 : ¬ (((⟨m.toArray⟩ : ByteArray).size + (⟨n.toArray⟩ : ByteArray).size : Nat) : Int) > IntKind.i64.max := by
           show ¬ (((m.toArray.size + n.toArray.size : Nat)) : Int) > 9223372036854775807
           simp; omega
         simp only [binOp,Op.stringOp,if_neg h1,app,Sem.run_pure,Result.andThen_ok]
       · cases h
     all_goals first
       | (cases h; done)
       | (cases h; refine fits_bool k ?_; rw [run]; simp [binOp,Op.stringOp])
end
end Go.Proofs.YtkofimhnehkdoaaGreatDoor.Rf
end
section
namespace Go.Proofs.YtkofimhnehkdoaaGreatDoor.Rf
section
variable {P:Program} {G:Nat → Option (List AV)} {g g' : Gh} {st:St} {a:Act} {w w' : World} {o:Oper} {tm:Array Value} {ps:List (AV × Value)}
def isConstNil : Operand → Bool
 | .const .nilIface => true
 | _ => false
def eqOk (P:Program) (k:EqK) (t:TypeId) (x y:Operand) : Bool :=
 match k,P.underlying t with
 | .bool,some .bool => true
 | .ptr,some (.pointer e) => (match P.info? e with | some i => decide (0 < i.size) | none => false)
 | .iface,some (.interface _) => isConstNil x || isConstNil y
 | .ifaceT tx,some (.interface _) => (match P.info? tx with | some i => i.comparable | none => false) && (match P.underlying tx with | some (.int _) => true | _ => false)
 | .func,some (.func _ _ _) => true
 | .map,some (.map _ _) => true
 | .slice,some (.slice _) => true
 | _,_ => false
section
variable (d:Nat) {t:TypeId}
theorem eqIn_bool (hu:P.underlying t = some .bool) (m n:Bool) : (Op.equalIn (d + 1) t (.bool m) (.bool n)).run P w = .ok (m == n) w := by simp [Op.equalIn,run_underlying hu]
theorem eqIn_pnn {e:TypeId} (hu:P.underlying t = some (.pointer e)) (y:Option Addr) : (Op.equalIn (d + 1) t (.pointer none) (.pointer y)).run P w = .ok y.isNone w := by simp [Op.equalIn,run_underlying hu]
theorem eqIn_psn {e:TypeId} (hu:P.underlying t = some (.pointer e)) (x:Addr) : (Op.equalIn (d + 1) t (.pointer (some x)) (.pointer none)).run P w = .ok false w := by simp [Op.equalIn,run_underlying hu]
theorem eqIn_pss {e:TypeId} (hu:P.underlying t = some (.pointer e)) {i:TypeInfo} (hi:P.info? e = some i) (h0:0 < i.size) (b o1 o2:Nat) : (Op.equalIn (d + 1) t (.pointer (some ⟨b,o1,none⟩)) (.pointer (some ⟨b,o2,none⟩))).run P w = .ok (o1 == o2) w := by
 have hd : ((⟨b,o1,none⟩ : Addr) == ⟨b,o2,none⟩) = (o1 == o2) := by
   rw [Bool.eq_iff_iff]; simp
 simp [Op.equalIn,run_underlying hu,sizeOf,typeInfo,hi,Nat.ne_of_gt h0,sameAddr,hd]
theorem eqIn_inn {ms:Array (String × TypeId)} (hu:P.underlying t = some (.interface ms)) : (Op.equalIn (d + 1) t .nilIface .nilIface).run P w = .ok true w := by simp [Op.equalIn,run_underlying hu]
theorem eqIn_ins {ms:Array (String × TypeId)} (hu:P.underlying t = some (.interface ms)) (x:TypeId) (v:Value) : (Op.equalIn (d + 1) t .nilIface (.iface x v)).run P w = .ok false w := by simp [Op.equalIn,run_underlying hu]
theorem eqIn_isn {ms:Array (String × TypeId)} (hu:P.underlying t = some (.interface ms)) (x:TypeId) (v:Value) : (Op.equalIn (d + 1) t (.iface x v) .nilIface).run P w = .ok false w := by simp [Op.equalIn,run_underlying hu]
theorem eqIn_iii {ms:Array (String × TypeId)} (hu:P.underlying t = some (.interface ms)) {tx:TypeId} {i:TypeInfo} {q:IntKind} (hi:P.info? tx = some i) (hc:i.comparable = true) (hx:P.underlying tx = some (.int q)) (k:IntKind) (a b:Int) : (Op.equalIn (d + 2) t (.iface tx (.int k a)) (.iface tx (.int k b))).run P w = .ok (a == b) w := by simp [Op.equalIn,run_underlying hu,run_underlying hx,typeInfo,hi,hc]
theorem eqIn_iij {ms:Array (String × TypeId)} (hu:P.underlying t = some (.interface ms)) {tx ty:TypeId} (hne:tx ≠ ty) (vx vy:Value) : (Op.equalIn (d + 1) t (.iface tx vx) (.iface ty vy)).run P w = .ok false w := by simp [Op.equalIn,run_underlying hu,hne]
theorem eqIn_fnn {ps rs:Array TypeId} {vd:Bool} (hu:P.underlying t = some (.func ps rs vd)) : (Op.equalIn (d + 1) t .nilFunc .nilFunc).run P w = .ok true w := by simp [Op.equalIn,run_underlying hu]
theorem eqIn_fns {ps rs:Array TypeId} {vd:Bool} (hu:P.underlying t = some (.func ps rs vd)) (f:Fn) (x y:Array Value) : (Op.equalIn (d + 1) t .nilFunc (.func f x y)).run P w = .ok false w := by simp [Op.equalIn,run_underlying hu]
theorem eqIn_fsn {ps rs:Array TypeId} {vd:Bool} (hu:P.underlying t = some (.func ps rs vd)) (f:Fn) (x y:Array Value) : (Op.equalIn (d + 1) t (.func f x y) .nilFunc).run P w = .ok false w := by simp [Op.equalIn,run_underlying hu]
theorem eqIn_mnx {k e:TypeId} (hu:P.underlying t = some (.map k e)) (y:Option Nat) : (Op.equalIn (d + 1) t (.map none) (.map y)).run P w = .ok y.isNone w := by simp [Op.equalIn,run_underlying hu]
theorem eqIn_msn {k e:TypeId} (hu:P.underlying t = some (.map k e)) (y:Nat) : (Op.equalIn (d + 1) t (.map (some y)) (.map none)).run P w = .ok false w := by simp [Op.equalIn,run_underlying hu]
theorem eqIn_snx {e:TypeId} (hu:P.underlying t = some (.slice e)) (y:Option Addr) (a b c d' : Nat) : (Op.equalIn (d + 1) t (.slice none a b) (.slice y c d')).run P w = .ok y.isNone w := by simp [Op.equalIn,run_underlying hu]
theorem eqIn_ssn {e:TypeId} (hu:P.underlying t = some (.slice e)) (y:Addr) (a b c d' : Nat) : (Op.equalIn (d + 1) t (.slice (some y) a b) (.slice none c d')).run P w = .ok false w := by simp [Op.equalIn,run_underlying hu]
end
def odd : Value → Bool
 | .int _ _ | .float _ _ | .complex _ _ _ | .string _ => false
 | _ => true
theorem fits_eq_of (k:Rel G g st [] a.tmps w) {x' y' : Operand} {neg:Bool} {t t' : TypeId} (ho:o.op = .binOp (if neg then .neq else .eql) t x' y' t') {X Y:Value} (hX:Act.opd a.tmps x' = X) (hY:Act.opd a.tmps y' = Y) {b:Bool} (h1:odd X = true)
   (hg:∀ op,(eqGuard op t x' y' X Y).run P w = .ok () w) (h:(Op.equalIn (9999 + 1) t X Y).run P w = .ok b w) : Fits P G g st (.val (.bool (if neg then !b else b)) st) o a w := by
 refine fits_bool k ?_
 have h2 : (Op.equal t X Y).run P w = .ok b w := h
 cases neg
 · have ho' : o.op = .binOp .eql t x' y' t' := ho
   simp only [execOp,ho',Act.eval_eq,hX,hY,Sem.run_bind,hg,Result.andThen_ok,Bool.false_eq_true,if_false]
   cases X <;> simp [odd] at h1 <;> simp [binOp,h2]
 · have ho' : o.op = .binOp .neq t x' y' t' := ho
   simp only [execOp,ho',Act.eval_eq,hX,hY,Sem.run_bind,hg,Result.andThen_ok,if_true]
   cases X <;> simp [odd] at h1 <;> simp [binOp,h2]
theorem eqGuard_plain {op:BinOp} {t:TypeId} {x y:Operand} {X Y:Value} (h1:∀ cs,X ≠ .agg cs) (h2:X ≠ .nilIface ∨ Y ≠ .nilIface) : (eqGuard op t x y X Y).run P w = .ok () w := by
 unfold eqGuard
 cases op <;> simp only [] <;> try rfl
 all_goals
   cases X <;> cases Y <;> first
     | rfl
     | (exact absurd rfl (h1 _))
     | (rcases h2 with h2 | h2 <;> exact absurd rfl h2)
theorem eqGuard_nil {op:BinOp} {t:TypeId} {x y:Operand} (h:(isConstNil x || isConstNil y) = true) : (eqGuard op t x y .nilIface .nilIface).run P w = .ok () w := by
 unfold eqGuard
 cases op <;> simp only [] <;> try rfl
 all_goals
   cases x <;> cases y <;> first
     | rfl
     | (simp [isConstNil] at h; done)
theorem fits_eq (k:Rel G g st [] a.tmps w) {x y:Opd} {x' y' : Operand} (hx:opdOk x x' = true) (hy:opdOk y y' = true) {neg:Bool} {kd:EqK} {t t' : TypeId} (hk:eqOk P kd t x' y' = true)
   (ho:o.op = .binOp (if neg then .neq else .eql) t x' y' t') {b:Bool} (h:eqAV kd (opd st.fr x).1 (opd st.fr y).1 = some b) : Fits P G g st (.val (.bool (if neg then !b else b)) st) o a w := by
 have hr := k.read hx
 have hs := k.read hy
 generalize (opd st.fr x).1 = p at *
 generalize (opd st.fr y).1 = q at *
 unfold eqOk at hk
 cases kd <;> cases hu : P.underlying t <;> simp only [hu] at hk <;> try (simp at hk; done)
 all_goals
   rename_i d
   cases d <;> simp only [] at hk <;> try (simp at hk; done)
 · -- bool
   cases p <;> cases q <;> simp [eqAV] at h
   simp only [VX,V] at hr hs; subst h
   exact fits_eq_of k ho hr hs rfl (fun op => eqGuard_plain (by simp) (by simp)) (eqIn_bool _ hu _ _)
 · -- ptr
   cases p <;> cases q <;> simp only [eqAV] at h <;> try (cases h; done)
   · simp only [VX,V] at hr hs; obtain ⟨b1,r1,r2⟩ := hr; obtain ⟨b2,s1,s2⟩ := hs
     split at h <;> simp at h
     subst h; rename_i e1; subst e1
     rw [r1] at s1; cases s1
     rename_i e _ _ _
     cases hi : P.info? e with
     | none => simp [hi] at hk
     | some i =>
       simp [hi] at hk
       exact fits_eq_of k ho r2 s2 rfl (fun op => eqGuard_plain (by simp) (by simp)) (eqIn_pss _ hu hi hk _ _ _)
   · simp only [VX,V] at hr hs; obtain ⟨b1,r1,r2⟩ := hr; cases h
     exact fits_eq_of k ho r2 hs rfl (fun op => eqGuard_plain (by simp) (by simp)) (eqIn_psn _ hu _)
   · simp only [VX,V] at hr hs; obtain ⟨b1,s1,s2⟩ := hs; cases h
     exact fits_eq_of k ho hr s2 rfl (fun op => eqGuard_plain (by simp) (by simp)) (eqIn_pnn _ hu _)
   · simp only [VX,V] at hr hs; cases h
     exact fits_eq_of k ho hr hs rfl (fun op => eqGuard_plain (by simp) (by simp)) (eqIn_pnn _ hu _)
 · -- iface
   cases p <;> cases q <;> simp only [eqAV] at h <;> try (cases h; done)
   · simp only [VX,V] at hr hs; obtain ⟨u,r2,_⟩ := hr; cases h
     exact fits_eq_of k ho r2 hs rfl (fun op => eqGuard_plain (by simp) (by simp)) (eqIn_isn _ hu _ _)
   · simp only [VX,V] at hr hs; obtain ⟨u,s2,_⟩ := hs; cases h
     exact fits_eq_of k ho hr s2 rfl (fun op => eqGuard_plain (by simp) (by simp)) (eqIn_ins _ hu _ _)
   · simp only [VX,V] at hr hs; cases h
     exact fits_eq_of k ho hr hs rfl (fun op => eqGuard_nil hk) (eqIn_inn _ hu)
 · -- func
   cases p <;> cases q <;> simp only [eqAV] at h <;> try (cases h; done)
   · simp only [VX,V] at hr hs; obtain ⟨u,r2,_⟩ := hr; cases h
     exact fits_eq_of k ho r2 hs rfl (fun op => eqGuard_plain (by simp) (by simp)) (eqIn_fsn _ hu _ _ _)
   · simp only [VX,V] at hr hs; obtain ⟨u,s2,_⟩ := hs; cases h
     exact fits_eq_of k ho hr s2 rfl (fun op => eqGuard_plain (by simp) (by simp)) (eqIn_fns _ hu _ _ _)
   · simp only [VX,V] at hr hs; cases h
     exact fits_eq_of k ho hr hs rfl (fun op => eqGuard_plain (by simp) (by simp)) (eqIn_fnn _ hu)
 · -- map
   cases p <;> cases q <;> simp only [eqAV] at h <;> try (cases h; done)
   · simp only [VX,V] at hr hs; obtain ⟨u,_,r2⟩ := hr; cases h
     exact fits_eq_of k ho r2 hs rfl (fun op => eqGuard_plain (by simp) (by simp)) (eqIn_msn _ hu _)
   · simp only [VX,V] at hr hs; obtain ⟨u,_,s2⟩ := hs; cases h
     exact fits_eq_of k ho hr s2 rfl (fun op => eqGuard_plain (by simp) (by simp)) (eqIn_mnx _ hu _)
   · simp only [VX,V] at hr hs; cases h
     exact fits_eq_of k ho hr hs rfl (fun op => eqGuard_plain (by simp) (by simp)) (eqIn_mnx _ hu _)
 · -- slice
   cases p <;> cases q <;> simp only [eqAV] at h <;> try (cases h; done)
   rename_i xs o1 ys o2
   simp only [VX,V] at hr hs
   obtain ⟨A,c,e1,e2,e3,e4,e5,e6⟩ := hr
   obtain ⟨A',c',d1,d2,d3,d4,d5,d6⟩ := hs
   cases ys with
   | cons z zs => cases xs <;> simp [eqAV] at h
   | nil =>
     cases o2 <;> try (cases xs <;> cases o1 <;> simp [eqAV] at h; done)
     have hA' := d4.1 rfl; subst hA'
     cases xs with
     | nil =>
       cases o1 <;> simp [eqAV] at h
       have hA := e4.1 rfl; subst hA; subst h
       exact fits_eq_of k ho e1 d1 rfl (fun op => eqGuard_plain (by simp) (by simp)) (eqIn_snx _ hu _ _ _ _ _)
     | cons z zs =>
       simp [eqAV] at h; subst h
       cases A with
       | none => have := e5 rfl; simp at e2; omega
       | some ad => exact fits_eq_of k ho e1 d1 rfl (fun op => eqGuard_plain (by simp) (by simp)) (eqIn_ssn _ hu _ _ _ _ _)
 · -- interfaces,of one type of integers
   rename_i tx ms
   simp only [Bool.and_eq_true] at hk
   obtain ⟨hk1,hk2⟩ := hk
   cases hi : P.info? tx with
   | none => simp [hi] at hk1
   | some i =>
     simp only [hi] at hk1
     cases hx : P.underlying tx with
     | none => simp [hx] at hk2
     | some dx =>
       cases dx <;> simp only [hx] at hk2 <;> try (cases hk2; done)
       cases p <;> cases q <;> simp only [eqAV] at h <;> try (cases h; done)
       · rename_i t1 v1 t2 v2
         simp only [VX,V] at hr hs; obtain ⟨u1,r2,r3⟩ := hr; obtain ⟨u2,s2,s3⟩ := hs
         cases v1 <;> cases v2 <;> simp only [] at h <;> try (cases h; done)
         split at h
         · rename_i he; subst he
           split at h
           · rename_i hq; obtain ⟨rfl,rfl⟩ := hq; cases h
             simp only [V] at r3 s3; subst r3; subst s3
             exact fits_eq_of k ho r2 s2 rfl (fun op => eqGuard_plain (by simp) (by simp)) (eqIn_iii _ hu hi hk1 hx _ _ _)
           · cases h
         · rename_i hne; cases h
           exact fits_eq_of k ho r2 s2 rfl (fun op => eqGuard_plain (by simp) (by simp)) (eqIn_iij _ hu hne _ _)
       · simp only [VX,V] at hr hs; obtain ⟨u,r2,_⟩ := hr; cases h
         exact fits_eq_of k ho r2 hs rfl (fun op => eqGuard_plain (by simp) (by simp)) (eqIn_isn _ hu _ _)
       · simp only [VX,V] at hr hs; obtain ⟨u,s2,_⟩ := hs; cases h
         exact fits_eq_of k ho hr s2 rfl (fun op => eqGuard_plain (by simp) (by simp)) (eqIn_ins _ hu _ _)
end
end Go.Proofs.YtkofimhnehkdoaaGreatDoor.Rf
end
section
namespace Go.Proofs.YtkofimhnehkdoaaGreatDoor.Rf
section
variable {P:Program} {G:Nat → Option (List AV)} {g g' : Gh} {st:St} {a:Act} {w w' : World} {o:Oper} {tm:Array Value} {ps:List (AV × Value)}
theorem VC.flat : ∀ {cs:List AV} {b off:Nat},VC g w cs b off → ∃ us : List Value,us.length = cs.length ∧ Ones us ∧ ∀ (j:Nat) v,us[j]? = some v → w.cell? ⟨b,off + j,none⟩ = some v
 | [],_,_,_ => ⟨[],rfl,by simp [Ones],by simp⟩
 | c :: cs,b,off,h => by
   simp only [VC] at h
   obtain ⟨⟨_,cv,h1,h2,_⟩,h3⟩ := h
   obtain ⟨us,u1,u2,u3⟩ := VC.flat h3
   refine ⟨cv :: us,by simp [u1],fun u hu => ?_,fun j v hv => ?_⟩
   · simp at hu; rcases hu with rfl | hu
     · exact h2
     · exact u2 u hu
   · cases j with
     | zero => simp at hv; subst hv; simpa using h1
     | succ j => simp at hv; rw [show off + (j + 1) = off + 1 + j by omega]; exact u3 j v hv
theorem VE.tail {sz:Nat} {x:AV} {xs:List AV} {b off:Nat} (h:VE g w sz (x :: xs) b off) : VE g w sz xs b (off + sz) := by cases x <;> simp only [VE] at h <;> exact h.2
theorem VE.flat {sz:Nat} : ∀ {xs:List AV} {b off:Nat},VE g w sz xs b off → ∃ us : List Value,us.length = xs.length * sz ∧ Ones us ∧ ∀ (j:Nat) v,us[j]? = some v → w.cell? ⟨b,off + j,none⟩ = some v
 | [],_,_,_ => ⟨[],by simp,by simp [Ones],by simp⟩
 | x :: xs,b,off,h => by
   obtain ⟨h1,h2⟩ := h.get (j := 0) rfl
   rw [Nat.zero_mul,Nat.add_zero] at h2
   obtain ⟨us,u1,u2,u3⟩ := h2.flat
   obtain ⟨vs,v1,v2,v3⟩ := VE.flat h.tail
   refine ⟨us ++ vs,by simp [u1,v1,h1,Nat.succ_mul,Nat.add_comm],fun u hu => ?_,fun j v hv => ?_⟩
   · simp at hu; rcases hu with hu | hu
     · exact u2 u hu
     · exact v2 u hu
   · rw [List.getElem?_append] at hv; split at hv
     · exact u3 j v hv
     · have := v3 _ v hv
       rwa [show off + sz + (j - us.length) = off + j by omega] at this
theorem VC.copy (e:Ext g w g' w') : ∀ {cs:List AV} {b off b' off' : Nat},VC g w cs b off → (∀ j,j < cs.length → (g'.ow b' (off' + j)).ro ∧ w'.cell? ⟨b',off' + j,none⟩ = w.cell? ⟨b,off + j,none⟩) → VC g' w' cs b' off'
 | [],_,_,_,_,_,_ => by simp [VC]
 | c :: cs,b,off,b',off',h,hc => by
   simp only [VC] at h ⊢
   obtain ⟨⟨_,cv,h1,h2,h3⟩,h4⟩ := h
   have h0 := hc 0 (by simp)
   simp only [Nat.add_zero] at h0
   refine ⟨⟨h0.1,cv,h0.2.trans h1,h2,V.mono e _ _ h3⟩,VC.copy e h4 fun j hj => ?_⟩
   have := hc (j + 1) (by simpa using hj)
   rwa [show off' + (j + 1) = off' + 1 + j by omega,show off + (j + 1) = off + 1 + j by omega] at this
theorem VE.cons_mk {sz:Nat} {x:AV} {xs:List AV} {b off:Nat} (h1:x.cells.length = sz) (h2:VC g w x.cells b off) (h3:VE g w sz xs b (off + sz)) : VE g w sz (x :: xs) b off := by
 cases x <;> simp only [VE] <;> simp only [AV.cells] at h1 h2 <;> first
   | exact ⟨⟨h1,h2⟩,h3⟩
   | (simp only [VC] at h2; exact ⟨⟨h1,h2.1⟩,h3⟩)
theorem VE.copy {sz:Nat} (e:Ext g w g' w') : ∀ {xs:List AV} {b off b' off' : Nat},VE g w sz xs b off → (∀ j,j < xs.length * sz → (g'.ow b' (off' + j)).ro ∧ w'.cell? ⟨b',off' + j,none⟩ = w.cell? ⟨b,off + j,none⟩) → VE g' w' sz xs b' off'
 | [],_,_,_,_,_,_ => by simp [VE]
 | x :: xs,b,off,b',off',h,hc => by
   obtain ⟨h1,h2⟩ := h.get (j := 0) rfl
   rw [Nat.zero_mul,Nat.add_zero] at h2
   refine VE.cons_mk h1 (VC.copy e h2 fun j hj => hc j ?_) (VE.copy e h.tail fun j hj => ?_)
   · simp only [List.length_cons,Nat.succ_mul]; omega
   · have := hc (sz + j) (by simp only [List.length_cons,Nat.succ_mul]; omega)
     rwa [show off' + (sz + j) = off' + sz + j by omega,show off + (sz + j) = off + sz + j by omega] at this
theorem VE.append {sz:Nat} : ∀ {xs ys:List AV} {b off:Nat},VE g w sz xs b off → VE g w sz ys b (off + xs.length * sz) → VE g w sz (xs ++ ys) b off
 | [],ys,b,off,_,k => by simpa using k
 | x :: xs,ys,b,off,h,k => by
   obtain ⟨h1,h2⟩ := h.get (j := 0) rfl
   rw [Nat.zero_mul,Nat.add_zero] at h2
   refine VE.cons_mk h1 h2 (VE.append h.tail ?_)
   rwa [show off + sz + xs.length * sz = off + (x :: xs).length * sz by simp only [List.length_cons,Nat.succ_mul]; omega]
structure Wr (w w' : World) (b q:Nat) (vs:List Value) : Prop where
 size : w'.heap.size = w.heap.size
 os : w'.os = w.os
 tape : w'.tape = w.tape
 output : w'.output = w.output
 blk : ∀ k,k ≠ b → w'.heap[k]? = w.heap[k]?
 new : ∀ (j:Nat) v,vs[j]? = some v → w'.cell? ⟨b,q + j,none⟩ = some v
 old : ∀ o,(o < q ∨ q + vs.length ≤ o) → w'.cell? ⟨b,o,none⟩ = w.cell? ⟨b,o,none⟩
 frz : ∀ o,w'.frozen? ⟨b,o,none⟩ = w.frozen? ⟨b,o,none⟩
 none : vs = [] → w' = w
 row : ∀ c e n,Row0 w c e n → Row0 w' c e n
theorem row_setCell (w:World) (p:Addr) (v:Value) (c e n:Nat) (k:Row0 w c e n) : Row0 (w.setCell p v) c e n := by
 obtain ⟨ds,hi,k1,k2⟩ := k
 by_cases hc : p.block = c
 · refine ⟨if p.spot.isSome then ds else ds.setIfInBounds p.off v,hi,?_,?_⟩
   · simp [World.setCell,Array.getElem?_modify,hc,k1]
   · split <;> simp [k2]
 · exact ⟨ds,hi,by simp [World.setCell,Array.getElem?_modify,hc,k1],k2⟩
theorem run_storeCells_each (b q:Nat) : ∀ (vs:List Value) (i:Nat) (w:World),(∀ j,j < vs.length → (∃ u,w.cell? ⟨b,q + i + j,none⟩ = some u) ∧ w.frozen? ⟨b,q + i + j,none⟩ = false) → Ones vs →
   ∃ w',(storeCells ⟨b,q,none⟩ vs i).run P w = .ok () w' ∧ Wr w w' b (q + i) vs
 | [],i,w,_,_ => ⟨w,rfl,rfl,rfl,rfl,rfl,fun _ _ => rfl,by simp,fun _ _ => rfl,fun _ => rfl,fun _ => rfl,fun _ _ _ h => h⟩
 | v :: vs,i,w,h,h1 => by
   obtain ⟨⟨u,hu⟩,hf⟩ := h 0 (by simp)
   simp only [Nat.add_zero] at hu hf
   have hv := h1 v (by simp)
   have ne : ∀ j,(⟨b,q + i,none⟩ : Addr) ≠ ⟨b,q + i + (j + 1),none⟩ := fun j e => by injection e with _ e2; omega
   obtain ⟨w',r1,r2⟩ := run_storeCells_each b q vs (i + 1) (w.setCell ⟨b,q + i,none⟩ v) (fun j hj => by
     have := h (j + 1) (by simpa using hj)
     rw [show q + (i + 1) + j = q + i + (j + 1) by omega,World.cell?_setCell_other _ _ _ _ (ne j),World.frozen?_setCell]; exact this) (fun x hx => h1 x (by simp [hx]))
   refine ⟨w',?_,?_⟩
   · simp only [storeCells,Sem.run_bind,Addr.add_lit,run_store P w _ v _ hv,hu,hf,Bool.false_eq_true,if_false,Result.andThen_ok]
     exact r1
   · refine ⟨by rw [r2.size]; simp,r2.os,r2.tape,r2.output,fun k hk => ?_,fun j x hx => ?_,fun o ho => ?_,fun o => ?_,(fun e => by cases e),fun c e n k => r2.row _ _ _ (row_setCell _ _ _ _ _ _ k)⟩
     · rw [r2.blk k hk]; exact RowKit.Below.heap_setCell _ _ _ _ hk
     · cases j with
       | zero =>
         simp at hx; subst hx
         rw [Nat.add_zero,r2.old (q + i) (.inl (by omega))]
         exact World.cell?_setCell_same _ _ _ hu
       | succ j => simp at hx; rw [show q + i + (j + 1) = q + (i + 1) + j by omega]; exact r2.new j x hx
     · have ho' : o < q + (i + 1) ∨ q + (i + 1) + vs.length ≤ o := by simp at ho; omega
       rw [r2.old o ho',World.cell?_setCell_other]
       intro e; injection e with _ e2; simp at ho; omega
     · rw [r2.frz o,World.frozen?_setCell]
def appendOk (P:Program) (t:TypeId) (sz bytes:Nat) : Bool :=
 match P.underlying t with
 | some (.slice e) =>
   (match P.info? e with
    | some i => decide (i.size = sz) && decide (i.bytes = bytes) && decide (0 < sz) && (match i.zero with | some z => decide (z.cells.size = sz) | none => false)
    | none => false)
 | _ => false
def rowTy (P:Program) (t:TypeId) (sz e:Nat) : Bool := Nat.beq e 0 || (match P.underlying t with | some (.slice e') => Nat.beq e' e && Nat.beq sz 1 | _ => false)
theorem firstCells_some {sz m:Nat} {b q len cap:Nat} {news:List Value} (hl:news.length = m * sz) (h:∀ (j:Nat) v,news[j]? = some v → w.cell? ⟨b,q + j,none⟩ = some v) :
   (Builtin.firstCells sz m (.slice (some ⟨b,q,none⟩) len cap)).run P w = .ok news.toArray w :=
 run_firstCells_some (P := P) w sz m _ len cap news hl (fun j v hv => by rw [Addr.add_lit]; exact h j v hv)
theorem run_append_in {t t2:TypeId} {sz bytes:Nat} (ht:appendOk P t sz bytes = true) {d2:TypeDesc} (hu2:P.underlying t2 = some d2) (hd2:∀ k,d2 ≠ .int k) {b q n c m:Nat} {Y:Value} (hY:(Builtin.lenOf Y).run P w = .ok m w) {news:List Value} (hl:news.length = m * sz)
   (hf:(Builtin.firstCells sz m Y).run P w = .ok news.toArray w) (h1:Ones news) (hroom:n + m ≤ c) (hc:∀ o,q + n * sz ≤ o → o < q + c * sz → (∃ u,w.cell? ⟨b,o,none⟩ = some u) ∧ w.frozen? ⟨b,o,none⟩ = false) (ty:TypeId) :
   ∃ w',(Builtin.append_ #[t,t2] ty #[.slice (some ⟨b,q,none⟩) n c,Y]).run P w = .ok (.slice (some ⟨b,q,none⟩) (n + m) c) w' ∧ Wr w w' b (q + n * sz) news := by
 unfold appendOk at ht
 cases hu : P.underlying t with
 | none => simp [hu] at ht
 | some d =>
   cases d <;> simp [hu] at ht
   rename_i e
   cases hi : P.info? e with
   | none => simp [hi] at ht
   | some i =>
     simp [hi] at ht
     obtain ⟨⟨⟨h2,h3⟩,h4⟩,h5⟩ := ht
     have hlen : (n + m) * sz ≤ c * sz := Nat.mul_le_mul_right sz hroom
     rw [Nat.add_mul] at hlen
     obtain ⟨w',r1,r2⟩ := run_storeCells_each (P := P) b (q + n * sz) news 0 w (fun j hj => hc _ (by omega) (by omega)) h1
     rw [Nat.add_zero] at r2
     refine ⟨w',?_,r2⟩
     have hm : (d2 matches .int _) = false := by cases d2 <;> first | rfl | exact absurd rfl (hd2 _)
     simp [Builtin.append_,run_underlying hu,run_underlying hu2,sizeOf,typeInfo,hi,h2,hY,hroom,hf,Addr.add_lit,r1,hm]
theorem arr3 (a b:List Value) (z:Array Value) : a.toArray ++ (b.toArray ++ z) = (a ++ (b ++ z.toList)).toArray := by apply Array.ext'; simp
theorem zeroCells_size (z:Array Value) (n:Nat) : (Builtin.zeroCells z n).size = n * z.size := by simp [Builtin.zeroCells]
theorem cap_cut (need t:Nat) (h:need ≤ 9223372036854775807) : need ≤ need + t % (2 ^ 63 - need) ∧ need + t % (2 ^ 63 - need) ≤ 9223372036854775807 := by
 have : t % (2 ^ 63 - need) < 2 ^ 63 - need := Nat.mod_lt _ (by omega)
 omega
theorem run_append_out {t t2:TypeId} {sz bytes:Nat} (ht:appendOk P t sz bytes = true) {d2:TypeDesc} (hu2:P.underlying t2 = some d2) (hd2:∀ k,d2 ≠ .int k) {A:Option Addr} {n c m:Nat} {Y:Value} (hY:(Builtin.lenOf Y).run P w = .ok m w) {news olds:List Value} (hl:news.length = m * sz) (hlo:olds.length = n * sz)
   (hf:(Builtin.firstCells sz m Y).run P w.drew = .ok news.toArray w.drew) (hfo:(Builtin.firstCells sz n (.slice A n c)).run P w.drew = .ok olds.toArray w.drew) (hroom:¬ n + m ≤ c) (hby:(n + m) * bytes ≤ 140737488355328) (h63:n + m ≤ 9223372036854775807) (ty:TypeId) :
   ∃ (C:Nat) (e:TypeId) (rest:List Value),(∀ f,rowTy P t sz f = true → f ≠ 0 → e = f ∧ sz = 1) ∧ n + m ≤ C ∧ C ≤ 9223372036854775807 ∧ rest.length = (C - (n + m)) * sz ∧ (Builtin.append_ #[t,t2] ty #[.slice A n c,Y]).run P w = .ok (.slice (some ⟨w.heap.size,0,none⟩) (n + m) C) (w.drew.alloc (.cells (olds ++ news ++ rest).toArray e)) := by
 unfold appendOk at ht
 cases hu : P.underlying t with
 | none => simp [hu] at ht
 | some d =>
   cases d <;> simp [hu] at ht
   rename_i e
   cases hi : P.info? e with
   | none => simp [hi] at ht
   | some i =>
     simp [hi] at ht
     obtain ⟨⟨⟨h2,h3⟩,h4⟩,h5⟩ := ht
     cases hz : i.zero with
     | none => simp [hz] at h5
     | some z =>
       simp [hz] at h5
       have h48 := growslice_fits (bytes := i.bytes) (show c < n + m by omega) (by rw [h3]; exact hby)
       have h48' : ¬ (Builtin.nextslicecap (n + m) c * i.bytes > 2 ^ 48) := by simp; omega
       have h63' : ¬ ((n + m : Nat) : Int) > IntKind.i64.max := by
         show ¬ ((n + m : Nat) : Int) > 9223372036854775807
         omega
       obtain ⟨c1,c2⟩ := cap_cut (n + m) (w.tape w.drawn (.appendCap (n + m) c e)) h63
       refine ⟨n + m + w.tape w.drawn (.appendCap (n + m) c e) % (2 ^ 63 - (n + m)),e,(Builtin.zeroCells z.cells (w.tape w.drawn (.appendCap (n + m) c e) % (2 ^ 63 - (n + m)))).toList,fun f hf hf0 => ?_,c1,c2,?_,?_⟩
       · unfold rowTy at hf; simp only [hu,Bool.or_eq_true,Bool.and_eq_true] at hf
         rcases hf with hf | hf
         · exact absurd (Nat.eq_of_beq_eq_true hf) hf0
         · exact ⟨Nat.eq_of_beq_eq_true hf.1,Nat.eq_of_beq_eq_true hf.2⟩
       · rw [Array.length_toList,zeroCells_size,h5]; congr 1; omega
       · have hcut : (Question.appendCap (n + m) c e).cut (w.tape w.drawn (.appendCap (n + m) c e)) = n + m + w.tape w.drawn (.appendCap (n + m) c e) % (2 ^ 63 - (n + m)) := rfl
         have hm : (d2 matches .int _) = false := by cases d2 <;> first | rfl | exact absurd rfl (hd2 _)
         simp [Builtin.append_,run_underlying hu,run_underlying hu2,sizeOf,typeInfo,zeroValue,hi,hz,h2,hY,hroom,h63',h48',Question.forced,hcut,hf,hfo,newRow,hm]
         rw [if_neg (by omega),arr3]
def Gh.fill (g:Gh) (b q m:Nat) : Gh := { g with ow := fun c o => if c = b ∧ q ≤ o ∧ o < q + m then .elt else g.ow c o }
theorem same_fill {r:Root} {i:Nat} {b q:Nat} {news:List Value} (h:Wr w w' b q news) (ht:∀ o,q ≤ o → o < q + news.length → g.ow b o = .tail r i) : Same (fun t => t ≠ .tail r i) g w (g.fill b q news.length) w' := by
 have off : ∀ c o,g.ow c o ≠ .tail r i → ¬ (c = b ∧ q ≤ o ∧ o < q + news.length) := fun c o hn ⟨e,h1,h2⟩ => by subst e; exact hn (ht o h1 h2)
 have cel : ∀ c o,g.ow c o ≠ .tail r i → w'.cell? ⟨c,o,none⟩ = w.cell? ⟨c,o,none⟩ := fun c o hn => by
   by_cases e : c = b
   · subst e
     have := off c o hn
     exact h.old o (by simp at this; omega)
   · exact cell?_of_block' (h.blk c e)
 refine ⟨fun c o _ hn => by simp only [Gh.fill]; rw [if_neg (off c o hn)],fun c o _ hn => cel c o hn,fun c o _ hn _ => ?_,fun c _ hn => ?_,h.row,fun _ => by simp,fun _ _ h => h⟩
 · by_cases e : c = b
   · subst e; exact h.frz o
   · exact frozen?_of_block' (h.blk c e)
 · by_cases e : c = b
   · subst e
     by_cases hz : news = []
     · rw [h.none hz]
     · have : 0 < news.length := List.length_pos_iff.2 hz
       exact absurd (ht q (Nat.le_refl _) (by omega)) (hn q).1
   · exact h.blk c e
theorem stay_fill {r:Root} {i:Nat} {b q:Nat} {news:List Value} (h:Wr w w' b q news) (ht:∀ o,q ≤ o → o < q + news.length → g.ow b o = .tail r i) : Stay g w (g.fill b q news.length) w' := by
 have sm := same_fill h ht
 have hn : ∀ c o,(g.ow c o).kept → g.ow c o ≠ .tail r i := fun c o hk e => by rw [e] at hk; exact hk
 exact { ow := fun c o hl hk => sm.ow c o hl (hn c o hk),cell := fun c o hl hk => sm.cell c o hl (hn c o hk),frz := fun c o hl hk he => sm.frz c o hl (hn c o hk) he,blk := fun c hl hk => sm.blk c hl (fun o => ⟨hn c o (hk o).1,(hk o).2⟩),row := h.row,te := fun _ => trivial,hb := sm.hb,os := h.os,tape := h.tape,output := h.output,size := by rw [h.size]; exact Nat.le_refl _ }
def Gh.fresh (g:Gh) (n m:Nat) : Gh := { g with ow := fun c o => if c = n then (if o < m then .elt else .tail (.arg 0) 0) else (match g.ow c o with | .tail (.arg 0) i => if i = 0 then .out else .tail (.arg 0) i | t => t) }
theorem fresh_off {n m c o:Nat} (hc:c ≠ n) (h:g.ow c o ≠ .tail (.arg 0) 0) : (g.fresh n m).ow c o = g.ow c o := by
 simp only [Gh.fresh]; rw [if_neg hc]
 revert h
 cases g.ow c o <;> intro h <;> try rfl
 case tail r i =>
   cases r <;> try rfl
   case arg j =>
     cases j with
     | succ j => rfl
     | zero =>
       simp only []
       by_cases e : i = 0
       · subst e; exact absurd rfl h
       · rw [if_neg e]
end
end Go.Proofs.YtkofimhnehkdoaaGreatDoor.Rf
end
section
namespace Go.Proofs.YtkofimhnehkdoaaGreatDoor.Rf
section
variable {P:Program} {G:Nat → Option (List AV)} {g g' : Gh} {st:St} {a:Act} {w w' : World} {o:Oper} {tm:Array Value} {ps:List (AV × Value)}
def Lay (g:Gh) (w:World) (sz:Nat) (ys:List AV) (news:List Value) : Prop :=
 news.length = ys.length * sz ∧ Ones news ∧
 ∀ g' w' b' q',Ext g w g' w' → (∀ (j:Nat) v,news[j]? = some v → (g'.ow b' (q' + j)).ro ∧ w'.cell? ⟨b',q' + j,none⟩ = some v) → VE g' w' sz ys b' q'
theorem Lay.of_VE {sz:Nat} {ys:List AV} {b q:Nat} (h:VE g w sz ys b q) : ∃ news,Lay g w sz ys news ∧ ∀ (j:Nat) v,news[j]? = some v → w.cell? ⟨b,q + j,none⟩ = some v := by
 obtain ⟨us,u1,u2,u3⟩ := h.flat
 refine ⟨us,⟨u1,u2,fun g' w' b' q' e hc => VE.copy e h fun j hj => ?_⟩,u3⟩
 have hu : us[j]? = some us[j] := List.getElem?_eq_getElem (by omega)
 exact ⟨(hc j _ hu).1,by rw [(hc j _ hu).2,u3 j _ hu]⟩
theorem Lay.nil {sz:Nat} : Lay g w sz [] [] := ⟨by simp,by simp [Ones],fun _ _ _ _ _ _ => by simp [VE]⟩
theorem Lay.bytes (s:List UInt8) : Lay g w 1 (s.map fun b => AV.int .u8 b.toNat) (s.map fun b => Value.int .u8 b.toNat) := by
 refine ⟨by simp,by intro u hu; simp at hu; obtain ⟨b,_,rfl⟩ := hu; rfl,fun g' w' b' q' e hc => ?_⟩
 induction s generalizing q' with
 | nil => simp [VE]
 | cons x s ih =>
   simp only [List.map_cons]
   refine VE.cons_mk rfl ?_ (ih _ fun j v hv => ?_)
   · have := hc 0 (.int .u8 x.toNat) (by simp)
     rw [Nat.add_zero] at this
     simp only [AV.cells,VC]
     exact ⟨⟨this.1,_,this.2,rfl,by simp [V]⟩,trivial⟩
   · have := hc (j + 1) v (by simpa using hv)
     rwa [show q' + (j + 1) = q' + 1 + j by omega] at this
theorem Tail.get {r:Root} {i:Nat} {xs:List AV} {sz:Nat} {ad:Addr} {n c:Nat} (h:Tail g w r i xs sz (.slice (some ad) n c)) : VE g w sz xs ad.block ad.off ∧
   ∀ o,ad.off + xs.length * sz ≤ o → o < ad.off + c * sz → g.ow ad.block o = .tail r i ∧ (∃ u,w.cell? ⟨ad.block,o,none⟩ = some u) ∧ w.frozen? ⟨ad.block,o,none⟩ = false := h ad n c rfl
theorem fill_in {b q m o:Nat} (h1:q ≤ o) (h2:o < q + m) : (g.fill b q m).ow b o = .elt := if_pos ⟨rfl,h1,h2⟩
theorem fill_out {b q m o:Nat} (h:¬ (q ≤ o ∧ o < q + m)) : (g.fill b q m).ow b o = g.ow b o := if_neg fun ⟨_,h1,h2⟩ => h ⟨h1,h2⟩
theorem View.more {xs ys:List AV} {e b q c:Nat} {news:List Value} (h:View g w xs.length e ⟨b,q,none⟩) (hw:Wr w w' b (q + xs.length * 1) news) (hl:news.length = ys.length * 1) (hc:xs.length + ys.length ≤ c) (hcell:∀ o,q + xs.length * 1 ≤ o → o < q + c * 1 → ∃ u,w.cell? ⟨b,o,none⟩ = some u) : View (g.fill b (q + xs.length * 1) news.length) w' (xs ++ ys).length e ⟨b,q,none⟩ := by
 obtain ⟨h1,h2,⟨n,h3,h4⟩,h5⟩ := h
 simp only at h1; subst h1
 simp only [Nat.mul_one,Nat.zero_add] at *
 refine ⟨rfl,rfl,⟨n,hw.row _ _ _ h3,?_⟩,fun o ho => ?_⟩
 · rw [List.length_append]
   by_cases hy : ys.length = 0
   · omega
   · obtain ⟨u,hu⟩ := hcell (xs.length + ys.length - 1) (by omega) (by omega)
     obtain ⟨cs,hi,r1,r2⟩ := h3
     simp only [World.cell?,r1] at hu
     simp at hu
     have := (Array.getElem?_eq_some_iff.1 hu).1
     omega
 · simp only [Gh.fill]
   split
   · rfl
   · rename_i hn
     exact h5 o (by simp at ho hn; omega)
theorem Rel.append_in {v:AV} {cv:Value} (k:Rel G g st [(v,cv)] tm w) {xs ys:List AV} {sz b q c:Nat} {e0:Nat} (hview:e0 ≠ 0 → sz = 1 ∧ View g w xs.length e0 ⟨b,q,none⟩) (hT:Tail g w (.arg 0) 0 xs sz (.slice (some ⟨b,q,none⟩) xs.length c)) (hc:c ≤ 9223372036854775807) {news:List Value} (hl:Lay g w sz ys news)
   (hroom:xs.length + ys.length ≤ c) (hw:Wr w w' b (q + xs.length * sz) news) :
   ∃ g',Rel G g' st [(.list (xs ++ ys) (.own sz e0),.slice (some ⟨b,q,none⟩) (xs.length + ys.length) c)] tm w' ∧ Stay g w g' w' := by
 obtain ⟨hE,htail⟩ := hT.get
 simp only at hE htail
 have hle : (xs.length + ys.length) * sz ≤ c * sz := Nat.mul_le_mul_right sz hroom
 rw [Nat.add_mul] at hle
 have htags : ∀ o,q + xs.length * sz ≤ o → o < q + xs.length * sz + news.length → g.ow b o = .tail (.arg 0) 0 := fun o h1 h2 => (htail o h1 (by rw [hl.1] at h2; omega)).1
 have sm := same_fill hw htags
 have hi : (fun t => t ≠ Tag.tail (.arg 0) 0) Tag.imm := by simp
 have hE2 : VE (g.fill b (q + xs.length * sz) news.length) w' sz (xs ++ ys) b q :=
   VE.append (VE.mono (sm.ext hi) _ _ _ _ hE) (hl.2.2 _ _ _ _ (sm.ext hi) fun j u hu => by
     have hj : j < news.length := (List.getElem?_eq_some_iff.1 hu).1
     exact ⟨by rw [fill_in (by omega) (by omega)]; trivial,hw.new j u hu⟩)
 refine ⟨g.fill b (q + xs.length * sz) news.length,⟨fun s => (k.fr s).same sm hi (fun _ _ _ => rfl) (fun i => by simp) (by simp) rfl,fun j x cx hj => ?_,k.hp.same sm hi (fun _ => by simp) (fun _ _ => by simp) (fun _ _ _ => by simp) rfl,fun d o hd => ?_,k.gl.same sm hi (by simp)⟩,stay_fill hw htags⟩
 · cases j with
   | succ j => simp at hj
   | zero =>
     simp at hj; obtain ⟨rfl,rfl⟩ := hj
     rw [VF_loose rfl]
     refine ⟨?_,?_⟩
     · simp only [VX,V]
       exact ⟨some ⟨b,q,none⟩,c,by simp,by simpa using hroom,hc,⟨fun e => (by cases e),fun e => (by cases e)⟩,(fun e => by cases e),fun ad e => by cases e; exact ⟨fun _ => rfl,fun hn => by
         obtain ⟨s1,s2⟩ := hview hn
         subst s1
         exact s2.more hw hl.1 hroom fun o h1 h2 => (htail o h1 h2).2.1,sz,hE2⟩⟩
     · simp only [Owns]
       intro ad n c' e
       cases e
       refine ⟨hE2,fun o h1 h2 => ?_⟩
       simp only [List.length_append,Nat.add_mul] at h1 h2
       obtain ⟨t1,t2,t3⟩ := htail o (by omega) h2
       exact ⟨by rw [fill_out (by rw [hl.1]; omega)]; exact t1,by rw [hw.old o (by rw [hl.1]; omega)]; exact t2,by rw [hw.frz o]; exact t3⟩
 · rw [hw.size] at hd
   simp only [Gh.fill]
   rw [k.fresh d o hd]
   split
   · rename_i h; obtain ⟨rfl,h1,h2⟩ := h
     have := htags o h1 h2
     rw [k.fresh d o hd] at this; cases this
   · rfl
theorem Rel.append_in_pend {v:AV} {cv:Value} (k:Rel G g st [(v,cv)] tm w) {xs:List AV} {sz b q c:Nat} (hT:Tail g w (.arg 0) 0 xs sz (.slice (some ⟨b,q,none⟩) xs.length c)) (hc:c ≤ 9223372036854775807) {news:List Value} (hl:news.length = sz)
   (hroom:xs.length + 1 ≤ c) (hw:Wr w w' b (q + xs.length * sz) news) :
   Rel G g st [(.pend xs sz,.slice (some ⟨b,q,none⟩) (xs.length + 1) c)] tm w' ∧ Stay g w g w' := by
 obtain ⟨hE,htail⟩ := hT.get
 simp only at hE htail
 have hle : (xs.length + 1) * sz ≤ c * sz := Nat.mul_le_mul_right sz hroom
 rw [Nat.add_mul,Nat.one_mul] at hle
 have htags : ∀ o,q + xs.length * sz ≤ o → o < q + xs.length * sz + news.length → g.ow b o = .tail (.arg 0) 0 := fun o h1 h2 => (htail o h1 (by rw [hl] at h2; omega)).1
 have cel : ∀ c o,g.ow c o ≠ .tail (.arg 0) 0 → w'.cell? ⟨c,o,none⟩ = w.cell? ⟨c,o,none⟩ := fun c o hn => by
   by_cases e : c = b
   · subst e
     refine hw.old o ?_
     by_cases h1 : q + xs.length * sz ≤ o <;> by_cases h2 : o < q + xs.length * sz + news.length
     · exact absurd (htags o h1 h2) hn
     all_goals omega
   · exact cell?_of_block' (hw.blk c e)
 have frz : ∀ c o,w'.frozen? ⟨c,o,none⟩ = w.frozen? ⟨c,o,none⟩ := fun c o => by
   by_cases e : c = b
   · subst e; exact hw.frz o
   · exact frozen?_of_block' (hw.blk c e)
 have sm : Same (fun t => t ≠ .tail (.arg 0) 0) g w g w' := ⟨fun _ _ _ _ => rfl,fun c o _ hn => cel c o hn,fun c o _ _ _ => frz c o,fun c _ hn => by
   by_cases e : c = b
   · subst e
     by_cases hz : news = []
     · rw [hw.none hz]
     · have : 0 < news.length := List.length_pos_iff.2 hz
       exact absurd (htags _ (Nat.le_refl _) (by omega)) (hn _).1
   · exact hw.blk c e,hw.row,fun _ => by simp,fun _ _ h => h⟩
 have hi : (fun t => t ≠ Tag.tail (.arg 0) 0) Tag.imm := by simp
 have hk : ∀ c o,(g.ow c o).kept → g.ow c o ≠ .tail (.arg 0) 0 := fun c o hk e => by rw [e] at hk; exact hk
 refine ⟨⟨fun s => (k.fr s).same sm hi (fun _ _ _ => rfl) (fun i => by simp) (by simp) rfl,fun j x cx hj => ?_,k.hp.same sm hi (fun _ => by simp) (fun _ _ => by simp) (fun _ _ _ => by simp) rfl,fun d o hd => k.fresh d o (by rw [hw.size] at hd; exact hd),k.gl.same sm hi (by simp)⟩,
   { ow := fun _ _ _ _ => rfl,cell := fun c o _ h => cel c o (hk c o h),frz := fun c o _ _ _ => frz c o,blk := fun c hl' h => sm.blk c hl' (fun o => ⟨hk c o (h o).1,(h o).2⟩),row := hw.row,te := fun _ => trivial,hb := fun _ _ h => h,os := hw.os,tape := hw.tape,output := hw.output,size := by rw [hw.size]; exact Nat.le_refl _ }⟩
 cases j with
 | succ j => simp at hj
 | zero =>
   simp at hj; obtain ⟨rfl,rfl⟩ := hj
   simp only [VF]
   refine ⟨_,c,rfl,hroom,hc,rfl,?_⟩
   intro ad n c' e
   cases e
   refine ⟨VE.mono (sm.ext hi) _ _ _ _ hE,fun o h1 h2 => ?_⟩
   simp only at h1 h2
   obtain ⟨t1,⟨u,t2⟩,t3⟩ := htail o h1 h2
   refine ⟨t1,?_,by rw [frz]; exact t3⟩
   by_cases h3 : o < q + xs.length * sz + news.length
   · have hj : o - (q + xs.length * sz) < news.length := by omega
     exact ⟨_,by rw [← hw.new (o - (q + xs.length * sz)) _ (List.getElem?_eq_getElem hj)]; congr 2; omega⟩
   · exact ⟨u,by rw [hw.old o (by omega)]; exact t2⟩
theorem fresh_in {n m o:Nat} (h:o < m) : (g.fresh n m).ow n o = .elt := (if_pos rfl).trans (if_pos h)
theorem fresh_tail {n m o:Nat} (h:¬ o < m) : (g.fresh n m).ow n o = .tail (.arg 0) 0 := (if_pos rfl).trans (if_neg h)
theorem blk_frozen' {b:Nat} {cs:Array Value} {t:TypeId} (h:w.heap[b]? = some (.cells cs t (0,0))) (o:Nat) : w.frozen? ⟨b,o,none⟩ = false := by
 unfold World.frozen?; rw [h]; simp
theorem Rel.append_out {v:AV} {cv:Value} (k:Rel G g st [(v,cv)] tm w) {sz C m:Nat} {e:TypeId} {cells:List Value} (hlen:cells.length = C * sz) (hm:m ≤ C) :
   Same (fun t => t ≠ .tail (.arg 0) 0) g w (g.fresh w.heap.size (m * sz)) (w.drew.alloc (.cells cells.toArray e)) ∧
   (∀ j,j < m * sz → ((g.fresh w.heap.size (m * sz)).ow w.heap.size (0 + j)).ro) ∧
   (∀ j,j < m * sz → (g.fresh w.heap.size (m * sz)).ow w.heap.size j = .elt) ∧ Row0 (w.drew.alloc (.cells cells.toArray e)) w.heap.size e cells.length ∧
   (∀ (j:Nat) u,cells[j]? = some u → (w.drew.alloc (.cells cells.toArray e)).cell? ⟨w.heap.size,0 + j,none⟩ = some u) ∧
   (∀ o,m * sz ≤ o → o < C * sz → (g.fresh w.heap.size (m * sz)).ow w.heap.size o = .tail (.arg 0) 0 ∧ (∃ u,(w.drew.alloc (.cells cells.toArray e)).cell? ⟨w.heap.size,o,none⟩ = some u) ∧ (w.drew.alloc (.cells cells.toArray e)).frozen? ⟨w.heap.size,o,none⟩ = false) ∧
   Stay g w (g.fresh w.heap.size (m * sz)) (w.drew.alloc (.cells cells.toArray e)) ∧
   ∀ x cx,VF (g.fresh w.heap.size (m * sz)) (w.drew.alloc (.cells cells.toArray e)) st.fr tm (.arg 0) x cx → Rel G (g.fresh w.heap.size (m * sz)) st [(x,cx)] tm (w.drew.alloc (.cells cells.toArray e)) := by
 have hold : ∀ b,b < w.heap.size → (w.drew.alloc (.cells cells.toArray e)).heap[b]? = w.heap[b]? := fun b hb => heap_alloc_old w.drew _ b hb
 have hnew : (w.drew.alloc (.cells cells.toArray e)).heap[w.heap.size]? = some (.cells cells.toArray e) := heap_alloc_new w.drew _
 have sm : Same (fun t => t ≠ .tail (.arg 0) 0) g w (g.fresh w.heap.size (m * sz)) (w.drew.alloc (.cells cells.toArray e)) :=
   Same.grow hold (fun b o hb hn => fresh_off (by omega) hn) (fun _ _ h => h)
 have hi : (fun t => t ≠ Tag.tail (.arg 0) 0) Tag.imm := by simp
 have hcell : ∀ (j:Nat) u,cells[j]? = some u → (w.drew.alloc (.cells cells.toArray e)).cell? ⟨w.heap.size,j,none⟩ = some u := fun j u hu => by
   have := cell_of_row _ w.heap.size j cells.toArray e (0,0) hnew
   rw [this]; simpa using hu
 have hmul := Nat.mul_le_mul_right sz hm
 refine ⟨sm,fun j hj => by rw [fresh_in (by omega)]; trivial,fun j hj => fresh_in hj,⟨cells.toArray,0,hnew,by simp⟩,fun j u hu => by rw [Nat.zero_add]; exact hcell j u hu,fun o h1 h2 => ⟨?_,?_,?_⟩,?_,fun x cx hx => ?_⟩
 · exact fresh_tail (by omega)
 · exact ⟨_,hcell o _ (List.getElem?_eq_getElem (by omega))⟩
 · exact blk_frozen' hnew o
 · have hk : ∀ c o,(g.ow c o).kept → g.ow c o ≠ .tail (.arg 0) 0 := fun c o hk e => by rw [e] at hk; exact hk
   exact { ow := fun b o hl h => sm.ow b o hl (hk b o h),cell := fun b o hl h => sm.cell b o hl (hk b o h),frz := fun b o hl h he => sm.frz b o hl (hk b o h) he,blk := fun b hl h => hold b hl,row := sm.row,te := fun _ => trivial,hb := sm.hb,os := rfl,tape := rfl,output := rfl,size := by simp }
 · refine ⟨fun s => (k.fr s).same sm hi (fun _ _ _ => rfl) (fun i => by simp) (by simp) rfl,fun j y cy hj => ?_,k.hp.same sm hi (fun _ => by simp) (fun _ _ => by simp) (fun _ _ _ => by simp) rfl,fun d o hd => ?_,k.gl.same sm hi (by simp)⟩
   · cases j with
     | succ j => simp at hj
     | zero => simp at hj; obtain ⟨rfl,rfl⟩ := hj; exact hx
   · simp at hd
     have h1 : d ≠ w.heap.size := by omega
     have h2 := k.fresh d o (by omega)
     rw [fresh_off h1 (by rw [h2]; simp)]; exact h2
end
end Go.Proofs.YtkofimhnehkdoaaGreatDoor.Rf
end
section
namespace Go.Proofs.YtkofimhnehkdoaaGreatDoor.Rf
section
variable {P:Program} {G:Nat → Option (List AV)} {g g' : Gh} {st:St} {a:Act} {w w' : World} {o:Oper} {tm:Array Value} {ps:List (AV × Value)}
theorem okSize_VE {sz sz' : Nat} {xs:List AV} {b q:Nat} (h:okSize sz xs = true) (hv:VE g w sz' xs b q) : VE g w sz xs b q := by
 cases xs with
 | nil => simp [VE]
 | cons x r =>
   have := (hv.get (j := 0) rfl).1
   simp [okSize] at h
   rw [h] at this; subst this; exact hv
structure Src (P:Program) (g:Gh) (w:World) (sz:Nat) (ys:List AV) (Y:Value) (news:List Value) : Prop where
 len : ∀ w' : World,(Builtin.lenOf Y).run P w' = .ok ys.length w'
 cells : ∀ w' : World,(∀ b : Nat,w'.heap[b]? = w.heap[b]?) → (Builtin.firstCells sz ys.length Y).run P w' = .ok news.toArray w'
 lay : Lay g w sz ys news
theorem Src.list {sz:Nat} {ys:List AV} {ow:Own} {Y:Value} (h:V g w (.list ys ow) Y) (hs:okSize sz ys = true) : ∃ news,Src P g w sz ys Y news := by
 simp only [V] at h
 obtain ⟨A,c,rfl,h2,h3,_,h5,h6⟩ := h
 cases A with
 | none =>
   have hc := h5 rfl; subst hc
   have : ys = [] := List.length_eq_zero_iff.1 (by omega)
   subst this
   exact ⟨[],⟨fun _ => by simp [Builtin.lenOf],fun _ _ => by simp [Builtin.firstCells],Lay.nil⟩⟩
 | some ad =>
   obtain ⟨hsp,_,sz',hv⟩ := h6 ad rfl
   by_cases hy : ys = []
   · subst hy
     exact ⟨[],⟨fun _ => by simp [Builtin.lenOf],fun _ _ => by simp [Builtin.firstCells,loadCells,loadCellsFrom],Lay.nil⟩⟩
   replace hsp := hsp (.inr (by have := List.length_pos_iff.2 hy; omega))
   obtain ⟨b,q,sp⟩ := ad
   simp only at hsp hv; subst hsp
   obtain ⟨news,n1,n2⟩ := Lay.of_VE (okSize_VE hs hv)
   exact ⟨news,⟨fun _ => by simp [Builtin.lenOf],fun w' hw => firstCells_some n1.1 fun j v hj => by rw [cell?_of_block' (hw b)]; exact n2 j v hj,n1⟩⟩
theorem Src.str (s:List UInt8) : Src P g w 1 (s.map fun b => AV.int .u8 b.toNat) (.string ⟨s.toArray⟩) (s.map fun b => Value.int .u8 b.toNat) := by
 refine ⟨fun _ => ?_,fun _ _ => ?_,Lay.bytes s⟩
 · simp [Builtin.lenOf]; show s.toArray.size = _; simp
 · have h1 : (⟨s.toArray⟩ : ByteArray).extract 0 s.length = ⟨s.toArray⟩ := by
     apply ByteArray.ext; simp
   simp [Builtin.firstCells,h1]
def append2Ok (P:Program) (t2:TypeId) : Bool :=
 match P.underlying t2 with
 | some (.slice _) | some .string => true
 | _ => false
theorem fits_append (k:Rel G g st [] a.tmps w) {x y:Opd} {x' y' : Operand} (hx:opdOk x x' = true) (hy:opdOk y y' = true) {t t2:TypeId} {sz bytes f:Nat} (ht:appendOk P t sz bytes = true) (hrt:rowTy P t sz f = true) (ht2:append2Ok P t2 = true)
   (ho:o.op = .call { callee := .builtin .append,args := #[x',y'],argTypes := #[t,t2] }) {xs ys:List AV} {ow:Own} (ha:(opd st.fr x).1 = .list xs ow) (hown:(ow = .nil ∨ ow = .own sz f) ∨ (ow = .tight ∧ f = 0)) (hs:okSize sz xs = true)
   (hy2:∀ g',VX g' w (opd st.fr x).2 a.tmps (opd (opd st.fr x).2 y).1 (Act.opd a.tmps y') → ∃ news,Src P g' w sz ys (Act.opd a.tmps y') news)
   (hby:(xs.length + ys.length) * bytes ≤ 140737488355328) (h63:xs.length + ys.length ≤ 9223372036854775807) (pend:Bool) (hp:pend = true → ys.length = 1) :
   Fits P G g st (.val (if pend then .pend xs sz else .list (xs ++ ys) (.own sz f)) { st with fr := (opd st.fr x).2 }) o a w := by
 obtain ⟨g1,k1,s1,hb1⟩ := k.take hx
 rw [ha] at k1; simp only [List.nil_append] at k1
 obtain ⟨news,src⟩ := hy2 g1 (k1.read hy)
 have fv := k1.ps 0 _ _ rfl
 rw [VF_loose rfl] at fv
 obtain ⟨hv,hO⟩ := fv
 simp only [VX,V] at hv
 obtain ⟨A,c,e1,e2,e3,e4,e5,e6⟩ := hv
 have hu2 : ∃ d2,P.underlying t2 = some d2 ∧ ∀ kk,d2 ≠ .int kk := by
   unfold append2Ok at ht2
   cases hu : P.underlying t2 with
   | none => simp [hu] at ht2
   | some d => exact ⟨d,rfl,fun kk e => by subst e; simp [hu] at ht2⟩
 obtain ⟨d2,hu2,hd2⟩ := hu2
 have hsz : 0 < sz := by
   unfold appendOk at ht
   cases hu : P.underlying t with
   | none => simp [hu] at ht
   | some d =>
     cases d <;> simp [hu] at ht
     rename_i e
     cases hi : P.info? e <;> simp [hi] at ht
     exact ht.1.2
 -- what the owner holds
 have hT : ∀ ad,A = some ad → Tail g1 w (.arg 0) 0 xs sz (.slice (some ad) xs.length c) := fun ad hA => by
   rcases hown with (rfl | rfl) | ⟨rfl,rfl⟩
   · have := e4.1 rfl; rw [hA] at this; cases this
   · simp only [Owns] at hO; rw [e1,hA] at hO; exact hO
   · have hc := e4.2 rfl
     obtain ⟨_,_,sz',hE⟩ := e6 ad hA
     intro a n c' e
     cases e
     exact ⟨okSize_VE hs hE,fun o h1 h2 => by rw [hc] at h2; omega⟩
 have hargs : (Builtin.append_ #[t,t2] o.type #[Act.opd a.tmps x',Act.opd a.tmps y']) = (Builtin.append_ #[t,t2] o.type #[.slice A xs.length c,Act.opd a.tmps y']) := by rw [e1]
 have run : ∀ {v:Value} {w1:World},(Builtin.append_ #[t,t2] o.type #[.slice A xs.length c,Act.opd a.tmps y']).run P w = .ok v w1 → (execOp a.eval o).run P w = .ok (.value v) w1 := fun {v w1} h => by
   simp [execOp,ho,resolve,Act.eval_eq,invoke,builtin,hargs,h]
 have lenOld : ∀ ad,A = some ad → ∃ olds : List Value,olds.length = xs.length * sz ∧ (∀ (j:Nat) v,olds[j]? = some v → w.cell? ⟨ad.block,ad.off + j,none⟩ = some v) := fun ad hA => by
   obtain ⟨us,u1,_,u3⟩ := (hT ad hA).get.1.flat
   exact ⟨us,u1,u3⟩
 by_cases hroom : xs.length + ys.length ≤ c
 · cases A with
   | none =>
     have hc := e5 rfl; subst hc
     have hx0 : xs = [] := List.length_eq_zero_iff.1 (by omega)
     have hy0 : ys = [] := List.length_eq_zero_iff.1 (by omega)
     have hpf : pend = false := by cases pend with
       | false => rfl
       | true => have := hp rfl; rw [hy0] at this; cases this
     subst hx0 hy0 hpf
     have hn0 : news = [] := List.length_eq_zero_iff.1 (by have := src.lay.1; simpa using this)
     subst hn0
     have hcel := src.cells w (fun _ => rfl)
     refine fits_value (g' := g1) (w' := w) (cv := .slice none 0 0) (run ?_) ?_ s1
     · unfold appendOk at ht
       cases hu : P.underlying t with
       | none => simp [hu] at ht
       | some d =>
         cases d <;> simp [hu] at ht
         rename_i e
         cases hi : P.info? e <;> simp [hi] at ht
         rename_i i
         have hm : (d2 matches .int _) = false := by cases d2 <;> first | rfl | exact absurd rfl (hd2 _)
         simp [Builtin.append_,run_underlying hu,run_underlying hu2,sizeOf,typeInfo,hi,ht.1.1.1,src.len w,hm]
         simp at hcel; simp [hcel]
     · refine Rel.push0 k1.less ?_
       rw [VF_loose rfl]
       refine ⟨by simp only [VX,V,Bool.false_eq_true,if_false]; exact ⟨none,0,rfl,by simp,by decide,⟨fun e => (by cases e),fun e => (by cases e)⟩,fun _ => rfl,fun ad e => by cases e⟩,?_⟩
       simp only [Bool.false_eq_true,if_false,Owns]
       intro ad n c e; cases e
   | some ad =>
     obtain ⟨b,q,sp⟩ := ad
     obtain ⟨hsp,_⟩ := e6 _ rfl
     replace hsp := hsp (.inl (by rcases hown with (rfl | rfl) | ⟨rfl,rfl⟩ <;> simp))
     simp only at hsp; subst hsp
     have T := hT _ rfl
     have hview : f ≠ 0 → sz = 1 ∧ View g1 w xs.length f ⟨b,q,none⟩ := fun hf => by
       rcases hown with (rfl | rfl) | ⟨rfl,rfl⟩
       · cases e4.1 rfl
       rotate_left
       · exact absurd rfl hf
       · have hz : sz = 1 := by
           unfold rowTy at hrt
           cases hu : P.underlying t with
           | none => simp [hu] at hrt; exact absurd hrt hf
           | some d => cases d <;> simp [hu] at hrt <;> first | exact absurd hrt hf | (rcases hrt with h | h; exact absurd h hf; exact h.2)
         exact ⟨hz,(e6 _ rfl).2.1 hf⟩
     obtain ⟨w',r1,r2⟩ := run_append_in ht hu2 hd2 (src.len w) src.lay.1 (src.cells w fun _ => rfl) src.lay.2.1 hroom (b := b) (q := q) (fun o h1 h2 => (T.get.2 o h1 h2).2) o.type
     cases pend with
     | false =>
       obtain ⟨g2,k2,s2⟩ := k1.append_in hview T e3 src.lay hroom r2
       exact fits_value (run r1) (by simpa using k2) (s1.trans s2)
     | true =>
       have hy1 := hp rfl
       obtain ⟨k2,s2⟩ := k1.append_in_pend T e3 (by have := src.lay.1; rwa [hy1,Nat.one_mul] at this) (by omega) r2
       rw [hy1] at r1
       exact fits_value (run r1) (by simpa using k2) (s1.trans s2)
 · -- a new row
   have hold : ∃ olds : List Value,olds.length = xs.length * sz ∧ (Builtin.firstCells sz xs.length (.slice A xs.length c)).run P w.drew = .ok olds.toArray w.drew ∧
       ∀ g' w' b' q',Ext g1 w g' w' → (∀ (j:Nat) v,olds[j]? = some v → (g'.ow b' (q' + j)).ro ∧ w'.cell? ⟨b',q' + j,none⟩ = some v) → VE g' w' sz xs b' q' := by
     cases A with
     | none =>
       have hc := e5 rfl; subst hc
       have hx0 : xs = [] := List.length_eq_zero_iff.1 (by omega)
       subst hx0
       exact ⟨[],by simp,by simp [Builtin.firstCells],fun _ _ _ _ _ _ => by simp [VE]⟩
     | some ad =>
       obtain ⟨b,q,sp⟩ := ad
       obtain ⟨hsp,_⟩ := e6 _ rfl
       replace hsp := hsp (.inl (by rcases hown with (rfl | rfl) | ⟨rfl,rfl⟩ <;> simp))
       simp only at hsp; subst hsp
       have T := hT _ rfl
       obtain ⟨olds,n1,n2⟩ := Lay.of_VE T.get.1
       exact ⟨olds,n1.1,firstCells_some n1.1 fun j v hj => n2 j v hj,n1.2.2⟩
   obtain ⟨olds,o1,o2,o3⟩ := hold
   obtain ⟨C,e,rest,c0,c1,c2,c3,c4⟩ := run_append_out ht hu2 hd2 (src.len w) src.lay.1 o1 (src.cells w.drew fun _ => rfl) o2 hroom hby h63 o.type
   have hlen : (olds ++ news ++ rest).length = C * sz := by
     simp only [List.length_append,o1,src.lay.1,c3,← Nat.add_mul]; congr 1; omega
   have getOld : ∀ (j:Nat) v,olds[j]? = some v → (olds ++ news ++ rest)[j]? = some v := fun j v hj => by
     have := (List.getElem?_eq_some_iff.1 hj).1
     rw [List.append_assoc,List.getElem?_append,if_pos this]; exact hj
   have getNew : ∀ (j:Nat) v,news[j]? = some v → (olds ++ news ++ rest)[xs.length * sz + j]? = some v := fun j v hj => by
     have := (List.getElem?_eq_some_iff.1 hj).1
     rw [List.append_assoc,List.getElem?_append,if_neg (by omega),show xs.length * sz + j - olds.length = j by omega,List.getElem?_append,if_pos this]; exact hj
   cases pend with
   | false =>
     obtain ⟨sm,q1,q1',q0,q2,q3,q4,q5⟩ := k1.append_out (C := C) (m := xs.length + ys.length) (e := e) hlen c1
     have hi : (fun t => t ≠ Tag.tail (.arg 0) 0) Tag.imm := by simp
     have hmul : xs.length * sz + ys.length * sz = (xs.length + ys.length) * sz := (Nat.add_mul _ _ _).symm
     have hE : VE (g1.fresh w.heap.size ((xs.length + ys.length) * sz)) (w.drew.alloc (.cells (olds ++ news ++ rest).toArray e)) sz (xs ++ ys) w.heap.size 0 := by
       refine VE.append (o3 _ _ _ _ (sm.ext hi) fun j v hj => ?_) (src.lay.2.2 _ _ _ _ (sm.ext hi) fun j v hj => ?_)
       · have := (List.getElem?_eq_some_iff.1 hj).1
         exact ⟨q1 j (by omega),q2 j v (getOld j v hj)⟩
       · have := (List.getElem?_eq_some_iff.1 hj).1
         have hl := src.lay.1
         refine ⟨?_,?_⟩
         · have := q1 (xs.length * sz + j) (by omega); rwa [← Nat.add_assoc] at this
         · have := q2 (xs.length * sz + j) v (getNew j v hj); rwa [← Nat.add_assoc] at this
     refine fits_value (run c4) (q5 _ _ ?_) (s1.trans q4)
     rw [VF_loose rfl]
     refine ⟨?_,?_⟩
     · simp only [VX,V,Bool.false_eq_true,if_false]
       exact ⟨some ⟨w.heap.size,0,none⟩,C,by simp,by simpa using c1,c2,⟨fun e => (by cases e),fun e => (by cases e)⟩,(fun e => by cases e),fun ad e' => by cases e'; exact ⟨fun _ => rfl,fun hf => by
         obtain ⟨f1,f2⟩ := c0 f hrt hf
         subst f1; subst f2
         refine ⟨rfl,rfl,⟨_,q0,by rw [hlen]; simp; omega⟩,fun o ho => q1' o (by simpa using ho)⟩,sz,hE⟩⟩
     · simp only [Owns,Bool.false_eq_true,if_false]
       intro ad n c' e'
       cases e'
       refine ⟨hE,fun o h1 h2 => ?_⟩
       simp only [Nat.zero_add,List.length_append] at h1 h2
       exact q3 o h1 h2
   | true =>
     have hy1 := hp rfl
     obtain ⟨sm,q1,_,_,q2,q3,q4,q5⟩ := k1.append_out (C := C) (m := xs.length) (e := e) hlen (by omega)
     have hi : (fun t => t ≠ Tag.tail (.arg 0) 0) Tag.imm := by simp
     have hE : VE (g1.fresh w.heap.size (xs.length * sz)) (w.drew.alloc (.cells (olds ++ news ++ rest).toArray e)) sz xs w.heap.size 0 := by
       refine o3 _ _ _ _ (sm.ext hi) fun j v hj => ?_
       have := (List.getElem?_eq_some_iff.1 hj).1
       exact ⟨q1 j (by omega),q2 j v (getOld j v hj)⟩
     rw [hy1] at c4
     refine fits_value (run c4) (q5 _ _ ?_) (s1.trans q4)
     simp only [VF,if_true]
     refine ⟨⟨w.heap.size,0,none⟩,C,rfl,by omega,c2,rfl,?_⟩
     intro ad n c' e'
     cases e'
     refine ⟨hE,fun o h1 h2 => ?_⟩
     simp only [Nat.zero_add] at h1 h2
     exact q3 o h1 h2
theorem fits_len (k:Rel G g st [] a.tmps w) {x:Opd} {x' : Operand} (hx:opdOk x x' = true) {t:TypeId} {d:TypeDesc} (hu:P.underlying t = some d) (ho:o.op = .call { callee := .builtin .len,args := #[x'],argTypes := #[t] }) {n:Nat}
   (h : (∃ xs ow,(opd st.fr x).1 = .list xs ow ∧ n = xs.length ∧ ∃ e,d = .slice e) ∨ (∃ s,(opd st.fr x).1 = .str s ∧ n = s.length ∧ d = .string) ∨ ((opd st.fr x).1 = .nilm ∧ n = 0 ∧ ∃ kt e,d = .map kt e) ∨
     (∃ id es,(opd st.fr x).1 = .map id ∧ st.hp[id]? = some (.map es) ∧ n = es.length ∧ ∃ kt e,d = .map kt e)) : Fits P G g st (.val (.int .i64 n) st) o a w := by
 have hr := k.read hx
 refine fits_int k ?_
 rcases h with ⟨xs,ow,h1,rfl,e,rfl⟩ | ⟨s,h1,rfl,rfl⟩ | ⟨h1,rfl,kt,e,rfl⟩ | ⟨id,es,h1,h2,rfl,kt,e,rfl⟩ <;> rw [h1] at hr <;> simp only [VX,V] at hr
 · obtain ⟨A,c,e1,_⟩ := hr
   simp [execOp,ho,resolve,Act.eval_eq,invoke,builtin,Builtin.len_,run_underlying hu,e1,goInt]
 · have : (⟨s.toArray⟩ : ByteArray).size = s.length := by show s.toArray.size = _; simp
   simp [execOp,ho,resolve,Act.eval_eq,invoke,builtin,Builtin.len_,run_underlying hu,hr,goInt,this]
 · simp [execOp,ho,resolve,Act.eval_eq,invoke,builtin,Builtin.len_,run_underlying hu,hr,goInt]
 · obtain ⟨b,e1,e2⟩ := hr
   obtain ⟨b',k1,k2,k3⟩ := k.hp.obj id _ h2 rfl
   rw [k1] at e1; cases e1
   simp only [ObjRel] at k3
   obtain ⟨ents,clock,k4,k5,_⟩ := k3
   have hg : (getObj b).run P w = .ok (.map ents clock) w := by simp [getObj,Sem.run,k4]
   simp [execOp,ho,resolve,Act.eval_eq,invoke,builtin,Builtin.len_,run_underlying hu,e2,goInt,hg,k5]
theorem fits_konst (k:Rel G g st [] a.tmps w) {t:TypeId} {n:Nat} {e:TypeId} (hu:P.underlying t = some (.array n e)) {x' : Operand} (ho:o.op = .call { callee := .builtin .len,args := #[x'],argTypes := #[t] }) : Fits P G g st (.val (.int .i64 n) st) o a w := by
 refine fits_int k ?_
 simp [execOp,ho,resolve,Act.eval_eq,invoke,builtin,Builtin.len_,run_underlying hu,goInt]
theorem fits_min (k:Rel G g st [] a.tmps w) {x y:Opd} {x' y' : Operand} (hx:opdOk x x' = true) (hy:opdOk y y' = true) {ts:Array TypeId} (ho:o.op = .call { callee := .builtin .min,args := #[x',y'],argTypes := ts }) {k1 k2:IntKind} {m n:Int}
   (h1:(opd st.fr x).1 = .int k1 m) (h2:(opd st.fr y).1 = .int k2 n) : Fits P G g st (.val (.int k1 (if n < m then n else m)) st) o a w := by
 have hr := k.read hx; have hs := k.read hy
 rw [h1] at hr; rw [h2] at hs; simp only [VX,V] at hr hs
 refine fits_int k ?_
 simp [execOp,ho,resolve,Act.eval_eq,invoke,builtin,Builtin.min_,Builtin.min2,hr,hs]
theorem fits_max (k:Rel G g st [] a.tmps w) {x y:Opd} {x' y' : Operand} (hx:opdOk x x' = true) (hy:opdOk y y' = true) {ts:Array TypeId} (ho:o.op = .call { callee := .builtin .max,args := #[x',y'],argTypes := ts }) {k1 k2:IntKind} {m n:Int}
   (h1:(opd st.fr x).1 = .int k1 m) (h2:(opd st.fr y).1 = .int k2 n) : Fits P G g st (.val (.int k1 (if n > m then n else m)) st) o a w := by
 have hr := k.read hx; have hs := k.read hy
 rw [h1] at hr; rw [h2] at hs; simp only [VX,V] at hr hs
 refine fits_int k ?_
 simp [execOp,ho,resolve,Act.eval_eq,invoke,builtin,Builtin.max_,Builtin.max2,hr,hs]
theorem fits_un (k:Rel G g st [] a.tmps w) {x:Opd} {x' : Operand} (hx:opdOk x x' = true) {op:UnOp} {t:TypeId} (ho:o.op = .unOp op t x') {v:AV} (h:unAV op (opd st.fr x).1 = some v) : Fits P G g st (.val v st) o a w := by
 have hr := k.read hx
 generalize (opd st.fr x).1 = p at *
 cases op <;> cases p <;> simp [unAV] at h <;> simp only [VX,V] at hr
 · subst h; refine fits_int k ?_; simp [execOp,ho,Act.eval_eq,hr,Op.unary,Op.intArith]
 · simp only [intBin] at h; cases h; refine fits_int k ?_; simp [execOp,ho,Act.eval_eq,hr,Op.unary,Op.intBits]
 · subst h; refine fits_bool k ?_; simp [execOp,ho,Act.eval_eq,hr,Op.unary]
theorem fits_conv (k:Rel G g st [] a.tmps w) {x:Opd} {x' : Operand} (hx:opdOk x x' = true) {s d:TypeId} {kk ks:IntKind} (hs:P.underlying s = some (.int ks)) (hd:P.underlying d = some (.int kk)) (ho:o.op = .convert s d x') {k0:IntKind} {n:Int} (h:(opd st.fr x).1 = .int k0 n) : Fits P G g st (.val (.int kk (kk.wrap n)) st) o a w := by
 have hr := k.read hx
 rw [h] at hr; simp only [VX,V] at hr
 refine fits_int k ?_
 simp [execOp,ho,Act.eval_eq,hr,convert,run_underlying hs,run_underlying hd,Conv.intToInt]
end
end Go.Proofs.YtkofimhnehkdoaaGreatDoor.Rf
end
section
namespace Go.Proofs.YtkofimhnehkdoaaGreatDoor.Rf
section
variable {P:Program} {G:Nat → Option (List AV)} {g g' : Gh} {st:St} {a:Act} {w w' : World} {o:Oper} {tm:Array Value} {ps:List (AV × Value)}
theorem Rel.reps {v v' : AV} {cv cv' : Value} (k:Rel G g st [(v,cv)] tm w) (h:VF g w st.fr tm (.arg 0) v' cv') : Rel G g st [(v',cv')] tm w := k.less.push0 h
theorem fits_extract (k:Rel G g st [] a.tmps w) {x:Opd} {x' : Operand} (hx:opdOk x x' = true) {i:Nat} (ho:o.op = .extract x' i) {vs:List AV} {v:AV} (h:(opd st.fr x).1 = .tup vs) (hv:vs[i]? = some v) (hp:v.plain = true) : Fits P G g st (.val v { st with fr := (opd st.fr x).2 }) o a w := by
 obtain ⟨g1,k1,s1,hb1⟩ := k.take hx
 rw [h] at k1; simp only [List.nil_append] at k1
 have fv := k1.ps 0 _ _ rfl
 rw [VF_loose rfl] at fv
 obtain ⟨f1,f2⟩ := fv
 simp only [VX,V] at f1
 obtain ⟨us,e1,e2⟩ := f1
 obtain ⟨u,hu,hvu⟩ := e2.get hv
 have own := f2 us e1
 have sm := same_mvI g1 w (.arg 0) i (.arg 0) 0
 have run : (execOp a.eval o).run P w = .ok (.value u) w := by simp [execOp,ho,Act.eval_eq,e1,Instr.extract,hu]
 have hi : (fun t => t ≠ Tag.tail (.arg 0) i ∧ t ≠ Tag.tail (.arg 0) 0) Tag.imm := ⟨by simp,by simp⟩
 refine fits_value (g' := g1.mvI (.arg 0) i (.arg 0) 0) run ?_ (s1.trans (stay_mvI _ _ _ _ _ _))
 refine ⟨fun s => (k1.fr s).same sm hi (fun _ _ _ => rfl) (fun j => ⟨by simp,by simp⟩) ⟨by simp,by simp⟩ rfl,fun j y cy hj => ?_,k1.hp.same sm hi (fun _ => ⟨by simp,by simp⟩) (fun _ _ => ⟨by simp,by simp⟩) (fun _ _ _ => ⟨by simp,by simp⟩) rfl,fun b q hb => ?_,k1.gl.same sm hi ⟨by simp,by simp⟩⟩
 · cases j with
   | succ j => simp at hj
   | zero =>
     simp at hj; obtain ⟨rfl,rfl⟩ := hj
     rw [VF_loose hvu.loose]
     refine ⟨VX_of_V (V.mono (sm.ext hi) _ _ hvu),?_⟩
     cases v <;> try trivial
     case list xs ow =>
       cases ow <;> try trivial
       exact (own i _ _ _ _ hv hu).mvI (sm.ext hi) fun _ _ _ => ⟨rfl,rfl⟩
 · show (g1.ow b q).mvI _ _ _ _ = _; rw [k1.fresh b q hb]; rfl
theorem plain_cp {v:AV} (h:v.plain = true) : v.cp.plain = true := by
 cases v <;> simp_all [AV.plain,AV.cp,AV.cpA,AV.cp1]
theorem fits_mkiface (k:Rel G g st [] a.tmps w) {x:Opd} {x' : Operand} (hx:opdOk x x' = true) {t:TypeId} {d:TypeDesc} (hu:P.underlying t = some d) (hd:∀ ms,d ≠ .interface ms) (ho:o.op = .makeInterface t x') (hp:(opd st.fr x).1.plain = true) :
   Fits P G g st (.val (.iface t (opd st.fr x).1.cp) { st with fr := (opd st.fr x).2 }) o a w := by
 obtain ⟨g1,k1,s1,hb1⟩ := k.take hx
 simp only [List.nil_append] at k1
 have fv := k1.ps 0 _ _ rfl
 rw [VF_loose (AV.loose_of_plain hp),VX_plain hp] at fv
 refine fits_value (g' := g1) (w' := w) (cv := .iface t (Act.opd a.tmps x')) ?_ (k1.reps (VF_scalar rfl (by simp only [VX,V]; exact ⟨_,rfl,fv.1.cp⟩) (by simp) (by simp))) s1
 simp [execOp,ho,Act.eval_eq,Instr.makeInterface,run_underlying hu]
theorem VS.cpAll : ∀ {cs:List AV} {vs:List Value},VS g w cs vs → VS g w (cs.map AV.cp) vs
 | [],_,h => by simpa [VS] using h
 | _ :: _,_,h => by simp only [VS] at h; obtain ⟨u,r,rfl,l,m⟩ := h; simp only [List.map_cons,VS]; exact ⟨u,r,rfl,l.cp,VS.cpAll m⟩
theorem VS.of_ps {vs:List AV} {us:List Value} (k:Rel G g st (vs.zip us) tm w) (hl:vs.length = us.length) (hp:plains vs = true) : VS g w vs us :=
 VS.mk hl.symm fun i v u hv hu => by
   have hz : (vs.zip us)[i]? = some (v,u) := by rw [List.getElem?_zip_eq_some]; exact ⟨hv,hu⟩
   have := k.ps i v u hz
   have hpl : v.plain = true := by simp only [plains,List.all_eq_true] at hp; exact hp v (List.mem_of_getElem? hv)
   rw [VF_loose (AV.loose_of_plain hpl),VX_plain hpl] at this; exact this.1
theorem fits_mkfunc (k:Rel G g st [] a.tmps w) {xs:List Opd} {os:List Operand} (hx:opdsOk xs os = true) {f:FuncId} (ho:o.op = .makeFunc (.func f) #[] os.toArray) (hp:plains (opds st.fr xs).1 = true) :
   Fits P G g st (.val (.func f ((opds st.fr xs).1.map AV.cp)) { st with fr := (opds st.fr xs).2 }) o a w := by
 obtain ⟨g1,k1,s1,hb1,hl⟩ := k.takes hx
 simp only [List.nil_append] at k1
 have hv := VS.of_ps k1 (by simpa using hl) hp
 refine fits_value (g' := g1) (w' := w) (cv := .func (.func f) #[] (os.map (Act.opd a.tmps)).toArray) ?_ (k1.less.push0 (VF_scalar rfl (by simp only [VX,V]; exact ⟨_,rfl,hv.cpAll⟩) (by simp) (by simp))) s1
 have : os.toArray.map a.eval = (os.map (Act.opd a.tmps)).toArray := by
   rw [show a.eval = Act.opd a.tmps from funext (Act.eval_eq a)]; simp
 simp [execOp,ho,Instr.makeFunc]
 exact fun x _ => Act.eval_eq a x
theorem fits_panic (k:Rel G g st [] a.tmps w) {x:Opd} {x' : Operand} (hx:opdOk x x' = true) (ho:o.op = .panic x') {t:Nat} {v:AV} (h:(opd st.fr x).1 = .iface t v) : Fits P G g st (.pan (.iface t v) st) o a w := by
 have hr := k.read hx
 rw [h] at hr; simp only [VX] at hr
 intro next Q _ h2
 have hr' := hr
 simp only [V] at hr'
 obtain ⟨u,e1,e2⟩ := hr'
 unfold Oper.wp
 have : (execOp a.eval o).run P w = .halt (.panic (Act.opd a.tmps x')) w := by simp [execOp,ho,Act.eval_eq,e1,Instr.panic]
 rw [this]
 exact h2 g w _ st _ rfl hr rfl k (Stay.refl g w)
def zeroV (P:Program) (t:TypeId) (z:AV) : Bool :=
 match P.info? t with
 | some i => match i.zero with | some u => same z u | none => false
 | none => false
theorem zeroV_run {t:TypeId} {z:AV} (h:zeroV P t z = true) : ∃ u,(∀ w,(zeroValue t).run P w = .ok u w) ∧ same z u = true := by
 unfold zeroV at h
 cases hi : P.info? t with
 | none => simp [hi] at h
 | some i =>
   simp only [hi] at h
   cases hz : i.zero with
   | none => simp [hz] at h
   | some u => exact ⟨u,fun w => by simp [zeroValue,typeInfo,hi,hz],by simpa [hz] using h⟩
theorem VF_pair {fr:Fr} {v:AV} {u:Value} {b:Bool} (h:V g w v u) (ho:∀ xs sz e,v = .list xs (.own sz e) → Tail g w (.arg 0) 0 xs sz u) : VF g w fr tm (.arg 0) (.tup [v,.bool b]) (.tuple #[u,.bool b]) := by
 rw [VF_loose rfl]
 refine ⟨by simp only [VX,V]; exact ⟨[u,.bool b],rfl,u,_,rfl,h,.bool b,[],rfl,by simp [V],rfl⟩,fun us e => ?_⟩
 have : us = [u,.bool b] := by
   have h2 : us.toArray = #[u,.bool b] := by injection e with e; exact e.symm
   simpa using congrArg Array.toList h2
 subst this
 intro i xs sz e cv h1 h2
 match i with
 | 0 => simp at h1 h2; subst h2; exact ho xs sz e h1
 | 1 => simp at h1
 | i + 2 => simp at h1
theorem fits_assert (k:Rel G g st [] a.tmps w) {x:Opd} {x' : Operand} (hx:opdOk x x' = true) {t xt:TypeId} {d:TypeDesc} (hu:P.underlying t = some d) (hd:∀ ms,d ≠ .interface ms) {z:AV} (hz:zeroV P t z = true) {ok:Bool} (ho:o.op = .typeAssert x' xt t ok) {r:AV}
   (h:(∃ v,(opd st.fr x).1 = .iface t v ∧ r = if ok then .tup [v.cp,.bool true] else v.cp) ∨ (ok = true ∧ r = .tup [z,.bool false] ∧ ((opd st.fr x).1 = .nili ∨ ∃ u v,u ≠ t ∧ (opd st.fr x).1 = .iface u v))) : Fits P G g st (.val r st) o a w := by
 have hr := k.read hx
 rcases h with ⟨v,h1,rfl⟩ | ⟨rfl,rfl,h⟩
 · rw [h1] at hr; simp only [VX,V] at hr
   obtain ⟨u,e1,e2⟩ := hr
   have run : (execOp a.eval o).run P w = .ok (.value (if ok then .tuple #[u,.bool true] else u)) w := by
     have : ∀ d : TypeDesc,(∀ ms,d ≠ .interface ms) → P.underlying t = some d → (execOp a.eval o).run P w = .ok (.value (if ok then .tuple #[u,.bool true] else u)) w := fun d hd hu => by
       cases d <;> first
         | (exact absurd rfl (hd _))
         | (simp [execOp,ho,Act.eval_eq,e1,Instr.typeAssert,run_underlying hu])
     exact this d hd hu
   cases ok
   · exact fits_pure k run (VF_cp e2.loose (VX_of_V e2))
   · exact fits_pure k run (VF_pair e2.cp fun xs sz e0 e => by
       have := (Owns.cp (g := g) (w := w) (r := .arg 0) (v := v) (cv := u)); rw [e] at this; exact this)
 · obtain ⟨zu,z1,z2⟩ := zeroV_run hz
   have run : (execOp a.eval o).run P w = .ok (.value (.tuple #[zu,.bool false])) w := by
     have : ∀ d : TypeDesc,(∀ ms,d ≠ .interface ms) → P.underlying t = some d → (execOp a.eval o).run P w = .ok (.value (.tuple #[zu,.bool false])) w := fun d hd hu => by
       rcases h with h | ⟨u,v,hne,h⟩ <;> rw [h] at hr <;> simp only [VX,V] at hr
       · cases d <;> first
           | (exact absurd rfl (hd _))
           | (simp [execOp,ho,Act.eval_eq,hr,Instr.typeAssert,run_underlying hu,z1])
       · obtain ⟨y,e1,_⟩ := hr
         cases d <;> first
           | (exact absurd rfl (hd _))
           | (simp [execOp,ho,Act.eval_eq,e1,Instr.typeAssert,run_underlying hu,z1,hne])
     exact this d hd hu
   exact fits_pure k run (VF_pair (V.of_same _ _ z2) fun xs sz e0 e => by subst e; cases xs <;> simp [same] at z2)
end
end Go.Proofs.YtkofimhnehkdoaaGreatDoor.Rf
end
section
namespace Go.Proofs.YtkofimhnehkdoaaGreatDoor.Rf
section
variable {P:Program} {G:Nat → Option (List AV)} {g g' : Gh} {st:St} {a:Act} {w w' : World} {o:Oper} {tm:Array Value} {ps:List (AV × Value)}
theorem fits_mkmap (k:Rel G g st [] a.tmps w) {t:TypeId} (ho:o.op = .makeMap t none) : Fits P G g st (.val (.map st.hp.length) { st with hp := st.hp ++ [.map []] }) o a w := by
 obtain ⟨g',k',s,hb⟩ := Rel.newobj k (o := .map []) (obj := .map #[] 0) (fun g1 w1 _ _ h1 => by
   simp only [ObjRel]; exact ⟨#[],0,h1,rfl,fun i kk v h => by simp at h⟩)
 refine fits_value (cv := .map (some w.heap.size)) (w' := w.alloc (.map #[] 0)) ?_ (k'.push0 ?_) s
 · simp [execOp,ho,Instr.makeMap]
 · exact VF_scalar rfl (VX_of_V (by simp only [V]; exact ⟨w.heap.size,by rw [hb,List.getElem?_append,if_neg (by rw [k.hp.len]; omega),k.hp.len]; simp,rfl⟩)) (by simp) (by simp)
def keyOk (kd:KeyK) (d:TypeDesc) : Bool :=
 match kd,d with
 | .int,.int _ | .str,.string | .bool,.bool => true
 | _,_ => false
theorem run_checkKey {t:TypeId} {d:TypeDesc} (hu:P.underlying t = some d) {kd:KeyK} (hd:keyOk kd d = true) (e:Bool) (n:Nat) (v:Value) : (Instr.checkKey e (n + 1) t v).run P w = .ok () w := by
 cases kd <;> cases d <;> simp [keyOk] at hd <;> simp [Instr.checkKey,run_underlying hu]
theorem keyEq_now {kd:KeyK} {d:TypeDesc} (hd:keyOk kd d = true) {k e:AV} {kc ec:Value} (hk:V g w k kc) (he:V g w e ec) {b:Bool} (h:keyEq kd k e = some b) : Instr.sameNow d kc ec = some b ∧ (b = true → ec = kc) := by
 cases kd <;> cases d <;> simp [keyOk] at hd <;> cases k <;> cases e <;> simp [keyEq] at h <;> simp only [V] at hk he <;> subst hk <;> subst he
 · obtain ⟨rfl,h⟩ := h; subst h; refine ⟨by simp [Instr.sameNow],fun e => by simp at e; rw [e]⟩
 · subst h
   rename_i a b
   have hb : ((⟨a.toArray⟩ : ByteArray) == ⟨b.toArray⟩) = (a == b) := by
     show (a.toArray == b.toArray) = (a == b)
     rw [Bool.eq_iff_iff]; simp
   exact ⟨by simp only [Instr.sameNow,hb],fun e => by simp at e; rw [e]⟩
 · subst h; exact ⟨by simp [Instr.sameNow],fun e => by simp at e; rw [e]⟩
def EntRel (g:Gh) (w:World) (es:List (AV × AV)) (L:List MapEntry) : Prop :=
 L.length = es.length ∧ ∀ (i:Nat) k v,es[i]? = some (k,v) → ∃ e,L[i]? = some e ∧ V g w k e.key ∧ V g w v e.val
theorem EntRel.tail {x:AV × AV} {es:List (AV × AV)} {e:MapEntry} {L:List MapEntry} (h:EntRel g w (x :: es) (e :: L)) : EntRel g w es L :=
 ⟨by simpa using h.1,fun i k v hi => by simpa using h.2 (i + 1) k v (by simpa using hi)⟩
theorem findKey_now {kd:KeyK} {d:TypeDesc} (hd:keyOk kd d = true) {k:AV} {kc:Value} (hk:V g w k kc) : ∀ {es:List (AV × AV)} {L:List MapEntry} (i0:Nat),EntRel g w es L → ∀ {r},findKey kd k es i0 = some r →
   match r with
   | none => Instr.findNow d kc L i0 = some none
   | some (j,v) => ∃ e kk,i0 ≤ j ∧ es[j - i0]? = some (kk,v) ∧ L[j - i0]? = some e ∧ V g w v e.val ∧ e.key = kc ∧ Instr.findNow d kc L i0 = some (some (j,e.val))
 | [],L,i0,h,r,hr => by
   simp [findKey] at hr; subst hr
   have : L = [] := List.length_eq_zero_iff.1 (by simpa using h.1)
   subst this; simp [Instr.findNow]
 | x :: es,[],i0,h,r,hr => by have := h.1; simp at this
 | x :: es,e :: L,i0,h,r,hr => by
   obtain ⟨e',e1,e2,e3⟩ := h.2 0 x.1 x.2 rfl
   simp at e1; subst e1
   simp only [findKey] at hr
   cases hq : keyEq kd k x.1 with
   | none => simp [hq] at hr
   | some b =>
     obtain ⟨s1,s2⟩ := keyEq_now hd hk e2 hq
     cases b with
     | true =>
       simp [hq] at hr; subst hr
       exact ⟨e,x.1,Nat.le_refl _,by simp,by simp,e3,s2 rfl,by simp [Instr.findNow,s1]⟩
     | false =>
       simp [hq] at hr
       have ih := findKey_now hd hk (i0 + 1) h.tail hr
       cases r with
       | none => simpa [Instr.findNow,s1] using ih
       | some p =>
         obtain ⟨j,v⟩ := p
         obtain ⟨e4,kk,f1,f2,f3,f4,f5,f6⟩ := ih
         refine ⟨e4,kk,by omega,?_,?_,f4,f5,by simpa [Instr.findNow,s1] using f6⟩
         · rw [show j - i0 = j - (i0 + 1) + 1 by omega]; simpa using f2
         · rw [show j - i0 = j - (i0 + 1) + 1 by omega]; simpa using f3
def mapOk (P:Program) (t:TypeId) (kd:KeyK) (z:AV) : Bool :=
 match P.underlying t with
 | some (.map kt e) => (match P.underlying kt with | some d => keyOk kd d | none => false) && zeroV P e z
 | _ => false
theorem run_lookup {t:TypeId} {kd:KeyK} {z:AV} (h:mapOk P t kd z = true) {k:AV} {kc:Value} (hk:V g w k kc) {es:List (AV × AV)} {L:Array MapEntry} (hE:EntRel g w es L.toList) {mv:Value} {ok:Bool}
   (hm:(mv = .map none ∧ es = []) ∨ ∃ b clock,mv = .map (some b) ∧ w.heap[b]? = some (.map L clock)) {r} (hr:findKey kd k es 0 = some r) :
   match r with
   | none => ∃ u,same z u = true ∧ (Instr.lookup t mv kc ok).run P w = .ok (if ok then .tuple #[u,.bool false] else u) w
   | some (j,v) => ∃ e kk,es[j]? = some (kk,v) ∧ L.toList[j]? = some e ∧ V g w v e.val ∧ (Instr.lookup t mv kc ok).run P w = .ok (if ok then .tuple #[e.val,.bool true] else e.val) w := by
 unfold mapOk at h
 cases hu : P.underlying t with
 | none => simp [hu] at h
 | some d =>
   cases d <;> simp [hu] at h
   rename_i kt e
   cases huk : P.underlying kt with
   | none => simp [huk] at h
   | some dk =>
     simp [huk] at h
     obtain ⟨zu,z1,z2⟩ := zeroV_run h.2
     rcases hm with ⟨rfl,rfl⟩ | ⟨b,clock,rfl,hb⟩
     · simp [findKey] at hr; subst hr
       exact ⟨zu,z2,by simp [Instr.lookup,run_underlying hu,run_checkKey huk h.1 true 9999,Instr.findKey,run_underlying huk,Instr.findNow,z1]⟩
     · have hg : (getObj b).run P w = .ok (.map L clock) w := by simp [getObj,Sem.run,hb]
       have hn := findKey_now h.1 hk 0 hE hr
       cases r with
       | none =>
         simp only at hn
         exact ⟨zu,z2,by simp [Instr.lookup,run_underlying hu,run_checkKey huk h.1 _ 9999,hg,Instr.findKey,run_underlying huk,hn,z1]⟩
       | some p =>
         obtain ⟨j,v⟩ := p
         obtain ⟨e4,kk,f1,f2,f3,f4,f5,f6⟩ := hn
         simp only [Nat.sub_zero] at f2 f3
         exact ⟨e4,kk,f2,f3,f4,by simp [Instr.lookup,run_underlying hu,run_checkKey huk h.1 _ 9999,hg,Instr.findKey,run_underlying huk,f6]⟩
theorem EntRel.of {id b:Nat} {es:List (AV × AV)} (h:ObjRel g w id b (.map es)) : ∃ L clock,w.heap[b]? = some (.map L clock) ∧ EntRel g w es L.toList ∧ ∀ (i:Nat) k v,es[i]? = some (k,v) → ∃ e,L[i]? = some e ∧ V g w k e.key ∧ V g w v e.val ∧ Owns g w (.mp id i) v e.val := by
 simp only [ObjRel] at h
 obtain ⟨L,clock,h1,h2,h3⟩ := h
 exact ⟨L,clock,h1,⟨by simpa using h2,fun i k v hi => by obtain ⟨e,e1,e2,e3,_⟩ := h3 i k v hi; exact ⟨e,by simpa using e1,e2,e3⟩⟩,h3⟩
theorem fits_lookup (k:Rel G g st [] a.tmps w) {m kx:Opd} {m' k' : Operand} (hm:opdOk m m' = true) (hk:opdOk kx k' = true) {t:TypeId} {kd:KeyK} {z:AV} (h:mapOk P t kd z = true) {ok:Bool} (ho:o.op = .lookup t m' k' ok) (hpk:(opd st.fr kx).1.plain = true)
   {es:List (AV × AV)} (hes:((opd st.fr m).1 = .nilm ∧ es = []) ∨ ∃ id,(opd st.fr m).1 = .map id ∧ st.hp[id]? = some (.map es)) {r} (hr:findKey kd (opd st.fr kx).1 es 0 = some r) :
   Fits P G g st (.val (match r with | none => if ok then .tup [z,.bool false] else z | some (_,v) => if ok then .tup [v.cp,.bool true] else v.cp) st) o a w := by
 have rk := k.read hk; rw [VX_plain hpk] at rk
 have rm := k.read hm
 have hL : ∃ L : Array MapEntry,EntRel g w es L.toList ∧ ((Act.opd a.tmps m' = .map none ∧ es = []) ∨ ∃ b clock,Act.opd a.tmps m' = .map (some b) ∧ w.heap[b]? = some (.map L clock)) := by
   rcases hes with ⟨h1,rfl⟩ | ⟨id,h1,h2⟩ <;> rw [h1] at rm <;> simp only [VX,V] at rm
   · exact ⟨#[],⟨rfl,fun i kk v h => by simp at h⟩,.inl ⟨rm,rfl⟩⟩
   · obtain ⟨b,e1,e2⟩ := rm
     obtain ⟨b',k1,k2,k3⟩ := k.hp.obj id _ h2 rfl
     rw [k1] at e1; cases e1
     obtain ⟨L,clock,l1,l2,_⟩ := EntRel.of k3
     exact ⟨L,l2,.inr ⟨_,clock,e2,l1⟩⟩
 obtain ⟨L,hE,hmv⟩ := hL
 have hrun := run_lookup (ok := ok) h rk hE hmv hr
 have ex : ∀ u,(Instr.lookup t (Act.opd a.tmps m') (Act.opd a.tmps k') ok).run P w = .ok u w → (execOp a.eval o).run P w = .ok (.value u) w := fun u e => by simp [execOp,ho,Act.eval_eq,e]
 cases r with
 | none =>
   obtain ⟨u,z1,z2⟩ := hrun
   have hno : ∀ xs sz e,z = .list xs (.own sz e) → Tail g w (.arg 0) 0 xs sz u := fun xs sz e0 e => by subst e; cases xs <;> simp [same] at z1
   cases ok
   · refine fits_pure k (ex _ z2) ?_
     have hz := V.of_same (g := g) (w := w) z u z1
     simp only [Bool.false_eq_true,if_false]
     rw [VF_loose hz.loose]; exact ⟨VX_of_V hz,Owns.of_same z1⟩
   · exact fits_pure k (ex _ z2) (VF_pair (V.of_same _ _ z1) hno)
 | some p =>
   obtain ⟨j,v⟩ := p
   obtain ⟨e,kk,f1,f2,f3,f4⟩ := hrun
   cases ok
   · exact fits_pure k (ex _ f4) (VF_cp f3.loose (VX_of_V f3))
   · exact fits_pure k (ex _ f4) (VF_pair f3.cp fun xs sz e0 e2 => by
       have := (Owns.cp (g := g) (w := w) (r := .arg 0) (v := v) (cv := e.val)); rw [e2] at this; exact this)
theorem Rel.takemap (k:Rel G g st [] tm w) {id:Nat} {es:List (AV × AV)} (hs:st.hp[id]? = some (.map es)) {i:Nat} {kk v:AV} (hv:es[i]? = some (kk,v)) {L:Array MapEntry} {b clock:Nat} (hb:g.hb[id]? = some b) (hL:w.heap[b]? = some (.map L clock)) {e:MapEntry} (he:L[i]? = some e) :
   Rel G (g.mvI (.mp id i) 0 (.arg 0) 0) { st with hp := st.hp.set id (.map (es.set i (kk,v.cp))) } [] tm w ∧ V (g.mvI (.mp id i) 0 (.arg 0) 0) w v e.val ∧ ∀ xs sz e0,v = .list xs (.own sz e0) → Tail (g.mvI (.mp id i) 0 (.arg 0) 0) w (.arg 0) 0 xs sz e.val := by
 obtain ⟨b',k1,f4,k3⟩ := k.hp.obj id _ hs rfl
 rw [k1] at hb; cases hb
 simp only [ObjRel] at k3
 obtain ⟨L',clock',f2,f3,f5⟩ := k3
 rw [f2] at hL; injection hL with hL; injection hL with hL1 hL2; subst hL1; subst hL2
 obtain ⟨e',g1,g2,g3,g4⟩ := f5 i kk v hv
 rw [he] at g1; cases g1
 have sm := same_mvI g w (.mp id i) 0 (.arg 0) 0
 have hi : (fun t => t ≠ Tag.tail (.mp id i) 0 ∧ t ≠ Tag.tail (.arg 0) 0) Tag.imm := ⟨by simp,by simp⟩
 refine ⟨⟨fun t => (k.fr t).same sm hi (fun _ _ _ => rfl) (fun i => ⟨by simp,by simp⟩) ⟨by simp,by simp⟩ rfl,fun j y cy hj => by simp at hj,⟨by simp; exact k.hp.len,fun x ob hx hlive => ?_⟩,fun b o hb => ?_,k.gl.same sm hi ⟨by simp,by simp⟩⟩,V.mono (sm.ext hi) _ _ g3,fun xs sz e0 e2 => ?_⟩
 · simp only [List.getElem?_set] at hx
   by_cases e0 : id = x
   · subst e0
     simp only [if_true] at hx
     split at hx
     · cases hx
       refine ⟨_,k1,fun j => ?_,?_⟩
       · show (g.ow _ _).mvI _ _ _ _ = _; rw [f4 j]; rfl
       · simp only [ObjRel]
         refine ⟨_,_,f2,by simpa using f3,fun j kj vj hj => ?_⟩
         rw [List.getElem?_set] at hj
         by_cases ej : i = j
         · subst ej
           simp only [if_true] at hj
           split at hj
           · cases hj
             exact ⟨e,he,V.mono (sm.ext hi) _ _ g2,(V.mono (sm.ext hi) _ _ g3).cp,Owns.cp⟩
           · cases hj
         · rw [if_neg ej] at hj
           obtain ⟨e3,h1,h2,h3,h4⟩ := f5 j kj vj hj
           refine ⟨e3,h1,V.mono (sm.ext hi) _ _ h2,V.mono (sm.ext hi) _ _ h3,h4.same sm hi fun i' => ⟨by simpa using fun h => absurd h.symm ej,by simp⟩⟩
     · cases hx
   · rw [if_neg e0] at hx
     obtain ⟨b',e1,e2,e3⟩ := k.hp.obj x ob hx hlive
     refine ⟨b',e1,fun i => ?_,e3.same sm hi e2 ⟨by simp,by simp⟩ (fun i => ⟨by simp,by simp⟩) (fun i' j => ⟨by simpa using fun h => absurd h.symm e0,by simp⟩)⟩
     show (g.ow _ _).mvI _ _ _ _ = _; rw [e2 i]; rfl
 · show (g.ow b o).mvI _ _ _ _ = _; rw [k.fresh b o hb]; rfl
 · subst e2
   simp only [Owns] at g4
   exact g4.mvI (sm.ext hi) fun _ _ _ => ⟨rfl,rfl⟩
theorem fits_lookup_take (k:Rel G g st [] a.tmps w) {m kx:Opd} {m' k' : Operand} (hm:opdOk m m' = true) (hk:opdOk kx k' = true) {t:TypeId} {kd:KeyK} {z:AV} (h:mapOk P t kd z = true) {ok:Bool} (ho:o.op = .lookup t m' k' ok) (hpk:(opd st.fr kx).1.plain = true)
   {id:Nat} {es:List (AV × AV)} (h1:(opd st.fr m).1 = .map id) (h2:st.hp[id]? = some (.map es)) {j:Nat} {v:AV} (hr:findKey kd (opd st.fr kx).1 es 0 = some (some (j,v))) (hpv:v.plain = true) :
   Fits P G g st (.val (if ok then .tup [v,.bool true] else v) { st with hp := st.hp.set id (.map (es.set j ((es.getD j default).1,v.cp))) }) o a w := by
 have rk := k.read hk; rw [VX_plain hpk] at rk
 have rm := k.read hm
 rw [h1] at rm; simp only [VX,V] at rm
 obtain ⟨b,e1,e2⟩ := rm
 obtain ⟨b',k1,k2,k3⟩ := k.hp.obj id _ h2 rfl
 have e1' := e1
 rw [k1] at e1; cases e1
 obtain ⟨L,clock,l1,l2,_⟩ := EntRel.of k3
 have hrun := run_lookup (ok := ok) h rk l2 (.inr ⟨_,clock,e2,l1⟩) hr
 obtain ⟨e,kk,f1,f2,f3,f4⟩ := hrun
 have hd : (es.getD j default).1 = kk := by rw [List.getD_eq_getElem?_getD,f1]; rfl
 rw [hd]
 obtain ⟨q1,q2,q3⟩ := k.takemap h2 f1 e1' l1 (by simpa using f2)
 refine fits_value (cv := if ok then .tuple #[e.val,.bool true] else e.val) (w' := w) (by simp [execOp,ho,Act.eval_eq,f4]) (q1.push0 ?_) (stay_mvI _ _ _ _ _ _)
 cases ok
 · simp only [Bool.false_eq_true,if_false]
   rw [VF_loose q2.loose]
   exact ⟨VX_of_V q2,owns_of_tail (fun vs e => by subst e; simp [AV.plain] at hpv) q3⟩
 · exact VF_pair q2 q3
def World.setMap (w:World) (b:Nat) (o:Obj) : World := { w with heap := w.heap.setIfInBounds b o }
theorem heap_setMap (w:World) (b:Nat) (o:Obj) (h:b < w.heap.size) (k:Nat) : (World.setMap w b o).heap[k]? = if k = b then some o else w.heap[k]? := by
 simp only [World.setMap,Array.getElem?_setIfInBounds]
 by_cases e : b = k
 · subst e; simp [h]
 · rw [if_neg e,if_neg (fun h => e h.symm)]
theorem row_setMap {b:Nat} {ob:Obj} (h:b < w.heap.size) (hm:∃ L c,w.heap[b]? = some (.map L c)) (c e n:Nat) (k:Row0 w c e n) : Row0 (World.setMap w b ob) c e n := by
 obtain ⟨cs,hi,k1,k2⟩ := k
 obtain ⟨L,cl,hm⟩ := hm
 have hc : c ≠ b := fun e => by subst e; rw [hm] at k1; cases k1
 exact ⟨cs,hi,by rw [heap_setMap w b ob h,if_neg hc]; exact k1,k2⟩
theorem same_setMap {b:Nat} {bt:Tag} {r q:Root} {i j:Nat} (hb:∀ o,g.ow b o = bt) {ob:Obj} (h:b < w.heap.size) (hm:∃ L c,w.heap[b]? = some (.map L c)) (hbt:bt ≠ .elt) :
   Same (offB bt r i q j) g w (g.mvI r i q j) (World.setMap w b ob) := by
 have hne : ∀ c o,offB bt r i q j (g.ow c o) → c ≠ b := fun c o ht e => by subst e; exact ht.1 (hb o)
 refine ⟨fun c o _ ht => Tag.mvI_off ht,fun c o _ ht => cell?_of_block' ?_,fun c o _ ht _ => frozen?_of_block' ?_,fun c _ ht => ?_,row_setMap h hm,fun _ => ⟨fun e => hbt e.symm,by simp,by simp⟩,fun _ _ h => h⟩
 · rw [heap_setMap w b ob h,if_neg (hne c o ht)]
 · rw [heap_setMap w b ob h,if_neg (hne c o ht)]
 · rw [heap_setMap w b ob h,if_neg (hne c 0 (ht 0).1)]
theorem stay_setMap {b:Nat} {bt:Tag} {r q:Root} {i j:Nat} (hb:∀ o,g.ow b o = bt) (hk:¬ bt.kept) {ob:Obj} (h:b < w.heap.size) (hm:∃ L c,w.heap[b]? = some (.map L c)) : Stay g w (g.mvI r i q j) (World.setMap w b ob) := by
 have hne : ∀ c o,(g.ow c o).kept → c ≠ b := fun c o ht e => by subst e; rw [hb] at ht; exact hk ht
 exact { ow := fun c o _ ht => by
           show (g.ow c o).mvI r i q j = _
           revert ht; cases g.ow c o <;> simp [Tag.kept,Tag.mvI]
         cell := fun c o _ ht => cell?_of_block' (by rw [heap_setMap w b ob h,if_neg (hne c o ht)])
         frz := fun c o _ ht _ => frozen?_of_block' (by rw [heap_setMap w b ob h,if_neg (hne c o ht)])
         blk := fun c _ ht => by rw [heap_setMap w b ob h,if_neg (hne c 0 (ht 0).1)]
         row := row_setMap h hm,te := fun _ => trivial
         hb := fun _ _ h => h,os := rfl,tape := rfl,output := rfl,size := by simp [World.setMap] }
theorem V.keep1 {v:AV} {cv:Value} (h:V g w v cv) : V g w v.keep1 cv := by
 cases v <;> simp only [AV.keep1] <;> first | exact h | exact h.cp
theorem Owns.keep1 {r q:Root} {v:AV} {cv:Value} (h:Owns g w r v cv) (k:∀ xs sz,Tail g w r 0 xs sz cv → Tail g' w' q 0 xs sz cv) : Owns g' w' q v.keep1 cv := by
 cases v <;> simp only [AV.keep1] <;> try exact Owns.cp
 case list xs ow => cases ow <;> first | trivial | exact k _ _ h
theorem Rel.setmap {u:AV} {cu:Value} (k:Rel G g st [(u,cu)] tm w) (hp:u.plain = true) {id:Nat} {es:List (AV × AV)} (hs:st.hp[id]? = some (.map es)) {b:Nat} (hb:g.hb[id]? = some b) {L:Array MapEntry} {clock:Nat} (hL:w.heap[b]? = some (.map L clock))
   {es' : List (AV × AV)} {L' : Array MapEntry} {clock' i : Nat} {kk:AV} (hi:es'[i]? = some (kk,u.keep1)) (hlen:L'.size = es'.length) (hnew:∃ e,L'[i]? = some e ∧ V g w kk e.key ∧ e.val = cu)
   (hold:∀ (j:Nat) x,j ≠ i → es'[j]? = some x → es[j]? = some x ∧ L'[j]? = L[j]?) :
   Rel G (g.mvI (.arg 0) 0 (.mp id i) 0) { st with hp := st.hp.set id (.map es') } [] tm (World.setMap w b (.map L' clock')) ∧ Stay g w (g.mvI (.arg 0) 0 (.mp id i) 0) (World.setMap w b (.map L' clock')) := by
 obtain ⟨b',k1,f4,k3⟩ := k.hp.obj id _ hs rfl
 rw [k1] at hb; cases hb
 simp only [ObjRel] at k3
 obtain ⟨L0,clock0,f2,f3,f5⟩ := k3
 rw [f2] at hL; injection hL with hL; injection hL with hL1 hL2; subst hL1; subst hL2
 have fu := k.ps 0 _ _ rfl
 rw [VF_loose (AV.loose_of_plain hp),VX_plain hp] at fu
 have hlt := (Array.getElem?_eq_some_iff.1 f2).1
 have sm := same_setMap (g := g) (w := w) (bt := .obj id) (r := .arg 0) (i := 0) (q := .mp id i) (j := 0) f4 (ob := .map L' clock') hlt ⟨_,_,f2⟩ (by simp)
 have hI : offB (.obj id) (.arg 0) 0 (.mp id i) 0 .imm := ⟨by simp,by simp,by simp⟩
 have hstay : Stay g w (g.mvI (.arg 0) 0 (.mp id i) 0) (World.setMap w b (.map L' clock')) := stay_setMap f4 (by simp [Tag.kept]) hlt ⟨_,_,f2⟩
 have hheap := heap_setMap w b (.map L' clock') hlt
 have hsize : (World.setMap w b (.map L' clock')).heap.size = w.heap.size := by simp [World.setMap]
 generalize World.setMap w b (.map L' clock') = w' at *
 refine ⟨⟨fun t => (k.fr t).same sm hI (fun _ _ _ => rfl) (fun i => ⟨by simp,by simp,by simp⟩) ⟨by simp,by simp,by simp⟩ rfl,fun j v cv hj => by simp at hj,⟨by simp; exact k.hp.len,fun x ob hx hlive => ?_⟩,fun c o hc => ?_,k.gl.same sm hI ⟨by simp,by simp,by simp⟩⟩,hstay⟩
 · simp only [List.getElem?_set] at hx
   by_cases e : id = x
   · subst e
     simp only [if_true] at hx
     split at hx
     · cases hx
       refine ⟨b,k1,fun j => ?_,?_⟩
       · show (g.ow _ _).mvI _ _ _ _ = _; rw [f4 j]; rfl
       · simp only [ObjRel]
         refine ⟨L',clock',by rw [hheap,if_pos rfl],hlen,fun j kj vj hj => ?_⟩
         by_cases ej : j = i
         · subst ej
           rw [hi] at hj; cases hj
           obtain ⟨e,e1,e2,e3⟩ := hnew
           refine ⟨e,e1,V.mono (sm.ext hI) _ _ e2,by rw [e3]; exact (V.mono (sm.ext hI) _ _ fu.1).keep1,?_⟩
           rw [e3]
           refine fu.2.keep1 fun xs sz ht => ht.mvI (sm.ext hI) fun c o hc => ⟨cell?_of_block' ?_,frozen?_of_block' ?_⟩
           all_goals
             rw [hheap,if_neg]
             intro e; subst e; rw [f4 o] at hc; cases hc
         · obtain ⟨h1,h2⟩ := hold j _ ej hj
           obtain ⟨e3,g1,g2,g3,g4⟩ := f5 j kj vj h1
           exact ⟨e3,by rw [h2]; exact g1,V.mono (sm.ext hI) _ _ g2,V.mono (sm.ext hI) _ _ g3,g4.same sm hI fun i' => ⟨by simp,by simp,by simpa using fun h => absurd h ej⟩⟩
     · cases hx
   · rw [if_neg e] at hx
     obtain ⟨b2,e1,e2,e3⟩ := k.hp.obj x ob hx hlive
     have hbl : b2 < w.heap.size := by
       exact e3.lt
     have hT : ∀ t,t = Tag.obj x → offB (.obj id) (.arg 0) 0 (.mp id i) 0 t := fun t ht => by subst ht; exact ⟨by simpa using fun h => e h.symm,by simp,by simp⟩
     exact ⟨b2,e1,fun i => (sm.ow b2 i hbl (hT _ (e2 i))).trans (e2 i),e3.same sm hI e2 (hT _ rfl) (fun i => ⟨by simp,by simp,by simp⟩) (fun i' j => ⟨by simp,by simp,by simpa using fun h => absurd h.symm e⟩)⟩
 · rw [hsize] at hc
   show (g.ow c o).mvI _ _ _ _ = _; rw [k.fresh c o hc]; rfl
theorem sameBits_key {kd:KeyK} {d:TypeDesc} (hd:keyOk kd d = true) {k e:AV} {kc:Value} (hk:V g w k kc) {b:Bool} (h:keyEq kd k e = some b) (n:Nat) : Instr.sameBits n kc kc = true := by
 cases kd <;> cases k <;> cases e <;> simp [keyEq] at h <;> simp only [V] at hk <;> subst hk <;> cases n <;> simp [Instr.sameBits]
 all_goals
   show ((_:Array UInt8) == _) = true
   simp
theorem findKey_some_eq {kd:KeyK} {k:AV} : ∀ {es:List (AV × AV)} {i0 j:Nat} {v:AV},findKey kd k es i0 = some (some (j,v)) → ∃ e : AV,keyEq kd k e = some true
 | [],_,_,_,h => by simp [findKey] at h
 | x :: es,i0,j,v,h => by
   simp only [findKey] at h
   cases hq : keyEq kd k x.1 with
   | none => simp [hq] at h
   | some b =>
     cases b with
     | true => exact ⟨_,hq⟩
     | false => simp [hq] at h; exact findKey_some_eq h
theorem fits_mapset (k:Rel G g st [] a.tmps w) {m kx v:Opd} {m' k' v' : Operand} (hm:opdOk m m' = true) (hk:opdOk kx k' = true) (hv:opdOk v v' = true) {t:TypeId} {kd:KeyK} {z:AV} (h:mapOk P t kd z = true) (ho:o.op = .mapUpdate t m' k' v') (hpv:(opd st.fr v).1.plain = true) (hpk:(opd (opd st.fr v).2 kx).1.plain = true)
   {id:Nat} {es:List (AV × AV)} (h1:(opd (opd st.fr v).2 m).1 = .map id) (h2:st.hp[id]? = some (.map es)) {r} (hr:findKey kd (opd (opd st.fr v).2 kx).1 es 0 = some r) :
   Fits P G g st (.val (.tup []) { fr := (opd st.fr v).2,hp := st.hp.set id (.map (match r with | some (i,_) => es.set i ((es.getD i default).1,(opd st.fr v).1.keep1) | none => es ++ [((opd (opd st.fr v).2 kx).1,(opd st.fr v).1.keep1)])) }) o a w := by
 obtain ⟨g1,k1,s1,hb1⟩ := k.take hv
 simp only [List.nil_append] at k1
 have rk := k1.read hk; simp only at rk; rw [VX_plain hpk] at rk
 have rm := k1.read hm; simp only at rm
 rw [h1] at rm; simp only [VX,V] at rm
 obtain ⟨b,e1,e2⟩ := rm
 obtain ⟨b',k2,_,k3⟩ := k1.hp.obj id _ h2 rfl
 have e1' := e1
 rw [k2] at e1; cases e1
 obtain ⟨L,clock,l1,l2,l3⟩ := EntRel.of k3
 unfold mapOk at h
 cases hu : P.underlying t with
 | none => simp [hu] at h
 | some d =>
   cases d <;> simp [hu] at h
   rename_i kt e
   cases huk : P.underlying kt with
   | none => simp [huk] at h
   | some dk =>
     simp [huk] at h
     have hg : (getObj b).run P w = .ok (.map L clock) w := by simp [getObj,Sem.run,l1]
     have hst : ∀ L' clock',(setObj b (.map L' clock')).run P w = .ok () (World.setMap w b (.map L' clock')) := fun L' clock' => by simp [setObj,Sem.run,l1,World.setMap]
     have hn := findKey_now h.1 rk 0 l2 hr
     cases r with
     | none =>
       simp only at hn
       obtain ⟨q1,q2⟩ := k1.setmap hpv h2 e1' l1 (es' := es ++ [((opd (opd st.fr v).2 kx).1,(opd st.fr v).1.keep1)]) (L' := L.push { key := Act.opd a.tmps k',val := Act.opd a.tmps v',born := clock }) (clock' := clock + 1) (i := es.length) (kk := (opd (opd st.fr v).2 kx).1)
         (by simp) (by have := l2.1; simp at this ⊢; exact this) ⟨_,by rw [Array.getElem?_push,if_pos (by have := l2.1; simpa using this.symm)],rk,rfl⟩
         (fun j x hj hx => by
           have hlt := (List.getElem?_eq_some_iff.1 hx).1
           simp at hlt
           rw [List.getElem?_append,if_pos (by omega)] at hx
           refine ⟨hx,?_⟩
           rw [Array.getElem?_push,if_neg (by have := l2.1; simp at this; omega)])
       refine fits_skip ?_ (q1.push0 VF_undef) (s1.trans q2)
       simp [execOp,ho,Act.eval_eq,Instr.mapUpdate,run_underlying hu,e2,hg,run_checkKey huk h.1 _ 9999,Instr.findKey,run_underlying huk,hn,hst]
     | some p =>
       obtain ⟨i,v0⟩ := p
       obtain ⟨e4,kk,f1,f2,f3,f4,f5,f6⟩ := hn
       simp only [Nat.sub_zero] at f2 f3
       have hd : (es.getD i default).1 = kk := by rw [List.getD_eq_getElem?_getD,f2]; rfl
       have hLi : L[i]? = some e4 := by simpa using f3
       obtain ⟨e5,g1',g2',g3',_⟩ := l3 i kk v0 f2
       rw [hLi] at g1'; cases g1'
       have hil : i < L.size := (Array.getElem?_eq_some_iff.1 hLi).1
       have hsb : Instr.sameBits 10000 (Act.opd a.tmps k') (Act.opd a.tmps k') = true := by
         obtain ⟨e6,hq⟩ := findKey_some_eq hr
         exact sameBits_key h.1 rk hq _
       have hmod : ∀ j : Nat,(L.modify i fun e => { e with key := Act.opd a.tmps k',val := Act.opd a.tmps v' })[j]? = if i = j then some { e4 with key := Act.opd a.tmps k',val := Act.opd a.tmps v' } else L[j]? := fun j => by
         rw [Array.getElem?_modify]
         by_cases ej : i = j
         · subst ej; simp [hLi]
         · simp [ej]
       obtain ⟨q1,q2⟩ := k1.setmap hpv h2 e1' l1 (es' := es.set i ((es.getD i default).1,(opd st.fr v).1.keep1)) (L' := L.modify i fun e => { e with key := Act.opd a.tmps k',val := Act.opd a.tmps v' }) (clock' := clock) (i := i) (kk := kk)
         (by rw [hd,List.getElem?_set,if_pos rfl,if_pos (List.getElem?_eq_some_iff.1 f2).1]) (by have := l2.1; simp at this ⊢; exact this) ⟨_,by rw [hmod,if_pos rfl],by rw [← f5]; exact g2',rfl⟩
         (fun j x hj hx => by
           rw [List.getElem?_set,if_neg (fun e => hj e.symm)] at hx
           exact ⟨hx,by rw [hmod,if_neg (fun e => hj e.symm)]⟩)
       refine fits_skip ?_ (q1.push0 VF_undef) (s1.trans q2)
       simp [execOp,ho,Act.eval_eq,Instr.mapUpdate,run_underlying hu,e2,hg,run_checkKey huk h.1 _ 9999,Instr.findKey,run_underlying huk,f6,hLi,f5,Instr.keyThatStays,hsb,hst]
end
end Go.Proofs.YtkofimhnehkdoaaGreatDoor.Rf
end
section
namespace Go.Proofs.YtkofimhnehkdoaaGreatDoor.Rf
section
variable {P:Program} {G:Nat → Option (List AV)} {g g' : Gh} {st:St} {a:Act} {w w' : World} {o:Oper} {tm:Array Value} {ps:List (AV × Value)}
theorem fold_set (l:List Value) : ∀ (j off:Nat) (cells:Array Value),off + j + l.length ≤ cells.size →
   ((l.zipIdx j).foldl (fun (cs:Array Value) (x:Value × Nat) => cs.setIfInBounds (off + x.2) x.1) cells).toList = cells.toList.take (off + j) ++ l ++ cells.toList.drop (off + j + l.length) := by
 induction l with
 | nil => intro j off cells h; simp
 | cons v r ih =>
   intro j off cells h
   simp only [List.zipIdx_cons,List.foldl_cons]
   have h1 : off + (j + 1) + r.length ≤ (cells.setIfInBounds (off + j) v).size := by simp at h ⊢; omega
   rw [ih (j + 1) off _ h1]
   have hl : off + j < cells.toList.length := by simp at h ⊢; omega
   simp only [Array.toList_setIfInBounds]
   have hl2 : (cells.toList.take (off + j)).length = off + j := by simp; simp at hl; omega
   have es : cells.toList.set (off + j) v = cells.toList.take (off + j) ++ v :: cells.toList.drop (off + j + 1) := by rw [List.set_eq_take_append_cons_drop,if_pos hl]
   have e1 : (cells.toList.set (off + j) v).take (off + (j + 1)) = cells.toList.take (off + j) ++ [v] := by
     rw [es,show off + (j + 1) = (cells.toList.take (off + j)).length + 1 by omega,List.take_length_add_append]; simp
   have e2 : (cells.toList.set (off + j) v).drop (off + (j + 1) + r.length) = cells.toList.drop (off + j + (v :: r).length) := by
     rw [es,show off + (j + 1) + r.length = (cells.toList.take (off + j)).length + (r.length + 1) by omega,List.drop_length_add_append]
     simp only [List.drop_succ_cons,List.drop_drop,List.length_cons]; congr 1; omega
   rw [e1,e2]; simp
def PlacesOk (place:Nat → Option (Nat × Nat)) : List (Nat × Nat × Opd) → List (Nat × Operand) → Prop
 | [],[] => True
 | (off,n,_) :: ps,(i,_) :: qs => place i = some (off,n) ∧ PlacesOk place ps qs
 | _,_ => False
theorem run_fill {place:Nat → Option (Nat × Nat)} : ∀ {ps:List (Nat × Nat × Opd)} {qs:List (Nat × Operand)} {vs:List AV} {us:List Value} {cs:List AV} {cells:Array Value} {r:List AV},PlacesOk place ps qs → vs.length = ps.length → us.length = qs.length → (∀ (i:Nat) v u,vs[i]? = some v → us[i]? = some u → v.plain = true ∧ V g w v u) →
   VS g w cs cells.toList → Ones cells.toList → buildCells cs ((ps.zip vs).map fun (p,v) => (p.1,p.2.1,v)) = some r → ∃ cells',Instr.fill place cells ((qs.zip us).map fun (p,u) => (p.1,u)) = some cells' ∧ VS g w r cells'.toList ∧ Ones cells'.toList
 | [],[],vs,us,cs,cells,r,_,hv,hu,_,h1,h2,h => by
   simp [buildCells] at h; subst h; exact ⟨cells,by simp [Instr.fill],h1,h2⟩
 | (off,n,x) :: ps,(i,y) :: qs,v :: vs,u :: us,cs,cells,r,hp,hv,hu,hall,h1,h2,h => by
   obtain ⟨hp1,hp2⟩ := hp
   simp only [List.zip_cons_cons,List.map_cons,buildCells] at h
   split at h
   · rename_i hc
     obtain ⟨c1,c2⟩ := hc
     obtain ⟨p1,p2⟩ := hall 0 v u rfl rfl
     have hcl := V.cells p1 p2
     have hn : u.cells.size = n := by rw [← c1,← hcl.1.len]; simp
     have hlen : cells.size = cs.length := by simpa using h1.len
     have hf := fold_set u.cells.toList 0 off cells (by simp; omega)
     simp only [Nat.add_zero] at hf
     obtain ⟨cells',f1,f2,f3⟩ := run_fill (cells := u.cells.toList.zipIdx.foldl (fun (cs:Array Value) (x:Value × Nat) => cs.setIfInBounds (off + x.2) x.1) cells) hp2 (by simpa using hv) (by simpa using hu)
       (fun j v' u' a b => hall (j + 1) v' u' (by simpa using a) (by simpa using b)) (by rw [hf]; exact VS.put h1 hcl.1 off) (by rw [hf]; exact Ones.put h2 hcl.2 off _) h
     refine ⟨cells',?_,f2,f3⟩
     simp only [List.zip_cons_cons,List.map_cons,Instr.fill,hp1]
     rw [if_neg (by simp [hn]; omega),← Array.foldl_toList,Array.toList_zipIdx]
     exact f1
   · cases h
 | [],_ :: _,_,_,_,_,_,hp,_,_,_,_,_,_ => hp.elim
 | _ :: _,[],_,_,_,_,_,hp,_,_,_,_,_,_ => hp.elim
 | _ :: _,_ :: _,[],_,_,_,_,_,hv,_,_,_,_,_ => by simp at hv
 | _ :: _,_ :: _,_ :: _,[],_,_,_,_,_,hu,_,_,_,_ => by simp at hu
def placeOf (P:Program) (t:TypeId) : Option (Nat → Option (Nat × Nat)) :=
 match P.underlying t with
 | some (.struct fs) => some fun i => match fs[i]? with | some f => (P.info? f.type).map fun x => (f.offset,x.size) | none => none
 | some (.array _ e) => (P.info? e).map fun x => fun i => some (i * x.size,x.size)
 | _ => none
def partsOk (place:Nat → Option (Nat × Nat)) : List (Nat × Nat × Opd) → List (Nat × Operand) → Bool
 | [],[] => true
 | (off,n,x) :: ps,(i,y) :: qs => (match place i with | some (o',n') => decide (o' = off) && decide (n' = n) | none => false) && opdOk x y && partsOk place ps qs
 | _,_ => false
theorem partsOk_spec {place:Nat → Option (Nat × Nat)} : ∀ {ps:List (Nat × Nat × Opd)} {qs:List (Nat × Operand)},partsOk place ps qs = true → PlacesOk place ps qs ∧ opdsOk (ps.map (·.2.2)) (qs.map (·.2)) = true ∧ ps.length = qs.length
 | [],[],_ => ⟨trivial,rfl,rfl⟩
 | (off,n,x) :: ps,(i,y) :: qs,h => by
   simp only [partsOk,Bool.and_eq_true] at h
   obtain ⟨⟨h1,h2⟩,h3⟩ := h
   obtain ⟨i1,i2,i3⟩ := partsOk_spec h3
   cases hp : place i with
   | none => simp [hp] at h1
   | some p => simp [hp] at h1; obtain ⟨rfl,rfl⟩ := h1; exact ⟨⟨hp,i1⟩,by simp [opdsOk,h2,i2],by simp [i3]⟩
 | [],_ :: _,h => by simp [partsOk] at h
 | _ :: _,[],h => by simp [partsOk] at h
def sizesOk (P:Program) (t:TypeId) : Bool :=
 match P.underlying t with
 | some (.struct fs) => fs.toList.all fun f => (P.info? f.type).isSome
 | _ => true
theorem run_places (P:Program) (w:World) : ∀ (l:List Field),(∀ f ∈ l,(P.info? f.type).isSome = true) → (l.mapM fun f => (do pure (f.offset,← sizeOf f.type) : Sem (Nat × Nat))).run P w = .ok (l.map fun f => (f.offset,((P.info? f.type).map (·.size)).getD 0)) w
 | [],_ => by simp
 | f :: l,h => by
   obtain ⟨i,hi⟩ := Option.isSome_iff_exists.1 (h f (by simp))
   have hs1 : (sizeOf f.type).run P w = .ok i.size w := by simp [sizeOf,typeInfo,hi]
   simp only [List.mapM_cons,Sem.run_bind,hs1,Result.andThen_ok,Sem.run_pure,run_places P w l (fun x hx => h x (by simp [hx])),List.map_cons,hi,Option.map_some,Option.getD_some]
theorem zip_parts (f:Operand → Value) : ∀ qs : List (Nat × Operand),(qs.map fun (x:Nat × Operand) => (x.1,f x.2)) = (qs.zip ((qs.map (·.2)).map f)).map fun (p,u) => (p.1,u)
 | [] => rfl
 | x :: r => by simp only [List.map_cons,List.zip_cons_cons,zip_parts f r]
theorem fits_build (k:Rel G g st [] a.tmps w) {t:TypeId} {zs:List AV} {ps:List (Nat × Nat × Opd)} {qs:List (Nat × Operand)} (hz:zeroOk P t zs = true) {place:Nat → Option (Nat × Nat)} (hpl:placeOf P t = some place) (hs:sizesOk P t = true) (hq:partsOk place ps qs = true)
   (ho:o.op = .build t qs.toArray) (hp:plains (opds st.fr (ps.map (·.2.2))).1 = true) {r:List AV} (h:buildCells zs ((ps.zip (opds st.fr (ps.map (·.2.2))).1).map fun (p,v) => (p.1,p.2.1,v)) = some r) : Fits P G g st (.val (.agg r) { st with fr := (opds st.fr (ps.map (·.2.2))).2 }) o a w := by
 obtain ⟨q1,q2,q3⟩ := partsOk_spec hq
 obtain ⟨z,z1,z2,z3⟩ := zeroOk_run hz
 obtain ⟨g1,k1,s1,hb1,hl⟩ := k.takes q2
 simp only [List.nil_append] at k1
 have hv := VS.of_ps k1 (by simpa using hl) hp
 obtain ⟨cells',f1,f2,f3⟩ := run_fill (us := (qs.map (·.2)).map (Act.opd a.tmps)) (cells := z.cells) q1 (by simp [hl,q3]) (by simp) (fun i v u e1 e2 => ⟨by simp only [plains,List.all_eq_true] at hp; exact hp v (List.mem_of_getElem? e1),hv.get' e1 e2⟩) (VS.of_same (g := g1) (w := w) _ _ z2) z3 h
 refine fits_value (g' := g1) (w' := w) (cv := .agg cells') ?_ (k1.less.push0 (VF_scalar rfl (by simp only [VX,V]; exact ⟨cells'.toList,by simp,f2,f3⟩) (by simp) (by simp))) s1
 have hparts : (qs.toArray.map fun (i,x) => (i,a.eval x)).toList = (qs.zip ((qs.map (·.2)).map (Act.opd a.tmps))).map fun (p,u) => (p.1,u) := by
   rw [Array.toList_map,show a.eval = Act.opd a.tmps from funext (Act.eval_eq a)]
   exact zip_parts _ qs
 unfold placeOf at hpl
 cases hu : P.underlying t with
 | none => simp [hu] at hpl
 | some d =>
   cases d <;> simp [hu] at hpl
   case array n e =>
     obtain ⟨i,hi,rfl⟩ := hpl
     simp only [execOp,ho,Instr.build,Sem.run_bind,z1,run_underlying hu,Result.andThen_ok,sizeOf,typeInfo,run_program,hi,Sem.run_pure,hparts,f1]
   case struct fs =>
     subst hpl
     have hfs : ∀ f ∈ fs.toList,(P.info? f.type).isSome = true := by
       unfold sizesOk at hs; simp only [hu,List.all_eq_true] at hs; exact hs
     have hm : (fs.mapM fun f => (do pure (f.offset,← sizeOf f.type) : Sem (Nat × Nat))).run P w = .ok (fs.toList.map fun f => (f.offset,((P.info? f.type).map (·.size)).getD 0)).toArray w := by
       rw [Array.mapM_eq_mapM_toList]
       simp only [Sem.run_map,run_places P w fs.toList hfs,Result.andThen_ok]
     have hpl2 : (fun i:Nat => ((fs.toList.map fun (f:Field) => (f.offset,((P.info? f.type).map (·.size)).getD 0)).toArray)[i]?) = fun (i:Nat) => match fs[i]? with | some f => (P.info? f.type).map fun x => (f.offset,x.size) | none => none := by
       funext i
       simp only [List.getElem?_toArray,List.getElem?_map,Array.getElem?_toList]
       cases hf : fs[i]? with
       | none => rfl
       | some f =>
         obtain ⟨x,hx⟩ := Option.isSome_iff_exists.1 (hfs f (by simpa using Array.mem_of_getElem? hf))
         simp [hx]
     simp only [execOp,ho,Instr.build,Sem.run_bind,z1,run_underlying hu,Result.andThen_ok,hm,hparts]
     rw [hpl2,f1]
     simp
end
end Go.Proofs.YtkofimhnehkdoaaGreatDoor.Rf
end
