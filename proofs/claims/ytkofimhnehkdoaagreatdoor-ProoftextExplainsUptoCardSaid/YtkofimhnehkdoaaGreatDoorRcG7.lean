/- A part of the proof: see the last text. -/
import Derived.Test.YtkofimhnehkdoaaGreatDoorRcG6
import Derived.Laws.Externs
import Derived.Laws.MakeOwn
import Derived.Lib.UnsafeStr
import Derived.Lib.Builder
import Derived.KernelRfl
import Derived.Laws.BytesString
import Derived.Laws.IdiomStrings
set_option linter.unusedVariables false
set_option linter.unusedSimpArgs false
section
namespace Go.Proofs.YtkofimhnehkdoaaGreatDoor.Rf
section
variable {P:Program} {G:Nat → Option (List AV)} {g g' : Gh} {st:St} {a:Act} {w w' : World} {o:Oper} {tm:Array Value} {ps:List (AV × Value)}
theorem fits_sdata_nil (k:Rel G g st [] a.tmps w) {x:Opd} {x' : Operand} (hx:opdOk x x' = true) {ts:Array TypeId} (ho:o.op = .call { callee := .builtin .unsafeSliceData,args := #[x'],argTypes := ts })
   {xs:List AV} (h:(opd st.fr x).1 = .list xs .nil) : Fits P G g st (.val .nilp st) o a w := by
 have h1 := k.read hx; rw [h] at h1; simp only [VX,V] at h1
 obtain ⟨A,c,e1,e2,e3,e4,e5,e6⟩ := h1
 have hA : A = none := e4.1 trivial
 subst hA
 have hr := Lib.run_unsafeSliceData_nil (P := P) w ts o.type xs.length c
 refine fits_pure k (cv := .pointer none) ?_ (VF_scalar rfl (by simp only [VX,V]) (by simp) (by simp))
 simp [execOp,ho,resolve,Act.eval_eq,invoke,builtin,e1,hr]
theorem fits_sdata (k:Rel G g st [] a.tmps w) {x:Opd} {x' : Operand} (hx:opdOk x x' = true) {ts:Array TypeId} (ho:o.op = .call { callee := .builtin .unsafeSliceData,args := #[x'],argTypes := ts })
   {xs:List AV} {e:Nat} (h:(opd st.fr x).1 = .list xs (.view e)) (hxs:xs ≠ []) (he:e ≠ 0) (hs:okSize 1 xs = true) : Fits P G g st (.val (.data xs e) st) o a w := by
 have h1 := k.read hx; rw [h] at h1; simp only [VX,V] at h1
 obtain ⟨A,c,e1,e2,e3,e4,e5,e6⟩ := h1
 have hlen := List.length_pos_iff.2 hxs
 cases A with
 | none => have := e5 rfl; omega
 | some ad =>
   obtain ⟨_,f2,sz,f3⟩ := e6 ad rfl
   have hv := f2 he
   have hE := okSize_VE hs f3
   have hr := Lib.run_unsafeSliceData_row (P := P) w ts o.type ad xs.length c (by omega)
   refine fits_pure k (cv := .pointer (some ad)) ?_ (VF_scalar rfl ?_ (by simp) (by simp))
   · simp [execOp,ho,resolve,Act.eval_eq,invoke,builtin,e1,hr]
   · simp only [VX]
     exact ⟨ad,rfl,hv,by rw [hv.1] at hE; exact hE⟩
theorem bytesOf_cells {b:Nat} : ∀ {xs:List AV} {bs:List UInt8} {off:Nat},bytesOf xs = some bs → VE g w 1 xs b off → bs.length = xs.length ∧ ∀ (j:Nat) x,bs[j]? = some x → w.cell? ⟨b,off + j,none⟩ = some (.int .u8 x.toNat)
 | [],bs,off,h,_ => by simp [bytesOf] at h; subst h; simp
 | v :: r,bs,off,h,hv => by
   cases v <;> try (simp [bytesOf] at h; done)
   rename_i k n
   cases k <;> try (simp [bytesOf] at h; done)
   simp only [bytesOf] at h
   split at h
   · rename_i hn
     cases hr : bytesOf r with
     | none => rw [hr] at h; simp at h
     | some cs =>
       rw [hr] at h; simp at h; subst h
       simp only [VE] at hv
       obtain ⟨⟨_,_,cv,c1,_,c2⟩,hv2⟩ := hv
       obtain ⟨i1,i2⟩ := bytesOf_cells hr hv2
       refine ⟨by simp [i1],fun j x hj => ?_⟩
       cases j with
       | zero =>
         simp at hj; subst hj
         simp only [V] at c2
         rw [Nat.add_zero,c1,c2]
         congr 2
         have : n.toNat < 256 := by omega
         simp [UInt8.toNat_ofNat',Nat.mod_eq_of_lt this]; omega
       | succ j =>
         simp at hj
         have := i2 j x hj
         rwa [show off + 1 + j = off + (j + 1) by omega] at this
   · cases h
theorem heap_freeze (w:World) (b n:Nat) (k:Nat) {cs:Array Value} {e hi:Nat} (h:w.heap[b]? = some (.cells cs e (0,hi))) (hn:n ≠ 0) : (w.freeze ⟨b,0,none⟩ n).heap[k]? = if k = b then some (.cells cs e (0,max hi n)) else w.heap[k]? := by
 unfold World.freeze
 rw [if_neg hn]
 simp only [Array.getElem?_modify]
 by_cases hk : b = k
 · subst hk
   simp only [if_true,h,Option.map_some]
   by_cases hz : (0 == hi) = true
   · have : hi = 0 := (beq_iff_eq.1 hz).symm
     subst this; simp
   · simp [hz]
 · rw [if_neg hk,if_neg (fun e => hk e.symm)]
theorem size_freeze (w:World) (p:Addr) (n:Nat) : (w.freeze p n).heap.size = w.heap.size := by
 unfold World.freeze; split <;> simp
theorem Rel.freeze (k:Rel G g st ps tm w) {m e:Nat} {ad:Addr} (hv:View g w m e ad) (hm:m ≠ 0) : Rel G g st ps tm (w.freeze ad m) ∧ Stay g w g (w.freeze ad m) := by
 obtain ⟨h1,h2,⟨n,⟨cs,hi,h3,h3'⟩,h4⟩,h5⟩ := hv
 obtain ⟨b,q,sp⟩ := ad
 simp only at h1 h2 h3 h5; subst h1; subst h2
 have hh := fun k => heap_freeze w b m k h3 hm
 have hsize := size_freeze w ⟨b,0,none⟩ m
 have hos : (w.freeze ⟨b,0,none⟩ m).os = w.os ∧ (w.freeze ⟨b,0,none⟩ m).tape = w.tape ∧ (w.freeze ⟨b,0,none⟩ m).output = w.output := by
   unfold World.freeze; rw [if_neg hm]; exact ⟨rfl,rfl,rfl⟩
 generalize w.freeze ⟨b,0,none⟩ m = w' at *
 have cel : ∀ c o,w'.cell? ⟨c,o,none⟩ = w.cell? ⟨c,o,none⟩ := fun c o => by
   by_cases hc : c = b
   · subst hc; simp only [World.cell?,hh,if_true,h3]
   · exact cell?_of_block' (by rw [hh,if_neg hc])
 have frz : ∀ c o,g.ow c o ≠ .elt → w'.frozen? ⟨c,o,none⟩ = w.frozen? ⟨c,o,none⟩ := fun c o hn => by
   by_cases hc : c = b
   · subst hc
     have ho : m ≤ o := by
       refine Classical.byContradiction fun hlt => hn (h5 o (by omega))
     simp only [World.frozen?,hh,if_true,h3]
     simp; omega
   · exact frozen?_of_block' (by rw [hh,if_neg hc])
 have blk : ∀ c,(∀ o,g.ow c o ≠ .elt) → w'.heap[c]? = w.heap[c]? := fun c hn => by
   rw [hh,if_neg fun e => ?_]
   subst e; exact hn 0 (h5 0 (by omega))
 have row : ∀ c e n,Row0 w c e n → Row0 w' c e n := fun c e n ⟨ds,hj,r1,r2⟩ => by
   by_cases hc : c = b
   · subst hc; rw [h3] at r1; cases r1
     exact ⟨cs,max hi m,by rw [hh,if_pos rfl],r2⟩
   · exact ⟨ds,hj,by rw [hh,if_neg hc]; exact r1,r2⟩
 have sm : Same (fun _ => True) g w g w' := ⟨fun _ _ _ _ => rfl,fun c o _ _ => cel c o,fun c o _ _ hn => frz c o hn,fun c _ hn => blk c fun o => (hn o).2,row,fun _ => trivial,fun _ _ h => h⟩
 refine ⟨k.same sm rfl (fun _ => rfl) (fun c o hb => k.fresh c o (by omega)),?_⟩
 exact { ow := fun _ _ _ _ => rfl,cell := fun c o _ _ => cel c o,frz := fun c o _ _ hn => frz c o hn,blk := fun c _ hn => blk c fun o => (hn o).2,row := row,te := fun _ => trivial,hb := fun _ _ h => h,os := hos.1,tape := hos.2.1,output := hos.2.2,size := by omega }
theorem fits_ustr_nil (k:Rel G g st [] a.tmps w) {p n:Opd} {p' n' : Operand} (hp:opdOk p p' = true) (hn:opdOk n n' = true) {pt it:TypeId} (ho:o.op = .call { callee := .builtin .unsafeString,args := #[p',n'],argTypes := #[pt,it] })
   (h1:(opd st.fr p).1 = .nilp) (h2:(opd st.fr n).1 = .int .i64 0) : Fits P G g st (.val (.str []) st) o a w := by
 have r1 := k.read hp; rw [h1] at r1; simp only [VX,V] at r1
 have r2 := k.read hn; rw [h2] at r2; simp only [VX,V] at r2
 have hr := Lib.run_unsafeString_none (P := P) w pt it o.type none
 refine fits_pure k (cv := .string ⟨#[]⟩) ?_ (VF_scalar rfl (by simp only [VX,V]) (by simp) (by simp))
 simp [execOp,ho,resolve,Act.eval_eq,invoke,builtin,r1,r2,hr]; rfl
theorem fits_ustr (k:Rel G g st [] a.tmps w) {p n:Opd} {p' n' : Operand} (hp:opdOk p p' = true) (hn:opdOk n n' = true) {pt it e:TypeId} (ht:P.underlying pt = some (.pointer e)) (hc:P.cellsOf e = 1) (ho:o.op = .call { callee := .builtin .unsafeString,args := #[p',n'],argTypes := #[pt,it] })
   {xs:List AV} {bs:List UInt8} (h1:(opd st.fr p).1 = .data xs e) (h2:(opd st.fr n).1 = .int .i64 xs.length) (hb:bytesOf xs = some bs) (h0:xs ≠ []) (h63:xs.length ≤ 9223372036854775807) : Fits P G g st (.val (.str bs) st) o a w := by
 have r1 := k.read hp; rw [h1] at r1; simp only [VX] at r1
 have r2 := k.read hn; rw [h2] at r2; simp only [VX,V] at r2
 obtain ⟨ad,e1,hv,hE⟩ := r1
 obtain ⟨hl,hcell⟩ := bytesOf_cells hb hE
 have hm : xs.length ≠ 0 := by simpa using h0
 obtain ⟨k2,s2⟩ := k.freeze hv hm
 obtain ⟨v1,v2,⟨m,⟨cs,hi,v3,v3'⟩,v4⟩,v5⟩ := hv
 obtain ⟨b,q,sp⟩ := ad
 simp only at v1 v2 v3 hcell k2 s2; subst v1; subst v2
 have hsh : w.shape? b = some (e,cs.size) := by unfold World.shape?; rw [v3]
 have hr := Lib.run_unsafeString_row (P := P) w pt it o.type e ht hc b cs.size hsh bs (by intro h; rw [h] at hl; simp at hl; exact hm hl.symm) (by omega) (by omega) (fun j x hj => by rw [Addr.add_lit]; exact hcell j x hj)
 rw [hl] at hr
 refine fits_value (w' := w.freeze ⟨b,0,none⟩ xs.length) (g' := g) (cv := .string ⟨bs.toArray⟩) ?_ (k2.push0 (VF_scalar rfl (by simp only [VX,V]) (by simp) (by simp))) s2
 simp [execOp,ho,resolve,Act.eval_eq,invoke,builtin,e1,r2,hr]
def uptrOk (P:Program) (s d u n:TypeId) : Bool :=
 (match P.underlying s,P.underlying d with
  | some (.pointer t),some .unsafePointer => (match P.info? t with | some i => Nat.blt 0 i.size | none => false)
  | some .unsafePointer,some (.pointer t) => Nat.beq t u && (P.info? t).isSome && liesAt P P.depth u (n / P.cellsOf u) 0 u 1
  | _,_ => false)
theorem fits_uptr (k:Rel G g st [] a.tmps w) {x:Opd} {x' : Operand} (hx:opdOk x x' = true) {s d:TypeId} {u n:Nat} (hs:uptrOk P s d u n = true) (ho:o.op = .convert s d x') {i:Nat} (h:(opd st.fr x).1 = .ptr i 0)
   {cs:List AV} (hh:st.hp[i]? = some (.cells u cs)) (hu:u ≠ 0) (hn:cs.length = n) (h0:cs ≠ []) : Fits P G g st (.val (.ptr i 0) st) o a w := by
 have r1 := k.read hx; rw [h] at r1; simp only [VX,V] at r1
 obtain ⟨b,e1,e2⟩ := r1
 obtain ⟨b',f1,f2,f3⟩ := k.hp.obj i _ hh rfl
 rw [e1] at f1; cases f1
 simp only [ObjRel] at f3
 obtain ⟨vs,sp,ty,f4,f5,_,f6⟩ := f3
 obtain ⟨hty,hsp⟩ := f6 hu; subst hty; subst hsp; rw [List.append_nil] at f4
 have hlen := f5.1.len
 have hpos := List.length_pos_iff.2 h0
 have hsh : w.shape? b = some (ty,n) := by unfold World.shape?; rw [f4]; simp; omega
 refine fits_pure k (cv := .pointer (some ⟨b,0,none⟩)) ?_ (VF_scalar rfl (by simp only [VX,V]; exact ⟨b,e1,rfl⟩) (by simp) (by simp))
 unfold uptrOk at hs
 have hconv : (convert s d (.pointer (some ⟨b,0,none⟩))).run P w = .ok (.pointer (some ⟨b,0,none⟩)) w := by
   split at hs
   · rename_i t h1 h2
     cases hi : P.info? t with
     | none => simp [hi] at hs
     | some j =>
       simp [hi] at hs
       exact Lib.run_to_unsafe w ⟨b,0,none⟩ h1 h2 hi (by omega) hsh (by simp only; omega)
   · rename_i t h1 h2
     simp only [Bool.and_eq_true] at hs
     have ht := Nat.eq_of_beq_eq_true hs.1.1
     subst ht
     obtain ⟨j,hj⟩ := Option.isSome_iff_exists.1 hs.1.2
     exact Lib.run_from_unsafe w ⟨b,0,none⟩ h1 h2 hj hsh hs.2
   · cases hs
 simp [execOp,ho,Act.eval_eq,e2,hconv]
theorem noEscape_find {fn : Func} (h : fn.name = "internal/abi.NoEscape") : Extern.find fn = some Extern.AbiNoEscape.same := by
 have h1 : ∀ (a b c : Array TypeId), (((Extern.allGenericRows.lookup "internal/abi.NoEscape").map (· a b c)) <|> ((Extern.allTypedRows.lookup "internal/abi.NoEscape").map (· b c)) <|> Extern.allRows.lookup "internal/abi.NoEscape") = some Extern.AbiNoEscape.same := by
   intro a b c; kernel_rfl
 unfold Extern.find
 rw [h]
 simp only [h1]
 rfl
def identOk (P:Program) (f:FuncId) : Bool :=
 match P.funcs[f]? with
 | some fn => !(fn.name == "runtime.NumGoroutine") && fn.body.isNone && (Extern.findNext fn).isNone && fn.name == "internal/abi.NoEscape"
 | none => false
theorem fits_ident (k : Rel G g st [] a.tmps w) {f : FuncId} {fn : Func} (hf : P.funcs[f]? = some fn) (h1 : (fn.name == "runtime.NumGoroutine") = false) (h2 : fn.body.isNone = true) (h3 : Extern.findNext fn = none) (h4 : Extern.find fn = some Extern.AbiNoEscape.same)
   {x:Opd} {x' : Operand} (hx:opdOk x x' = true) {ts:Array TypeId} (ho:o.op = .call { callee := .value (.func f),args := #[x'],argTypes := ts }) {i j:Nat} (h:(opd st.fr x).1 = .ptr i j) : Fits P G g st (.val (.ptr i j) st) o a w := by
 have r1 := k.read hx; rw [h] at r1; simp only [VX,V] at r1
 obtain ⟨b,e1,e2⟩ := r1
 have hr := run_callFunc_extern hf h1 h2 h3 h4 #[Value.pointer (some ⟨b,j,none⟩)] w
 rw [Lib.run_noEscape] at hr
 simp only [Result.andThen_ok] at hr
 refine fits_pure k (cv := .pointer (some ⟨b,j,none⟩)) ?_ (VF_scalar rfl (by simp only [VX,V]; exact ⟨b,e1,rfl⟩) (by simp) (by simp))
 have e3 : Act.opd a.tmps (.func f) = Value.func (.func f) #[] #[] := rfl
 simp [execOp,ho,resolve,Deferred.ofValue,show a.eval = Act.opd a.tmps from funext (Act.eval_eq a),e3,e2,invoke,hr]
def mksliceOk (P:Program) (t:TypeId) (z:AV) (bytes:Nat) : Bool :=
 match P.underlying t with
 | some (.slice e) => (match P.info? e with | some i => decide (i.size = z.cells.length) && decide (0 < i.size) && decide (i.bytes = bytes) | none => false) && zeroOk P e z.cells
 | _ => false
theorem fits_mkslice (k:Rel G g st [] a.tmps w) {t:TypeId} {z:AV} {f bytes:Nat} (hb:mksliceOk P t z bytes = true) (hrt:rowTy P t z.cells.length f = true) {n c:Opd} {n' c' : Operand} (hn:opdOk n n' = true) (hc:opdOk c c' = true) (ho:o.op = .makeSlice t n' c')
   {l m:Int} (h1:(opd st.fr n).1 = .int .i64 l) (h2:(opd st.fr c).1 = .int .i64 m) (h0:0 ≤ l) (hlm:l ≤ m) (hby:m.toNat * bytes ≤ 140737488355328) (h63:m ≤ 9223372036854775807) : Fits P G g st (.val (.list (List.replicate l.toNat z) (.own z.cells.length f)) st) o a w := by
 have r1 := k.read hn; rw [h1] at r1; simp only [VX,V] at r1
 have r2 := k.read hc; rw [h2] at r2; simp only [VX,V] at r2
 unfold mksliceOk at hb
 cases hu : P.underlying t with
 | none => simp [hu] at hb
 | some d =>
   cases d <;> simp [hu] at hb
   rename_i e
   obtain ⟨hb1,hb2⟩ := hb
   cases hi : P.info? e with
   | none => simp [hi] at hb1
   | some i =>
     simp [hi] at hb1
     obtain ⟨⟨b1,b2⟩,b3⟩ := hb1
     obtain ⟨zv,z1,z2,z3⟩ := zeroOk_run hb2
     have hz : i.zero = some zv := by
       have := z1 w
       cases hz : i.zero with
       | none => simp [zeroValue,typeInfo,hi,hz] at this
       | some u => simp [zeroValue,typeInfo,hi,hz] at this; rw [this]
     have hzs : VS g w z.cells zv.cells.toList := VS.of_same _ _ z2
     have hzl : zv.cells.size = i.size := by rw [b1,← hzs.len]; simp
     have hby2 : (i.bytes : Int) * m ≤ 281474976710656 := by
       have hq : (i.bytes : Int) * m = ((m.toNat * bytes : Nat) : Int) := by
         rw [b3,Int.natCast_mul,Int.toNat_of_nonneg (by omega),Int.mul_comm]
       omega
     have hr := run_make (P := P) w t e i zv hu hi hz .i64 .i64 l m h0 hlm hby2 h63
     have hcells : (madeCells zv.cells (m.toNat * i.size)).toList = (List.replicate l.toNat zv.cells.toList).flatten ++ (List.replicate (m.toNat - l.toNat) zv.cells.toList).flatten := by
       have e1 := range_cells zv.cells (by omega) m.toNat
       have e2 : (madeCells zv.cells (m.toNat * i.size)).toList = (List.replicate m.toNat zv.cells.toList).flatten := by
         rw [← e1,← hzl]; simp [madeCells]
       rw [e2,← List.flatten_append,List.replicate_append_replicate]; congr 2; omega
     have hones : ∀ n,Ones (List.replicate n zv.cells.toList).flatten := by
       intro n u hu; simp only [List.mem_flatten,List.mem_replicate] at hu
       obtain ⟨l,⟨_,rfl⟩,hu⟩ := hu; exact z3 u hu
     have hrow := RowR.rep (sz := z.cells.length) rfl hzs l.toNat
     obtain ⟨g2,k2,s2⟩ := (k.push0 (v := .tup []) (cv := undef) VF_undef).newrow (e := e) (f := f) (C := m.toNat) (rest := (List.replicate (m.toNat - l.toNat) zv.cells.toList).flatten) (hrow.lay (hones _))
       (by simp [List.length_flatten,hzl,b1]) (by simp; omega) (by omega) (fun hf => by
         unfold rowTy at hrt; simp only [hu,Bool.or_eq_true,Bool.and_eq_true] at hrt
         rcases hrt with h | h
         · exact absurd (Nat.eq_of_beq_eq_true h) hf
         · exact ⟨Nat.eq_of_beq_eq_true h.1,Nat.eq_of_beq_eq_true h.2⟩)
     rw [← hcells] at k2 s2
     refine fits_value (cv := .slice (some ⟨w.heap.size,0,none⟩) l.toNat m.toNat) ?_ (by simpa using k2) (by simpa using s2)
     simp [execOp,ho,Act.eval_eq,r1,r2,hr]
end
end Go.Proofs.YtkofimhnehkdoaaGreatDoor.Rf
end
section
namespace Go.Proofs.YtkofimhnehkdoaaGreatDoor.Rf
section
variable {P:Program} {G:Nat → Option (List AV)} {g g' : Gh} {st:St} {a:Act} {w w' : World} {o:Oper} {tm:Array Value} {ps:List (AV × Value)}
theorem VS.rep {cs:List AV} {vs:List Value} (h:VS g w cs vs) : ∀ n,VS g w (List.replicate n cs).flatten (List.replicate n vs).flatten
 | 0 => by simp [VS]
 | n + 1 => by
   rw [List.replicate_succ,List.replicate_succ,List.flatten_cons,List.flatten_cons]
   exact VS.append h (VS.rep h n)
theorem sames_rep {cs:List AV} {vs:List Value} (h:sames cs vs = true) : ∀ n,sames (List.replicate n cs).flatten (List.replicate n vs).flatten = true
 | 0 => by simp [sames]
 | n + 1 => by
   rw [List.replicate_succ,List.replicate_succ,List.flatten_cons,List.flatten_cons]
   have happ : ∀ {as:List AV} {us:List Value},sames as us = true → ∀ {bs:List AV} {xs:List Value},sames bs xs = true → sames (as ++ bs) (us ++ xs) = true := by
     intro as
     induction as with
     | nil => intro us h bs xs k; cases us <;> simp [sames] at h; simpa using k
     | cons x as ih =>
       intro us h bs xs k
       cases us with
       | nil => simp [sames] at h
       | cons u us => simp only [sames,Bool.and_eq_true,List.cons_append] at h ⊢; exact ⟨h.1,ih h.2 k⟩
   exact happ h (sames_rep h n)
theorem fits_mkbuf (k:Rel G g st [] a.tmps w) {t:TypeId} {z:AV} {f bytes:Nat} (hb:mksliceOk P t z bytes = true) (hrt:rowTy P t z.cells.length f = true) {n c:Opd} {n' c' : Operand} (hn:opdOk n n' = true) (hc:opdOk c c' = true) (ho:o.op = .makeSlice t n' c')
   {l m:Int} (h1:(opd st.fr n).1 = .int .i64 l) (h2:(opd st.fr c).1 = .int .i64 m) (h0:0 ≤ l) (hlm:l ≤ m) (hby:m.toNat * bytes ≤ 140737488355328) (h63:m ≤ 9223372036854775807) :
   Fits P G g st (.val (.sref st.hp.length 0 l.toNat z.cells.length) { st with hp := st.hp ++ [.cells f (List.replicate m.toNat z.cells).flatten] }) o a w := by
 have r1 := k.read hn; rw [h1] at r1; simp only [VX,V] at r1
 have r2 := k.read hc; rw [h2] at r2; simp only [VX,V] at r2
 unfold mksliceOk at hb
 cases hu : P.underlying t with
 | none => simp [hu] at hb
 | some d =>
   cases d <;> simp [hu] at hb
   rename_i e
   obtain ⟨hb1,hb2⟩ := hb
   cases hi : P.info? e with
   | none => simp [hi] at hb1
   | some i =>
     simp [hi] at hb1
     obtain ⟨⟨b1,b2⟩,b3⟩ := hb1
     obtain ⟨zv,z1,z2,z3⟩ := zeroOk_run hb2
     have hz : i.zero = some zv := by
       have := z1 w
       cases hz : i.zero with
       | none => simp [zeroValue,typeInfo,hi,hz] at this
       | some u => simp [zeroValue,typeInfo,hi,hz] at this; rw [this]
     have hzs : VS g w z.cells zv.cells.toList := VS.of_same _ _ z2
     have hzl : zv.cells.size = i.size := by rw [b1,← hzs.len]; simp
     have hby2 : (i.bytes : Int) * m ≤ 281474976710656 := by
       have hq : (i.bytes : Int) * m = ((m.toNat * bytes : Nat) : Int) := by
         rw [b3,Int.natCast_mul,Int.toNat_of_nonneg (by omega),Int.mul_comm]
       omega
     have hr := run_make (P := P) w t e i zv hu hi hz .i64 .i64 l m h0 hlm hby2 h63
     have hcells : (madeCells zv.cells (m.toNat * i.size)) = (List.replicate m.toNat zv.cells.toList).flatten.toArray := by
       apply Array.toList_inj.1
       rw [← range_cells zv.cells (by omega) m.toNat,← hzl]; simp [madeCells]
     have hones : Ones (List.replicate m.toNat zv.cells.toList).flatten := by
       intro u hu; simp only [List.mem_flatten,List.mem_replicate] at hu
       obtain ⟨l,⟨_,rfl⟩,hu⟩ := hu; exact z3 u hu
     rw [hcells] at hr
     obtain ⟨g2,k2,s2,hg2⟩ := Rel.newobj k (o := .cells f (List.replicate m.toNat z.cells).flatten) (obj := .cells (List.replicate m.toNat zv.cells.toList).flatten.toArray e) (fun g1 w1 _ _ h1 => by
       simp only [ObjRel]
       exact ⟨_,[],e,by rw [List.append_nil]; exact h1,⟨VS.of_same _ _ (sames_rep z2 _),hones⟩,OwnsL.none (sames_not_own (sames_rep z2 _)),fun hf => by
         unfold rowTy at hrt; simp only [hu,Bool.or_eq_true,Bool.and_eq_true] at hrt
         rcases hrt with h | h
         · exact absurd (Nat.eq_of_beq_eq_true h) hf
         · exact ⟨Nat.eq_of_beq_eq_true h.1,rfl⟩⟩)
     refine fits_value (cv := .slice (some ⟨w.heap.size,0,none⟩) l.toNat m.toNat) (g' := g2) ?_ (k2.push0 ?_) s2
     · simp [execOp,ho,Act.eval_eq,r1,r2,hr]
     · refine VF_scalar rfl (VX_of_V ?_) (by simp) (by simp)
       simp only [V]
       refine ⟨w.heap.size,0,m.toNat,⟨by rw [hg2,List.getElem?_append,if_neg (by rw [k.hp.len]; omega),k.hp.len]; simp,⟨by omega,by omega⟩,fun _ => rfl,e,m.toNat * z.cells.length,⟨_,0,heap_alloc_new w _,?_⟩,by omega⟩,rfl⟩
       simp [List.length_flatten,hzl,b1]
theorem fits_iaddrR (k:Rel G g st [] a.tmps w) {x i:Opd} {y u:Operand} (hx:opdOk x y = true) (hi:opdOk i u = true) {t:TypeId} {sz:Nat} (hf:sliceOk P t sz = true) (ho:o.op = .indexAddr t y u) {id q n:Nat} (hv:(opd st.fr x).1 = .sref id q n sz)
   {kk:IntKind} {j:Int} (hj:(opd st.fr i).1 = .int kk j) (h0:0 ≤ j) (h1:j < n) : Fits P G g st (.val (.ptr id (q + j.toNat * sz)) st) o a w := by
 have hr := k.read hx; rw [hv] at hr; simp only [VX,V] at hr
 have hri := k.read hi; rw [hj] at hri; simp only [VX,V] at hri
 obtain ⟨b,o',c,⟨e1,e2,e3,e4⟩,e5⟩ := hr
 have : o' = q := e3 (by omega)
 subst this
 refine fits_pure k (cv := .pointer (some ⟨b,o' + j.toNat * sz,none⟩)) ?_ (VF_scalar rfl (VX_of_V (by simp only [V]; exact ⟨b,e1,rfl⟩)) (by simp) (by simp))
 simp [execOp,ho,Act.eval_eq,e5,hri,run_indexAt_slice hf h0 h1]
theorem fits_slcR (k:Rel G g st [] a.tmps w) {x:Opd} {y:Operand} (hx:opdOk x y = true) {l h:Option Opd} {l' h' : Option Operand} (hl:optOk l l' = true) (hh:optOk h h' = true) {t:TypeId} {sz:Nat} (hu:sliceOk P t sz = true) (ho:o.op = .slice t y l' h' none)
   {id q len:Nat} (hv:(opd st.fr x).1 = .sref id q len sz) {m n:Nat} (hm:bound st.fr 0 l = some m) (hn:bound st.fr len h = some n) (h1:m ≤ n) (h2:n ≤ len) : Fits P G g st (.val (.sref id (q + m * sz) (n - m) sz) st) o a w := by
 have hr := k.read hx; rw [hv] at hr; simp only [VX,V] at hr
 obtain ⟨b,o',c,⟨r1,⟨r2,r3⟩,r4,e,M,r5,r6⟩,r7⟩ := hr
 obtain ⟨et,u1,u2⟩ := sliceOk_run hu
 have hb := run_bounds (P := P) (w := w) true (cap := c) (opt_vals k hl hm) (opt_vals k hh hn) h1 (by omega)
 have hb' := hb
 simp only [show a.eval = Act.opd a.tmps from funext (Act.eval_eq a)] at hb'
 refine fits_pure k (cv := .slice (if c = m then some ⟨b,o',none⟩ else some ⟨b,o' + m * sz,none⟩) (n - m) (c - m)) ?_ (VF_scalar rfl (VX_of_V ?_) (by simp) (by simp))
 · simp [execOp,ho,Act.eval_eq,r7,Instr.sliceAt,Sem.run_bind,run_underlying u1,Instr.slice,show a.eval = Act.opd a.tmps from funext (Act.eval_eq a),hb',u2,Addr.add_lit]
 · simp only [V]
   by_cases hc : c = m
   · refine ⟨b,o',c - m,⟨r1,⟨by omega,by omega⟩,by omega,e,M,r5,?_⟩,by simp [hc]⟩
     rw [hc,Nat.sub_self,Nat.zero_mul]; omega
   · refine ⟨b,o' + m * sz,c - m,⟨r1,⟨by omega,by omega⟩,fun _ => by rw [r4 (by omega)],e,M,r5,?_⟩,by simp [hc]⟩
     rw [Nat.add_assoc,← Nat.add_mul,show m + (c - m) = c by omega]; exact r6
theorem fits_lenR (k:Rel G g st [] a.tmps w) {x:Opd} {y:Operand} (hx:opdOk x y = true) {t:TypeId} {e:TypeId} (hu:P.underlying t = some (.slice e)) {id q n sz:Nat} (hv:(opd st.fr x).1 = .sref id q n sz)
   (ho:o.op = .call { callee := .builtin .len,args := #[y],argTypes := #[t] }) : Fits P G g st (.val (.int .i64 n) st) o a w := by
 have h1 := k.read hx; rw [hv] at h1; simp only [VX,V] at h1
 obtain ⟨b,o',c,⟨_,⟨_,h2⟩,_⟩,h3⟩ := h1
 refine fits_pure k (cv := .int .i64 n) ?_ (VF_scalar rfl (by simp only [VX,V]) (by simp) (by simp))
 simp [execOp,ho,resolve,Act.eval_eq,invoke,builtin,Builtin.len_,run_underlying hu,h3,goInt]
def arrPtrOk (P:Program) (t:TypeId) (len sz:Nat) : Bool :=
 arrayOk P t len sz || match P.underlying t with
 | some (.pointer u) => arrayOk P u len sz
 | _ => false
theorem arrayOk_run {u:TypeId} {len sz:Nat} (h:arrayOk P u len sz = true) : ∃ e,P.underlying u = some (.array len e) ∧ ∀ w,(sizeOf e).run P w = .ok sz w := by
 unfold arrayOk at h
 cases hv : P.underlying u with
 | none => simp [hv] at h
 | some d =>
   cases d <;> simp [hv] at h
   rename_i n e
   obtain ⟨rfl,h⟩ := h
   cases hi : P.info? e with
   | none => simp [hi] at h
   | some i => simp [hi] at h; exact ⟨e,rfl,fun w => by simp [sizeOf,typeInfo,hi,h]⟩
theorem arrPtrOk_run {t:TypeId} {len sz:Nat} (h:(match P.underlying t with | some (.pointer u) => arrayOk P u len sz | _ => false) = true) : ∃ u e,P.underlying t = some (.pointer u) ∧ P.underlying u = some (.array len e) ∧ ∀ w,(sizeOf e).run P w = .ok sz w := by
 cases hu : P.underlying t with
 | none => simp [hu] at h
 | some d =>
   cases d <;> simp [hu] at h
   rename_i u
   obtain ⟨e,h1,h2⟩ := arrayOk_run h
   exact ⟨u,e,rfl,h1,h2⟩
theorem fits_slcA (k:Rel G g st [] a.tmps w) {x:Opd} {y:Operand} (hx:opdOk x y = true) {l h:Option Opd} {l' h' : Option Operand} (hl:optOk l l' = true) (hh:optOk h h' = true) {t:TypeId} {len sz:Nat} (hu:arrPtrOk P t len sz = true) (ho:o.op = .slice t y l' h' none)
   {id q:Nat} (hv:(opd st.fr x).1 = .ptr id q) {ty:Nat} {cs:List AV} (hcs:st.hp[id]? = some (.cells ty cs)) {m n:Nat} (hm:bound st.fr 0 l = some m) (hn:bound st.fr len h = some n) (h1:m ≤ n) (h2:n ≤ len) (h3:q + len * sz ≤ cs.length) (h4:len ≤ 9223372036854775807) : Fits P G g st (.val (.sref id (q + m * sz) (n - m) sz) st) o a w := by
 have hr := k.read hx; rw [hv] at hr; simp only [VX,V] at hr
 obtain ⟨b,r1,r7⟩ := hr
 obtain ⟨b',k1,k2,k3⟩ := k.hp.obj id _ hcs rfl
 rw [r1] at k1; cases k1
 simp only [ObjRel] at k3
 obtain ⟨vs,sp,et,k4,k5,_⟩ := k3
 have hb := run_bounds (P := P) (w := w) false (cap := len) (opt_vals k hl hm) (opt_vals k hh hn) h1 h2
 have hb' := hb
 simp only [show a.eval = Act.opd a.tmps from funext (Act.eval_eq a)] at hb'
 refine fits_pure k (cv := .slice (some (if len = m then ⟨b,q,none⟩ else ⟨b,q + m * sz,none⟩)) (n - m) (len - m)) ?_ (VF_scalar rfl (VX_of_V ?_) (by simp) (by simp))
 · simp only [arrPtrOk,Bool.or_eq_true] at hu
   rcases hu with hu | hu
   · obtain ⟨e,u2,u3⟩ := arrayOk_run hu
     simp [execOp,ho,Act.eval_eq,r7,Instr.sliceAt,Sem.run_bind,run_underlying u2,Instr.slice,Instr.sureAddr,asAddr,show a.eval = Act.opd a.tmps from funext (Act.eval_eq a),hb',u3,Addr.add_lit]
   · obtain ⟨u,e,u1,u2,u3⟩ := arrPtrOk_run hu
     simp [execOp,ho,Act.eval_eq,r7,Instr.sliceAt,Sem.run_bind,run_underlying u1,run_underlying u2,Instr.slice,Instr.sureAddr,asAddr,show a.eval = Act.opd a.tmps from funext (Act.eval_eq a),hb',u3,Addr.add_lit]
 · simp only [V]
   have hrow : Row0 w b et (vs.length + sp.length) := ⟨_,_,k4,by simp⟩
   have hlen := k5.1.len
   by_cases hc : len = m
   · refine ⟨b,q,len - m,⟨r1,⟨by omega,by omega⟩,by omega,et,_,hrow,?_⟩,by simp [hc]⟩
     rw [hc,Nat.sub_self,Nat.zero_mul]
     omega
   · refine ⟨b,q + m * sz,len - m,⟨r1,⟨by omega,by omega⟩,fun _ => rfl,et,_,hrow,?_⟩,by simp [hc]⟩
     rw [Nat.add_assoc,← Nat.add_mul,show m + (len - m) = len by omega]; omega
def strOk (P:Program) (s d:TypeId) : Bool :=
 (match P.underlying s with
  | some (.slice e) => (match P.underlying e with | some (.int .u8) => true | _ => false)
  | _ => false) && (match P.underlying d with | some .string => true | _ => false)
theorem strOk_run {s d:TypeId} (h:strOk P s d = true) : ∃ e,P.underlying s = some (.slice e) ∧ P.underlying e = some (.int .u8) ∧ P.underlying d = some .string := by
 unfold strOk at h
 simp only [Bool.and_eq_true] at h
 obtain ⟨h1,h2⟩ := h
 split at h1 <;> try (cases h1; done)
 rename_i e he
 split at h1 <;> try (cases h1; done)
 rename_i hi
 split at h2 <;> try (cases h2; done)
 rename_i hd
 exact ⟨e,he,hi,hd⟩
theorem run_bytes_str {s d:TypeId} (h:strOk P s d = true) {ad:Option Addr} {n c:Nat} {bs:List UInt8} (hl:bs.length = n) (h1:ad = none → n = 0)
   (hc:∀ a,ad = some a → ∀ (j:Nat) x,bs[j]? = some x → w.cell? (a.add j) = some (.int .u8 x.toNat)) : (convert s d (.slice ad n c)).run P w = .ok (.string ⟨bs.toArray⟩) w := by
 obtain ⟨e,e1,e2,e3⟩ := strOk_run h
 rw [run_convert_bytes_string w s d e ad n c e1 e2 e3]
 cases ad with
 | none =>
   have := h1 rfl; subst this
   have : bs = [] := List.length_eq_zero_iff.1 hl
   subst this
   simp [Conv.bytesToString]; rfl
 | some ad =>
   have hload := run_loadCells_list (P := P) w ad (bs.map fun b => Value.int .u8 b.toNat) (fun j v hv => by
     rw [List.getElem?_map] at hv
     cases hj : bs[j]? with
     | none => rw [hj] at hv; simp at hv
     | some x => rw [hj] at hv; simp at hv; subst hv; exact hc ad rfl j x hj)
   rw [List.length_map,hl] at hload
   rw [run_bytesToString w ad n c (bs.map fun b => (b.toNat : Int)) (by rw [hload,List.map_map]; rfl),foldl_push_byteCells]
   have h0 : ByteArray.empty.data = #[] := rfl
   rw [h0]; simp
theorem bytesOf_VS : ∀ {xs:List AV} {bs:List UInt8} {us:List Value},bytesOf xs = some bs → VS g w xs us → us = bs.map fun b => Value.int .u8 b.toNat
 | [],bs,us,h,hv => by simp [bytesOf] at h; subst h; simp only [VS] at hv; simpa using hv
 | v :: r,bs,us,h,hv => by
   cases v <;> try (simp [bytesOf] at h; done)
   rename_i k n
   cases k <;> try (simp [bytesOf] at h; done)
   simp only [bytesOf] at h
   split at h
   · rename_i hn
     cases hr : bytesOf r with
     | none => rw [hr] at h; simp at h
     | some cs =>
       rw [hr] at h; simp at h; subst h
       simp only [VS] at hv
       obtain ⟨u,us',rfl,h1,h2⟩ := hv
       simp only [V] at h1
       rw [bytesOf_VS hr h2,h1]
       have : ((UInt8.ofNat n.toNat).toNat : Int) = n := by
         rw [UInt8.toNat_ofNat']; omega
       rw [List.map_cons,this]
   · cases h
theorem bytesOf_len : ∀ {xs:List AV} {bs:List UInt8},bytesOf xs = some bs → bs.length = xs.length
 | [],bs,h => by simp [bytesOf] at h; subst h; rfl
 | v :: r,bs,h => by
   cases v <;> try (simp [bytesOf] at h; done)
   rename_i k n
   cases k <;> try (simp [bytesOf] at h; done)
   simp only [bytesOf] at h
   split at h
   · cases hr : bytesOf r with
     | none => rw [hr] at h; simp at h
     | some cs => rw [hr] at h; simp at h; subst h; simp [bytesOf_len hr]
   · cases h
theorem bytesOf_okSize {xs:List AV} {bs:List UInt8} (h:bytesOf xs = some bs) : okSize 1 xs = true := by
 cases xs with
 | nil => rfl
 | cons v r => cases v <;> try (simp [bytesOf] at h; done)
               rfl
theorem fits_strL (k:Rel G g st [] a.tmps w) {x:Opd} {y:Operand} (hx:opdOk x y = true) {s d:TypeId} (hs:strOk P s d = true) (ho:o.op = .convert s d y) {xs:List AV} {ow:Own} (hv:(opd st.fr x).1 = .list xs ow) {bs:List UInt8} (hb:bytesOf xs = some bs) : Fits P G g st (.val (.str bs) st) o a w := by
 have hr := k.read hx; rw [hv] at hr; simp only [VX,V] at hr
 obtain ⟨A,c,e1,e2,e3,e4,e5,e6⟩ := hr
 have hl := bytesOf_len hb
 refine fits_pure k (cv := .string ⟨bs.toArray⟩) ?_ (VF_scalar rfl (by simp only [VX,V]) (by simp) (by simp))
 have := run_bytes_str (P := P) (w := w) hs (bs := bs) (ad := A) (n := xs.length) (c := c) hl (fun e => by have := e5 e; omega) (fun a ha j v hj => by
   obtain ⟨hsp,_,sz,hE⟩ := e6 a ha
   have hjl := (List.getElem?_eq_some_iff.1 hj).1
   have hE' := okSize_VE (bytesOf_okSize hb) hE
   have h2 := hsp (.inr (by omega))
   obtain ⟨ab,ao,asp⟩ := a
   simp only at h2 hE'; subst h2
   rw [Addr.add_lit]
   exact (bytesOf_cells hb hE').2 j v hj)
 simp [execOp,ho,Act.eval_eq,e1,this]
theorem fits_strR (k:Rel G g st [] a.tmps w) {x:Opd} {y:Operand} (hx:opdOk x y = true) {s d:TypeId} (hs:strOk P s d = true) (ho:o.op = .convert s d y) {id q n:Nat} (hv:(opd st.fr x).1 = .sref id q n 1) {ty:Nat} {cs l:List AV} (hcs:st.hp[id]? = some (.cells ty cs))
   (hl:cut cs q n = some l) {bs:List UInt8} (hb:bytesOf l = some bs) : Fits P G g st (.val (.str bs) st) o a w := by
 have hr := k.read hx; rw [hv] at hr; simp only [VX,V] at hr
 obtain ⟨b,o',c,⟨r1,⟨r2,r3⟩,r4,_⟩,r7⟩ := hr
 obtain ⟨b2,q2,e1,us,e2,e3,e4,e5⟩ := k.cutAt (p := .ptr id q) (cv := .pointer (some ⟨b,q,none⟩)) (VX_of_V (by simp only [V]; exact ⟨b,r1,rfl⟩)) (cs := cs) (off := q) (by simp only [Rf.behind,hcs]) hl
 cases e1
 have hus := bytesOf_VS hb e4
 have hlen := bytesOf_len hb
 have hll := e4.len
 refine fits_pure k (cv := .string ⟨bs.toArray⟩) ?_ (VF_scalar rfl (by simp only [VX,V]) (by simp) (by simp))
 have := run_bytes_str (P := P) (w := w) hs (bs := bs) (ad := some ⟨b,o',none⟩) (n := n) (c := c) (by omega) (fun e => by cases e) (fun a ha j v hj => by
   cases ha
   have hjl := (List.getElem?_eq_some_iff.1 hj).1
   rw [Addr.add_lit,r4 (by omega)]
   exact e3 j _ (by rw [hus,List.getElem?_map,hj]; rfl))
 simp [execOp,ho,Act.eval_eq,r7,this]
end
end Go.Proofs.YtkofimhnehkdoaaGreatDoor.Rf
end
