/- A part of the proof: see the last text. -/
import Derived.Test.YtkofimhnehkdoaaGreatDoorRcG17
set_option linter.unusedVariables false
set_option linter.unusedSimpArgs false
section
namespace Go.Proofs.YtkofimhnehkdoaaGreatDoor.Rf
section
variable {H:Type} {P:Program}
theorem HasTy.str {n:Nat} {t:TypeId} {cs:List AV} {d:DataW H} (hu:P.underlying t = some .string) (h:HasTy P n t cs d) : ∃ s,cs = [.str s] ∧ s.length ≤ 9223372036854775807 := by
 cases n with
 | zero => exact h.elim
 | succ n => simp only [HasTy,hu] at h; obtain ⟨m,h1,h2,_⟩ := h; exact ⟨m,h1,h2⟩
theorem HasTy.bool {n:Nat} {t:TypeId} {cs:List AV} {d:DataW H} (hu:P.underlying t = some .bool) (h:HasTy P n t cs d) : ∃ s,cs = [.bool s] := by
 cases n with
 | zero => exact h.elim
 | succ n => simp only [HasTy,hu] at h; obtain ⟨m,h1,h2⟩ := h; exact ⟨m,h1⟩
theorem HasTy.slice {α:Type} {n:Nat} {t e:TypeId} {cs:List AV} {d:DataW H} (f:α → AV) (w:α → Prop) (hu:P.underlying t = some (.slice e)) (h:HasTy P n t cs d)
   (he:∀ m,m < n → ∀ ds (d' : DataW H),HasTy P m e ds d' → ∃ x,elemAV P e ds = f x ∧ w x) :
   ∃ (o:Bool) (l:List α),cs = [.list (l.map f) (ownB o)] ∧ (o = true → l = []) ∧ l.length ≤ 9223372036854775807 ∧ ∀ x,x ∈ l → w x := by
 cases n with
 | zero => exact h.elim
 | succ n =>
   simp only [HasTy,hu] at h
   rcases h with ⟨rfl,_⟩ | ⟨xs,els,rest,rfl,_,h1,h2,h3⟩
   · exact ⟨true,[],rfl,fun _ => rfl,by simp,by simp⟩
   · have : ∀ (xs:List AV) (els:List (DataW H)),xs.length = els.length → (∀ (i:Nat) x d',xs[i]? = some x → els[i]? = some d' → ∃ ds,x = elemAV P e ds ∧ HasTy P n e ds d') → ∃ l : List α,xs = l.map f ∧ ∀ x,x ∈ l → w x := by
       intro xs
       induction xs with
       | nil => intro els _ _; exact ⟨[],rfl,by simp⟩
       | cons x xs ih =>
         intro els hl hh
         cases els with
         | nil => simp at hl
         | cons y els =>
           obtain ⟨ds,e1,e2⟩ := hh 0 x y rfl rfl
           obtain ⟨a,f1,f2⟩ := he n (by omega) ds y e2
           obtain ⟨l,l1,l2⟩ := ih els (by simpa using hl) fun i x d' a b => hh (i + 1) x d' (by simpa using a) (by simpa using b)
           exact ⟨a :: l,by simp [e1,f1,l1],fun z hz => by
             rcases List.mem_cons.1 hz with e | hz
             · rw [e]; exact f2
             · exact l2 z hz⟩
     obtain ⟨l,l1,l2⟩ := this xs els h1 h3
     subst l1
     have hm : maxLen = 9223372036854775807 := rfl
     rw [hm] at h2
     exact ⟨false,l,rfl,by simp,by simpa using h2,l2⟩
theorem HasTy.fields {n:Nat} {t:TypeId} {fs:Array Field} {cs:List AV} {d:DataW H} (hu:P.underlying t = some (.struct fs)) (h:HasTy P n t cs d) :
   ∃ parts : List (List AV),cs = parts.flatten ∧ parts.length = fs.size ∧ ∀ (i:Nat) f ds,fs[i]? = some f → parts[i]? = some ds → ∃ m,∃ d' : DataW H,m < n ∧ HasTy P m f.type ds d' := by
 cases n with
 | zero => exact h.elim
 | succ n =>
   simp only [HasTy,hu] at h
   obtain ⟨parts,els,rfl,_,h1,h2,h3⟩ := h
   refine ⟨parts,rfl,h1,fun i f ds a b => ?_⟩
   have : i < els.length := by rw [h2,← h1]; exact (List.getElem?_eq_some_iff.1 b).1
   exact ⟨n,els[i],by omega,h3 i f ds _ a b (List.getElem?_eq_getElem this)⟩
theorem HasTy.term {tt ts a b c e:TypeId} {fs:Array Field} (hu:P.underlying tt = some (.struct fs)) (hf:fs.toList.map Field.type = [a,b,c,e,ts])
   (ha:P.underlying a = some (.int .i64)) (hb:P.underlying b = some (.int .i64)) (hc:P.underlying c = some (.int .u64)) (he:P.underlying e = some .string) (hs:P.underlying ts = some (.slice tt)) :
   ∀ n cs (d:DataW H),HasTy P n tt cs d → ∃ t : T,cs = t.cells ∧ t.wf := by
 intro n
 induction n using Nat.strongRecOn with
 | _ n ih =>
   intro cs d h
   obtain ⟨parts,rfl,hl,hp⟩ := h.fields hu
   have hsz : fs.size = 5 := by have := congrArg List.length hf; simpa using this
   rw [hsz] at hl
   match parts,hl with
   | [p0,p1,p2,p3,p4],_ =>
     have g : ∀ (i:Nat) ds x,[p0,p1,p2,p3,p4][i]? = some ds → [a,b,c,e,ts][i]? = some x → ∃ m,∃ d' : DataW H,m < n ∧ HasTy P m x ds d' := by
       intro i ds x h1 h2
       rw [← hf] at h2
       simp only [List.getElem?_map,Array.getElem?_toList,Option.map_eq_some_iff] at h2
       obtain ⟨f,f1,f2⟩ := h2
       obtain ⟨m,d',m1,m2⟩ := hp i f ds f1 h1
       exact ⟨m,d',m1,f2 ▸ m2⟩
     obtain ⟨m0,d0,_,q0⟩ := g 0 _ _ rfl rfl
     obtain ⟨m1,d1,_,q1⟩ := g 1 _ _ rfl rfl
     obtain ⟨m2,d2,_,q2⟩ := g 2 _ _ rfl rfl
     obtain ⟨m3,d3,_,q3⟩ := g 3 _ _ rfl rfl
     obtain ⟨m4,d4,k4,q4⟩ := g 4 _ _ rfl rfl
     obtain ⟨x0,rfl,w0⟩ := q0.int ha
     obtain ⟨x1,rfl,w1⟩ := q1.int hb
     obtain ⟨x2,rfl,w2⟩ := q2.int hc
     obtain ⟨x3,rfl,w3⟩ := q3.str he
     obtain ⟨o,l,rfl,o1,l1,l2⟩ := q4.slice T.av T.wf hs fun m hm ds d' h => by
       obtain ⟨x,x1,x2⟩ := ih m (by omega) ds d' h
       exact ⟨x,by unfold elemAV aggTy; rw [hu,x1,T.av_eq]; rfl,x2⟩
     refine ⟨.mk x0 x1 x2 x3 o l,?_,?_⟩
     · simp [T.cells,T.op,T.width,T.val,T.name,T.o,T.args,T.avs_eq]
     · rw [T.wf_eq]; exact ⟨w0,w1,w2,w3,l1,o1,l2⟩
theorem ArgTy.term {tt ts a b c e:TypeId} {fs:Array Field} {v:AV} {d:DataW H} (hu:P.underlying tt = some (.struct fs)) (hf:fs.toList.map Field.type = [a,b,c,e,ts])
   (ha:P.underlying a = some (.int .i64)) (hb:P.underlying b = some (.int .i64)) (hc:P.underlying c = some (.int .u64)) (he:P.underlying e = some .string) (hs:P.underlying ts = some (.slice tt))
   (h:ArgTy P tt v d) : ∃ t : T,v = t.av ∧ t.wf := by
 obtain ⟨n,cs,rfl,h⟩ := h
 obtain ⟨x,x1,x2⟩ := HasTy.term hu hf ha hb hc he hs n cs d h
 exact ⟨x,by unfold elemAV aggTy; rw [hu,x1,T.av_eq]; rfl,x2⟩
theorem ArgTy.array {α:Type} {t e:TypeId} {m:Nat} {v:AV} {d:DataW H} (f:α → List AV) (w:α → Prop) (hu:P.underlying t = some (.array m e)) (h:ArgTy P t v d)
   (he:∀ n ds (d' : DataW H),HasTy P n e ds d' → ∃ x,ds = f x ∧ w x) : ∃ l : List α,l.length = m ∧ v = .agg (l.map f).flatten ∧ ∀ x,x ∈ l → w x := by
 obtain ⟨n,cs,rfl,h⟩ := h
 cases n with
 | zero => exact h.elim
 | succ n =>
   simp only [HasTy,hu] at h
   obtain ⟨parts,els,rfl,_,h1,h2,h3⟩ := h
   have : ∀ (xs:List (List AV)) (els:List (DataW H)),xs.length = els.length → (∀ (i:Nat) x d',xs[i]? = some x → els[i]? = some d' → HasTy P n e x d') → ∃ l : List α,xs = l.map f ∧ ∀ x,x ∈ l → w x := by
     intro xs
     induction xs with
     | nil => intro els _ _; exact ⟨[],rfl,by simp⟩
     | cons x xs ih =>
       intro els hl hh
       cases els with
       | nil => simp at hl
       | cons y els =>
         obtain ⟨a,f1,f2⟩ := he n x y (hh 0 x y rfl rfl)
         obtain ⟨l,l1,l2⟩ := ih els (by simpa using hl) fun i x d' a b => hh (i + 1) x d' (by simpa using a) (by simpa using b)
         exact ⟨a :: l,by simp [f1,l1],fun z hz => by
           rcases List.mem_cons.1 hz with e | hz
           · rw [e]; exact f2
           · exact l2 z hz⟩
   obtain ⟨l,l1,l2⟩ := this parts els (by omega) h3
   subst l1
   refine ⟨l,by simpa using h1,?_,l2⟩
   unfold elemAV aggTy; rw [hu]; rfl
end
end Go.Proofs.YtkofimhnehkdoaaGreatDoor.Rf
end
section
namespace Go.Proofs.YtkofimhnehkdoaaGreatDoor.Rf
inductive S where
 | mk (atom:List UInt8) (o:Bool) (list:List S)
namespace S
def atom : S → List UInt8 | .mk a _ _ => a
def o : S → Bool | .mk _ a _ => a
def list : S → List S | .mk _ _ a => a
end S
mutual
def S.av : S → AV
 | .mk a o l => .agg [.str a,.list (S.avs l) (ownB o)]
def S.avs : List S → List AV
 | [] => []
 | t :: r => t.av :: S.avs r
end
theorem S.av_eq (t:S) : t.av = .agg [.str t.atom,.list (S.avs t.list) (ownB t.o)] := by cases t; rfl
theorem S.avs_eq : ∀ l : List S,S.avs l = l.map S.av
 | [] => rfl
 | t :: r => by simp [S.avs,S.avs_eq r]
@[simp] theorem S.avs_len (l:List S) : (S.avs l).length = l.length := by simp [S.avs_eq]
@[simp] theorem S.avs_nil : S.avs [] = [] := rfl
@[simp] theorem S.avs_getElem {l:List S} {i:Nat} (h:i < (S.avs l).length) : (S.avs l)[i] = (l[i]'(by simpa using h)).av := by simp [S.avs_eq]
theorem S.avs_app (a b:List S) : S.avs (a ++ b) = S.avs a ++ S.avs b := by simp [S.avs_eq]
mutual
def S.wf : S → Prop
 | .mk a o l => a.length ≤ 9223372036854775807 ∧ l.length ≤ 9223372036854775807 ∧ (o = true → l = []) ∧ S.wfs l
def S.wfs : List S → Prop
 | [] => True
 | t :: r => t.wf ∧ S.wfs r
end
theorem S.wfs_iff : ∀ l : List S,S.wfs l ↔ ∀ t,t ∈ l → t.wf
 | [] => by simp [S.wfs]
 | t :: r => by simp [S.wfs,S.wfs_iff r]
theorem S.wf_eq (t:S) : t.wf ↔ t.atom.length ≤ 9223372036854775807 ∧ t.list.length ≤ 9223372036854775807 ∧ (t.o = true → t.list = []) ∧ ∀ u,u ∈ t.list → u.wf := by
 cases t; simp only [S.wf,S.atom,S.list,S.o,S.wfs_iff]
mutual
def S.same : S → S → Bool
 | .mk a _ l,.mk a' _ l' => a == a' && S.sames l l'
def S.sames : List S → List S → Bool
 | [],[] => true
 | t :: r,u :: s => t.same u && S.sames r s
 | [],_ :: _ => false
 | _ :: _,[] => false
end
theorem S.same_eq (t u:S) : t.same u = (t.atom == u.atom && S.sames t.list u.list) := by cases t; cases u; rfl
theorem S.ind {p:S → Prop} (h:∀ t : S,(∀ u,u ∈ t.list → p u) → p t) (t:S) : p t :=
 S.rec (motive_1 := p) (motive_2 := fun l => ∀ u,u ∈ l → p u) (fun a b c ih => h _ ih) (fun u hu => by simp at hu)
   (fun t r h1 h2 u hu => by
     rcases List.mem_cons.1 hu with e | hu
     · rw [e]; exact h1
     · exact h2 u hu) t
section
variable {H:Type} {P:Program}
theorem ArgTy.str {t:TypeId} {v:AV} {d:DataW H} (hu:P.underlying t = some .string) (h:ArgTy P t v d) : ∃ s,v = .str s ∧ s.length ≤ 9223372036854775807 := by
 obtain ⟨n,cs,rfl,h⟩ := h
 obtain ⟨m,rfl,hm⟩ := h.str hu
 exact ⟨m,by unfold elemAV aggTy; rw [hu]; rfl,hm⟩
end
end Go.Proofs.YtkofimhnehkdoaaGreatDoor.Rf
end
section
namespace Go.Proofs.YtkofimhnehkdoaaGreatDoor.Rf
inductive PR where
 | ok (e:S) (i:Nat)
 | err (i:Nat) (code:Int)
inductive LR where
 | stop (i:Nat) (acc:List S)
 | err (i:Nat) (code:Int)
mutual
theorem S.av_closed (n:Nat) : ∀ t : S,AV.closed n t.av = true
 | .mk a o l => by simp [S.av,AV.closed,AV.closedL,S.avs_closed n l]
theorem S.avs_closed (n:Nat) : ∀ l : List S,AV.closedL n (S.avs l) = true
 | [] => rfl
 | t :: r => by simp [S.avs,AV.closedL,S.av_closed n t,S.avs_closed n r]
end
@[simp] theorem S.okSize_avs (l:List S) : okSize 2 (S.avs l) = true := by
 cases l with
 | nil => rfl
 | cons t r => simp [S.avs,S.av_eq]
def ownA (acc:List S) : Own := if acc.isEmpty then .nil else .own 2 0
@[simp] theorem ownA_cp (acc:List S) : (ownA acc).cp = ownB acc.isEmpty := by cases acc <;> rfl
@[simp] theorem ownA_app (acc:List S) (x:S) : ownA (acc ++ [x]) = .own 2 0 := by cases acc <;> rfl
section
variable {s:List UInt8}
end
end Go.Proofs.YtkofimhnehkdoaaGreatDoor.Rf
end
section
namespace Go.Proofs.YtkofimhnehkdoaaGreatDoor.Rf
section
variable {hp:List HObj} {s:List UInt8} {lo:Nat}
end
end Go.Proofs.YtkofimhnehkdoaaGreatDoor.Rf
end
section
namespace Go.Proofs.YtkofimhnehkdoaaGreatDoor.Rf
inductive PTR where
 | ok (l:List S) (st:List Nat)
 | err (i:Nat) (code:Int)
section
variable {s:List UInt8} {hp:List HObj} {lo:Nat}
abbrev intsA (l:List Nat) : List AV := l.map fun n : Nat => AV.int .i64 (n:Int)
def ownI (l:List Nat) : Own := if l.isEmpty then .nil else .own 1 0
@[simp] theorem ownI_cp (l:List Nat) : (ownI l).cp = ownB l.isEmpty := by cases l <;> rfl
@[simp] theorem ownI_app (l:List Nat) (x:Nat) : ownI (l ++ [x]) = .own 1 0 := by cases l <;> rfl
@[simp] theorem okSize_ints (l:List Nat) : okSize 1 (intsA l) = true := by cases l <;> simp [intsA]
end
end Go.Proofs.YtkofimhnehkdoaaGreatDoor.Rf
end
section
namespace Go.Proofs.YtkofimhnehkdoaaGreatDoor.Rf
section
variable {s:List UInt8} {hp:List HObj} {lo:Nat}
end
end Go.Proofs.YtkofimhnehkdoaaGreatDoor.Rf
end
section
namespace Go.Proofs.YtkofimhnehkdoaaGreatDoor.Rf
section
variable {s:List UInt8} {hp:List HObj} {lo:Nat}
end
end Go.Proofs.YtkofimhnehkdoaaGreatDoor.Rf
end
section
namespace Go.Proofs.YtkofimhnehkdoaaGreatDoor.Rf
section
variable {hp:List HObj} {lo:Nat}
end
end Go.Proofs.YtkofimhnehkdoaaGreatDoor.Rf
end
section
namespace Go.Proofs.YtkofimhnehkdoaaGreatDoor.Rf
@[simp] theorem cp_data (xs:List AV) (e:Nat) : AV.cp (.data xs e) = .data xs e := rfl
abbrev bytesA (bs:List UInt8) : List AV := bs.map fun b => AV.int .u8 (b.toNat : Int)
def BW (hp:List HObj) (bs:List UInt8) : List HObj := hp ++ [.cells 110 [.ptr hp.length 0,.list (bytesA bs) (.own 1 5)]]
def B0 (hp:List HObj) : List HObj := hp ++ [.cells 110 [.nilp,.list [] .nil]]
def BH (hp:List HObj) (bs:List UInt8) : List HObj := if bs = [] then B0 hp else BW hp bs
section
variable {hp:List HObj} {lo:Nat}
@[simp] theorem BW_get (bs:List UInt8) : (BW hp bs)[hp.length]? = some (.cells 110 [.ptr hp.length 0,.list (bytesA bs) (.own 1 5)]) := by simp [BW]
@[simp] theorem B0_get : (B0 hp)[hp.length]? = some (.cells 110 [.nilp,.list [] .nil]) := by simp [B0]
@[simp] theorem okSize_bytes (bs:List UInt8) : okSize 1 (bytesA bs) = true := by cases bs <;> simp [bytesA]
theorem copyW_D (hlo:lo ≤ hp.length) (bs:List UInt8) : callD G0 IP n_sb_copyCheck [.ptr hp.length 0] (BW hp bs) lo false = some (.ret (.tup []) (BW hp bs)) := by
 rw [callD_eq]
 simp [IP_sb_copyCheck,i_sb_copyCheck]
theorem copy0_D (hlo:lo ≤ hp.length) : callD G0 IP n_sb_copyCheck [.ptr hp.length 0] (B0 hp) lo false = some (.ret (.tup []) (hp ++ [.cells 110 [.ptr hp.length 0,.list [] .nil]])) := by
 rw [callD_eq]
 simp [IP_sb_copyCheck,i_sb_copyCheck,hlo]
 simp [B0]
theorem wbyte_D (hlo:lo ≤ hp.length) (bs:List UInt8) (c:UInt8) (hb:bs.length + 1 ≤ 140737488355328) : callD G0 IP n_sb_WriteByte [.ptr hp.length 0,.int .u8 c.toNat] (BH hp bs) lo false = some (.ret .nili (BH hp (bs ++ [c]))) := by
 rw [callD_eq]
 have h63 : bs.length + 1 ≤ 9223372036854775807 := by omega
 by_cases h0 : bs = []
 · subst h0
   have e1 := copy0_D (hp := hp) (lo := lo) hlo
   simp [IP_sb_WriteByte,i_sb_WriteByte,BH,e1,hlo]
   simp [BW]
 · have e1 := copyW_D (hp := hp) (lo := lo) hlo bs
   simp [IP_sb_WriteByte,i_sb_WriteByte,BH,h0,e1,hlo,hb,h63]
   simp [BW]
theorem wstr_D (hlo:lo ≤ hp.length) (bs cs:List UInt8) (hc:cs ≠ []) (hb:bs.length + cs.length ≤ 140737488355328) : callD G0 IP n_sb_WriteString [.ptr hp.length 0,.str cs] (BH hp bs) lo false = some (.ret (.tup [.int .i64 cs.length,.nili]) (BH hp (bs ++ cs))) := by
 rw [callD_eq]
 have h63 : bs.length + cs.length ≤ 9223372036854775807 := by omega
 by_cases h0 : bs = []
 · subst h0
   have e1 := copy0_D (hp := hp) (lo := lo) hlo
   have hb' : cs.length ≤ 140737488355328 := by simpa using hb
   have h63' : cs.length ≤ 9223372036854775807 := by omega
   simp [IP_sb_WriteString,i_sb_WriteString,BH,e1,hlo,hc,hb',h63']
   simp [BW]
 · have e1 := copyW_D (hp := hp) (lo := lo) hlo bs
   simp [IP_sb_WriteString,i_sb_WriteString,BH,h0,hc,e1,hlo,hb,h63]
   simp [BW]
theorem bytesOf_bytes : ∀ bs : List UInt8,bytesOf (bytesA bs) = some bs
 | [] => rfl
 | b :: r => by
   have h := bytesOf_bytes r
   have h1 : (b.toNat : Int) < 256 := by have := b.toNat_lt; omega
   simp only [bytesA,List.map_cons,bytesOf]
   rw [if_pos ⟨by omega,h1⟩]
   simp only [bytesA] at h
   rw [h]; simp
theorem bstr_D (hlo:lo ≤ hp.length) (bs:List UInt8) (hb:bs.length ≤ 140737488355328) : callD G0 IP n_sb_String [.ptr hp.length 0] (BH hp bs) lo false = some (.ret (.str bs) (BH hp bs)) := by
 rw [callD_eq]
 have h63 : (bs.length : Int) ≤ 9223372036854775807 := by omega
 by_cases h0 : bs = []
 · subst h0
   simp [IP_sb_String,i_sb_String,BH]
 · have h1 := bytesOf_bytes bs
   simp only [bytesA] at h1
   simp [IP_sb_String,i_sb_String,BH,h0,Own.cp_own,Own.cp_view,h1,h63]
end
mutual
def S.text : S → List UInt8
 | .mk a _ l => if a = [] then 40 :: (S.texts true l ++ [41]) else a
def S.texts : Bool → List S → List UInt8
 | _,[] => []
 | b,t :: r => (if b then [] else [32]) ++ (t.text ++ S.texts false r)
end
theorem S.text_eq (t:S) : t.text = if t.atom = [] then 40 :: (S.texts true t.list ++ [41]) else t.atom := by cases t; rfl
theorem S.text_ne (t:S) : t.text ≠ [] := by
 rw [S.text_eq]; split <;> simp_all
theorem S.texts_app (b:Bool) : ∀ (l:List S) (t:S),S.texts b (l ++ [t]) = S.texts b l ++ ((if b && l.isEmpty then [] else [32]) ++ t.text)
 | [],t => by cases b <;> simp [S.texts]
 | u :: r,t => by
   rw [List.cons_append]
   simp only [S.texts]
   rw [S.texts_app false r t]
   simp
section
variable {hp:List HObj} {lo:Nat}
theorem texts_take_len {b:Bool} {l:List S} {i:Nat} (h:i < l.length) : S.texts b (l.take (i + 1)) = S.texts b (l.take i) ++ ((if b && decide (i = 0) then [] else [32]) ++ l[i].text) := by
 rw [List.take_succ_eq_append_getElem h,S.texts_app]
 have : (l.take i).isEmpty = decide (i = 0) := by
   cases i with
   | zero => simp
   | succ i => cases l with
     | nil => simp at h
     | cons x r => simp
 rw [this]
theorem texts_le {b:Bool} (l:List S) (i:Nat) : (S.texts b (l.take i)).length ≤ (S.texts b l).length := by
 have : ∀ (l:List S) (b:Bool) (i:Nat),(S.texts b (l.take i)).length ≤ (S.texts b l).length := by
   intro l
   induction l with
   | nil => intro b i; simp
   | cons x r ih =>
     intro b i
     cases i with
     | zero => simp [S.texts]
     | succ i =>
       simp only [List.take_succ_cons,S.texts,List.length_append]
       have := ih false i
       omega
 exact this l b i
theorem write_D (t:S) : t.wf → ∀ {hp:List HObj} {lo:Nat},lo ≤ hp.length → ∀ (bs:List UInt8),bs.length + t.text.length ≤ 140737488355328 → callD G0 IP n_sx_write [.ptr hp.length 0,t.av] (BH hp bs) lo false = some (.ret (.tup []) (BH hp (bs ++ t.text))) := by
 induction t using S.ind with | h t ih =>
 intro hw hp lo hlo bs hb
 rw [S.wf_eq] at hw
 obtain ⟨_,hl,_,hws⟩ := hw
 rw [callD_eq]
 have ht := S.text_eq t
 by_cases ha : t.atom = []
 · rw [if_pos ha] at ht
   rw [ht] at hb ⊢
   simp only [List.length_cons,List.length_append,List.length_nil] at hb
   have e1 := wbyte_D (hp := hp) (lo := lo) hlo bs 40 (by omega)
   have e2 := wbyte_D (hp := hp) (lo := lo) hlo (bs ++ 40 :: S.texts true t.list) 41 (by simp; omega)
   have hloop := loop_iter (G := G0) (IP := IP) (lo := lo) (b := l_sx_write_0)
     (fun i => ⟨[(0,.ptr hp.length 0),(16,.list (S.avs t.list) (ownB t.o)),(17,.int .i64 t.list.length),(18,.int .i64 i)],BH hp (bs ++ 40 :: S.texts true (t.list.take i))⟩) t.list.length
     (r := (.exit 0,⟨[(0,.ptr hp.length 0),(16,.list (S.avs t.list) (ownB t.o)),(17,.int .i64 t.list.length),(18,.int .i64 t.list.length),(19,.bool false)],BH hp (bs ++ 40 :: S.texts true t.list)⟩)) (fun i hi => by
       have hle := texts_le (b := true) t.list (i + 1)
       rw [texts_take_len hi] at hle
       simp only [List.length_append] at hle
       have hw := wrap_succ hi hl
       have hiI : (i:Int) < (t.list.length : Int) := by omega
       by_cases h0 : i = 0
       · subst h0
         have e3 := ih t.list[0] (List.getElem_mem hi) (hws _ (List.getElem_mem hi)) hlo (bs ++ [40]) (by simp at hle ⊢; omega)
         rw [S.av_eq] at e3
         rw [texts_take_len hi]
         simp [l_sx_write_0,hi,S.av_eq t.list[0],S.texts] at e3 ⊢
         simp [e3,show IntKind.wrap .i64 1 = 1 from rfl]
       · have h0' : 0 < i := by omega
         have hle2 : ((if true && decide (i = 0) then ([] : List UInt8) else [32])).length = 1 := by simp [h0]
         rw [hle2] at hle
         have e4 := wbyte_D (hp := hp) (lo := lo) hlo (bs ++ 40 :: S.texts true (t.list.take i)) 32 (by simp; omega)
         have e3 := ih t.list[i] (List.getElem_mem hi) (hws _ (List.getElem_mem hi)) hlo (bs ++ 40 :: S.texts true (t.list.take i) ++ [32]) (by simp; omega)
         rw [S.av_eq] at e3
         rw [texts_take_len hi,← hw]
         simp at e3 e4
         simp [l_sx_write_0,hi,hiI,h0,h0',S.av_eq t.list[i],e3,e4])
     (by simp [l_sx_write_0]) (by simp)
   simp [S.texts] at hloop
   simp at e1 e2
   rw [S.av_eq t]
   simp [IP_sx_write,i_sx_write,ha,e1,e2,hloop]
 · rw [if_neg ha] at ht
   rw [ht] at hb ⊢
   have e1 := wstr_D (hp := hp) (lo := lo) hlo bs t.atom ha hb
   rw [S.av_eq t]
   simp [IP_sx_write,i_sx_write,ha,e1]
end
end Go.Proofs.YtkofimhnehkdoaaGreatDoor.Rf
end
section
namespace Go.Proofs.YtkofimhnehkdoaaGreatDoor.Rf
abbrev strs (l:List (List UInt8)) : List AV := l.map AV.str
def B1 (hp:List HObj) : List HObj := hp ++ [.cells 110 [.ptr hp.length 0,.list [] .nil]]
theorem BH_BW {hp:List HObj} {bs:List UInt8} (h:bs ≠ []) : BH hp bs = BW hp bs := if_neg h
theorem flat_take {l:List (List UInt8)} {i:Nat} (h:i < l.length) : (l.take (i + 1)).flatten = (l.take i).flatten ++ l[i] := by
 rw [List.take_succ_eq_append_getElem h,List.flatten_append,List.flatten_cons,List.flatten_nil,List.append_nil]
theorem flat_le (l:List (List UInt8)) (i:Nat) : (l.take i).flatten.length ≤ l.flatten.length := by
 have := congrArg (fun x => x.flatten.length) (List.take_append_drop i l)
 simp only [List.flatten_append,List.length_append] at this
 omega
section
variable {hp:List HObj} {lo:Nat}
@[simp] theorem B1_get : (B1 hp)[hp.length]? = some (.cells 110 [.ptr hp.length 0,.list [] .nil]) := by simp [B1]
theorem grow_D (hlo:lo ≤ hp.length) (n:Nat) (hn:n ≤ 140737488355328) : callD G0 IP n_sb_grow [.ptr hp.length 0,.int .i64 n] (B1 hp) lo false = some (.ret (.tup []) (BW hp [])) := by
 rw [callD_eq]
 have h1 : IntKind.wrap .i64 (IntKind.wrap .i64 0 + (n:Int)) = n := by rw [wrap_small (n := 0) (by omega) (by omega)]; rw [wrap_small] <;> omega
 have h2 : (n:Int) ≤ 140737488355328 := by omega
 simp [IP_sb_grow,i_sb_grow,h1,h2,hlo]
 simp [BW,B1]
theorem Grow_D (hlo:lo ≤ hp.length) (n:Nat) (h0:0 < n) (hn:n ≤ 140737488355328) : callD G0 IP n_sb_Grow [.ptr hp.length 0,.int .i64 n] (B0 hp) lo false = some (.ret (.tup []) (BW hp [])) := by
 rw [callD_eq]
 have e1 := copy0_D (hp := hp) (lo := lo) hlo
 have e2 := grow_D (hp := hp) (lo := lo) hlo n hn
 have e3 : hp ++ [HObj.cells 110 [.ptr hp.length 0,.list [] .nil]] = B1 hp := rfl
 rw [e3] at e1
 have h1 : ¬ ((n:Int) < 0) := by omega
 have h2 : (0:Int) < n := by omega
 have h3 : IntKind.wrap .i64 0 = 0 := by decide
 simp [IP_sb_Grow,i_sb_Grow,e1,e2,h0,h1,h2,h3,hlo]
theorem wstrG_D (hlo:lo ≤ hp.length) (bs cs:List UInt8) (hb:bs.length + cs.length ≤ 140737488355328) : callD G0 IP n_sb_WriteString [.ptr hp.length 0,.str cs] (BW hp bs) lo false = some (.ret (.tup [.int .i64 cs.length,.nili]) (BW hp (bs ++ cs))) := by
 rw [callD_eq]
 have h63 : bs.length + cs.length ≤ 9223372036854775807 := by omega
 have e1 := copyW_D (hp := hp) (lo := lo) hlo bs
 simp [IP_sb_WriteString,i_sb_WriteString,e1,hlo,hb,h63]
 simp [BW]
set_option maxHeartbeats 4000000 in
theorem join_D (x0:List UInt8) (xs:List (List UInt8)) (h1:xs ≠ []) (hl:xs.length ≤ 65536) (o:Own) (h0:(x0 ++ xs.flatten) ≠ []) (hb:(x0 ++ xs.flatten).length ≤ 140737488355328) (hp:List HObj) (lo:Nat) (q:Bool) :
   callD G0 IP n_ss_Join [.list (strs (x0 :: xs)) o,.str []] hp lo q = some (.ret (.str (x0 ++ xs.flatten)) hp) := by
 rw [callD_eq]
 have hxl : 0 < xs.length := List.length_pos_iff.2 h1
 have hpos : 0 < (x0 ++ xs.flatten).length := List.length_pos_iff.2 h0
 generalize hL : x0 :: xs = L
 have hLl : L.length = xs.length + 1 := by rw [← hL]; simp
 have hLf : L.flatten = x0 ++ xs.flatten := by rw [← hL]; simp
 have hte : L.take L.length = L := List.take_length ..
 have hloop := fun (o' : Own) => loop_iter (G := G0) (IP := IP) (lo := hp.length) (b := l_ss_Join_0)
   (fun i => ⟨[(0,.list (strs L) o),(1,.str []),(5,.int .i64 (L.take i).flatten.length),(39,.list (strs L) o'),(40,.int .i64 L.length),(41,.int .i64 i)],hp⟩) L.length
   (r := (.exit 1,⟨[(0,.list (strs L) o),(1,.str []),(5,.int .i64 L.flatten.length),(39,.list (strs L) o'),(40,.int .i64 L.length),(41,.int .i64 L.length),(42,.bool false)],hp⟩)) (fun i hi => by
     have hiI : (i:Int) < (L.length : Int) := by omega
     have hw1 := wrap_succ hi (n := L.length) (by omega)
     have hle := flat_le L (i + 1)
     rw [hLf] at hle
     have hfl := flat_take hi
     rw [hfl] at hle ⊢
     simp only [List.length_append] at hle hb
     have hw2 : IntKind.wrap .i64 (9223372036854775807 - ((L.take i).flatten.length : Int)) = 9223372036854775807 - ((L.take i).flatten.length : Int) := wrap_small (by omega) (by omega)
     have hw3 : IntKind.wrap .i64 (((L.take i).flatten.length : Int) + (L[i].length : Int)) = (((L.take i).flatten ++ L[i]).length : Nat) := by
       rw [wrap_small (by omega) (by omega)]; simp
     have hng : ¬ (9223372036854775807 - ((L.take i).flatten.length : Int) < (L[i].length : Int)) := by omega
     have hng2 : ¬ ((L[i].length : Int) > 9223372036854775807 - ((L.take i).flatten.length : Int)) := by omega
     rw [← hw1,← hw3]
     generalize (L.take i).flatten.length = k at *
     simp [l_ss_Join_0,hi,hiI,hw2,hng,hng2])
   (by simp [l_ss_Join_0,hte]) (by simp)
 have hloop2 := loop_iter (G := G0) (IP := IP) (lo := hp.length) (b := l_ss_Join_1)
   (fun i => ⟨[(1,.str []),(8,.ptr hp.length 0),(63,.list (strs xs) .no),(64,.int .i64 xs.length),(65,.int .i64 i)],BW hp (x0 ++ (xs.take i).flatten)⟩) xs.length
   (r := (.exit 3,⟨[(1,.str []),(8,.ptr hp.length 0),(63,.list (strs xs) .no),(64,.int .i64 xs.length),(65,.int .i64 xs.length),(66,.bool false)],BW hp (x0 ++ xs.flatten)⟩)) (fun i hi => by
     have hiI : (i:Int) < (xs.length : Int) := by omega
     have hw1 := wrap_succ hi (n := xs.length) (by omega)
     have hle := flat_le xs (i + 1)
     have hfl := flat_take hi
     rw [hfl] at hle ⊢
     simp only [List.length_append] at hle hb
     have e1 := wstrG_D (hp := hp) (lo := hp.length) (Nat.le_refl _) (x0 ++ (xs.take i).flatten) [] (by simp only [List.length_append,List.length_nil]; omega)
     have e2 := wstrG_D (hp := hp) (lo := hp.length) (Nat.le_refl _) (x0 ++ (xs.take i).flatten) xs[i] (by simp only [List.length_append]; omega)
     rw [List.append_nil] at e1
     rw [← hw1,← List.append_assoc]
     generalize x0 ++ (xs.take i).flatten = bs at *
     simp [l_ss_Join_1,hi,hiI,e1,e2])
   (by simp [l_ss_Join_1]) (by simp)
 have e0 := Grow_D (hp := hp) (lo := hp.length) (Nat.le_refl _) (x0 ++ xs.flatten).length hpos hb
 have e1 := wstrG_D (hp := hp) (lo := hp.length) (Nat.le_refl _) [] x0 (by simp only [List.length_append,List.length_nil] at hb ⊢; omega)
 have e2 := bstr_D (hp := hp) (lo := hp.length) (Nat.le_refl _) (x0 ++ xs.flatten) hb
 rw [BH_BW h0] at e2
 simp only [List.take_zero,List.flatten_nil,List.append_nil,List.nil_append,List.length_nil,Int.natCast_zero] at hloop hloop2 e1
 rw [hLf] at hloop
 have hd : ((strs L).take L.length).tail = strs xs := by rw [show L.length = (strs L).length by simp,List.take_length,← hL]; rfl
 have hg0 : ∃ h : 0 < L.length,L[0] = x0 := ⟨by omega,by subst hL; rfl⟩
 obtain ⟨hL0,hg0⟩ := hg0
 have hne0 : ¬ ((L.length : Int) = 0) := by omega
 have hne1 : ¬ ((L.length : Int) = 1) := by omega
 have hll : (xs.length : Int) = (L.length - 1 : Nat) := by omega
 have hok : okSize 1 (strs L) = true := by rw [← hL]; rfl
 have h1L : 1 ≤ L.length := by omega
 have hLne : L ≠ [] := by rw [← hL]; simp
 have hxs : (L.length - 1 : Nat) = xs.length := by omega
 generalize x0 ++ xs.flatten = tx at *
 have hB0 : hp ++ [HObj.cells 110 [.nilp,.list [] .nil]] = B0 hp := rfl
 simp [IP_ss_Join,i_ss_Join,hloop,hLne,hne0,hne1,hL0,hg0,hB0,e0,e1,e2,hok,h1L,hd,hxs,hloop2]
end
end Go.Proofs.YtkofimhnehkdoaaGreatDoor.Rf
end
section
namespace Go.Proofs.YtkofimhnehkdoaaGreatDoor.Rf
def dig (n:Nat) : UInt8 := UInt8.ofNat (48 + n)
theorem dig_toNat {n:Nat} (h:n < 10) : (dig n).toNat = 48 + n := by
 unfold dig; rw [UInt8.toNat_ofNat']; omega
def dec (n:Nat) : List UInt8 := if n < 10 then [dig n] else dec (n / 10) ++ [dig (n % 10)]
termination_by n
decreasing_by omega
theorem dec_small {n:Nat} (h:n < 10) : dec n = [dig n] := by rw [dec,if_pos h]
theorem dec_big {n:Nat} (h:10 ≤ n) : dec n = dec (n / 10) ++ [dig (n % 10)] := by rw [dec,if_neg (by omega)]
theorem dec_ne (n:Nat) : dec n ≠ [] := by
 by_cases h : n < 10
 · rw [dec_small h]; simp
 · rw [dec_big (by omega)]; simp
theorem dec_len (k:Nat) : ∀ n,n < 10 ^ (k + 1) → (dec n).length ≤ k + 1 := by
 induction k with
 | zero => intro n h; rw [dec_small (by omega)]; simp
 | succ k ih =>
   intro n h
   by_cases h1 : n < 10
   · rw [dec_small h1]; simp
   · rw [dec_big (by omega),List.length_append]
     have := ih (n / 10) (by rw [Nat.pow_succ] at h; omega)
     simp; omega
theorem dec_len20 {n:Nat} (h:n < 18446744073709551616) : (dec n).length ≤ 20 := dec_len 19 n (by omega)
def isDig (c:UInt8) : Bool := decide (48 ≤ c.toNat) && decide (c.toNat ≤ 57)
theorem isDig_dig {n:Nat} (h:n < 10) : isDig (dig n) = true := by simp [isDig,dig_toNat h]; omega
theorem dec_digs (n:Nat) : ∀ c,c ∈ dec n → isDig c = true := by
 induction n using Nat.strongRecOn with
 | _ n ih =>
   intro c hc
   by_cases h : n < 10
   · rw [dec_small h] at hc; simp at hc; subst hc; exact isDig_dig h
   · rw [dec_big (by omega),List.mem_append] at hc
     rcases hc with hc | hc
     · exact ih (n / 10) (by omega) c hc
     · simp at hc; subst hc; exact isDig_dig (by omega)
def digVal (s:List UInt8) : Nat := s.foldl (fun v c => 10 * v + (c.toNat - 48)) 0
def numOk (s:List UInt8) : Bool := !s.isEmpty && (!(decide (1 < s.length) && (s.head? == some 48)) && s.all isDig)
def numE (s:List UInt8) : Int × Int := if numOk s = false then (0,6) else if 18446744073709551616 ≤ digVal s then (0,2) else (digVal s,0)
end Go.Proofs.YtkofimhnehkdoaaGreatDoor.Rf
end
section
namespace Go.Proofs.YtkofimhnehkdoaaGreatDoor.Rf
def digN : Nat → Nat → List UInt8
 | 0,_ => []
 | n + 1,u => digN n (u / 10) ++ [dig (u % 10)]
theorem digN_len : ∀ n u,(digN n u).length = n
 | 0,u => rfl
 | n + 1,u => by simp [digN,digN_len n]
theorem digN_dec : ∀ (n u:Nat),u < 10 ^ (n + 1) → (n = 0 ∨ 10 ^ n ≤ u) → digN (n + 1) u = dec u
 | 0,u,h,_ => by
   rw [dec_small (by omega)]; simp [digN]; congr 1; omega
 | n + 1,u,h,h2 => by
   have h3 : 10 ^ (n + 1) ≤ u := by omega
   have h10 : 10 ≤ u := by
     have : 10 ^ 1 ≤ 10 ^ (n + 1) := Nat.pow_le_pow_right (by omega) (by omega)
     omega
   have e : 10 ^ (n + 2) = 10 * 10 ^ (n + 1) := by rw [Nat.pow_succ]; omega
   have e1 : 10 ^ (n + 1) = 10 * 10 ^ n := by rw [Nat.pow_succ]; omega
   rw [dec_big h10,digN,digN_dec n (u / 10) (by rw [e] at h; omega) (by right; rw [e1] at h3; omega)]
theorem digN_app : ∀ (a b u:Nat),digN (a + b) u = digN a (u / 10 ^ b) ++ digN b u
 | a,0,u => by simp [digN]
 | a,b + 1,u => by
   rw [← Nat.add_assoc,digN,digN_app a b (u / 10),digN,Nat.div_div_eq_div_mul,List.append_assoc,Nat.pow_succ,Nat.mul_comm 10]
theorem digN_mod : ∀ (b u:Nat),digN b (u % 10 ^ b) = digN b u
 | 0,u => rfl
 | b + 1,u => by
   have e : 10 ^ (b + 1) = 10 * 10 ^ b := by rw [Nat.pow_succ]; omega
   rw [digN,digN,e,Nat.mod_mul_right_div_self,digN_mod b (u / 10),Nat.mod_mul_right_mod]
section
variable {hp:List HObj} {lo:Nat} (q:Bool)
theorem smalls2_at (d:Nat) (h:d < 100) : smalls2[2 * d]? = some (dig (d / 10)) ∧ smalls2[2 * d + 1]? = some (dig (d % 10)) := by
 have : ∀ d : Fin 100,smalls2[2 * d.val]? = some (dig (d.val / 10)) ∧ smalls2[2 * d.val + 1]? = some (dig (d.val % 10)) := by decide +kernel
 exact this ⟨d,h⟩
theorem smalls2_len : smalls2.length = 200 := by decide +kernel
def d36 : List UInt8 := [48,49,50,51,52,53,54,55,56,57,97,98,99,100,101,102,103,104,105,106,107,108,109,110,111,112,113,114,115,116,117,118,119,120,121,122]
theorem d36_at (d:Nat) (h:d < 10) : (d36.take (d + 1)).drop d = [dig d] := by
 have : ∀ d : Fin 10,(d36.take (d.val + 1)).drop d.val = [dig d.val] := by decide +kernel
 exact this ⟨d,h⟩
theorem smalls2_cut (d:Nat) (h:d < 100) : (smalls2.take (2 * d + 2)).drop (2 * d) = [dig (d / 10),dig (d % 10)] := by
 have : ∀ d : Fin 100,(smalls2.take (2 * d.val + 2)).drop (2 * d.val) = [dig (d.val / 10),dig (d.val % 10)] := by decide +kernel
 exact this ⟨d,h⟩
theorem small_D (n:Nat) (h:n < 100) : callD G0 IP n_isc_small [.int .i64 n] hp lo q = some (.ret (.str (dec n)) hp) := by
 rw [callD_eq]
 by_cases h1 : n < 10
 · have h1' : (n:Int) < 10 := by omega
   have hw : IntKind.wrap .i64 ((n:Int) + 1) = (n:Int) + 1 := wrap_small (by omega) (by omega)
   have e1 : (0:Int) ≤ (n:Int) + 1 := by omega
   have e2 : n + 1 ≤ 36 := by omega
   have e3 := d36_at n h1
   simp only [d36] at e3
   rw [dec_small h1]
   simp at e3
   simp [IP_isc_small,i_isc_small,h1',hw,e1,e2,e3]
 · have h1' : ¬ (n:Int) < 10 := by omega
   have hw : IntKind.wrap .i64 ((n:Int) * 2) = (n:Int) * 2 := wrap_small (by omega) (by omega)
   have hw2 : IntKind.wrap .i64 ((n:Int) * 2 + 2) = (n:Int) * 2 + 2 := wrap_small (by omega) (by omega)
   have e1 : (0:Int) ≤ (n:Int) * 2 := by omega
   have e2 : (0:Int) ≤ (n:Int) * 2 + 2 := by omega
   have e3 : ((n:Int) * 2).toNat = 2 * n := by omega
   have e4 : ((n:Int) * 2 + 2).toNat = 2 * n + 2 := by omega
   have e5 : 2 * n + 2 ≤ 200 := by omega
   rw [dec_big (by omega),dec_small (by omega)]
   simp [IP_isc_small,i_isc_small,h1',hw,hw2,e1,e2,e3,e4,e5,smalls2_len,smalls2_cut n h]
theorem len8t_len : len8t.length = 256 := by decide +kernel
theorem len8t_at (x:Nat) (h:x < 256) (h0:0 < x) : ∃ t : UInt8,len8t[x]? = some t ∧ 1 ≤ t.toNat ∧ t.toNat ≤ 8 ∧ 2 ^ (t.toNat - 1) ≤ x ∧ x < 2 ^ t.toNat := by
 have : ∀ x : Fin 256,0 < x.val → 1 ≤ (len8t.getD x.val 0).toNat ∧ (len8t.getD x.val 0).toNat ≤ 8 ∧ 2 ^ ((len8t.getD x.val 0).toNat - 1) ≤ x.val ∧ x.val < 2 ^ (len8t.getD x.val 0).toNat := by decide +kernel
 have := this ⟨x,h⟩ h0
 simp only at this
 have hl : x < len8t.length := by rw [len8t_len]; exact h
 refine ⟨len8t.getD x 0,?_,this⟩
 simp [List.getD,hl]
def bitsOf (u L:Nat) : Prop := 1 ≤ L ∧ 2 ^ (L - 1) ≤ u ∧ u < 2 ^ L
theorem bitsOf_shift {u L k:Nat} (h:bitsOf (u / 2 ^ k) L) : bitsOf u (L + k) := by
 obtain ⟨h1,h2,h3⟩ := h
 have hp : 0 < 2 ^ k := Nat.two_pow_pos k
 refine ⟨by omega,?_,?_⟩
 · rw [show L + k - 1 = (L - 1) + k by omega,Nat.pow_add]
   exact (Nat.le_div_iff_mul_le hp).1 h2
 · rw [Nat.pow_add]
   exact (Nat.div_lt_iff_lt_mul hp).1 h3
theorem len8_D (x:Nat) (h:x < 256) (h0:0 < x) : ∃ L : Nat,L ≤ 8 ∧ bitsOf x L ∧ ∃ t : UInt8,len8t[x]? = some t ∧ t.toNat = L := by
 obtain ⟨t,t1,t2,t3,t4,t5⟩ := len8t_at x h h0
 exact ⟨t.toNat,t3,⟨t2,t4,t5⟩,t,t1,rfl⟩
theorem len64_D (u:Nat) (h0:0 < u) (h:u < 18446744073709551616) : ∃ L : Nat,L ≤ 64 ∧ bitsOf u L ∧ ∀ (hp:List HObj) (lo:Nat) (q:Bool),callD G0 IP n_math_bits_Len64 [.int .u64 u] hp lo q = some (.ret (.int .i64 L) hp) := by
 have f1 : ∀ x : Int,x.fdiv (2 ^ min 32 IntKind.u64.bits) = x / 4294967296 := fun x => by rw [show (2:Int) ^ min 32 IntKind.u64.bits = 4294967296 by decide,Int.fdiv_eq_ediv_of_nonneg _ (by decide)]
 have f2 : ∀ x : Int,x.fdiv (2 ^ min 16 IntKind.u64.bits) = x / 65536 := fun x => by rw [show (2:Int) ^ min 16 IntKind.u64.bits = 65536 by decide,Int.fdiv_eq_ediv_of_nonneg _ (by decide)]
 have f3 : ∀ x : Int,x.fdiv (2 ^ min 8 IntKind.u64.bits) = x / 256 := fun x => by rw [show (2:Int) ^ min 8 IntKind.u64.bits = 256 by decide,Int.fdiv_eq_ediv_of_nonneg _ (by decide)]
 by_cases a : 4294967296 ≤ u
 · have a' : (4294967296:Int) ≤ (u:Int) := by omega
   by_cases b : 65536 ≤ u / 4294967296
   · have b' : (65536:Int) ≤ (u:Int) / 4294967296 := by omega
     by_cases c : 256 ≤ u / 4294967296 / 65536
     · have c' : (256:Int) ≤ (u:Int) / 4294967296 / 65536 := by omega
       obtain ⟨L,l1,l2,t,t1,t2⟩ := len8_D (u / 4294967296 / 65536 / 256) (by omega) (by omega)
       have hw1 : IntKind.wrap .u8 ((u:Int) / 4294967296 / 65536 / 256) = ((u:Int) / 4294967296 / 65536 / 256) := by simp [IntKind.wrap,IntKind.signed,IntKind.bits]; omega
       have hI : ((u:Int) / 4294967296 / 65536 / 256).toNat = u / 4294967296 / 65536 / 256 := by omega
       have hJ : 0 ≤ ((u:Int) / 4294967296 / 65536 / 256) := by omega
       have hw2 : IntKind.wrap .i64 (t.toNat : Int) = (t.toNat : Int) := wrap_small (by omega) (by omega)
       have hw3 : IntKind.wrap .i64 (56 + (t.toNat : Int)) = 56 + (t.toNat : Int) := wrap_small (by omega) (by omega)
       have hk : (u / 4294967296 / 65536 / 256) < 256 := by omega
       obtain ⟨hl1,hl2⟩ := List.getElem?_eq_some_iff.1 t1
       refine ⟨L + 8 + 16 + 32,by omega,bitsOf_shift (k := 32) (bitsOf_shift (k := 16) (bitsOf_shift (k := 8) (l2))),fun hp lo q => ?_⟩
       rw [callD_eq]
       simp [IP_math_bits_Len64,i_math_bits_Len64,f1,f2,f3,a',b',c',hw1,hw2,hw3,hI,hJ,hk,len8t_len,hl2,t1,hl1,hl2,show IntKind.wrap .i64 (32 + 16) = 48 from rfl,show IntKind.wrap .i64 48 = 48 from rfl,show IntKind.wrap .i64 16 = 16 from rfl,show IntKind.wrap .i64 8 = 8 from rfl,show IntKind.wrap .i64 24 = 24 from rfl,show IntKind.wrap .i64 40 = 40 from rfl,show IntKind.wrap .i64 56 = 56 from rfl]
       try omega
     · have c' : ¬ (256:Int) ≤ (u:Int) / 4294967296 / 65536 := by omega
       obtain ⟨L,l1,l2,t,t1,t2⟩ := len8_D (u / 4294967296 / 65536) (by omega) (by omega)
       have hw1 : IntKind.wrap .u8 ((u:Int) / 4294967296 / 65536) = ((u:Int) / 4294967296 / 65536) := by simp [IntKind.wrap,IntKind.signed,IntKind.bits]; omega
       have hI : ((u:Int) / 4294967296 / 65536).toNat = u / 4294967296 / 65536 := by omega
       have hJ : 0 ≤ ((u:Int) / 4294967296 / 65536) := by omega
       have hw2 : IntKind.wrap .i64 (t.toNat : Int) = (t.toNat : Int) := wrap_small (by omega) (by omega)
       have hw3 : IntKind.wrap .i64 (48 + (t.toNat : Int)) = 48 + (t.toNat : Int) := wrap_small (by omega) (by omega)
       have hk : (u / 4294967296 / 65536) < 256 := by omega
       obtain ⟨hl1,hl2⟩ := List.getElem?_eq_some_iff.1 t1
       refine ⟨L + 16 + 32,by omega,bitsOf_shift (k := 32) (bitsOf_shift (k := 16) (l2)),fun hp lo q => ?_⟩
       rw [callD_eq]
       simp [IP_math_bits_Len64,i_math_bits_Len64,f1,f2,f3,a',b',c',hw1,hw2,hw3,hI,hJ,hk,len8t_len,hl2,t1,hl1,hl2,show IntKind.wrap .i64 (32 + 16) = 48 from rfl,show IntKind.wrap .i64 48 = 48 from rfl,show IntKind.wrap .i64 16 = 16 from rfl,show IntKind.wrap .i64 8 = 8 from rfl,show IntKind.wrap .i64 24 = 24 from rfl,show IntKind.wrap .i64 40 = 40 from rfl,show IntKind.wrap .i64 56 = 56 from rfl]
       try omega
   · have b' : ¬ (65536:Int) ≤ (u:Int) / 4294967296 := by omega
     by_cases c : 256 ≤ u / 4294967296
     · have c' : (256:Int) ≤ (u:Int) / 4294967296 := by omega
       obtain ⟨L,l1,l2,t,t1,t2⟩ := len8_D (u / 4294967296 / 256) (by omega) (by omega)
       have hw1 : IntKind.wrap .u8 ((u:Int) / 4294967296 / 256) = ((u:Int) / 4294967296 / 256) := by simp [IntKind.wrap,IntKind.signed,IntKind.bits]; omega
       have hI : ((u:Int) / 4294967296 / 256).toNat = u / 4294967296 / 256 := by omega
       have hJ : 0 ≤ ((u:Int) / 4294967296 / 256) := by omega
       have hw2 : IntKind.wrap .i64 (t.toNat : Int) = (t.toNat : Int) := wrap_small (by omega) (by omega)
       have hw3 : IntKind.wrap .i64 (40 + (t.toNat : Int)) = 40 + (t.toNat : Int) := wrap_small (by omega) (by omega)
       have hk : (u / 4294967296 / 256) < 256 := by omega
       obtain ⟨hl1,hl2⟩ := List.getElem?_eq_some_iff.1 t1
       refine ⟨L + 8 + 32,by omega,bitsOf_shift (k := 32) (bitsOf_shift (k := 8) (l2)),fun hp lo q => ?_⟩
       rw [callD_eq]
       simp [IP_math_bits_Len64,i_math_bits_Len64,f1,f2,f3,a',b',c',hw1,hw2,hw3,hI,hJ,hk,len8t_len,hl2,t1,hl1,hl2,show IntKind.wrap .i64 48 = 48 from rfl,show IntKind.wrap .i64 16 = 16 from rfl,show IntKind.wrap .i64 8 = 8 from rfl,show IntKind.wrap .i64 24 = 24 from rfl,show IntKind.wrap .i64 40 = 40 from rfl,show IntKind.wrap .i64 56 = 56 from rfl]
       try omega
     · have c' : ¬ (256:Int) ≤ (u:Int) / 4294967296 := by omega
       obtain ⟨L,l1,l2,t,t1,t2⟩ := len8_D (u / 4294967296) (by omega) (by omega)
       have hw1 : IntKind.wrap .u8 ((u:Int) / 4294967296) = ((u:Int) / 4294967296) := by simp [IntKind.wrap,IntKind.signed,IntKind.bits]; omega
       have hI : ((u:Int) / 4294967296).toNat = u / 4294967296 := by omega
       have hJ : 0 ≤ ((u:Int) / 4294967296) := by omega
       have hw2 : IntKind.wrap .i64 (t.toNat : Int) = (t.toNat : Int) := wrap_small (by omega) (by omega)
       have hw3 : IntKind.wrap .i64 (32 + (t.toNat : Int)) = 32 + (t.toNat : Int) := wrap_small (by omega) (by omega)
       have hk : (u / 4294967296) < 256 := by omega
       obtain ⟨hl1,hl2⟩ := List.getElem?_eq_some_iff.1 t1
       refine ⟨L + 32,by omega,bitsOf_shift (k := 32) (l2),fun hp lo q => ?_⟩
       rw [callD_eq]
       simp [IP_math_bits_Len64,i_math_bits_Len64,f1,f2,f3,a',b',c',hw1,hw2,hw3,hI,hJ,hk,len8t_len,hl2,t1,hl1,hl2,show IntKind.wrap .i64 48 = 48 from rfl,show IntKind.wrap .i64 16 = 16 from rfl,show IntKind.wrap .i64 8 = 8 from rfl,show IntKind.wrap .i64 24 = 24 from rfl,show IntKind.wrap .i64 40 = 40 from rfl,show IntKind.wrap .i64 56 = 56 from rfl]
       try omega
 · have a' : ¬ (4294967296:Int) ≤ (u:Int) := by omega
   by_cases b : 65536 ≤ u
   · have b' : (65536:Int) ≤ (u:Int) := by omega
     by_cases c : 256 ≤ u / 65536
     · have c' : (256:Int) ≤ (u:Int) / 65536 := by omega
       obtain ⟨L,l1,l2,t,t1,t2⟩ := len8_D (u / 65536 / 256) (by omega) (by omega)
       have hw1 : IntKind.wrap .u8 ((u:Int) / 65536 / 256) = ((u:Int) / 65536 / 256) := by simp [IntKind.wrap,IntKind.signed,IntKind.bits]; omega
       have hI : ((u:Int) / 65536 / 256).toNat = u / 65536 / 256 := by omega
       have hJ : 0 ≤ ((u:Int) / 65536 / 256) := by omega
       have hw2 : IntKind.wrap .i64 (t.toNat : Int) = (t.toNat : Int) := wrap_small (by omega) (by omega)
       have hw3 : IntKind.wrap .i64 (24 + (t.toNat : Int)) = 24 + (t.toNat : Int) := wrap_small (by omega) (by omega)
       have hk : (u / 65536 / 256) < 256 := by omega
       obtain ⟨hl1,hl2⟩ := List.getElem?_eq_some_iff.1 t1
       refine ⟨L + 8 + 16,by omega,bitsOf_shift (k := 16) (bitsOf_shift (k := 8) (l2)),fun hp lo q => ?_⟩
       rw [callD_eq]
       simp [IP_math_bits_Len64,i_math_bits_Len64,f1,f2,f3,a',b',c',hw1,hw2,hw3,hI,hJ,hk,len8t_len,hl2,t1,hl1,hl2,show IntKind.wrap .i64 (0 + 16) = 16 from rfl,show IntKind.wrap .i64 48 = 48 from rfl,show IntKind.wrap .i64 16 = 16 from rfl,show IntKind.wrap .i64 8 = 8 from rfl,show IntKind.wrap .i64 24 = 24 from rfl,show IntKind.wrap .i64 40 = 40 from rfl,show IntKind.wrap .i64 56 = 56 from rfl]
       try omega
     · have c' : ¬ (256:Int) ≤ (u:Int) / 65536 := by omega
       obtain ⟨L,l1,l2,t,t1,t2⟩ := len8_D (u / 65536) (by omega) (by omega)
       have hw1 : IntKind.wrap .u8 ((u:Int) / 65536) = ((u:Int) / 65536) := by simp [IntKind.wrap,IntKind.signed,IntKind.bits]; omega
       have hI : ((u:Int) / 65536).toNat = u / 65536 := by omega
       have hJ : 0 ≤ ((u:Int) / 65536) := by omega
       have hw2 : IntKind.wrap .i64 (t.toNat : Int) = (t.toNat : Int) := wrap_small (by omega) (by omega)
       have hw3 : IntKind.wrap .i64 (16 + (t.toNat : Int)) = 16 + (t.toNat : Int) := wrap_small (by omega) (by omega)
       have hk : (u / 65536) < 256 := by omega
       obtain ⟨hl1,hl2⟩ := List.getElem?_eq_some_iff.1 t1
       refine ⟨L + 16,by omega,bitsOf_shift (k := 16) (l2),fun hp lo q => ?_⟩
       rw [callD_eq]
       simp [IP_math_bits_Len64,i_math_bits_Len64,f1,f2,f3,a',b',c',hw1,hw2,hw3,hI,hJ,hk,len8t_len,hl2,t1,hl1,hl2,show IntKind.wrap .i64 (0 + 16) = 16 from rfl,show IntKind.wrap .i64 48 = 48 from rfl,show IntKind.wrap .i64 16 = 16 from rfl,show IntKind.wrap .i64 8 = 8 from rfl,show IntKind.wrap .i64 24 = 24 from rfl,show IntKind.wrap .i64 40 = 40 from rfl,show IntKind.wrap .i64 56 = 56 from rfl]
       try omega
   · have b' : ¬ (65536:Int) ≤ (u:Int) := by omega
     by_cases c : 256 ≤ u
     · have c' : (256:Int) ≤ (u:Int) := by omega
       obtain ⟨L,l1,l2,t,t1,t2⟩ := len8_D (u / 256) (by omega) (by omega)
       have hw1 : IntKind.wrap .u8 ((u:Int) / 256) = ((u:Int) / 256) := by simp [IntKind.wrap,IntKind.signed,IntKind.bits]; omega
       have hI : ((u:Int) / 256).toNat = u / 256 := by omega
       have hJ : 0 ≤ ((u:Int) / 256) := by omega
       have hw2 : IntKind.wrap .i64 (t.toNat : Int) = (t.toNat : Int) := wrap_small (by omega) (by omega)
       have hw3 : IntKind.wrap .i64 (8 + (t.toNat : Int)) = 8 + (t.toNat : Int) := wrap_small (by omega) (by omega)
       have hk : (u / 256) < 256 := by omega
       obtain ⟨hl1,hl2⟩ := List.getElem?_eq_some_iff.1 t1
       refine ⟨L + 8,by omega,bitsOf_shift (k := 8) (l2),fun hp lo q => ?_⟩
       rw [callD_eq]
       simp [IP_math_bits_Len64,i_math_bits_Len64,f1,f2,f3,a',b',c',hw1,hw2,hw3,hI,hJ,hk,len8t_len,hl2,t1,hl1,hl2,show IntKind.wrap .i64 48 = 48 from rfl,show IntKind.wrap .i64 16 = 16 from rfl,show IntKind.wrap .i64 8 = 8 from rfl,show IntKind.wrap .i64 24 = 24 from rfl,show IntKind.wrap .i64 40 = 40 from rfl,show IntKind.wrap .i64 56 = 56 from rfl]
       try omega
     · have c' : ¬ (256:Int) ≤ (u:Int) := by omega
       obtain ⟨L,l1,l2,t,t1,t2⟩ := len8_D (u) (by omega) (by omega)
       have hw1 : IntKind.wrap .u8 ((u:Int)) = ((u:Int)) := by simp [IntKind.wrap,IntKind.signed,IntKind.bits]; omega
       have hI : ((u:Int)).toNat = u := by omega
       have hJ : 0 ≤ ((u:Int)) := by omega
       have hw2 : IntKind.wrap .i64 (t.toNat : Int) = (t.toNat : Int) := wrap_small (by omega) (by omega)
       have hw3 : IntKind.wrap .i64 (0 + (t.toNat : Int)) = 0 + (t.toNat : Int) := wrap_small (by omega) (by omega)
       have hk : (u) < 256 := by omega
       obtain ⟨hl1,hl2⟩ := List.getElem?_eq_some_iff.1 t1
       refine ⟨L,by omega,l2,fun hp lo q => ?_⟩
       rw [callD_eq]
       simp [IP_math_bits_Len64,i_math_bits_Len64,f1,f2,f3,a',b',c',hw1,hw2,hw3,hI,hJ,hk,len8t_len,hl2,t1,hl1,hl2,show IntKind.wrap .i64 48 = 48 from rfl,show IntKind.wrap .i64 16 = 16 from rfl,show IntKind.wrap .i64 8 = 8 from rfl,show IntKind.wrap .i64 24 = 24 from rfl,show IntKind.wrap .i64 40 = 40 from rfl,show IntKind.wrap .i64 56 = 56 from rfl]
       try omega
end
end Go.Proofs.YtkofimhnehkdoaaGreatDoor.Rf
end
section
namespace Go.Proofs.YtkofimhnehkdoaaGreatDoor.Rf
theorem g_2_eq : g_2 = (List.range 20).map fun k => AV.int .u64 ((10 ^ k : Nat) : Int) := by rfl
theorem g_2_len : g_2.length = 20 := rfl
theorem g_2_at {t:Nat} (h:t < 20) : (g_2.drop t).take 1 = [AV.int .u64 ((10 ^ t : Nat) : Int)] := by
 rw [g_2_eq,List.drop_eq_getElem_cons (by simpa using h)]
 simp
theorem logF (L:Nat) (h1:1 ≤ L) (h:L ≤ 64) : L * 78913 / 262144 ≤ 19 ∧ 2 ^ L ≤ 10 ^ (L * 78913 / 262144 + 1) ∧ (L * 78913 / 262144 = 0 ∨ 10 ^ (L * 78913 / 262144 - 1) ≤ 2 ^ (L - 1)) := by
 have : ∀ L : Fin 65,1 ≤ L.val → L.val * 78913 / 262144 ≤ 19 ∧ 2 ^ L.val ≤ 10 ^ (L.val * 78913 / 262144 + 1) ∧ (L.val * 78913 / 262144 = 0 ∨ 10 ^ (L.val * 78913 / 262144 - 1) ≤ 2 ^ (L.val - 1)) := by decide +kernel
 exact this ⟨L,by omega⟩ h1
section
variable {hp:List HObj} {lo:Nat} (q:Bool)
theorem log10_D (L:Nat) (h:L ≤ 64) (hp:List HObj) (lo:Nat) (q:Bool) : callD G0 IP n_isc_log10Pow2 [.int .i64 L] hp lo q = some (.ret (.int .i64 ((L * 78913 / 262144 : Nat) : Int)) hp) := by
 rw [callD_eq]
 have hw : IntKind.wrap .i64 ((L:Int) * 78913) = (L:Int) * 78913 := wrap_small (by omega) (by omega)
 have f1 : ∀ x : Int,x.fdiv (2 ^ min 18 IntKind.i64.bits) = x / 262144 := fun x => by rw [show (2:Int) ^ min 18 IntKind.i64.bits = 262144 by decide,Int.fdiv_eq_ediv_of_nonneg _ (by decide)]
 simp [IP_isc_log10Pow2,i_isc_log10Pow2,hw,f1]
theorem b2i_D (b:Bool) (hp:List HObj) (lo:Nat) (q:Bool) : callD G0 IP n_isc_bool2_int [.bool b] hp lo q = some (.ret (.int .i64 (if b then 1 else 0)) hp) := by
 rw [callD_eq]
 cases b <;> simp [IP_isc_bool2_int,i_isc_bool2_int]
theorem numDigits_D (u:Nat) (h0:0 < u) (h:u < 18446744073709551616) : ∃ n : Nat,n ≤ 19 ∧ 10 ^ n ≤ u ∧ u < 10 ^ (n + 1) ∧ ∀ (hp:List HObj) (lo:Nat) (q:Bool),callD G0 IP n_isc_numDigits [.int .u64 u] hp lo q = some (.ret (.int .i64 ((n:Int) + 1)) hp) := by
 obtain ⟨L,l1,⟨l2,l3,l4⟩,l5⟩ := len64_D u h0 h
 obtain ⟨t1,t2,t3⟩ := logF L l2 l1
 have e1 := log10_D L l1
 generalize ht : L * 78913 / 262144 = t at *
 have hg := g_2_at (t := t) (by omega)
 have hlt : (t:Int) < 20 := by omega
 have hlt2 : t + 1 ≤ 20 := by omega
 by_cases hc : 10 ^ t ≤ u
 · refine ⟨t,t1,hc,by omega,fun hp lo q => ?_⟩
   rw [callD_eq]
   have hc' : ((10 ^ t : Nat) : Int) ≤ (u:Int) := by omega
   have hw : IntKind.wrap .i64 ((t:Int) + 1) = (t:Int) + 1 := wrap_small (by omega) (by omega)
   generalize ((10 ^ t : Nat) : Int) = p at *
   simp [IP_isc_numDigits,i_isc_numDigits,l5,e1,G0_2,hlt,hlt2,hg,g_2_len,hc',b2i_D,hw]
 · have htp : t ≠ 0 := fun e => by rw [e] at hc; simp at hc; omega
   obtain ⟨m,rfl⟩ : ∃ m,t = m + 1 := ⟨t - 1,by omega⟩
   have t4 : 10 ^ m ≤ 2 ^ (L - 1) := by
     rcases t3 with e | e
     · omega
     · simpa using e
   refine ⟨m,by omega,by omega,by omega,fun hp lo q => ?_⟩
   rw [callD_eq]
   have hc' : ¬ ((10 ^ (m + 1) : Nat) : Int) ≤ (u:Int) := by omega
   have hw : IntKind.wrap .i64 ((m:Int) + 1) = (m:Int) + 1 := wrap_small (by omega) (by omega)
   generalize ((10 ^ (m + 1) : Nat) : Int) = p at *
   have hlt3 : (m:Int) + 1 < 20 := by omega
   have hI : ((m:Int) + 1).toNat = m + 1 := by omega
   have hJ : (0:Int) ≤ (m:Int) + 1 := by omega
   simp [IP_isc_numDigits,i_isc_numDigits,l5,e1,G0_2,hlt3,hlt2,hI,hJ,hg,g_2_len,hc',b2i_D,hw]
end
end Go.Proofs.YtkofimhnehkdoaaGreatDoor.Rf
end
section
namespace Go.Proofs.YtkofimhnehkdoaaGreatDoor.Rf
theorem put_set {cs:List AV} {k:Nat} {v:AV} (h:k < cs.length) : put cs k [v] = cs.set k v := by
 unfold put
 rw [List.set_eq_take_append_cons_drop,if_pos h]; simp
theorem toNat_add (j m:Nat) : ((j:Int) + (m:Int)).toNat = j + m := by omega
def dg (n:Nat) : AV := .int .u8 ((dig n).toNat : Int)
def set8 (cs:List AV) (k:Nat) (b1 b0 a1 a0:Nat) : List AV :=
 (((((((cs.set (k + 7) (dg (b0 % 10))).set (k + 6) (dg (b0 / 10))).set (k + 5) (dg (b1 % 10))).set (k + 4) (dg (b1 / 10))).set (k + 3) (dg (a0 % 10))).set (k + 2) (dg (a0 / 10))).set (k + 1) (dg (a1 % 10))).set k (dg (a1 / 10))
section
variable {hp:List HObj} {lo:Nat}
abbrev HB (hp:List HObj) (cs:List AV) : List HObj := hp ++ [.cells 0 cs]
abbrev frB (hp:List HObj) (off n:Nat) (u i:Int) : Fr := [(0,.sref hp.length off n 1),(1,.int .u64 u),(4,.int .i64 i)]
set_option maxHeartbeats 4000000 in
theorem fb_step (hlo:lo ≤ hp.length) (off n j u:Nat) (cs:List AV) (hn:off + n ≤ cs.length) (hj:j + 8 ≤ n) (hn2:n ≤ 100) (hu:u < 18446744073709551616) :
   ∃ b1 b0 a1 a0 : Nat,b1 < 100 ∧ b0 < 100 ∧ a1 < 100 ∧ a0 < 100 ∧ u % 100000000 = ((a1 * 100 + a0) * 100 + b1) * 100 + b0 ∧
   evalC G0 (callD G0 IP) (loopD G0 IP lo) lo l_isc_formatBase10_0 ⟨frB hp off n u ((j:Int) + 8),HB hp cs⟩ =
     some (.normal,⟨frB hp off n (u / 100000000 : Nat) j,HB hp (set8 cs (off + j) b1 b0 a1 a0)⟩) := by
 have q1 : (u:Int).tmod 100000000 = ((u % 100000000 : Nat) : Int) := rfl
 have q2 : (u:Int).tdiv 100000000 = ((u / 100000000 : Nat) : Int) := rfl
 have hr0 : u % 100000000 < 100000000 := Nat.mod_lt _ (by omega)
 have hw0 : u / 100000000 < 18446744073709551616 := by omega
 generalize u % 100000000 = r at *
 generalize u / 100000000 = w at *
 have q3 : (r:Int).tdiv 10000 = ((r / 10000 : Nat) : Int) := rfl
 have q4 : (r:Int).tmod 10000 = ((r % 10000 : Nat) : Int) := rfl
 have hd := Nat.div_add_mod r 10000
 have ha0 : r / 10000 < 10000 := by omega
 have hb0 : r % 10000 < 10000 := Nat.mod_lt _ (by omega)
 generalize r / 10000 = a at *
 generalize r % 10000 = b at *
 have q5 : (b:Int).tdiv 100 = ((b / 100 : Nat) : Int) := rfl
 have q6 : (b:Int).tmod 100 = ((b % 100 : Nat) : Int) := rfl
 have q7 : (a:Int).tdiv 100 = ((a / 100 : Nat) : Int) := rfl
 have q8 : (a:Int).tmod 100 = ((a % 100 : Nat) : Int) := rfl
 have hdb := Nat.div_add_mod b 100
 have hda := Nat.div_add_mod a 100
 have hb1 : b / 100 < 100 := by omega
 have hb2 : b % 100 < 100 := Nat.mod_lt _ (by omega)
 have ha1 : a / 100 < 100 := by omega
 have ha2 : a % 100 < 100 := Nat.mod_lt _ (by omega)
 refine ⟨b / 100,b % 100,a / 100,a % 100,hb1,hb2,ha1,ha2,by omega,?_⟩
 generalize b / 100 = b1 at *
 generalize b % 100 = b0 at *
 generalize a / 100 = a1 at *
 generalize a % 100 = a0 at *
 have wr : IntKind.wrap .u32 (r:Int) = r := by simp [IntKind.wrap,IntKind.signed,IntKind.bits]; omega
 have ww : IntKind.wrap .u64 (w:Int) = w := by simp [IntKind.wrap,IntKind.signed,IntKind.bits]; omega
 have wa : IntKind.wrap .u32 (a:Int) = a := by simp [IntKind.wrap,IntKind.signed,IntKind.bits]; omega
 have w32 : ∀ x : Nat,x < 100 → IntKind.wrap .u32 (x:Int) = x := fun x h => by simp [IntKind.wrap,IntKind.signed,IntKind.bits]; omega
 have w32b : ∀ x : Nat,x < 100 → IntKind.wrap .u32 ((x:Int) * 2) = (x:Int) * 2 := fun x h => by simp [IntKind.wrap,IntKind.signed,IntKind.bits]; omega
 have w32c : ∀ x : Nat,x < 100 → IntKind.wrap .u32 ((x:Int) * 2 + 1) = (x:Int) * 2 + 1 := fun x h => by simp [IntKind.wrap,IntKind.signed,IntKind.bits]; omega
 have t1 : ∀ x : Nat,((x:Int) * 2).toNat = 2 * x := fun x => by omega
 have t2 : ∀ x : Nat,((x:Int) * 2 + 1).toNat = 2 * x + 1 := fun x => by omega
 have t3 : ∀ x : Nat,(0:Int) ≤ (x:Int) * 2 := fun x => by omega
 have t4 : ∀ x : Nat,(0:Int) ≤ (x:Int) * 2 + 1 := fun x => by omega
 have s1 : ∀ x : Nat,x < 100 → smalls2[2 * x]? = some (dig (x / 10)) := fun x h => (smalls2_at x h).1
 have s2 : ∀ x : Nat,x < 100 → smalls2[2 * x + 1]? = some (dig (x % 10)) := fun x h => (smalls2_at x h).2
 have i8 : (8:Int) ≤ (j:Int) + 8 := by omega
 have k1 : ∀ m : Int,1 ≤ m → m ≤ 8 → IntKind.wrap .i64 ((j:Int) + 8 - m) = (j:Int) + (8 - m) := fun m h1 h2 => by rw [wrap_small (by omega) (by omega)]; omega
 have d1 : IntKind.wrap .i64 ((j:Int) + 8 - 1) = (j:Int) + 7 := k1 1 (by omega) (by omega)
 have d2 : IntKind.wrap .i64 ((j:Int) + 8 - 2) = (j:Int) + 6 := k1 2 (by omega) (by omega)
 have d3 : IntKind.wrap .i64 ((j:Int) + 8 - 3) = (j:Int) + 5 := k1 3 (by omega) (by omega)
 have d4 : IntKind.wrap .i64 ((j:Int) + 8 - 4) = (j:Int) + 4 := k1 4 (by omega) (by omega)
 have d5 : IntKind.wrap .i64 ((j:Int) + 8 - 5) = (j:Int) + 3 := k1 5 (by omega) (by omega)
 have d6 : IntKind.wrap .i64 ((j:Int) + 8 - 6) = (j:Int) + 2 := k1 6 (by omega) (by omega)
 have d7 : IntKind.wrap .i64 ((j:Int) + 8 - 7) = (j:Int) + 1 := k1 7 (by omega) (by omega)
 have d8 : IntKind.wrap .i64 ((j:Int) + 8 - 8) = (j:Int) := by rw [k1 8 (by omega) (by omega)]; omega
 have p7a : (0:Int) ≤ (j:Int) + 7 := by omega
 have p7b : (j:Int) + 7 < n := by omega
 have p7d : off + (j + 7) < cs.length := by omega
 have p6a : (0:Int) ≤ (j:Int) + 6 := by omega
 have p6b : (j:Int) + 6 < n := by omega
 have p6d : off + (j + 6) < cs.length := by omega
 have p5a : (0:Int) ≤ (j:Int) + 5 := by omega
 have p5b : (j:Int) + 5 < n := by omega
 have p5d : off + (j + 5) < cs.length := by omega
 have p4a : (0:Int) ≤ (j:Int) + 4 := by omega
 have p4b : (j:Int) + 4 < n := by omega
 have p4d : off + (j + 4) < cs.length := by omega
 have p3a : (0:Int) ≤ (j:Int) + 3 := by omega
 have p3b : (j:Int) + 3 < n := by omega
 have p3d : off + (j + 3) < cs.length := by omega
 have p2a : (0:Int) ≤ (j:Int) + 2 := by omega
 have p2b : (j:Int) + 2 < n := by omega
 have p2d : off + (j + 2) < cs.length := by omega
 have p1a : (0:Int) ≤ (j:Int) + 1 := by omega
 have p1b : (j:Int) + 1 < n := by omega
 have p1d : off + (j + 1) < cs.length := by omega
 have p7e : off + (j + 7) + 1 ≤ cs.length := by omega
 have p6e : off + (j + 6) + 1 ≤ cs.length := by omega
 have p5e : off + (j + 5) + 1 ≤ cs.length := by omega
 have p4e : off + (j + 4) + 1 ≤ cs.length := by omega
 have p3e : off + (j + 3) + 1 ≤ cs.length := by omega
 have p2e : off + (j + 2) + 1 ≤ cs.length := by omega
 have p1e : off + (j + 1) + 1 ≤ cs.length := by omega
 have p0e : off + j + 1 ≤ cs.length := by omega
 have p0b : (j:Int) < n := by omega
 have p0d : off + j < cs.length := by omega
 have hlo' : lo ≤ hp.length := hlo
 have d9 : IntKind.wrap .i64 (j:Int) = (j:Int) := wrap_small (by omega) (by omega)
 have p7c : ((j:Int) + 7).toNat = j + 7 := toNat_add j 7
 have p6c : ((j:Int) + 6).toNat = j + 6 := toNat_add j 6
 have p5c : ((j:Int) + 5).toNat = j + 5 := toNat_add j 5
 have p4c : ((j:Int) + 4).toNat = j + 4 := toNat_add j 4
 have p3c : ((j:Int) + 3).toNat = j + 3 := toNat_add j 3
 have p2c : ((j:Int) + 2).toNat = j + 2 := toNat_add j 2
 have p1c : ((j:Int) + 1).toNat = j + 1 := toNat_add j 1
 simp [-put,l_isc_formatBase10_0,i8,q1,q2,q3,q4,q5,q6,q7,q8,wr,ww,wa,w32,w32b,w32c,hb1,hb2,ha1,ha2,t1,t2,t3,t4,s1,s2,d1,d2,d3,d4,d5,d6,d7,d8,d9,p7a,p7b,p7c,p7d,p6a,p6b,p6c,p6d,p5a,p5b,p5c,p5d,p4a,p4b,p4c,p4d,p3a,p3b,p3c,p3d,p2a,p2b,p2c,p2d,p1a,p1b,p1c,p1d,p0b,p0d,hlo',put_set,p7e,p6e,p5e,p4e,p3e,p2e,p1e,p0e]
 simp only [set8,dg,Nat.add_assoc]
end
end Go.Proofs.YtkofimhnehkdoaaGreatDoor.Rf
end
