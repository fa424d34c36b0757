/- A part of the proof: see the last text. -/
import Derived.Test.YtkofimhnehkdoaaGreatDoorRqG17
import Derived.Test.YtkofimhnehkdoaaGreatDoorRqG16
set_option linter.unusedVariables false
set_option linter.unusedSimpArgs false
section
namespace Go.Proofs.YtkofimhnehkdoaaGreatDoor.Rf
section
variable {H:Type} {P:Program}
theorem HasTy.str {n:Nat} {t:TypeId} {cs:List AV} {d:DataW H} (hu:P.underlying t = some .string) (h:HasTy P n t cs d) : ∃ s,cs = [.str s] ∧ s.length ≤ 9223372036854775807 := by
 cases n with
 | zero => exact h.elim
 | succ n => simp only [HasTy,hu] at h; obtain ⟨m,h1,h2,_⟩ := h; exact ⟨m,h1,h2⟩
theorem HasTy.bool {n:Nat} {t:TypeId} {cs:List AV} {d:DataW H} (hu:P.underlying t = some .bool) (h:HasTy P n t cs d) : ∃ s,cs = [.bool s] := by
 cases n with
 | zero => exact h.elim
 | succ n => simp only [HasTy,hu] at h; obtain ⟨m,h1,h2⟩ := h; exact ⟨m,h1⟩
theorem HasTy.slice {α:Type} {n:Nat} {t e:TypeId} {cs:List AV} {d:DataW H} (f:α → AV) (w:α → Prop) (hu:P.underlying t = some (.slice e)) (h:HasTy P n t cs d)
   (he:∀ m,m < n → ∀ ds (d' : DataW H),HasTy P m e ds d' → ∃ x,elemAV P e ds = f x ∧ w x) :
   ∃ (o:Bool) (l:List α),cs = [.list (l.map f) (ownB o)] ∧ (o = true → l = []) ∧ l.length ≤ 9223372036854775807 ∧ ∀ x,x ∈ l → w x := by
 cases n with
 | zero => exact h.elim
 | succ n =>
   simp only [HasTy,hu] at h
   rcases h with ⟨rfl,_⟩ | ⟨xs,els,rest,rfl,_,h1,h2,h3⟩
   · exact ⟨true,[],rfl,fun _ => rfl,by simp,by simp⟩
   · have : ∀ (xs:List AV) (els:List (DataW H)),xs.length = els.length → (∀ (i:Nat) x d',xs[i]? = some x → els[i]? = some d' → ∃ ds,x = elemAV P e ds ∧ HasTy P n e ds d') → ∃ l : List α,xs = l.map f ∧ ∀ x,x ∈ l → w x := by
       intro xs
       induction xs with
       | nil => intro els _ _; exact ⟨[],rfl,by simp⟩
       | cons x xs ih =>
         intro els hl hh
         cases els with
         | nil => simp at hl
         | cons y els =>
           obtain ⟨ds,e1,e2⟩ := hh 0 x y rfl rfl
           obtain ⟨a,f1,f2⟩ := he n (by omega) ds y e2
           obtain ⟨l,l1,l2⟩ := ih els (by simpa using hl) fun i x d' a b => hh (i + 1) x d' (by simpa using a) (by simpa using b)
           exact ⟨a :: l,by simp [e1,f1,l1],fun z hz => by
             rcases List.mem_cons.1 hz with e | hz
             · rw [e]; exact f2
             · exact l2 z hz⟩
     obtain ⟨l,l1,l2⟩ := this xs els h1 h3
     subst l1
     have hm : maxLen = 9223372036854775807 := rfl
     rw [hm] at h2
     exact ⟨false,l,rfl,by simp,by simpa using h2,l2⟩
theorem HasTy.fields {n:Nat} {t:TypeId} {fs:Array Field} {cs:List AV} {d:DataW H} (hu:P.underlying t = some (.struct fs)) (h:HasTy P n t cs d) :
   ∃ parts : List (List AV),cs = parts.flatten ∧ parts.length = fs.size ∧ ∀ (i:Nat) f ds,fs[i]? = some f → parts[i]? = some ds → ∃ m,∃ d' : DataW H,m < n ∧ HasTy P m f.type ds d' := by
 cases n with
 | zero => exact h.elim
 | succ n =>
   simp only [HasTy,hu] at h
   obtain ⟨parts,els,rfl,_,h1,h2,h3⟩ := h
   refine ⟨parts,rfl,h1,fun i f ds a b => ?_⟩
   have : i < els.length := by rw [h2,← h1]; exact (List.getElem?_eq_some_iff.1 b).1
   exact ⟨n,els[i],by omega,h3 i f ds _ a b (List.getElem?_eq_getElem this)⟩
theorem HasTy.term {tt ts a b c e:TypeId} {fs:Array Field} (hu:P.underlying tt = some (.struct fs)) (hf:fs.toList.map Field.type = [a,b,c,e,ts])
   (ha:P.underlying a = some (.int .i64)) (hb:P.underlying b = some (.int .i64)) (hc:P.underlying c = some (.int .u64)) (he:P.underlying e = some .string) (hs:P.underlying ts = some (.slice tt)) :
   ∀ n cs (d:DataW H),HasTy P n tt cs d → ∃ t : T,cs = t.cells ∧ t.wf := by
 intro n
 induction n using Nat.strongRecOn with
 | _ n ih =>
   intro cs d h
   obtain ⟨parts,rfl,hl,hp⟩ := h.fields hu
   have hsz : fs.size = 5 := by have := congrArg List.length hf; simpa using this
   rw [hsz] at hl
   match parts,hl with
   | [p0,p1,p2,p3,p4],_ =>
     have g : ∀ (i:Nat) ds x,[p0,p1,p2,p3,p4][i]? = some ds → [a,b,c,e,ts][i]? = some x → ∃ m,∃ d' : DataW H,m < n ∧ HasTy P m x ds d' := by
       intro i ds x h1 h2
       rw [← hf] at h2
       simp only [List.getElem?_map,Array.getElem?_toList,Option.map_eq_some_iff] at h2
       obtain ⟨f,f1,f2⟩ := h2
       obtain ⟨m,d',m1,m2⟩ := hp i f ds f1 h1
       exact ⟨m,d',m1,f2 ▸ m2⟩
     obtain ⟨m0,d0,_,q0⟩ := g 0 _ _ rfl rfl
     obtain ⟨m1,d1,_,q1⟩ := g 1 _ _ rfl rfl
     obtain ⟨m2,d2,_,q2⟩ := g 2 _ _ rfl rfl
     obtain ⟨m3,d3,_,q3⟩ := g 3 _ _ rfl rfl
     obtain ⟨m4,d4,k4,q4⟩ := g 4 _ _ rfl rfl
     obtain ⟨x0,rfl,w0⟩ := q0.int ha
     obtain ⟨x1,rfl,w1⟩ := q1.int hb
     obtain ⟨x2,rfl,w2⟩ := q2.int hc
     obtain ⟨x3,rfl,w3⟩ := q3.str he
     obtain ⟨o,l,rfl,o1,l1,l2⟩ := q4.slice T.av T.wf hs fun m hm ds d' h => by
       obtain ⟨x,x1,x2⟩ := ih m (by omega) ds d' h
       exact ⟨x,by unfold elemAV aggTy; rw [hu,x1,T.av_eq]; rfl,x2⟩
     refine ⟨.mk x0 x1 x2 x3 o l,?_,?_⟩
     · simp [T.cells,T.op,T.width,T.val,T.name,T.o,T.args,T.avs_eq]
     · rw [T.wf_eq]; exact ⟨w0,w1,w2,w3,l1,o1,l2⟩
theorem ArgTy.term {tt ts a b c e:TypeId} {fs:Array Field} {v:AV} {d:DataW H} (hu:P.underlying tt = some (.struct fs)) (hf:fs.toList.map Field.type = [a,b,c,e,ts])
   (ha:P.underlying a = some (.int .i64)) (hb:P.underlying b = some (.int .i64)) (hc:P.underlying c = some (.int .u64)) (he:P.underlying e = some .string) (hs:P.underlying ts = some (.slice tt))
   (h:ArgTy P tt v d) : ∃ t : T,v = t.av ∧ t.wf := by
 obtain ⟨n,cs,rfl,h⟩ := h
 obtain ⟨x,x1,x2⟩ := HasTy.term hu hf ha hb hc he hs n cs d h
 exact ⟨x,by unfold elemAV aggTy; rw [hu,x1,T.av_eq]; rfl,x2⟩
theorem ArgTy.array {α:Type} {t e:TypeId} {m:Nat} {v:AV} {d:DataW H} (f:α → List AV) (w:α → Prop) (hu:P.underlying t = some (.array m e)) (h:ArgTy P t v d)
   (he:∀ n ds (d' : DataW H),HasTy P n e ds d' → ∃ x,ds = f x ∧ w x) : ∃ l : List α,l.length = m ∧ v = .agg (l.map f).flatten ∧ ∀ x,x ∈ l → w x := by
 obtain ⟨n,cs,rfl,h⟩ := h
 cases n with
 | zero => exact h.elim
 | succ n =>
   simp only [HasTy,hu] at h
   obtain ⟨parts,els,rfl,_,h1,h2,h3⟩ := h
   have : ∀ (xs:List (List AV)) (els:List (DataW H)),xs.length = els.length → (∀ (i:Nat) x d',xs[i]? = some x → els[i]? = some d' → HasTy P n e x d') → ∃ l : List α,xs = l.map f ∧ ∀ x,x ∈ l → w x := by
     intro xs
     induction xs with
     | nil => intro els _ _; exact ⟨[],rfl,by simp⟩
     | cons x xs ih =>
       intro els hl hh
       cases els with
       | nil => simp at hl
       | cons y els =>
         obtain ⟨a,f1,f2⟩ := he n x y (hh 0 x y rfl rfl)
         obtain ⟨l,l1,l2⟩ := ih els (by simpa using hl) fun i x d' a b => hh (i + 1) x d' (by simpa using a) (by simpa using b)
         exact ⟨a :: l,by simp [f1,l1],fun z hz => by
           rcases List.mem_cons.1 hz with e | hz
           · rw [e]; exact f2
           · exact l2 z hz⟩
   obtain ⟨l,l1,l2⟩ := this parts els (by omega) h3
   subst l1
   refine ⟨l,by simpa using h1,?_,l2⟩
   unfold elemAV aggTy; rw [hu]; rfl
end
end Go.Proofs.YtkofimhnehkdoaaGreatDoor.Rf
end
section
namespace Go.Proofs.YtkofimhnehkdoaaGreatDoor.Rf
structure Sb where
 name : List UInt8
 t : T
structure St7 where
 kind : Int
 ro : Bool
 refs : List Int
 rule : Int
 so : Bool
 subs : List Sb
 a : T
 b : T
abbrev Sb.cells (s:Sb) : List AV := .str s.name :: s.t.cells
def Sb.av (s:Sb) : AV := .agg s.cells
theorem Sb.av_eq (s:Sb) : s.av = .agg [.str s.name,.int .i64 s.t.op,.int .i64 s.t.width,.int .u64 s.t.val,.str s.t.name,.list (T.avs s.t.args) (ownB s.t.o)] := rfl
def sbs (l:List Sb) : List AV := l.map Sb.av
def i64s (l:List Int) : List AV := l.map (AV.int .i64)
@[simp] theorem sbs_len (l:List Sb) : (sbs l).length = l.length := by simp [sbs]
@[simp] theorem i64s_len (l:List Int) : (i64s l).length = l.length := by simp [i64s]
@[simp] theorem sbs_getElem {l:List Sb} {i:Nat} (h:i < (sbs l).length) : (sbs l)[i] = (l[i]'(by simpa using h)).av := by simp [sbs]
@[simp] theorem i64s_getElem {l:List Int} {i:Nat} (h:i < (i64s l).length) : (i64s l)[i] = .int .i64 (l[i]'(by simpa using h)) := by simp [i64s]
abbrev St7.cells (s:St7) : List AV := [.int .i64 s.kind,.list (i64s s.refs) (ownB s.ro),.int .i64 s.rule,.list (sbs s.subs) (ownB s.so),
 .int .i64 s.a.op,.int .i64 s.a.width,.int .u64 s.a.val,.str s.a.name,.list (T.avs s.a.args) (ownB s.a.o),
 .int .i64 s.b.op,.int .i64 s.b.width,.int .u64 s.b.val,.str s.b.name,.list (T.avs s.b.args) (ownB s.b.o)]
def St7.av (s:St7) : AV := .agg s.cells
def St7.avs (l:List St7) : List AV := l.map St7.av
@[simp] theorem St7.avs_len (l:List St7) : (St7.avs l).length = l.length := by simp [St7.avs]
@[simp] theorem St7.avs_getElem {l:List St7} {i:Nat} (h:i < (St7.avs l).length) : (St7.avs l)[i] = (l[i]'(by simpa using h)).av := by simp [St7.avs]
def Sb.wf (s:Sb) : Prop := s.name.length ≤ 9223372036854775807 ∧ s.t.wf
def St7.wf (s:St7) : Prop := (Lit.int .i64 s.kind).wf = true ∧ (∀ x,x ∈ s.refs → (Lit.int .i64 x).wf = true) ∧ s.refs.length ≤ 9223372036854775807 ∧ (Lit.int .i64 s.rule).wf = true ∧ (∀ x,x ∈ s.subs → x.wf) ∧ s.subs.length ≤ 9223372036854775807 ∧ s.a.wf ∧ s.b.wf
section
variable {H:Type} {P:Program}
theorem HasTy.two {n:Nat} {t a b:TypeId} {fs:Array Field} {cs:List AV} {d:DataW H} (hu:P.underlying t = some (.struct fs)) (hf:fs.toList.map Field.type = [a,b]) (h:HasTy P n t cs d) :
   ∃ p q : List AV,cs = p ++ q ∧ (∃ m,∃ d' : DataW H,m < n ∧ HasTy P m a p d') ∧ (∃ m,∃ d' : DataW H,m < n ∧ HasTy P m b q d') := by
 obtain ⟨parts,rfl,hl,hp⟩ := h.fields hu
 have hsz : fs.size = 2 := by have := congrArg List.length hf; simpa using this
 rw [hsz] at hl
 match parts,hl with
 | [p0,p1],_ =>
   have g : ∀ (i:Nat) ds x,[p0,p1][i]? = some ds → [a,b][i]? = some x → ∃ m,∃ d' : DataW H,m < n ∧ HasTy P m x ds d' := by
     intro i ds x h1 h2
     rw [← hf] at h2
     simp only [List.getElem?_map,Array.getElem?_toList,Option.map_eq_some_iff] at h2
     obtain ⟨f,f1,f2⟩ := h2
     obtain ⟨m,d',m1,m2⟩ := hp i f ds f1 h1
     exact ⟨m,d',m1,f2 ▸ m2⟩
   exact ⟨p0,p1,by simp,g 0 _ _ rfl rfl,g 1 _ _ rfl rfl⟩
theorem HasTy.six {n:Nat} {t a b c e f g:TypeId} {fs:Array Field} {cs:List AV} {d:DataW H} (hu:P.underlying t = some (.struct fs)) (hf:fs.toList.map Field.type = [a,b,c,e,f,g]) (h:HasTy P n t cs d) :
   ∃ p0 p1 p2 p3 p4 p5 : List AV,cs = p0 ++ (p1 ++ (p2 ++ (p3 ++ (p4 ++ p5)))) ∧ (∃ m,∃ d' : DataW H,m < n ∧ HasTy P m a p0 d') ∧ (∃ m,∃ d' : DataW H,m < n ∧ HasTy P m b p1 d') ∧ (∃ m,∃ d' : DataW H,m < n ∧ HasTy P m c p2 d') ∧
     (∃ m,∃ d' : DataW H,m < n ∧ HasTy P m e p3 d') ∧ (∃ m,∃ d' : DataW H,m < n ∧ HasTy P m f p4 d') ∧ (∃ m,∃ d' : DataW H,m < n ∧ HasTy P m g p5 d') := by
 obtain ⟨parts,rfl,hl,hp⟩ := h.fields hu
 have hsz : fs.size = 6 := by have := congrArg List.length hf; simpa using this
 rw [hsz] at hl
 match parts,hl with
 | [p0,p1,p2,p3,p4,p5],_ =>
   have k : ∀ (i:Nat) ds x,[p0,p1,p2,p3,p4,p5][i]? = some ds → [a,b,c,e,f,g][i]? = some x → ∃ m,∃ d' : DataW H,m < n ∧ HasTy P m x ds d' := by
     intro i ds x h1 h2
     rw [← hf] at h2
     simp only [List.getElem?_map,Array.getElem?_toList,Option.map_eq_some_iff] at h2
     obtain ⟨f,f1,f2⟩ := h2
     obtain ⟨m,d',m1,m2⟩ := hp i f ds f1 h1
     exact ⟨m,d',m1,f2 ▸ m2⟩
   exact ⟨p0,p1,p2,p3,p4,p5,by simp,k 0 _ _ rfl rfl,k 1 _ _ rfl rfl,k 2 _ _ rfl rfl,k 3 _ _ rfl rfl,k 4 _ _ rfl rfl,k 5 _ _ rfl rfl⟩
theorem HasTy.sub {st a b:TypeId} {fs:Array Field} (hT:∀ n cs (d:DataW H),HasTy P n b cs d → ∃ t : T,cs = t.cells ∧ t.wf) (hu:P.underlying st = some (.struct fs)) (hf:fs.toList.map Field.type = [a,b]) (ha:P.underlying a = some .string)
   {n:Nat} {cs:List AV} {d:DataW H} (h:HasTy P n st cs d) : ∃ s : Sb,cs = s.cells ∧ s.wf := by
 obtain ⟨p,q,rfl,⟨m0,d0,_,q0⟩,⟨m1,d1,_,q1⟩⟩ := h.two hu hf
 obtain ⟨x0,rfl,w0⟩ := q0.str ha
 obtain ⟨t,rfl,w1⟩ := hT _ _ _ q1
 exact ⟨⟨x0,t⟩,rfl,w0,w1⟩
theorem HasTy.step {tt ti tl ts te st:TypeId} {fs gs:Array Field} {tn:TypeId} (hT:∀ n cs (d:DataW H),HasTy P n te cs d → ∃ t : T,cs = t.cells ∧ t.wf)
   (hu:P.underlying tt = some (.struct fs)) (hf:fs.toList.map Field.type = [ti,tl,ti,ts,te,te]) (hi:P.underlying ti = some (.int .i64)) (hl:P.underlying tl = some (.slice ti)) (hs:P.underlying ts = some (.slice st))
   (hv:P.underlying st = some (.struct gs)) (hg:gs.toList.map Field.type = [tn,te]) (hn:P.underlying tn = some .string)
   {n:Nat} {cs:List AV} {d:DataW H} (h:HasTy P n tt cs d) : ∃ s : St7,cs = s.cells ∧ s.wf := by
 obtain ⟨p0,p1,p2,p3,p4,p5,rfl,⟨_,_,_,q0⟩,⟨_,_,_,q1⟩,⟨_,_,_,q2⟩,⟨_,_,_,q3⟩,⟨_,_,_,q4⟩,⟨_,_,_,q5⟩⟩ := h.six hu hf
 obtain ⟨x0,rfl,w0⟩ := q0.int hi
 obtain ⟨o1,l1,rfl,_,b1,w1⟩ := q1.slice (AV.int .i64) (fun x => (Lit.int .i64 x).wf = true) hl fun m hm ds d' h => by
   obtain ⟨x,rfl,hx⟩ := h.int hi
   exact ⟨x,by unfold elemAV aggTy; rw [hi]; rfl,hx⟩
 obtain ⟨x2,rfl,w2⟩ := q2.int hi
 obtain ⟨o3,l3,rfl,_,b3,w3⟩ := q3.slice Sb.av Sb.wf hs fun m hm ds d' h => by
   obtain ⟨x,rfl,hx⟩ := HasTy.sub hT hv hg hn h
   exact ⟨x,by unfold elemAV aggTy; rw [hv]; rfl,hx⟩
 obtain ⟨t4,rfl,w4⟩ := hT _ _ _ q4
 obtain ⟨t5,rfl,w5⟩ := hT _ _ _ q5
 exact ⟨⟨x0,o1,l1,x2,o3,l3,t4,t5⟩,rfl,w0,w1,b1,w2,w3,b3,w4,w5⟩
end
end Go.Proofs.YtkofimhnehkdoaaGreatDoor.Rf
end
section
namespace Go.Proofs.YtkofimhnehkdoaaGreatDoor.Rf
def kdN : List (List UInt8) := [[],[114,101,102,108],[115,121,109],[116,114,97,110,115],[99,111,110,103],[114,117,108,101],[102,111,108,100],[116,111,112],[110,111,100,101],[109,101,101,116],[109,111,118,101],[115,105,110,103,108,101],[103,105,118,101,110]]
def kindE (k:Int) : List UInt8 := if k < 1 ∨ 12 < k then [] else kdN.getD k.toNat []
theorem kind_cases {k:Int} (h:¬ (k < 1 ∨ 12 < k)) : k = 1 ∨ k = 2 ∨ k = 3 ∨ k = 4 ∨ k = 5 ∨ k = 6 ∨ k = 7 ∨ k = 8 ∨ k = 9 ∨ k = 10 ∨ k = 11 ∨ k = 12 := by omega
section
variable {hp:List HObj} {lo:Nat}
theorem kind_D (k:Int) (hp:List HObj) (lo:Nat) (q:Bool) : callD G0 IP n_proof_Kind [.int .i64 k] hp lo q = some (.ret (.str (kindE k)) hp) := by
 rw [callD_eq]
 by_cases h1 : k < 1
 · simp [IP_proof_Kind,i_proof_Kind,h1,kindE]
 · by_cases h2 : 12 < k
   · simp [IP_proof_Kind,i_proof_Kind,h1,h2,kindE]
   · rcases kind_cases (k := k) (by omega) with rfl | rfl | rfl | rfl | rfl | rfl | rfl | rfl | rfl | rfl | rfl | rfl
     all_goals simp [IP_proof_Kind,i_proof_Kind,kindE,kdN,G0_1,g_1]
end
end Go.Proofs.YtkofimhnehkdoaaGreatDoor.Rf
end
section
namespace Go.Proofs.YtkofimhnehkdoaaGreatDoor.Rf
def dig (n:Nat) : UInt8 := UInt8.ofNat (48 + n)
theorem dig_toNat {n:Nat} (h:n < 10) : (dig n).toNat = 48 + n := by
 unfold dig; rw [UInt8.toNat_ofNat']; omega
def dec (n:Nat) : List UInt8 := if n < 10 then [dig n] else dec (n / 10) ++ [dig (n % 10)]
termination_by n
decreasing_by omega
theorem dec_small {n:Nat} (h:n < 10) : dec n = [dig n] := by rw [dec,if_pos h]
theorem dec_big {n:Nat} (h:10 ≤ n) : dec n = dec (n / 10) ++ [dig (n % 10)] := by rw [dec,if_neg (by omega)]
theorem dec_ne (n:Nat) : dec n ≠ [] := by
 by_cases h : n < 10
 · rw [dec_small h]; simp
 · rw [dec_big (by omega)]; simp
theorem dec_len (k:Nat) : ∀ n,n < 10 ^ (k + 1) → (dec n).length ≤ k + 1 := by
 induction k with
 | zero => intro n h; rw [dec_small (by omega)]; simp
 | succ k ih =>
   intro n h
   by_cases h1 : n < 10
   · rw [dec_small h1]; simp
   · rw [dec_big (by omega),List.length_append]
     have := ih (n / 10) (by rw [Nat.pow_succ] at h; omega)
     simp; omega
theorem dec_len20 {n:Nat} (h:n < 18446744073709551616) : (dec n).length ≤ 20 := dec_len 19 n (by omega)
def isDig (c:UInt8) : Bool := decide (48 ≤ c.toNat) && decide (c.toNat ≤ 57)
theorem isDig_dig {n:Nat} (h:n < 10) : isDig (dig n) = true := by simp [isDig,dig_toNat h]; omega
theorem dec_digs (n:Nat) : ∀ c,c ∈ dec n → isDig c = true := by
 induction n using Nat.strongRecOn with
 | _ n ih =>
   intro c hc
   by_cases h : n < 10
   · rw [dec_small h] at hc; simp at hc; subst hc; exact isDig_dig h
   · rw [dec_big (by omega),List.mem_append] at hc
     rcases hc with hc | hc
     · exact ih (n / 10) (by omega) c hc
     · simp at hc; subst hc; exact isDig_dig (by omega)
def digVal (s:List UInt8) : Nat := s.foldl (fun v c => 10 * v + (c.toNat - 48)) 0
theorem digVal_snoc (s:List UInt8) (c:UInt8) : digVal (s ++ [c]) = 10 * digVal s + (c.toNat - 48) := by simp [digVal,List.foldl_append]
theorem digVal_dec (n:Nat) : digVal (dec n) = n := by
 induction n using Nat.strongRecOn with
 | _ n ih =>
   by_cases h : n < 10
   · rw [dec_small h]; simp [digVal,dig_toNat h]
   · rw [dec_big (by omega),digVal_snoc,ih (n / 10) (by omega),dig_toNat (by omega)]; omega
def numOk (s:List UInt8) : Bool := !s.isEmpty && (!(decide (1 < s.length) && (s.head? == some 48)) && s.all isDig)
theorem dec_head {n:Nat} (h:0 < n) : (dec n).head? ≠ some 48 := by
 induction n using Nat.strongRecOn with
 | _ n ih =>
   by_cases h1 : n < 10
   · rw [dec_small h1]; simp; intro e
     have := congrArg UInt8.toNat e
     rw [dig_toNat h1] at this; simp at this; omega
   · rw [dec_big (by omega)]
     have := ih (n / 10) (by omega) (by omega)
     cases hd : dec (n / 10) with
     | nil => exact absurd hd (dec_ne _)
     | cons a r => rw [hd] at this; simpa using this
theorem numOk_dec (n:Nat) : numOk (dec n) = true := by
 unfold numOk
 have h1 : (dec n).isEmpty = false := by
   cases h : dec n with
   | nil => exact absurd h (dec_ne n)
   | cons a r => rfl
 have h2 : (dec n).all isDig = true := List.all_eq_true.2 (dec_digs n)
 rw [h1,h2]
 by_cases h : 0 < n
 · have := dec_head h
   simp [this]
 · have : n = 0 := by omega
   subst this; rw [dec_small (by omega)]; simp
def numE (s:List UInt8) : Int × Int := if numOk s = false then (0,6) else if 18446744073709551616 ≤ digVal s then (0,2) else (digVal s,0)
theorem numE_dec {n:Nat} (h:n < 18446744073709551616) : numE (dec n) = ((n:Int),0) := by
 unfold numE; rw [if_neg (by rw [numOk_dec]; simp),digVal_dec,if_neg (by omega)]
theorem dec_digVal {s:List UInt8} (h:numOk s = true) : dec (digVal s) = s := by
 simp only [numOk,Bool.and_eq_true,Bool.not_eq_true',List.all_eq_true] at h
 obtain ⟨h1,h2,h3⟩ := h
 have key : ∀ (r:List UInt8) (a:UInt8),isDig a = true → a ≠ 48 → (∀ c,c ∈ r → isDig c = true) → dec (digVal (a :: r)) = a :: r ∧ 0 < digVal (a :: r) := by
   intro r
   induction hr : r.length generalizing r with
   | zero =>
     intro a ha hn _
     have : r = [] := List.length_eq_zero_iff.1 hr
     subst this
     simp [isDig] at ha
     have h0 : a.toNat ≠ 48 := fun e => hn (UInt8.toNat_inj.1 (by simpa using e))
     have hv : digVal [a] = a.toNat - 48 := by simp [digVal]
     rw [hv,dec_small (by omega)]
     refine ⟨?_,by omega⟩
     congr 1
     apply UInt8.toNat_inj.1; rw [dig_toNat (by omega)]; omega
   | succ n ih =>
     intro a ha hn hd
     have hne : r ≠ [] := by intro e; subst e; simp at hr
     obtain ⟨q,c,rfl⟩ : ∃ q c,r = q ++ [c] := ⟨r.dropLast,r.getLast hne,(List.dropLast_concat_getLast hne).symm⟩
     obtain ⟨i1,i2⟩ := ih q (by simp at hr; omega) a ha hn (fun c hc => hd c (by simp [hc]))
     have hc := hd c (by simp)
     simp [isDig] at hc
     have hv : digVal (a :: (q ++ [c])) = 10 * digVal (a :: q) + (c.toNat - 48) := by rw [← List.cons_append,digVal_snoc]
     rw [hv,dec_big (by omega)]
     refine ⟨?_,by omega⟩
     rw [show (10 * digVal (a :: q) + (c.toNat - 48)) / 10 = digVal (a :: q) by omega,i1,show (10 * digVal (a :: q) + (c.toNat - 48)) % 10 = c.toNat - 48 by omega]
     have : dig (c.toNat - 48) = c := by apply UInt8.toNat_inj.1; rw [dig_toNat (by omega)]; omega
     rw [this]; simp
 cases s with
 | nil => simp at h1
 | cons a r =>
   by_cases ha : a = 48
   · subst ha
     have : r = [] := by
       cases r with
       | nil => rfl
       | cons b r => simp at h2
     subst this
     simp [digVal]; rw [dec_small (by omega)]; rfl
   · exact (key r a (h3 a (by simp)) ha (fun c hc => h3 c (by simp [hc]))).1
end Go.Proofs.YtkofimhnehkdoaaGreatDoor.Rf
end
section
namespace Go.Proofs.YtkofimhnehkdoaaGreatDoor.Rf
section
variable {hp:List HObj} {lo:Nat} (q:Bool)
def hasPre (s p:List UInt8) : Bool := decide (p.length ≤ s.length) && decide (s.take p.length = p)
theorem hasPreL_D (s p:List UInt8) : callD G0 IP n_isl_HasPrefix [.str s,.str p] hp lo q = some (.ret (.bool (hasPre s p)) hp) := by
 rw [callD_eq]
 by_cases h : p.length ≤ s.length
 · have h1 : (p.length : Int) ≤ (s.length : Int) := by omega
   simp [IP_isl_HasPrefix,i_isl_HasPrefix,h,h1,hasPre]
 · have h1 : ¬ (p.length : Int) ≤ (s.length : Int) := by omega
   simp [IP_isl_HasPrefix,i_isl_HasPrefix,h,h1,hasPre]
theorem hasPre_D (s p:List UInt8) : callD G0 IP n_ss_HasPrefix [.str s,.str p] hp lo q = some (.ret (.bool (hasPre s p)) hp) := by
 rw [callD_eq]
 simp [IP_ss_HasPrefix,i_ss_HasPrefix,hasPreL_D]
theorem cutPreL_D (s p:List UInt8) : callD G0 IP n_isl_CutPrefix [.str s,.str p] hp lo q = some (.ret (.tup [.str (if hasPre s p then s.drop p.length else s),.bool (hasPre s p)]) hp) := by
 rw [callD_eq]
 cases h : hasPre s p with
 | true =>
   have h1 : p.length ≤ s.length := by simp [hasPre] at h; exact h.1
   simp [IP_isl_CutPrefix,i_isl_CutPrefix,hasPreL_D,h,h1]
 | false => simp [IP_isl_CutPrefix,i_isl_CutPrefix,hasPreL_D,h]
theorem cutPre_D (s p:List UInt8) : callD G0 IP n_ss_CutPrefix [.str s,.str p] hp lo q = some (.ret (.tup [.str (if hasPre s p then s.drop p.length else s),.bool (hasPre s p)]) hp) := by
 rw [callD_eq]
 simp [IP_ss_CutPrefix,i_ss_CutPrefix,cutPreL_D]
theorem idxBL_D (s:List UInt8) (n:Int) : callD G0 IP n_isl_IndexByte [.str s,.int .u8 n] hp lo q = some (.ret (.int .i64 (idxB s (UInt8.ofNat n.toNat))) hp) := by
 rw [callD_eq]
 simp [IP_isl_IndexByte,i_isl_IndexByte]
theorem idxB_D (s:List UInt8) (n:Int) : callD G0 IP n_ss_IndexByte [.str s,.int .u8 n] hp lo q = some (.ret (.int .i64 (idxB s (UInt8.ofNat n.toNat))) hp) := by
 rw [callD_eq]
 simp [IP_ss_IndexByte,i_ss_IndexByte,idxBL_D]
theorem idxB_ge : ∀ (s:List UInt8) (c:UInt8),-1 ≤ idxB s c ∧ idxB s c < s.length
 | [],c => by simp [idxB]
 | b :: l,c => by
   have := idxB_ge l c
   simp only [idxB]
   split
   · simp
   · split
     · simp; omega
     · rename_i h; simp at h; simp; omega
theorem idxB_mem : ∀ (s:List UInt8) (c:UInt8),(0 ≤ idxB s c ↔ c ∈ s)
 | [],c => by simp [idxB]
 | b :: l,c => by
   have ih := idxB_mem l c
   have hg := idxB_ge l c
   simp only [idxB,List.mem_cons]
   by_cases h : b = c
   · subst h; simp
   · have h' : ¬ c = b := fun e => h e.symm
     simp only [show (b == c) = false by simp [h],Bool.false_eq_true,if_false,h',false_or]
     split
     · rename_i h2; simp at h2; rw [← ih]; omega
     · rename_i h2; simp at h2; rw [← ih]; omega
theorem index1_D (s:List UInt8) (c:UInt8) : callD G0 IP n_isl_Index [.str s,.str [c]] hp lo q = some (.ret (.int .i64 (idxB s c)) hp) := by
 rw [callD_eq]
 by_cases h : [c] = s
 · subst h
   simp [IP_isl_Index,i_isl_Index,idxB]
 · simp [IP_isl_Index,i_isl_Index,h,idxBL_D]
def cutB (s:List UInt8) (c:UInt8) : List UInt8 × List UInt8 × Bool := if 0 ≤ idxB s c then (s.take (idxB s c).toNat,s.drop ((idxB s c).toNat + 1),true) else (s,[],false)
theorem cut1L_D (s:List UInt8) (hs:s.length ≤ 9223372036854775806) (c:UInt8) : callD G0 IP n_isl_Cut [.str s,.str [c]] hp lo q = some (.ret (.tup [.str (cutB s c).1,.str (cutB s c).2.1,.bool (cutB s c).2.2]) hp) := by
 rw [callD_eq]
 have hg := idxB_ge s c
 by_cases h : 0 ≤ idxB s c
 · have hw : IntKind.wrap .i64 (idxB s c + 1) = idxB s c + 1 := wrap_small (by omega) (by omega)
   have h1 : (idxB s c).toNat ≤ s.length := by omega
   have h2 : (idxB s c + 1).toNat = (idxB s c).toNat + 1 := by omega
   have h3 : (idxB s c).toNat + 1 ≤ s.length := by omega
   have h4 : 0 ≤ idxB s c + 1 := by omega
   simp [IP_isl_Cut,i_isl_Cut,index1_D,h,hw,h1,h2,h3,h4,cutB]
 · simp [IP_isl_Cut,i_isl_Cut,index1_D,h,cutB]
theorem cut1_D (s:List UInt8) (hs:s.length ≤ 9223372036854775806) (c:UInt8) : callD G0 IP n_ss_Cut [.str s,.str [c]] hp lo q = some (.ret (.tup [.str (cutB s c).1,.str (cutB s c).2.1,.bool (cutB s c).2.2]) hp) := by
 rw [callD_eq]
 have e := fun hp lo q => cut1L_D (hp := hp) (lo := lo) q s hs c
 simp [IP_ss_Cut,i_ss_Cut,e]
end
end Go.Proofs.YtkofimhnehkdoaaGreatDoor.Rf
end
section
namespace Go.Proofs.YtkofimhnehkdoaaGreatDoor.Rf
theorem wrapU (n:Int) : IntKind.wrap .u64 n = n % 18446744073709551616 := by
 simp [IntKind.wrap,IntKind.signed,IntKind.bits]
theorem wrapU_small {n:Int} (h0:0 ≤ n) (h1:n < 18446744073709551616) : IntKind.wrap .u64 n = n := by rw [wrapU]; omega
theorem wrap8_small {n:Int} (h0:0 ≤ n) (h1:n < 256) : IntKind.wrap .u8 n = n := by
 simp [IntKind.wrap,IntKind.signed,IntKind.bits]; omega
theorem idxB_decs (c:UInt8) : (idxB [48,49,50,51,52,53,54,55,56,57] c < 0) ↔ isDig c = false := by
 have h := idxB_mem [48,49,50,51,52,53,54,55,56,57] c
 have h2 : c ∈ ([48,49,50,51,52,53,54,55,56,57] : List UInt8) ↔ isDig c = true := by
   simp only [List.mem_cons,List.not_mem_nil,or_false,isDig,Bool.and_eq_true,decide_eq_true_eq,← UInt8.toNat_inj]
   have := c.toNat_lt
   simp
   omega
 rw [h2] at h
 cases hd : isDig c with
 | true => rw [hd] at h; simp at h ⊢; omega
 | false => rw [hd] at h; simp at h ⊢; omega
theorem any_range_isDig (s:List UInt8) : ((List.range s.length).any fun i => !isDig (s.getD i 0)) = !s.all isDig := by
 induction s with
 | nil => rfl
 | cons c r ih =>
   rw [List.length_cons,List.range_succ_eq_map]
   simp [List.any_map,Function.comp_def] at ih ⊢
   rw [ih]
section
variable {hp:List HObj} {lo:Nat} (q:Bool)
theorem numeral_D (s:List UInt8) (hs:s.length ≤ 9223372036854775807) : callD G0 IP n_digits_numeral [.str s,.str [48,49,50,51,52,53,54,55,56,57]] hp lo q = some (.ret (.bool (numOk s)) hp) := by
 rw [callD_eq]
 cases s with
 | nil => simp [IP_digits_numeral,i_digits_numeral,numOk]
 | cons a r =>
   generalize hse : a :: r = s at *
   have hne : s ≠ [] := by rw [← hse]; simp
   have h0 : s[0]? = some a := by rw [← hse]; rfl
   have hloop := loop_find (G := G0) (IP := IP) (lo := hp.length) (b := l_digits_numeral_0)
     (fun i => ⟨[(0,.str s),(1,.str [48,49,50,51,52,53,54,55,56,57]),(19,.int .i64 s.length),(20,.int .i64 i)],hp⟩) s.length (fun i => !isDig (s.getD i 0))
     (.ret,⟨[(4,.bool false)],hp⟩) (.exit 0,⟨[(0,.str s),(1,.str [48,49,50,51,52,53,54,55,56,57]),(19,.int .i64 s.length),(20,.int .i64 s.length),(21,.bool false)],hp⟩)
     (fun i hi hp => by
       have hw := wrap_succ hi hs
       have hd : ¬ idxB [48,49,50,51,52,53,54,55,56,57] s[i] < 0 := by rw [idxB_decs]; simp [List.getD,hi] at hp; simp [hp]
       rw [← hw]
       simp [l_digits_numeral_0,hi,idxB_D,hd])
     (fun i hi hp => by
       have hd : idxB [48,49,50,51,52,53,54,55,56,57] s[i] < 0 := by rw [idxB_decs]; simp [List.getD,hi] at hp; simp [hp]
       simp [l_digits_numeral_0,hi,idxB_D,hd])
     (by simp) (by simp [l_digits_numeral_0]) (by simp)
   rw [any_range_isDig] at hloop
   simp only [Int.natCast_zero] at hloop
   have hh : s.head? = some a := by rw [← hse]; rfl
   have hemp : s.isEmpty = false := by rw [← hse]; rfl
   by_cases hl : (1:Int) < (s.length : Int)
   · have hl' : 1 < s.length := by omega
     by_cases ha : a = 48
     · subst ha
       simp [IP_digits_numeral,i_digits_numeral,numOk,hne,h0,hl,hl',hh,hemp]
     · have ha' : ¬ (a.toNat : Int) = 48 := by intro e; apply ha; apply UInt8.toNat_inj.1; simp; omega
       cases hd : s.all isDig with
       | true => simp [IP_digits_numeral,i_digits_numeral,numOk,hne,h0,hl,hl',hh,ha,ha',hloop,hd,hemp]
       | false => simp [IP_digits_numeral,i_digits_numeral,numOk,hne,h0,hl,hl',hh,ha,ha',hloop,hd,hemp]
   · have hl' : ¬ 1 < s.length := by omega
     cases hd : s.all isDig with
     | true => simp [IP_digits_numeral,i_digits_numeral,numOk,hne,h0,hl,hl',hh,hloop,hd,hemp]
     | false => simp [IP_digits_numeral,i_digits_numeral,numOk,hne,h0,hl,hl',hh,hloop,hd,hemp]
theorem digVal_take {s:List UInt8} {i:Nat} (h:i < s.length) : digVal (s.take (i + 1)) = 10 * digVal (s.take i) + (s[i].toNat - 48) := by
 rw [List.take_succ_eq_append_getElem h,digVal_snoc]
def pU (s:List UInt8) : AV := if 18446744073709551616 ≤ digVal s then .tup [.int .u64 18446744073709551615,.iface 211 (.int .i64 1)] else .tup [.int .u64 (digVal s),.nili]
theorem digVal_le {s:List UInt8} {i:Nat} (h:i ≤ s.length) : digVal (s.take i) ≤ digVal s := by
 have key : ∀ (k:Nat),i + k ≤ s.length → digVal (s.take i) ≤ digVal (s.take (i + k)) := by
   intro k
   induction k with
   | zero => intro _; exact Nat.le_refl _
   | succ k ih =>
     intro hk
     have := ih (by omega)
     rw [← Nat.add_assoc,digVal_take (by omega)]; omega
 have := key (s.length - i) (by omega)
 rwa [show i + (s.length - i) = s.length by omega,List.take_length] at this
theorem any_over (s:List UInt8) : ((List.range s.length).any fun i => decide (18446744073709551616 ≤ digVal (s.take (i + 1)))) = decide (18446744073709551616 ≤ digVal s) := by
 rw [Bool.eq_iff_iff]
 simp only [List.any_eq_true,List.mem_range,decide_eq_true_eq]
 constructor
 · rintro ⟨i,hi,h⟩; exact Nat.le_trans h (digVal_le (by omega))
 · intro h
   have hl : s.length ≠ 0 := by
     intro e
     have : s = [] := List.length_eq_zero_iff.1 e
     have h2 : digVal s = 0 := by subst this; rfl
     omega
   exact ⟨s.length - 1,by omega,by rwa [show s.length - 1 + 1 = s.length by omega,List.take_length]⟩
theorem parseUintI_D (s:List UInt8) (hs:s.length ≤ 140737488355328) (h0:s ≠ []) (hd:s.all isDig = true) : callD G0 IP n_isc_ParseUint [.str s,.int .i64 10,.int .i64 64] hp lo false = some (.ret (pU s) hp) := by
 rw [callD_eq]
 have hc : ∀ i (h:i < s.length),48 ≤ s[i].toNat ∧ s[i].toNat ≤ 57 := fun i h => by
   have := List.all_eq_true.1 hd s[i] (List.getElem_mem h)
   simpa [isDig] using this
 have hloop := loop_find (G := G0) (IP := IP) (lo := lo) (b := l_isc_ParseUint_0)
   (fun i => ⟨[(1,.int .i64 10),(8,.bool false),(9,.str s),(10,.int .u64 1844674407370955162),(11,.int .u64 18446744073709551615),(12,.bool false),(13,.int .u64 (digVal (s.take i))),(99,.list (s.map fun b => .int .u8 b.toNat) .no),(100,.int .i64 s.length),(101,.int .i64 i)],hp⟩)
   s.length (fun i => decide (18446744073709551616 ≤ digVal (s.take (i + 1))))
   (.ret,⟨[(6,.int .u64 18446744073709551615),(7,.iface 211 (.int .i64 1))],hp⟩)
   (.exit 3,⟨[(1,.int .i64 10),(8,.bool false),(9,.str s),(10,.int .u64 1844674407370955162),(11,.int .u64 18446744073709551615),(12,.bool false),(13,.int .u64 (digVal s)),(99,.list (s.map fun b => .int .u8 b.toNat) .no),(100,.int .i64 s.length),(101,.int .i64 s.length),(102,.bool false)],hp⟩)
   (fun i hi hp => by
     have hw := wrap_succ hi (by omega)
     obtain ⟨c1,c2⟩ := hc i hi
     simp only [decide_eq_false_iff_not] at hp
     have ht := digVal_take hi
     rw [ht] at hp
     have e1 : ¬ ((s[i].toNat : Int) = 95) := by omega
     have e2 : (48:Int) ≤ (s[i].toNat : Int) := by omega
     have e3 : (s[i].toNat : Int) ≤ 57 := by omega
     have e4 : IntKind.wrap .u8 ((s[i].toNat : Int) - 48) = ((s[i].toNat - 48 : Nat) : Int) := by rw [wrap8_small (by omega) (by omega)]; omega
     have e5 : ¬ (10:Int) ≤ ((s[i].toNat - 48 : Nat) : Int) := by omega
     have e6 : ¬ (1844674407370955162:Int) ≤ (digVal (s.take i) : Int) := by omega
     have e7 : IntKind.wrap .u64 ((digVal (s.take i) : Int) * 10) = ((10 * digVal (s.take i) : Nat) : Int) := by rw [wrapU_small (by omega) (by omega)]; omega
     have e8 : IntKind.wrap .u64 ((s[i].toNat - 48 : Nat) : Int) = ((s[i].toNat - 48 : Nat) : Int) := wrapU_small (by omega) (by omega)
     have e9 : IntKind.wrap .u64 (((10 * digVal (s.take i) : Nat) : Int) + ((s[i].toNat - 48 : Nat) : Int)) = ((10 * digVal (s.take i) + (s[i].toNat - 48) : Nat) : Int) := by rw [wrapU_small (by omega) (by omega)]; omega
     have e10 : ¬ ((10 * digVal (s.take i) + (s[i].toNat - 48) : Nat) : Int) < ((10 * digVal (s.take i) : Nat) : Int) := by omega
     have e11 : ¬ ((10 * digVal (s.take i) + (s[i].toNat - 48) : Nat) : Int) > 18446744073709551615 := by omega
     rw [← hw,ht]
     generalize ((10 * digVal (s.take i) + (s[i].toNat - 48) : Nat) : Int) = N at *
     generalize ((10 * digVal (s.take i) : Nat) : Int) = M at *
     generalize ((s[i].toNat - 48 : Nat) : Int) = D at *
     generalize (digVal (s.take i) : Int) = V at *
     simp [l_isc_ParseUint_0,hi,e1,e2,e3,e4,e5,e6,e7,e8,e9,e10,e11,show IntKind.wrap .u8 10 = 10 from rfl,show IntKind.wrap .u64 10 = 10 from rfl])
   (fun i hi hp => by
     obtain ⟨c1,c2⟩ := hc i hi
     simp only [decide_eq_true_eq] at hp
     have ht := digVal_take hi
     rw [ht] at hp
     have e1 : ¬ ((s[i].toNat : Int) = 95) := by omega
     have e2 : (48:Int) ≤ (s[i].toNat : Int) := by omega
     have e3 : (s[i].toNat : Int) ≤ 57 := by omega
     have e4 : IntKind.wrap .u8 ((s[i].toNat : Int) - 48) = ((s[i].toNat - 48 : Nat) : Int) := by rw [wrap8_small (by omega) (by omega)]; omega
     have e5 : ¬ (10:Int) ≤ ((s[i].toNat - 48 : Nat) : Int) := by omega
     by_cases e6 : (1844674407370955162:Int) ≤ (digVal (s.take i) : Int)
     · generalize ((s[i].toNat - 48 : Nat) : Int) = D at *
       generalize (digVal (s.take i) : Int) = V at *
       simp [l_isc_ParseUint_0,hi,e1,e2,e3,e4,e5,e6,show IntKind.wrap .u8 10 = 10 from rfl,show IntKind.wrap .u64 10 = 10 from rfl]
     · have e7 : IntKind.wrap .u64 ((digVal (s.take i) : Int) * 10) = ((10 * digVal (s.take i) : Nat) : Int) := by rw [wrapU_small (by omega) (by omega)]; omega
       have e8 : IntKind.wrap .u64 ((s[i].toNat - 48 : Nat) : Int) = ((s[i].toNat - 48 : Nat) : Int) := wrapU_small (by omega) (by omega)
       have e9 : IntKind.wrap .u64 (((10 * digVal (s.take i) : Nat) : Int) + ((s[i].toNat - 48 : Nat) : Int)) = (((10 * digVal (s.take i) + (s[i].toNat - 48) : Nat) : Int) - 18446744073709551616) := by rw [wrapU]; omega
       have e10 : (((10 * digVal (s.take i) + (s[i].toNat - 48) : Nat) : Int) - 18446744073709551616) < ((10 * digVal (s.take i) : Nat) : Int) := by omega
       generalize (((10 * digVal (s.take i) + (s[i].toNat - 48) : Nat) : Int) - 18446744073709551616) = N at *
       generalize ((10 * digVal (s.take i) : Nat) : Int) = M at *
       generalize ((s[i].toNat - 48 : Nat) : Int) = D at *
       generalize (digVal (s.take i) : Int) = V at *
       simp [l_isc_ParseUint_0,hi,e1,e2,e3,e4,e5,e6,e7,e8,e9,e10,show IntKind.wrap .u8 10 = 10 from rfl,show IntKind.wrap .u64 10 = 10 from rfl])
   (by simp) (by simp [l_isc_ParseUint_0]) (by simp)
 rw [any_over] at hloop
 simp only [List.take_zero,show digVal [] = 0 from rfl,Int.natCast_zero] at hloop
 by_cases hv : 18446744073709551616 ≤ digVal s
 · simp [IP_isc_ParseUint,i_isc_ParseUint,h0,hs,hloop,hv,pU,show IntKind.wrap .u64 64 = 64 from rfl,show IntKind.wrap .u64 18446744073709551616 = 0 from rfl,show IntKind.wrap .u64 (-1) = 18446744073709551615 from rfl,IntKind.bits]
 · simp [IP_isc_ParseUint,i_isc_ParseUint,h0,hs,hloop,hv,pU,show IntKind.wrap .u64 64 = 64 from rfl,show IntKind.wrap .u64 18446744073709551616 = 0 from rfl,show IntKind.wrap .u64 (-1) = 18446744073709551615 from rfl,IntKind.bits]
theorem numE_nonempty {s:List UInt8} (h:numOk s = true) : s ≠ [] ∧ s.all isDig = true := by
 simp only [numOk,Bool.and_eq_true] at h
 refine ⟨?_,h.2.2⟩
 intro e; subst e; simp at h
end
end Go.Proofs.YtkofimhnehkdoaaGreatDoor.Rf
end
section
namespace Go.Proofs.YtkofimhnehkdoaaGreatDoor.Rf
section
variable {hp:List HObj} {lo:Nat} (q:Bool)
theorem bytesOf_map : ∀ s : List UInt8,bytesOf (s.map fun b => AV.int .u8 b.toNat) = some s
 | [] => rfl
 | b :: r => by
   have h := bytesOf_map r
   have h1 : (b.toNat : Int) < 256 := by have := b.toNat_lt; omega
   simp only [List.map_cons,bytesOf]
   rw [if_pos ⟨by omega,h1⟩,h]
   simp
theorem clone_D (s:List UInt8) (hs:s.length ≤ 140737488355328) : callD G0 IP n_isl_Clone [.str s] hp lo q = some (.ret (.str s) hp) := by
 rw [callD_eq]
 by_cases h0 : s = []
 · subst h0
   simp [IP_isl_Clone,i_isl_Clone]
 · have hl : s.length ≠ 0 := fun e => h0 (List.length_eq_zero_iff.1 e)
   have h1 : (0:Int) < (s.length : Int) := by omega
   have h2 : (s.length : Int) ≤ 9223372036854775807 := by omega
   have h3 : s.length ≤ s.length := Nat.le_refl _
   have hb := bytesOf_map s
   have htk : List.take s.length (s.map fun b => AV.int .u8 b.toNat) = s.map fun b => AV.int .u8 b.toNat := List.take_of_length_le (by simp)
   simp [IP_isl_Clone,i_isl_Clone,h0,hl,h1,h2,hs,hb,htk,Nat.pos_of_ne_zero hl]
theorem rangeError_D (f s:List UInt8) (hs:s.length ≤ 140737488355328) : callD G0 IP n_sc_rangeError [.str f,.str s] hp lo false = some (.ret (.ptr hp.length 0) (hp ++ [.cells 0 [.str f,.str s,.iface 222 .none]])) := by
 rw [callD_eq]
 have e := fun hp lo q => clone_D (hp := hp) (lo := lo) q s hs
 simp [IP_sc_rangeError,i_sc_rangeError,e,G0_7,g_7]
theorem toError_D (f s:List UInt8) (hs:s.length ≤ 140737488355328) (b c:Int) : callD G0 IP n_sc_toError [.str f,.str s,.int .i64 b,.int .i64 c,.iface 211 (.int .i64 1)] hp lo false = some (.ret (.iface 213 (.ptr hp.length 0)) (hp ++ [.cells 0 [.str f,.str s,.iface 222 .none]])) := by
 rw [callD_eq]
 have e := fun (hp:List HObj) (lo:Nat) => rangeError_D (hp := hp) (lo := lo) f s hs
 simp [IP_sc_toError,i_sc_toError,e]
theorem parseUint_D (s:List UInt8) (hs:s.length ≤ 140737488355328) (h0:s ≠ []) (hd:s.all isDig = true) : ∃ hp',callD G0 IP n_sc_ParseUint [.str s,.int .i64 10,.int .i64 64] hp lo false =
   some (.ret (if 18446744073709551616 ≤ digVal s then .tup [.int .u64 18446744073709551615,.iface 213 (.ptr hp.length 0)] else .tup [.int .u64 (digVal s),.nili]) hp') := by
 have e := fun (hp:List HObj) (lo:Nat) => parseUintI_D (hp := hp) (lo := lo) s hs h0 hd
 have e2 := fun (f:List UInt8) (hp:List HObj) (lo:Nat) (b c:Int) => toError_D (hp := hp) (lo := lo) f s hs b c
 by_cases hv : 18446744073709551616 ≤ digVal s
 · refine ⟨hp ++ [.cells 0 [.str [80,97,114,115,101,85,105,110,116],.str s,.iface 222 .none]],?_⟩
   rw [callD_eq]
   simp only [pU,if_pos hv] at e ⊢
   simp [IP_sc_ParseUint,i_sc_ParseUint,e,e2]
 · refine ⟨hp,?_⟩
   rw [callD_eq]
   simp only [pU,if_neg hv] at e ⊢
   simp [IP_sc_ParseUint,i_sc_ParseUint,e,e2]
theorem digitsParse_D (s:List UInt8) (hs:s.length ≤ 140737488355328) (hx:hasPre s [48,120] = false) : callD G0 IP n_digits_Parse [.str s] hp lo q = some (.ret (.tup [.int .u64 (numE s).1,.int .i64 (numE s).2]) hp) := by
 rw [callD_eq]
 have e1 := fun hp lo q => numeral_D (hp := hp) (lo := lo) q s (by omega)
 cases hn : numOk s with
 | false => simp [IP_digits_Parse,i_digits_Parse,cutPre_D,hx,e1,hn,numE]
 | true =>
   obtain ⟨h0,hd⟩ := numE_nonempty hn
   obtain ⟨hp',e2⟩ := parseUint_D (hp := hp) (lo := hp.length) s hs h0 hd
   by_cases hv : 18446744073709551616 ≤ digVal s
   · rw [if_pos hv] at e2
     simp [IP_digits_Parse,i_digits_Parse,cutPre_D,hx,e1,hn,numE,e2,hv]
   · rw [if_neg hv] at e2
     simp [IP_digits_Parse,i_digits_Parse,cutPre_D,hx,e1,hn,numE,e2,hv]
theorem numOk_0x {s:List UInt8} (h:hasPre s [48,120] = true) : numOk s = false := by
 simp only [hasPre,Bool.and_eq_true,decide_eq_true_eq] at h
 match s,h with
 | a :: b :: r,⟨_,h⟩ =>
   simp at h
   obtain ⟨rfl,rfl⟩ := h
   simp [numOk]
theorem ttNumeral_D (s:List UInt8) (hs:s.length ≤ 140737488355328) : callD G0 IP n_tt_numeral [.str s] hp lo q = some (.ret (.tup [.int .u64 (numE s).1,.int .i64 (numE s).2]) hp) := by
 rw [callD_eq]
 cases hx : hasPre s [48,120] with
 | true => simp [IP_tt_numeral,i_tt_numeral,hasPre_D,hx,numE,numOk_0x hx]
 | false =>
   have e := fun hp lo q => digitsParse_D (hp := hp) (lo := lo) q s hs hx
   simp [IP_tt_numeral,i_tt_numeral,hasPre_D,hx,e]
end
end Go.Proofs.YtkofimhnehkdoaaGreatDoor.Rf
end
section
namespace Go.Proofs.YtkofimhnehkdoaaGreatDoor.Rf
def intE (s:List UInt8) : Int × Int :=
 if hasPre s [45] then
   (if numOk (s.drop 1) = false ∨ s.drop 1 = [48] then (0,6) else if 9223372036854775808 < digVal (s.drop 1) then (0,2) else (-(digVal (s.drop 1) : Int),0))
 else
   (if numOk s = false then (0,6) else if 9223372036854775808 ≤ digVal s then (0,2) else ((digVal s:Int),0))
def pI (neg:Bool) (r:List UInt8) : AV :=
 if neg then (if 9223372036854775808 < digVal r then .tup [.int .i64 (-9223372036854775808),.iface 211 (.int .i64 1)] else .tup [.int .i64 (-(digVal r:Int)),.nili])
 else (if 9223372036854775808 ≤ digVal r then .tup [.int .i64 9223372036854775807,.iface 211 (.int .i64 1)] else .tup [.int .i64 (digVal r),.nili])
section
variable {hp:List HObj} {lo:Nat}
set_option maxHeartbeats 1000000 in
theorem parseIntI_D (neg:Bool) (r:List UInt8) (hs:r.length ≤ 140737488355000) (h0:r ≠ []) (hd:r.all isDig = true) (hp:List HObj) (lo:Nat) : callD G0 IP n_isc_ParseInt [.str (if neg then 45 :: r else r),.int .i64 10,.int .i64 64] hp lo false = some (.ret (pI neg r) hp) := by
 rw [callD_eq]
 have e := fun (hp:List HObj) (lo:Nat) => parseUintI_D (hp := hp) (lo := lo) r (by omega) h0 hd
 have sh : IntKind.wrap .u64 (2 ^ min 63 IntKind.u64.bits) = 9223372036854775808 := by decide
 have z1 : IntKind.wrap .u64 9223372036854775807 = 9223372036854775807 := by decide
 have z2 : IntKind.wrap .i64 9223372036854775807 = 9223372036854775807 := by decide
 have z3 : IntKind.wrap .i64 9223372036854775808 = -9223372036854775808 := by decide
 have z4 : IntKind.wrap .i64 (-9223372036854775808) = -9223372036854775808 := by decide
 have c64 : IntKind.wrap .u64 (IntKind.wrap .i64 (64 - 1)) = 63 := by decide
 have c63 : IntKind.wrap .i64 63 = 63 := by decide
 have c63u : IntKind.wrap .u64 63 = 63 := by decide
 rcases r with _ | ⟨c,r'⟩
 · exact absurd rfl h0
 have hc : 48 ≤ c.toNat ∧ c.toNat ≤ 57 := by
   have := List.all_eq_true.1 hd c (by simp)
   simpa [isDig] using this
 have n43 : ¬ (c.toNat : Int) = 43 := by omega
 have n45 : ¬ (c.toNat : Int) = 45 := by omega
 have hl : (0:Int) < (r'.length : Int) + 1 := by omega
 have hl2 : (0:Int) < (r'.length : Int) + 1 + 1 := by omega
 generalize hD : digVal (c :: r') = D at *
 cases neg with
 | false =>
   by_cases hv : 18446744073709551616 ≤ D
   · have hv2 : 9223372036854775808 ≤ D := by omega
     simp only [pU,hD,if_pos hv] at e
     simp [IP_isc_ParseInt,i_isc_ParseInt,n43,n45,hl,hl2,e,pI,sh,c64,c63,c63u,z1,z2,z3,z4,hD,hv2]
   · simp only [pU,hD,if_neg hv] at e
     by_cases hv2 : 9223372036854775808 ≤ D
     · have k1 : (9223372036854775808:Int) ≤ (D:Int) := by omega
       simp [IP_isc_ParseInt,i_isc_ParseInt,n43,n45,hl,hl2,e,pI,sh,c64,c63,c63u,z1,z2,z3,z4,hD,hv2,k1]
     · have k1 : ¬ (9223372036854775808:Int) ≤ (D:Int) := by omega
       have w1 : IntKind.wrap .i64 (D:Int) = D := wrap_small (by omega) (by omega)
       simp [IP_isc_ParseInt,i_isc_ParseInt,n43,n45,hl,hl2,e,pI,sh,c64,c63,c63u,z1,z2,z3,z4,hD,hv2,k1,w1]
 | true =>
   by_cases hv : 18446744073709551616 ≤ D
   · have hv2 : 9223372036854775808 < D := by omega
     simp only [pU,hD,if_pos hv] at e
     simp [IP_isc_ParseInt,i_isc_ParseInt,n43,n45,hl,hl2,e,pI,sh,c64,c63,c63u,z1,z2,z3,z4,hD,hv2]
   · simp only [pU,hD,if_neg hv] at e
     by_cases hv2 : 9223372036854775808 < D
     · have k1 : (9223372036854775808:Int) < (D:Int) := by omega
       simp [IP_isc_ParseInt,i_isc_ParseInt,n43,n45,hl,hl2,e,pI,sh,c64,c63,c63u,z1,z2,z3,z4,hD,hv2,k1]
     · have k1 : ¬ (9223372036854775808:Int) < (D:Int) := by omega
       by_cases hv3 : D = 9223372036854775808
       · subst hv3
         simp [IP_isc_ParseInt,i_isc_ParseInt,n43,n45,hl,hl2,e,pI,sh,c64,c63,c63u,z1,z2,z3,z4,hD]
       · have w1 : IntKind.wrap .i64 (D:Int) = D := wrap_small (by omega) (by omega)
         have w2 : IntKind.wrap .i64 (-(D:Int)) = -(D:Int) := by simp [IntKind.wrap,IntKind.signed,IntKind.bits]; omega
         simp [IP_isc_ParseInt,i_isc_ParseInt,n43,n45,hl,hl2,e,pI,sh,c64,c63,c63u,z1,z2,z3,z4,hD,hv2,k1,w1,w2]
end
end Go.Proofs.YtkofimhnehkdoaaGreatDoor.Rf
end
section
namespace Go.Proofs.YtkofimhnehkdoaaGreatDoor.Rf
theorem hasPre45 {s:List UInt8} (h:hasPre s [45] = true) : ∃ r,s = 45 :: r := by
 simp only [hasPre,Bool.and_eq_true,decide_eq_true_eq] at h
 match s,h with
 | c :: r,⟨_,h⟩ => simp at h; exact ⟨r,by rw [h]⟩
section
variable {hp:List HObj} {lo:Nat}
theorem toErrorI_D (neg:Bool) (r:List UInt8) (hs:r.length ≤ 140737488355000) (h0:r ≠ []) (hd:r.all isDig = true) (hp:List HObj) (lo:Nat) :
   ∃ hp',callD G0 IP n_sc_ParseInt [.str (if neg then 45 :: r else r),.int .i64 10,.int .i64 64] hp lo false =
     some (.ret (if (if neg then 9223372036854775808 < digVal r else 9223372036854775808 ≤ digVal r) then .tup [.int .i64 (if neg then -9223372036854775808 else 9223372036854775807),.iface 213 (.ptr hp.length 0)] else .tup [.int .i64 (if neg then -(digVal r:Int) else digVal r),.nili]) hp') := by
 have e := fun (hp:List HObj) (lo:Nat) => parseIntI_D neg r hs h0 hd hp lo
 have hl : (if neg then 45 :: r else r).length ≤ 140737488355328 := by cases neg <;> simp <;> omega
 have e2 := fun (f:List UInt8) (hp:List HObj) (lo:Nat) (b c:Int) => toError_D (hp := hp) (lo := lo) f (if neg then 45 :: r else r) hl b c
 cases neg with
 | true =>
   by_cases hv : 9223372036854775808 < digVal r
   · refine ⟨hp ++ [.cells 0 [.str [80,97,114,115,101,73,110,116],.str (45 :: r),.iface 222 .none]],?_⟩
     rw [callD_eq]
     simp [pI,hv] at e
     simp at e2
     simp [IP_sc_ParseInt,i_sc_ParseInt,e,e2,hv]
   · refine ⟨hp,?_⟩
     rw [callD_eq]
     simp [pI,hv] at e
     simp [IP_sc_ParseInt,i_sc_ParseInt,e,hv]
 | false =>
   by_cases hv : 9223372036854775808 ≤ digVal r
   · refine ⟨hp ++ [.cells 0 [.str [80,97,114,115,101,73,110,116],.str r,.iface 222 .none]],?_⟩
     rw [callD_eq]
     simp [pI,hv] at e
     simp at e2
     simp [IP_sc_ParseInt,i_sc_ParseInt,e,e2,hv]
   · refine ⟨hp,?_⟩
     rw [callD_eq]
     simp [pI,hv] at e
     simp [IP_sc_ParseInt,i_sc_ParseInt,e,hv]
set_option maxHeartbeats 1000000 in
theorem parseIntT_D (s:List UInt8) (hs:s.length ≤ 140737488355000) (hp:List HObj) (lo:Nat) (q:Bool) : callD G0 IP n_digits_ParseInt [.str s] hp lo q = some (.ret (.tup [.int .i64 (intE s).1,.int .i64 (intE s).2]) hp) := by
 rw [callD_eq]
 cases hm : hasPre s [45] with
 | true =>
   obtain ⟨r,rfl⟩ := hasPre45 hm
   have hsr : r.length ≤ 140737488355000 := by simp at hs; omega
   have e1 := fun hp lo q => numeral_D (hp := hp) (lo := lo) q r (by omega)
   have e3 : intE (45 :: r) = (if numOk r = false ∨ r = [48] then (0,6) else if 9223372036854775808 < digVal r then (0,2) else (-(digVal r:Int),0)) := by
     unfold intE; rw [if_pos hm]; rfl
   rw [e3]
   cases hn : numOk r with
   | false => simp [IP_digits_ParseInt,i_digits_ParseInt,cutPre_D,hm,e1,hn]
   | true =>
     by_cases hz : r = [48]
     · subst hz
       simp [IP_digits_ParseInt,i_digits_ParseInt,cutPre_D,hm,e1,hn]
     · obtain ⟨h0,hd⟩ := numE_nonempty hn
       obtain ⟨hp',e2⟩ := toErrorI_D true r hsr h0 hd hp hp.length
       by_cases hv : 9223372036854775808 < digVal r
       · simp [hv] at e2
         simp [IP_digits_ParseInt,i_digits_ParseInt,cutPre_D,hm,e1,hn,hz,e2,hv]
       · simp [hv] at e2
         simp [IP_digits_ParseInt,i_digits_ParseInt,cutPre_D,hm,e1,hn,hz,e2,hv]
 | false =>
   have e1 := fun hp lo q => numeral_D (hp := hp) (lo := lo) q s (by omega)
   have e3 : intE s = (if numOk s = false then (0,6) else if 9223372036854775808 ≤ digVal s then (0,2) else ((digVal s:Int),0)) := by
     unfold intE; rw [if_neg (by rw [hm]; simp)]
   rw [e3]
   cases hn : numOk s with
   | false => simp [IP_digits_ParseInt,i_digits_ParseInt,cutPre_D,hm,e1,hn]
   | true =>
     obtain ⟨h0,hd⟩ := numE_nonempty hn
     obtain ⟨hp',e2⟩ := toErrorI_D false s hs h0 hd hp hp.length
     by_cases hv : 9223372036854775808 ≤ digVal s
     · simp [hv] at e2
       simp [IP_digits_ParseInt,i_digits_ParseInt,cutPre_D,hm,e1,hn,e2,hv]
     · simp [hv] at e2
       simp [IP_digits_ParseInt,i_digits_ParseInt,cutPre_D,hm,e1,hn,e2,hv]
end
end Go.Proofs.YtkofimhnehkdoaaGreatDoor.Rf
end
section
namespace Go.Proofs.YtkofimhnehkdoaaGreatDoor.Rf
inductive S where
 | mk (atom:List UInt8) (o:Bool) (list:List S)
namespace S
def atom : S → List UInt8 | .mk a _ _ => a
def o : S → Bool | .mk _ a _ => a
def list : S → List S | .mk _ _ a => a
end S
mutual
def S.av : S → AV
 | .mk a o l => .agg [.str a,.list (S.avs l) (ownB o)]
def S.avs : List S → List AV
 | [] => []
 | t :: r => t.av :: S.avs r
end
theorem S.av_eq (t:S) : t.av = .agg [.str t.atom,.list (S.avs t.list) (ownB t.o)] := by cases t; rfl
theorem S.avs_eq : ∀ l : List S,S.avs l = l.map S.av
 | [] => rfl
 | t :: r => by simp [S.avs,S.avs_eq r]
@[simp] theorem S.avs_len (l:List S) : (S.avs l).length = l.length := by simp [S.avs_eq]
@[simp] theorem S.avs_nil : S.avs [] = [] := rfl
@[simp] theorem S.avs_getElem {l:List S} {i:Nat} (h:i < (S.avs l).length) : (S.avs l)[i] = (l[i]'(by simpa using h)).av := by simp [S.avs_eq]
theorem S.avs_app (a b:List S) : S.avs (a ++ b) = S.avs a ++ S.avs b := by simp [S.avs_eq]
mutual
def S.wf : S → Prop
 | .mk a o l => a.length ≤ 9223372036854775807 ∧ l.length ≤ 9223372036854775807 ∧ (o = true → l = []) ∧ S.wfs l
def S.wfs : List S → Prop
 | [] => True
 | t :: r => t.wf ∧ S.wfs r
end
theorem S.wfs_iff : ∀ l : List S,S.wfs l ↔ ∀ t,t ∈ l → t.wf
 | [] => by simp [S.wfs]
 | t :: r => by simp [S.wfs,S.wfs_iff r]
theorem S.wf_eq (t:S) : t.wf ↔ t.atom.length ≤ 9223372036854775807 ∧ t.list.length ≤ 9223372036854775807 ∧ (t.o = true → t.list = []) ∧ ∀ u,u ∈ t.list → u.wf := by
 cases t; simp only [S.wf,S.atom,S.list,S.o,S.wfs_iff]
mutual
def S.same : S → S → Bool
 | .mk a _ l,.mk a' _ l' => a == a' && S.sames l l'
def S.sames : List S → List S → Bool
 | [],[] => true
 | t :: r,u :: s => t.same u && S.sames r s
 | [],_ :: _ => false
 | _ :: _,[] => false
end
theorem S.same_eq (t u:S) : t.same u = (t.atom == u.atom && S.sames t.list u.list) := by cases t; cases u; rfl
theorem S.sames_eq : ∀ (as bs:List S) (h:as.length = bs.length),S.sames as bs = !(List.range as.length).any fun i => !(as.getD i (.mk [] true [])).same (bs.getD i (.mk [] true []))
 | [],[],_ => rfl
 | t :: r,u :: s,h => by
   rw [S.sames,S.sames_eq r s (by simpa using h),List.length_cons,List.range_succ_eq_map]
   simp [List.any_map,Function.comp_def]
 | [],_ :: _,h => by simp at h
 | _ :: _,[],h => by simp at h
theorem S.sames_len : ∀ (as bs:List S),as.length ≠ bs.length → S.sames as bs = false
 | [],[],h => by simp at h
 | t :: r,u :: s,h => by rw [S.sames,S.sames_len r s (by simpa using h),Bool.and_false]
 | [],_ :: _,h => rfl
 | _ :: _,[],h => rfl
theorem S.ind {p:S → Prop} (h:∀ t : S,(∀ u,u ∈ t.list → p u) → p t) (t:S) : p t :=
 S.rec (motive_1 := p) (motive_2 := fun l => ∀ u,u ∈ l → p u) (fun a b c ih => h _ ih) (fun u hu => by simp at hu)
   (fun t r h1 h2 u hu => by
     rcases List.mem_cons.1 hu with e | hu
     · rw [e]; exact h1
     · exact h2 u hu) t
theorem S.same_refl (t:S) : t.same t = true := by
 induction t using S.ind with | h t ih =>
 have : ∀ l : List S,(∀ u,u ∈ l → u.same u = true) → S.sames l l = true := by
   intro l
   induction l with
   | nil => intro _; rfl
   | cons x r ihl => intro h; simp only [S.sames,h x (by simp),Bool.true_and]; exact ihl fun u hu => h u (by simp [hu])
 rw [S.same_eq,this t.list ih]; simp
theorem S.sames_refl (l:List S) : S.sames l l = true := by
 induction l with
 | nil => rfl
 | cons x r ih => simp only [S.sames,S.same_refl x,ih,Bool.true_and]
section
variable {H:Type} {P:Program}
theorem ArgTy.str {t:TypeId} {v:AV} {d:DataW H} (hu:P.underlying t = some .string) (h:ArgTy P t v d) : ∃ s,v = .str s ∧ s.length ≤ 9223372036854775807 := by
 obtain ⟨n,cs,rfl,h⟩ := h
 obtain ⟨m,rfl,hm⟩ := h.str hu
 exact ⟨m,by unfold elemAV aggTy; rw [hu]; rfl,hm⟩
end
end Go.Proofs.YtkofimhnehkdoaaGreatDoor.Rf
end
section
namespace Go.Proofs.YtkofimhnehkdoaaGreatDoor.Rf
def kindOf (s:List UInt8) : Int := if s = [] then 0 else match (List.range 12).find? fun i : Nat => decide (kindE ((i:Int) + 1) = s) with | some i => ((i:Int) + 1) | none => 0
def partsE (k:Int) : Int := if k = 5 ∨ k = 4 then 4 else if k = 12 ∨ k = 1 ∨ k = 6 ∨ k = 7 ∨ k = 8 then 3 else 2
theorem kindOf_bd (s:List UInt8) : 0 ≤ kindOf s ∧ kindOf s ≤ 12 := by
 unfold kindOf; split
 · omega
 · split
   · rename_i i hi
     have := List.mem_of_find?_eq_some hi
     simp at this
     omega
   · omega
section
variable {hp:List HObj} {lo:Nat}
theorem kindT_D (s:List UInt8) (hp:List HObj) (lo:Nat) (q:Bool) : callD G0 IP n_pt_kind [.str s] hp lo q = some (.ret (.int .i64 (kindOf s)) hp) := by
 rw [callD_eq]
 by_cases h0 : s = []
 · subst h0
   have hl : loopD G0 IP hp.length l_pt_kind_0 ⟨[(0,.str []),(3,.int .i64 1)],hp⟩ = some (.exit 0,⟨[(0,.str []),(3,.int .i64 1),(9,.bool false)],hp⟩) := by
     rw [loopD_eq,loopBody]
     simp [l_pt_kind_0]
   simp [IP_pt_kind,i_pt_kind,hl,kindOf]
 have hloop := loop_some (G := G0) (IP := IP) (lo := hp.length) (b := l_pt_kind_0)
   (fun i => ⟨[(0,.str s),(3,.int .i64 ((i:Int) + 1))],hp⟩) 12 (fun i => decide (kindE ((i:Int) + 1) = s)) (fun i => (.ret,⟨[(2,.int .i64 ((i:Int) + 1))],hp⟩))
   (.exit 0,⟨[(0,.str s),(3,.int .i64 13),(9,.bool false)],hp⟩)
   (fun i hi hp1 => by
     have e1 : (i:Int) + 1 ≤ 12 := by omega
     have e5 : IntKind.wrap .i64 ((i:Int) + 1 + 1) = (i:Int) + 1 + 1 := wrap_small (by omega) (by omega)
     simp only [decide_eq_false_iff_not] at hp1
     simp [l_pt_kind_0,kind_D,e1,e5,hp1,h0])
   (fun i hi hp1 => by
     have e1 : (i:Int) + 1 ≤ 12 := by omega
     simp only [decide_eq_true_eq] at hp1
     simp [l_pt_kind_0,kind_D,e1,hp1,h0])
   (fun i s => by simp) (by simp [l_pt_kind_0]) (by simp)
 simp only [Int.natCast_zero,Int.zero_add] at hloop
 rcases hloop with ⟨m,hm,hp1,hp2,hl⟩ | ⟨hno,hl⟩
 · have hf : (List.range 12).find? (fun i:Nat => decide (kindE ((i:Int) + 1) = s)) = some m := by
     rw [List.find?_range_eq_some]
     exact ⟨hp1,by simpa using hm,fun j hj => by simpa using hp2 j hj⟩
   have he : kindOf s = (m:Int) + 1 := by unfold kindOf; rw [if_neg h0,hf]
   simp [IP_pt_kind,i_pt_kind,hl,he]
 · have hf : (List.range 12).find? (fun i:Nat => decide (kindE ((i:Int) + 1) = s)) = none := by
     rw [List.find?_eq_none]
     intro i hi; simp at hi; have := hno i hi; simpa using this
   have he : kindOf s = 0 := by unfold kindOf; rw [if_neg h0,hf]
   simp [IP_pt_kind,i_pt_kind,hl,he]
theorem integer_D (a:List UInt8) (ha:a.length ≤ 140737488355000) (l:List AV) (o:Own) (hp:List HObj) (lo:Nat) (q:Bool) : callD G0 IP n_pt_integer [.agg [.str a,.list l o]] hp lo q = some (.ret (.tup [.int .i64 (intE a).1,.bool (decide ((intE a).2 = 0))]) hp) := by
 have e := parseIntT_D a ha
 rw [callD_eq]
 simp [IP_pt_integer,i_pt_integer,e]
end
end Go.Proofs.YtkofimhnehkdoaaGreatDoor.Rf
end
