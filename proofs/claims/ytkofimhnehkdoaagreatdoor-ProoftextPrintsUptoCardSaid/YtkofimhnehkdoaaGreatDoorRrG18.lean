/- A part of the proof: see the last text. -/
import Derived.Test.YtkofimhnehkdoaaGreatDoorRrG17
import Derived.Test.YtkofimhnehkdoaaGreatDoorRrG16
set_option linter.unusedVariables false
set_option linter.unusedSimpArgs false
section
namespace Go.Proofs.YtkofimhnehkdoaaGreatDoor.Rf
structure Sb where
 name : List UInt8
 t : T
structure St7 where
 kind : Int
 ro : Bool
 refs : List Int
 rule : Int
 so : Bool
 subs : List Sb
 a : T
 b : T
abbrev Sb.cells (s:Sb) : List AV := .str s.name :: s.t.cells
def Sb.av (s:Sb) : AV := .agg s.cells
theorem Sb.av_eq (s:Sb) : s.av = .agg [.str s.name,.int .i64 s.t.op,.int .i64 s.t.width,.int .u64 s.t.val,.str s.t.name,.list (T.avs s.t.args) (ownB s.t.o)] := rfl
def sbs (l:List Sb) : List AV := l.map Sb.av
def i64s (l:List Int) : List AV := l.map (AV.int .i64)
@[simp] theorem sbs_len (l:List Sb) : (sbs l).length = l.length := by simp [sbs]
@[simp] theorem i64s_len (l:List Int) : (i64s l).length = l.length := by simp [i64s]
@[simp] theorem sbs_getElem {l:List Sb} {i:Nat} (h:i < (sbs l).length) : (sbs l)[i] = (l[i]'(by simpa using h)).av := by simp [sbs]
@[simp] theorem i64s_getElem {l:List Int} {i:Nat} (h:i < (i64s l).length) : (i64s l)[i] = .int .i64 (l[i]'(by simpa using h)) := by simp [i64s]
abbrev St7.cells (s:St7) : List AV := [.int .i64 s.kind,.list (i64s s.refs) (ownB s.ro),.int .i64 s.rule,.list (sbs s.subs) (ownB s.so),
 .int .i64 s.a.op,.int .i64 s.a.width,.int .u64 s.a.val,.str s.a.name,.list (T.avs s.a.args) (ownB s.a.o),
 .int .i64 s.b.op,.int .i64 s.b.width,.int .u64 s.b.val,.str s.b.name,.list (T.avs s.b.args) (ownB s.b.o)]
def St7.av (s:St7) : AV := .agg s.cells
def St7.avs (l:List St7) : List AV := l.map St7.av
@[simp] theorem St7.avs_len (l:List St7) : (St7.avs l).length = l.length := by simp [St7.avs]
@[simp] theorem St7.avs_getElem {l:List St7} {i:Nat} (h:i < (St7.avs l).length) : (St7.avs l)[i] = (l[i]'(by simpa using h)).av := by simp [St7.avs]
def Sb.wf (s:Sb) : Prop := s.name.length ≤ 9223372036854775807 ∧ s.t.wf
def St7.wf (s:St7) : Prop := (Lit.int .i64 s.kind).wf = true ∧ (∀ x,x ∈ s.refs → (Lit.int .i64 x).wf = true) ∧ s.refs.length ≤ 9223372036854775807 ∧ (Lit.int .i64 s.rule).wf = true ∧ (∀ x,x ∈ s.subs → x.wf) ∧ s.subs.length ≤ 9223372036854775807 ∧ s.a.wf ∧ s.b.wf
section
variable {H:Type} {P:Program}
theorem HasTy.two {n:Nat} {t a b:TypeId} {fs:Array Field} {cs:List AV} {d:DataW H} (hu:P.underlying t = some (.struct fs)) (hf:fs.toList.map Field.type = [a,b]) (h:HasTy P n t cs d) :
   ∃ p q : List AV,cs = p ++ q ∧ (∃ m,∃ d' : DataW H,m < n ∧ HasTy P m a p d') ∧ (∃ m,∃ d' : DataW H,m < n ∧ HasTy P m b q d') := by
 obtain ⟨parts,rfl,hl,hp⟩ := h.fields hu
 have hsz : fs.size = 2 := by have := congrArg List.length hf; simpa using this
 rw [hsz] at hl
 match parts,hl with
 | [p0,p1],_ =>
   have g : ∀ (i:Nat) ds x,[p0,p1][i]? = some ds → [a,b][i]? = some x → ∃ m,∃ d' : DataW H,m < n ∧ HasTy P m x ds d' := by
     intro i ds x h1 h2
     rw [← hf] at h2
     simp only [List.getElem?_map,Array.getElem?_toList,Option.map_eq_some_iff] at h2
     obtain ⟨f,f1,f2⟩ := h2
     obtain ⟨m,d',m1,m2⟩ := hp i f ds f1 h1
     exact ⟨m,d',m1,f2 ▸ m2⟩
   exact ⟨p0,p1,by simp,g 0 _ _ rfl rfl,g 1 _ _ rfl rfl⟩
theorem HasTy.six {n:Nat} {t a b c e f g:TypeId} {fs:Array Field} {cs:List AV} {d:DataW H} (hu:P.underlying t = some (.struct fs)) (hf:fs.toList.map Field.type = [a,b,c,e,f,g]) (h:HasTy P n t cs d) :
   ∃ p0 p1 p2 p3 p4 p5 : List AV,cs = p0 ++ (p1 ++ (p2 ++ (p3 ++ (p4 ++ p5)))) ∧ (∃ m,∃ d' : DataW H,m < n ∧ HasTy P m a p0 d') ∧ (∃ m,∃ d' : DataW H,m < n ∧ HasTy P m b p1 d') ∧ (∃ m,∃ d' : DataW H,m < n ∧ HasTy P m c p2 d') ∧
     (∃ m,∃ d' : DataW H,m < n ∧ HasTy P m e p3 d') ∧ (∃ m,∃ d' : DataW H,m < n ∧ HasTy P m f p4 d') ∧ (∃ m,∃ d' : DataW H,m < n ∧ HasTy P m g p5 d') := by
 obtain ⟨parts,rfl,hl,hp⟩ := h.fields hu
 have hsz : fs.size = 6 := by have := congrArg List.length hf; simpa using this
 rw [hsz] at hl
 match parts,hl with
 | [p0,p1,p2,p3,p4,p5],_ =>
   have k : ∀ (i:Nat) ds x,[p0,p1,p2,p3,p4,p5][i]? = some ds → [a,b,c,e,f,g][i]? = some x → ∃ m,∃ d' : DataW H,m < n ∧ HasTy P m x ds d' := by
     intro i ds x h1 h2
     rw [← hf] at h2
     simp only [List.getElem?_map,Array.getElem?_toList,Option.map_eq_some_iff] at h2
     obtain ⟨f,f1,f2⟩ := h2
     obtain ⟨m,d',m1,m2⟩ := hp i f ds f1 h1
     exact ⟨m,d',m1,f2 ▸ m2⟩
   exact ⟨p0,p1,p2,p3,p4,p5,by simp,k 0 _ _ rfl rfl,k 1 _ _ rfl rfl,k 2 _ _ rfl rfl,k 3 _ _ rfl rfl,k 4 _ _ rfl rfl,k 5 _ _ rfl rfl⟩
theorem HasTy.sub {st a b:TypeId} {fs:Array Field} (hT:∀ n cs (d:DataW H),HasTy P n b cs d → ∃ t : T,cs = t.cells ∧ t.wf) (hu:P.underlying st = some (.struct fs)) (hf:fs.toList.map Field.type = [a,b]) (ha:P.underlying a = some .string)
   {n:Nat} {cs:List AV} {d:DataW H} (h:HasTy P n st cs d) : ∃ s : Sb,cs = s.cells ∧ s.wf := by
 obtain ⟨p,q,rfl,⟨m0,d0,_,q0⟩,⟨m1,d1,_,q1⟩⟩ := h.two hu hf
 obtain ⟨x0,rfl,w0⟩ := q0.str ha
 obtain ⟨t,rfl,w1⟩ := hT _ _ _ q1
 exact ⟨⟨x0,t⟩,rfl,w0,w1⟩
theorem HasTy.step {tt ti tl ts te st:TypeId} {fs gs:Array Field} {tn:TypeId} (hT:∀ n cs (d:DataW H),HasTy P n te cs d → ∃ t : T,cs = t.cells ∧ t.wf)
   (hu:P.underlying tt = some (.struct fs)) (hf:fs.toList.map Field.type = [ti,tl,ti,ts,te,te]) (hi:P.underlying ti = some (.int .i64)) (hl:P.underlying tl = some (.slice ti)) (hs:P.underlying ts = some (.slice st))
   (hv:P.underlying st = some (.struct gs)) (hg:gs.toList.map Field.type = [tn,te]) (hn:P.underlying tn = some .string)
   {n:Nat} {cs:List AV} {d:DataW H} (h:HasTy P n tt cs d) : ∃ s : St7,cs = s.cells ∧ s.wf := by
 obtain ⟨p0,p1,p2,p3,p4,p5,rfl,⟨_,_,_,q0⟩,⟨_,_,_,q1⟩,⟨_,_,_,q2⟩,⟨_,_,_,q3⟩,⟨_,_,_,q4⟩,⟨_,_,_,q5⟩⟩ := h.six hu hf
 obtain ⟨x0,rfl,w0⟩ := q0.int hi
 obtain ⟨o1,l1,rfl,_,b1,w1⟩ := q1.slice (AV.int .i64) (fun x => (Lit.int .i64 x).wf = true) hl fun m hm ds d' h => by
   obtain ⟨x,rfl,hx⟩ := h.int hi
   exact ⟨x,by unfold elemAV aggTy; rw [hi]; rfl,hx⟩
 obtain ⟨x2,rfl,w2⟩ := q2.int hi
 obtain ⟨o3,l3,rfl,_,b3,w3⟩ := q3.slice Sb.av Sb.wf hs fun m hm ds d' h => by
   obtain ⟨x,rfl,hx⟩ := HasTy.sub hT hv hg hn h
   exact ⟨x,by unfold elemAV aggTy; rw [hv]; rfl,hx⟩
 obtain ⟨t4,rfl,w4⟩ := hT _ _ _ q4
 obtain ⟨t5,rfl,w5⟩ := hT _ _ _ q5
 exact ⟨⟨x0,o1,l1,x2,o3,l3,t4,t5⟩,rfl,w0,w1,b1,w2,w3,b3,w4,w5⟩
theorem ArgTy.steps {tp tt ti tl ts te st:TypeId} {fs gs:Array Field} {tn:TypeId} (hp:P.underlying tp = some (.slice tt)) (hT:∀ n cs (d:DataW H),HasTy P n te cs d → ∃ t : T,cs = t.cells ∧ t.wf)
   (hu:P.underlying tt = some (.struct fs)) (hf:fs.toList.map Field.type = [ti,tl,ti,ts,te,te]) (hi:P.underlying ti = some (.int .i64)) (hl:P.underlying tl = some (.slice ti)) (hs:P.underlying ts = some (.slice st))
   (hv:P.underlying st = some (.struct gs)) (hg:gs.toList.map Field.type = [tn,te]) (hn:P.underlying tn = some .string)
   {v:AV} {d:DataW H} (h:ArgTy P tp v d) : ∃ (o:Bool) (l:List St7),v = .list (St7.avs l) (ownB o) ∧ l.length ≤ 9223372036854775807 ∧ ∀ s,s ∈ l → s.wf := by
 obtain ⟨n,cs,rfl,h⟩ := h
 obtain ⟨o,l,rfl,h1,h2,h3⟩ := h.slice St7.av St7.wf hp fun m hm ds d' h => by
   obtain ⟨x,rfl,hx⟩ := HasTy.step hT hu hf hi hl hs hv hg hn h
   exact ⟨x,by unfold elemAV aggTy; rw [hu]; rfl,hx⟩
 exact ⟨o,l,by unfold elemAV aggTy; rw [hp]; rfl,h2,h3⟩
end
end Go.Proofs.YtkofimhnehkdoaaGreatDoor.Rf
end
section
namespace Go.Proofs.YtkofimhnehkdoaaGreatDoor.Rf
def kdN : List (List UInt8) := [[],[114,101,102,108],[115,121,109],[116,114,97,110,115],[99,111,110,103],[114,117,108,101],[102,111,108,100],[116,111,112],[110,111,100,101],[109,101,101,116],[109,111,118,101],[115,105,110,103,108,101],[103,105,118,101,110]]
def kindE (k:Int) : List UInt8 := if k < 1 ∨ 12 < k then [] else kdN.getD k.toNat []
theorem kind_cases {k:Int} (h:¬ (k < 1 ∨ 12 < k)) : k = 1 ∨ k = 2 ∨ k = 3 ∨ k = 4 ∨ k = 5 ∨ k = 6 ∨ k = 7 ∨ k = 8 ∨ k = 9 ∨ k = 10 ∨ k = 11 ∨ k = 12 := by omega
section
variable {hp:List HObj} {lo:Nat}
theorem kind_D (k:Int) (hp:List HObj) (lo:Nat) (q:Bool) : callD G0 IP n_proof_Kind [.int .i64 k] hp lo q = some (.ret (.str (kindE k)) hp) := by
 rw [callD_eq]
 by_cases h1 : k < 1
 · simp [IP_proof_Kind,i_proof_Kind,h1,kindE]
 · by_cases h2 : 12 < k
   · simp [IP_proof_Kind,i_proof_Kind,h1,h2,kindE]
   · rcases kind_cases (k := k) (by omega) with rfl | rfl | rfl | rfl | rfl | rfl | rfl | rfl | rfl | rfl | rfl | rfl
     all_goals simp [IP_proof_Kind,i_proof_Kind,kindE,kdN,G0_1,g_1]
theorem kind34_D (k:Int) (hp:List HObj) (lo:Nat) (q:Bool) : callD G0 IP n_sr34_Kind [.int .i64 k] hp lo q = some (.ret (.str (kindE k)) hp) := by
 rw [callD_eq]
 by_cases h1 : k < 1
 · simp [IP_sr34_Kind,i_sr34_Kind,h1,kindE]
 · by_cases h2 : 12 < k
   · simp [IP_sr34_Kind,i_sr34_Kind,h1,h2,kindE]
   · rcases kind_cases (k := k) (by omega) with rfl | rfl | rfl | rfl | rfl | rfl | rfl | rfl | rfl | rfl | rfl | rfl
     all_goals simp [IP_sr34_Kind,i_sr34_Kind,kindE,kdN,show IntKind.wrap .i64 0 = 0 from rfl,show IntKind.wrap .i64 1 = 1 from rfl,show IntKind.wrap .i64 2 = 2 from rfl,show IntKind.wrap .i64 3 = 3 from rfl,show IntKind.wrap .i64 4 = 4 from rfl,show IntKind.wrap .i64 5 = 5 from rfl,show IntKind.wrap .i64 6 = 6 from rfl,show IntKind.wrap .i64 7 = 7 from rfl,show IntKind.wrap .i64 8 = 8 from rfl,show IntKind.wrap .i64 9 = 9 from rfl,show IntKind.wrap .i64 10 = 10 from rfl,show IntKind.wrap .i64 11 = 11 from rfl]
end
end Go.Proofs.YtkofimhnehkdoaaGreatDoor.Rf
end
section
namespace Go.Proofs.YtkofimhnehkdoaaGreatDoor.Rf
def dig (n:Nat) : UInt8 := UInt8.ofNat (48 + n)
theorem dig_toNat {n:Nat} (h:n < 10) : (dig n).toNat = 48 + n := by
 unfold dig; rw [UInt8.toNat_ofNat']; omega
def dec (n:Nat) : List UInt8 := if n < 10 then [dig n] else dec (n / 10) ++ [dig (n % 10)]
termination_by n
decreasing_by omega
theorem dec_small {n:Nat} (h:n < 10) : dec n = [dig n] := by rw [dec,if_pos h]
theorem dec_big {n:Nat} (h:10 ≤ n) : dec n = dec (n / 10) ++ [dig (n % 10)] := by rw [dec,if_neg (by omega)]
theorem dec_ne (n:Nat) : dec n ≠ [] := by
 by_cases h : n < 10
 · rw [dec_small h]; simp
 · rw [dec_big (by omega)]; simp
theorem dec_len (k:Nat) : ∀ n,n < 10 ^ (k + 1) → (dec n).length ≤ k + 1 := by
 induction k with
 | zero => intro n h; rw [dec_small (by omega)]; simp
 | succ k ih =>
   intro n h
   by_cases h1 : n < 10
   · rw [dec_small h1]; simp
   · rw [dec_big (by omega),List.length_append]
     have := ih (n / 10) (by rw [Nat.pow_succ] at h; omega)
     simp; omega
theorem dec_len20 {n:Nat} (h:n < 18446744073709551616) : (dec n).length ≤ 20 := dec_len 19 n (by omega)
def isDig (c:UInt8) : Bool := decide (48 ≤ c.toNat) && decide (c.toNat ≤ 57)
theorem isDig_dig {n:Nat} (h:n < 10) : isDig (dig n) = true := by simp [isDig,dig_toNat h]; omega
theorem dec_digs (n:Nat) : ∀ c,c ∈ dec n → isDig c = true := by
 induction n using Nat.strongRecOn with
 | _ n ih =>
   intro c hc
   by_cases h : n < 10
   · rw [dec_small h] at hc; simp at hc; subst hc; exact isDig_dig h
   · rw [dec_big (by omega),List.mem_append] at hc
     rcases hc with hc | hc
     · exact ih (n / 10) (by omega) c hc
     · simp at hc; subst hc; exact isDig_dig (by omega)
def digVal (s:List UInt8) : Nat := s.foldl (fun v c => 10 * v + (c.toNat - 48)) 0
def numOk (s:List UInt8) : Bool := !s.isEmpty && (!(decide (1 < s.length) && (s.head? == some 48)) && s.all isDig)
def numE (s:List UInt8) : Int × Int := if numOk s = false then (0,6) else if 18446744073709551616 ≤ digVal s then (0,2) else (digVal s,0)
end Go.Proofs.YtkofimhnehkdoaaGreatDoor.Rf
end
section
namespace Go.Proofs.YtkofimhnehkdoaaGreatDoor.Rf
section
variable {hp:List HObj} {lo:Nat} (q:Bool)
theorem idxB_ge : ∀ (s:List UInt8) (c:UInt8),-1 ≤ idxB s c ∧ idxB s c < s.length
 | [],c => by simp [idxB]
 | b :: l,c => by
   have := idxB_ge l c
   simp only [idxB]
   split
   · simp
   · split
     · simp; omega
     · rename_i h; simp at h; simp; omega
def cutB (s:List UInt8) (c:UInt8) : List UInt8 × List UInt8 × Bool := if 0 ≤ idxB s c then (s.take (idxB s c).toNat,s.drop ((idxB s c).toNat + 1),true) else (s,[],false)
end
end Go.Proofs.YtkofimhnehkdoaaGreatDoor.Rf
end
section
namespace Go.Proofs.YtkofimhnehkdoaaGreatDoor.Rf
section
variable {hp:List HObj} {lo:Nat} (q:Bool)
end
end Go.Proofs.YtkofimhnehkdoaaGreatDoor.Rf
end
section
namespace Go.Proofs.YtkofimhnehkdoaaGreatDoor.Rf
section
variable {hp:List HObj} {lo:Nat} (q:Bool)
end
end Go.Proofs.YtkofimhnehkdoaaGreatDoor.Rf
end
section
namespace Go.Proofs.YtkofimhnehkdoaaGreatDoor.Rf
section
variable {hp:List HObj} {lo:Nat}
end
end Go.Proofs.YtkofimhnehkdoaaGreatDoor.Rf
end
section
namespace Go.Proofs.YtkofimhnehkdoaaGreatDoor.Rf
section
variable {hp:List HObj} {lo:Nat}
end
end Go.Proofs.YtkofimhnehkdoaaGreatDoor.Rf
end
section
namespace Go.Proofs.YtkofimhnehkdoaaGreatDoor.Rf
inductive S where
 | mk (atom:List UInt8) (o:Bool) (list:List S)
namespace S
def atom : S → List UInt8 | .mk a _ _ => a
def o : S → Bool | .mk _ a _ => a
def list : S → List S | .mk _ _ a => a
end S
mutual
def S.av : S → AV
 | .mk a o l => .agg [.str a,.list (S.avs l) (ownB o)]
def S.avs : List S → List AV
 | [] => []
 | t :: r => t.av :: S.avs r
end
theorem S.av_eq (t:S) : t.av = .agg [.str t.atom,.list (S.avs t.list) (ownB t.o)] := by cases t; rfl
theorem S.avs_eq : ∀ l : List S,S.avs l = l.map S.av
 | [] => rfl
 | t :: r => by simp [S.avs,S.avs_eq r]
@[simp] theorem S.avs_len (l:List S) : (S.avs l).length = l.length := by simp [S.avs_eq]
@[simp] theorem S.avs_nil : S.avs [] = [] := rfl
@[simp] theorem S.avs_getElem {l:List S} {i:Nat} (h:i < (S.avs l).length) : (S.avs l)[i] = (l[i]'(by simpa using h)).av := by simp [S.avs_eq]
theorem S.avs_app (a b:List S) : S.avs (a ++ b) = S.avs a ++ S.avs b := by simp [S.avs_eq]
mutual
def S.wf : S → Prop
 | .mk a o l => a.length ≤ 9223372036854775807 ∧ l.length ≤ 9223372036854775807 ∧ (o = true → l = []) ∧ S.wfs l
def S.wfs : List S → Prop
 | [] => True
 | t :: r => t.wf ∧ S.wfs r
end
theorem S.wfs_iff : ∀ l : List S,S.wfs l ↔ ∀ t,t ∈ l → t.wf
 | [] => by simp [S.wfs]
 | t :: r => by simp [S.wfs,S.wfs_iff r]
theorem S.wf_eq (t:S) : t.wf ↔ t.atom.length ≤ 9223372036854775807 ∧ t.list.length ≤ 9223372036854775807 ∧ (t.o = true → t.list = []) ∧ ∀ u,u ∈ t.list → u.wf := by
 cases t; simp only [S.wf,S.atom,S.list,S.o,S.wfs_iff]
mutual
def S.same : S → S → Bool
 | .mk a _ l,.mk a' _ l' => a == a' && S.sames l l'
def S.sames : List S → List S → Bool
 | [],[] => true
 | t :: r,u :: s => t.same u && S.sames r s
 | [],_ :: _ => false
 | _ :: _,[] => false
end
theorem S.same_eq (t u:S) : t.same u = (t.atom == u.atom && S.sames t.list u.list) := by cases t; cases u; rfl
theorem S.ind {p:S → Prop} (h:∀ t : S,(∀ u,u ∈ t.list → p u) → p t) (t:S) : p t :=
 S.rec (motive_1 := p) (motive_2 := fun l => ∀ u,u ∈ l → p u) (fun a b c ih => h _ ih) (fun u hu => by simp at hu)
   (fun t r h1 h2 u hu => by
     rcases List.mem_cons.1 hu with e | hu
     · rw [e]; exact h1
     · exact h2 u hu) t
section
variable {H:Type} {P:Program}
theorem ArgTy.str {t:TypeId} {v:AV} {d:DataW H} (hu:P.underlying t = some .string) (h:ArgTy P t v d) : ∃ s,v = .str s ∧ s.length ≤ 9223372036854775807 := by
 obtain ⟨n,cs,rfl,h⟩ := h
 obtain ⟨m,rfl,hm⟩ := h.str hu
 exact ⟨m,by unfold elemAV aggTy; rw [hu]; rfl,hm⟩
end
end Go.Proofs.YtkofimhnehkdoaaGreatDoor.Rf
end
section
namespace Go.Proofs.YtkofimhnehkdoaaGreatDoor.Rf
section
variable {hp:List HObj} {lo:Nat}
end
end Go.Proofs.YtkofimhnehkdoaaGreatDoor.Rf
end
section
namespace Go.Proofs.YtkofimhnehkdoaaGreatDoor.Rf
def plainC (n:Int) : Bool := decide (n ≥ 33) && (decide (n ≤ 126) && (!decide (n = 40) && (!decide (n = 41) && !decide (n = 59))))
def blankC (n:Int) : Bool := decide (n = 32) || (decide (n = 9) || (decide (n = 10) || decide (n = 13)))
def byt (s:List UInt8) (i:Nat) : Int := ((s.getD i 0).toNat : Int)
def comK (s:List UInt8) : Nat → Nat → Nat
 | 0,i => i
 | k + 1,i => if byt s i = 10 then i else comK s k (i + 1)
def skipK (s:List UInt8) : Nat → Nat → Nat
 | 0,i => i
 | n + 1,i => if i < s.length then (if blankC (byt s i) then skipK s n (i + 1) else if byt s i = 59 then skipK s n (comK s (s.length - i) i) else i) else i
def skipN (s:List UInt8) (i:Nat) : Nat := skipK s s.length i
section
variable {s:List UInt8} {hp:List HObj} {lo:Nat}
end
end Go.Proofs.YtkofimhnehkdoaaGreatDoor.Rf
end
section
namespace Go.Proofs.YtkofimhnehkdoaaGreatDoor.Rf
def PH (hp:List HObj) (s:List UInt8) (v:Int) : List HObj := hp ++ [.cells 0 [.str s,.int .i64 v,.list [] .nil]]
section
variable {hp:List HObj} {s:List UInt8} {lo:Nat}
@[simp] theorem PH_get (v:Int) : (PH hp s v)[hp.length]? = some (.cells 0 [.str s,.int .i64 v,.list [] .nil]) := by simp [PH]
@[simp] theorem PH_set (v u:Int) : (PH hp s v).set hp.length (.cells 0 [.str s,.int .i64 u,.list [] .nil]) = PH hp s u := by simp [PH]
end
end Go.Proofs.YtkofimhnehkdoaaGreatDoor.Rf
end
section
namespace Go.Proofs.YtkofimhnehkdoaaGreatDoor.Rf
inductive PR where
 | ok (e:S) (i:Nat)
 | err (i:Nat) (code:Int)
inductive LR where
 | stop (i:Nat) (acc:List S)
 | err (i:Nat) (code:Int)
mutual
theorem S.av_closed (n:Nat) : ∀ t : S,AV.closed n t.av = true
 | .mk a o l => by simp [S.av,AV.closed,AV.closedL,S.avs_closed n l]
theorem S.avs_closed (n:Nat) : ∀ l : List S,AV.closedL n (S.avs l) = true
 | [] => rfl
 | t :: r => by simp [S.avs,AV.closedL,S.av_closed n t,S.avs_closed n r]
end
@[simp] theorem S.okSize_avs (l:List S) : okSize 2 (S.avs l) = true := by
 cases l with
 | nil => rfl
 | cons t r => simp [S.avs,S.av_eq]
def ownA (acc:List S) : Own := if acc.isEmpty then .nil else .own 2 0
@[simp] theorem ownA_cp (acc:List S) : (ownA acc).cp = ownB acc.isEmpty := by cases acc <;> rfl
@[simp] theorem ownA_app (acc:List S) (x:S) : ownA (acc ++ [x]) = .own 2 0 := by cases acc <;> rfl
theorem ownA_ok (acc:List S) : ownA acc = .nil ∨ ownA acc = .own 2 0 := by cases acc <;> simp [ownA]
section
variable {s:List UInt8}
end
end Go.Proofs.YtkofimhnehkdoaaGreatDoor.Rf
end
section
namespace Go.Proofs.YtkofimhnehkdoaaGreatDoor.Rf
section
variable {hp:List HObj} {s:List UInt8} {lo:Nat}
end
end Go.Proofs.YtkofimhnehkdoaaGreatDoor.Rf
end
section
namespace Go.Proofs.YtkofimhnehkdoaaGreatDoor.Rf
inductive PTR where
 | ok (l:List S) (st:List Nat)
 | err (i:Nat) (code:Int)
section
variable {s:List UInt8} {hp:List HObj} {lo:Nat}
abbrev intsA (l:List Nat) : List AV := l.map fun n : Nat => AV.int .i64 (n:Int)
def ownI (l:List Nat) : Own := if l.isEmpty then .nil else .own 1 0
@[simp] theorem ownI_cp (l:List Nat) : (ownI l).cp = ownB l.isEmpty := by cases l <;> rfl
@[simp] theorem ownI_app (l:List Nat) (x:Nat) : ownI (l ++ [x]) = .own 1 0 := by cases l <;> rfl
@[simp] theorem okSize_ints (l:List Nat) : okSize 1 (intsA l) = true := by cases l <;> simp [intsA]
end
end Go.Proofs.YtkofimhnehkdoaaGreatDoor.Rf
end
section
namespace Go.Proofs.YtkofimhnehkdoaaGreatDoor.Rf
section
variable {s:List UInt8} {hp:List HObj} {lo:Nat}
end
end Go.Proofs.YtkofimhnehkdoaaGreatDoor.Rf
end
section
namespace Go.Proofs.YtkofimhnehkdoaaGreatDoor.Rf
section
variable {s:List UInt8} {hp:List HObj} {lo:Nat}
end
end Go.Proofs.YtkofimhnehkdoaaGreatDoor.Rf
end
section
namespace Go.Proofs.YtkofimhnehkdoaaGreatDoor.Rf
section
variable {hp:List HObj} {lo:Nat}
end
end Go.Proofs.YtkofimhnehkdoaaGreatDoor.Rf
end
section
namespace Go.Proofs.YtkofimhnehkdoaaGreatDoor.Rf
def ownN (acc:List Int) : Own := if acc.isEmpty then .nil else .own 1 0
@[simp] theorem ownN_cp (acc:List Int) : (ownN acc).cp = ownB acc.isEmpty := by cases acc <;> rfl
@[simp] theorem ownN_app (acc:List Int) (x:Int) : ownN (acc ++ [x]) = .own 1 0 := by cases acc <;> rfl
@[simp] theorem i64s_nil : i64s [] = [] := rfl
@[simp] theorem okSize_i64s (l:List Int) : okSize 1 (i64s l) = true := by cases l <;> simp [i64s]
section
variable {hp:List HObj} {lo:Nat}
end
end Go.Proofs.YtkofimhnehkdoaaGreatDoor.Rf
end
section
namespace Go.Proofs.YtkofimhnehkdoaaGreatDoor.Rf
section
variable {hp:List HObj} {lo:Nat}
end
end Go.Proofs.YtkofimhnehkdoaaGreatDoor.Rf
end
section
namespace Go.Proofs.YtkofimhnehkdoaaGreatDoor.Rf
def opN : List (List UInt8) := [[],[118,97,114],[99,111,110,115,116],[110,111,116],[110,101,103],[97,110,100],[111,114],[120,111,114],[97,100,100],[115,117,98],[109,117,108],[117,100,105,118],[117,114,101,109],[115,104,108],[108,115,104,114],[97,115,104,114],[101,113],[117,108,116],[115,108,116],[105,116,101],[99,111,110,99,97,116],[101,120,116,114,97,99,116],[122,101,120,116],[115,101,120,116],[104,111,108,101],[110,117,109],[101,118,97,108]]
theorem g_0_eq : g_0 = opN.map AV.str := rfl
theorem g_0_len : g_0.length = 27 := rfl
def nm (n:Nat) : List UInt8 := opN.getD n []
theorem g_0_at {n:Nat} (h:n < 27) : (g_0.drop n).take 1 = [AV.str (nm n)] := by
 rw [g_0_eq,List.drop_eq_getElem_cons (by simpa [opN] using h)]
 simp [nm,List.getD,show n < opN.length by simpa [opN] using h]
def opOk (op:Int) : Bool := decide (1 ≤ op) && decide (op ≤ 26)
theorem opOk_cases {op:Int} (h:opOk op = true) : op = 1 ∨ op = 2 ∨ op = 3 ∨ op = 4 ∨ op = 5 ∨ op = 6 ∨ op = 7 ∨ op = 8 ∨ op = 9 ∨ op = 10 ∨ op = 11 ∨ op = 12 ∨ op = 13 ∨ op = 14 ∨ op = 15 ∨ op = 16 ∨ op = 17 ∨ op = 18 ∨ op = 19 ∨ op = 20 ∨ op = 21 ∨ op = 22 ∨ op = 23 ∨ op = 24 ∨ op = 25 ∨ op = 26 := by
 simp [opOk] at h; omega
theorem opOk_nat {op:Int} (h:opOk op = true) : ∃ n : Nat,op = n ∧ 1 ≤ n ∧ n ≤ 26 := by
 simp [opOk] at h; exact ⟨op.toNat,by omega,by omega,by omega⟩
def nameE (op:Int) : List UInt8 := if opOk op then nm op.toNat else []
def ofE (s:List UInt8) : Int × Bool := match (List.range 26).find? fun i => decide (nm (i + 1) = s) with | some i => (((i + 1 : Nat) : Int),true) | none => (0,false)
def arE (op:Int) : Int := if opOk op = false then -1 else if op = 1 ∨ op = 2 ∨ op = 24 ∨ op = 25 then 0 else if op = 3 ∨ op = 4 ∨ op = 21 ∨ op = 22 ∨ op = 23 ∨ op = 26 then 1 else if op = 19 then 3 else 2
def insE (w:Int) : Bool := decide (0 ≤ w) && decide (w ≤ 64)
def leafE (op w v:Int) : Int × Int := if insE w = false ∨ (op = 2 ∧ 0 < w ∧ 2 ^ w.toNat ≤ v) then (0,3) else (w,0)
def resE (op w v f:Int) : Int × Int := if w < 1 ∨ 64 < w ∨ f < 1 then (0,3) else if (op ≠ 21 ∧ w < f) ∨ (op = 21 ∧ (f < w ∨ f - w < v)) then (0,3) else (w,0)
def widE (op w v:Int) (as:List Int) : Int × Int :=
 if opOk op = false ∨ (as.length : Int) ≠ arE op then (0,4) else
 if as.all insE = false then (0,3) else
 if op = 1 ∨ op = 2 ∨ op = 24 ∨ op = 25 then leafE op w v else
 if op = 3 ∨ op = 4 ∨ op = 26 then (as.getD 0 0,0) else
 if op = 21 ∨ op = 22 ∨ op = 23 then resE op w v (as.getD 0 0) else
 if op = 19 then (if as.getD 0 0 = 1 ∧ as.getD 1 0 = as.getD 2 0 then (as.getD 1 0,0) else (0,3)) else
 if op = 20 then (if 1 ≤ as.getD 0 0 ∧ 1 ≤ as.getD 1 0 ∧ as.getD 0 0 + as.getD 1 0 ≤ 64 then (as.getD 0 0 + as.getD 1 0,0) else (0,3)) else
 if op = 16 ∨ op = 17 ∨ op = 18 then (if as.getD 0 0 = as.getD 1 0 then (1,0) else (0,3)) else
 if as.getD 0 0 = as.getD 1 0 then (as.getD 0 0,0) else (0,3)
section
variable {hp:List HObj} {lo:Nat} (q:Bool)
theorem known_D (op:Int) : callD G0 IP n_oi_known [.int .i64 op] hp lo q = some (.ret (.bool (opOk op)) hp) := by
 rw [callD_eq]
 by_cases h : 1 ≤ op
 · by_cases h2 : op ≤ 26 <;> simp [IP_oi_known,i_oi_known,opOk,h,h2]
 · simp [IP_oi_known,i_oi_known,opOk,h]
theorem opName_D (op:Int) : callD G0 IP n_oi_Name [.int .i64 op] hp lo q = some (.ret (.str (nameE op)) hp) := by
 rw [callD_eq]
 cases h : opOk op with
 | false => simp [IP_oi_Name,i_oi_Name,known_D,h,nameE]
 | true =>
   obtain ⟨n,rfl,h1,h2⟩ := opOk_nat h
   have e1 : (n:Int) < 27 := by omega
   have e2 : n + 1 ≤ 27 := by omega
   simp [IP_oi_Name,i_oi_Name,known_D,h,nameE,G0_0,e1,e2,g_0_at (show n < 27 by omega),g_0_len]
theorem arity_D (op:Int) : callD G0 IP n_oi_Arity [.int .i64 op] hp lo q = some (.ret (.int .i64 (arE op)) hp) := by
 rw [callD_eq]
 cases h : opOk op with
 | true =>
   rcases opOk_cases h with rfl | rfl | rfl | rfl | rfl | rfl | rfl | rfl | rfl | rfl | rfl | rfl | rfl | rfl | rfl | rfl | rfl | rfl | rfl | rfl | rfl | rfl | rfl | rfl | rfl | rfl
   all_goals simp [IP_oi_Arity,i_oi_Arity,arE,opOk,show IntKind.wrap .i64 1 = 1 from rfl,show IntKind.wrap .i64 2 = 2 from rfl,show IntKind.wrap .i64 3 = 3 from rfl]
 | false =>
   have hk : ∀ k : Int,1 ≤ k → k ≤ 26 → (op = k) = False := fun k h1 h2 => by
     simp only [eq_iff_iff,iff_false]; intro e; subst e; simp [opOk] at h; omega
   simp [IP_oi_Arity,i_oi_Arity,arE,h,hk]
end
end Go.Proofs.YtkofimhnehkdoaaGreatDoor.Rf
end
section
namespace Go.Proofs.YtkofimhnehkdoaaGreatDoor.Rf
section
variable {hp:List HObj} {lo:Nat} (q:Bool)
end
end Go.Proofs.YtkofimhnehkdoaaGreatDoor.Rf
end
section
namespace Go.Proofs.YtkofimhnehkdoaaGreatDoor.Rf
section
variable {hp:List HObj} {lo:Nat} (q:Bool)
end
end Go.Proofs.YtkofimhnehkdoaaGreatDoor.Rf
end
section
namespace Go.Proofs.YtkofimhnehkdoaaGreatDoor.Rf
def leafB (op:Int) : Bool := decide (op = 1) || (decide (op = 2) || (decide (op = 24) || decide (op = 25)))
theorem any_eq (op:Int) (l:List Int) : ((List.range l.length).any fun i => decide (l.getD i 0 = op)) = l.any fun x => decide (x = op) := by
 induction l with
 | nil => rfl
 | cons c r ih =>
   rw [List.length_cons,List.range_succ_eq_map]
   simp [List.any_map,Function.comp_def] at ih ⊢
   rw [ih]
theorem eq_comm_dec (a b:Int) : decide (a = b) = decide (b = a) := by
 by_cases h : a = b
 · simp [h]
 · rw [decide_eq_false h,decide_eq_false fun e : b = a => h e.symm]
section
variable {hp:List HObj} {lo:Nat} (q:Bool)
theorem is4_D (op:Int) (l:List Int) (o:Own) (hl:l.length ≤ 9223372036854775807) : callD G0 IP n_sr04_Is [.int .i64 op,.list (l.map (AV.int .i64)) o] hp lo q = some (.ret (.bool (l.any fun x => decide (x = op))) hp) := by
 rw [callD_eq]
 have hloop := loop_find (G := G0) (IP := IP) (lo := hp.length) (b := l_sr04_Is_0)
   (fun i => ⟨[(0,.int .i64 op),(1,.list (l.map (AV.int .i64)) o),(7,.int .i64 l.length),(8,.int .i64 i)],hp⟩) l.length (fun i => decide (l.getD i 0 = op))
   (.ret,⟨[(4,.bool true)],hp⟩) (.exit 0,⟨[(0,.int .i64 op),(1,.list (l.map (AV.int .i64)) o),(7,.int .i64 l.length),(8,.int .i64 l.length),(9,.bool false)],hp⟩)
   (fun i hi hp => by
     have hw := wrap_succ hi hl
     simp [List.getD,hi] at hp
     rw [← hw]
     simp [l_sr04_Is_0,hi,show (i:Int) < (l.length : Int) by omega,hp])
   (fun i hi hp => by
     simp [List.getD,hi] at hp
     simp [l_sr04_Is_0,hi,show (i:Int) < (l.length : Int) by omega,hp])
   (by simp) (by simp [l_sr04_Is_0]) (by simp)
 rw [any_eq] at hloop
 simp only [Int.natCast_zero] at hloop
 cases h : l.any fun x => decide (x = op) with
 | true => rw [h] at hloop; simp only [if_true] at hloop; simp [IP_sr04_Is,i_sr04_Is,hloop]
 | false => rw [h] at hloop; simp only [Bool.false_eq_true,if_false] at hloop; simp [IP_sr04_Is,i_sr04_Is,hloop]
theorem leaf4_D (op:Int) : callD G0 IP n_sr04_Leaf [.int .i64 op] hp lo q = some (.ret (.bool (leafB op)) hp) := by
 rw [callD_eq]
 have e := fun hp lo q (o:Own) => is4_D (hp := hp) (lo := lo) q op [1,2,24,25] o (by simp)
 simp only [List.map_cons,List.map_nil,List.any_cons,List.any_nil,Bool.or_false,eq_comm_dec _ op] at e
 simp [IP_sr04_Leaf,i_sr04_Leaf,e,leafB]
theorem arity4_D (op:Int) : callD G0 IP n_sr04_Arity [.int .i64 op] hp lo q = some (.ret (.int .i64 (arE op)) hp) := by
 rw [callD_eq]
 have e := fun hp lo q (o:Own) => is4_D (hp := hp) (lo := lo) q op [3,4,21,22,23,26] o (by simp)
 simp only [List.map_cons,List.map_nil,List.any_cons,List.any_nil,Bool.or_false,eq_comm_dec _ op] at e
 by_cases h1 : op < 1
 · have hk : opOk op = false := by simp [opOk]; omega
   simp [IP_sr04_Arity,i_sr04_Arity,arE,hk,h1]
 · by_cases h2 : 26 < op
   · have hk : opOk op = false := by simp [opOk]; omega
     simp [IP_sr04_Arity,i_sr04_Arity,arE,hk,h1,h2]
   · have hk : opOk op = true := by simp [opOk]; omega
     cases hL : leafB op with
     | true =>
       have h3 : op = 1 ∨ op = 2 ∨ op = 24 ∨ op = 25 := by simpa [leafB] using hL
       simp [IP_sr04_Arity,i_sr04_Arity,arE,hk,h1,h2,leaf4_D,hL,h3]
     | false =>
       have h3 : ¬ (op = 1 ∨ op = 2 ∨ op = 24 ∨ op = 25) := by simpa [leafB] using hL
       by_cases h4 : op = 3 ∨ op = 4 ∨ op = 21 ∨ op = 22 ∨ op = 23 ∨ op = 26
       · have h5 : (decide (op = 3) || (decide (op = 4) || (decide (op = 21) || (decide (op = 22) || (decide (op = 23) || decide (op = 26)))))) = true := by simpa using h4
         rw [h5] at e
         rw [arE,if_neg (by simp [hk]),if_neg h3,if_pos h4]
         simp [IP_sr04_Arity,i_sr04_Arity,h1,h2,leaf4_D,hL,e]
       · have h5 : (decide (op = 3) || (decide (op = 4) || (decide (op = 21) || (decide (op = 22) || (decide (op = 23) || decide (op = 26)))))) = false := by simpa using h4
         rw [h5] at e
         rw [arE,if_neg (by simp [hk]),if_neg h3,if_neg h4]
         by_cases h6 : op = 19
         · subst h6
           simp [IP_sr04_Arity,i_sr04_Arity,leaf4_D,hL,e]
         · simp [IP_sr04_Arity,i_sr04_Arity,h1,h2,leaf4_D,hL,e,h6]
end
end Go.Proofs.YtkofimhnehkdoaaGreatDoor.Rf
end
section
namespace Go.Proofs.YtkofimhnehkdoaaGreatDoor.Rf
section
variable {hp:List HObj} {lo:Nat} (q:Bool)
end
end Go.Proofs.YtkofimhnehkdoaaGreatDoor.Rf
end
section
namespace Go.Proofs.YtkofimhnehkdoaaGreatDoor.Rf
section
variable {hp:List HObj} {lo:Nat} (q:Bool)
theorem nameSel {n:Nat} (h:n < 27) : ([AV.str [],AV.str [118,97,114],AV.str [99,111,110,115,116],AV.str [110,111,116],AV.str [110,101,103],AV.str [97,110,100],AV.str [111,114],AV.str [120,111,114],AV.str [97,100,100],AV.str [115,117,98],AV.str [109,117,108],AV.str [117,100,105,118],AV.str [117,114,101,109],AV.str [115,104,108],AV.str [108,115,104,114],AV.str [97,115,104,114],AV.str [101,113],AV.str [117,108,116],AV.str [115,108,116],AV.str [105,116,101],AV.str [99,111,110,99,97,116],AV.str [101,120,116,114,97,99,116],AV.str [122,101,120,116],AV.str [115,101,120,116],AV.str [104,111,108,101],AV.str [110,117,109],AV.str [101,118,97,108]])[n]? = some (AV.str (nm n)) := by
 have e := g_0_at h
 rw [List.drop_eq_getElem_cons (by rw [g_0_len]; exact h)] at e
 simp only [List.take_succ_cons,List.take_zero,List.cons.injEq,and_true] at e
 show g_0[n]? = _
 rw [List.getElem?_eq_getElem (by rw [g_0_len]; exact h),e]
theorem name4_D (op:Int) : callD G0 IP n_sr04_Name [.int .i64 op] hp lo q = some (.ret (.str (nameE op)) hp) := by
 rw [callD_eq]
 cases h : opOk op with
 | false =>
   have h1 : op < 1 ∨ ¬ op < 1 ∧ 26 < op := by simp [opOk] at h; omega
   rcases h1 with h1 | ⟨h1,h2⟩
   · simp [IP_sr04_Name,i_sr04_Name,h1,h,nameE]
   · simp [IP_sr04_Name,i_sr04_Name,h1,h2,h,nameE]
 | true =>
   obtain ⟨n,rfl,h1,h2⟩ := opOk_nat h
   have e1 : (n:Int) < 27 := by omega
   have e2 : n + 1 ≤ 27 := by omega
   have e3 : ¬ (n:Int) < 1 := by omega
   have e4 : ¬ (26:Int) < n := by omega
   simp [IP_sr04_Name,i_sr04_Name,h,nameE,e1,e2,e3,e4,nameSel (show n < 27 by omega)]
end
end Go.Proofs.YtkofimhnehkdoaaGreatDoor.Rf
end
section
namespace Go.Proofs.YtkofimhnehkdoaaGreatDoor.Rf
section
variable {hp:List HObj} {lo:Nat} (q:Bool)
end
end Go.Proofs.YtkofimhnehkdoaaGreatDoor.Rf
end
section
namespace Go.Proofs.YtkofimhnehkdoaaGreatDoor.Rf
def bt (s:List UInt8) (i:Nat) : Int := ((s.getD i 0).toNat : Int)
theorem bt_some {s:List UInt8} {i:Nat} (h:i < s.length) : ∃ c : UInt8,s[i]? = some c ∧ bt s i = (c.toNat : Int) := ⟨s[i],by simp [h],by simp [bt,h]⟩
def lowC (n:Int) : Bool := decide (97 ≤ n) && decide (n ≤ 122)
def nameC (n:Int) : Bool := lowC n || (decide (48 ≤ n) && decide (n ≤ 57)) || decide (n = 95)
def nameOk (s:List UInt8) : Bool := decide (1 ≤ s.length) && (decide (s.length ≤ 16) && (lowC (bt s 0) && s.all fun c => nameC (c.toNat : Int)))
inductive TR where
 | ok (t:T) | err (e:Int)
def T.z : T := .mk 0 0 0 [] true []
def TR.t : TR → T | .ok t => t | .err _ => T.z
def TR.e : TR → Int | .ok _ => 0 | .err e => e
def TR.out (hp:List HObj) : TR → COut
 | .ok t => .ret t.av hp
 | .err e => .pan (.iface 78 (.agg [.int .i64 e])) hp
def TR.tup (hp:List HObj) (r:TR) : COut := .ret (.tup [r.t.av,.int .i64 r.e]) hp
def constR (left:List UInt8) (w e:Int) : TR :=
 if (numE left).2 = 6 then .err 6 else
 if ¬ (e = 0 ∧ (numE left).2 = 0 ∧ w ≤ 64) then .err 2 else
 if (widE 2 w (numE left).1 []).2 ≠ 0 then .err (widE 2 w (numE left).1 []).2 else
 .ok (.mk 2 w (numE left).1 [] true [])
def leafOp (l:List UInt8) : Int := if bt l 0 = 63 then 24 else if bt l 0 = 35 then 25 else 1
def leafNm (l:List UInt8) : List UInt8 := if bt l 0 = 63 ∨ bt l 0 = 35 then l.drop 1 else l
def leafR (s:List UInt8) : TR :=
 if (cutB s 58).2.2 = false ∨ (numE (cutB s 58).2.1).2 = 6 then .err 6 else
 if 48 ≤ bt s 0 ∧ bt s 0 ≤ 57 then constR (cutB s 58).1 (numE (cutB s 58).2.1).1 (numE (cutB s 58).2.1).2 else
 if nameOk (leafNm (cutB s 58).1) = false then .err 5 else
 if ¬ ((numE (cutB s 58).2.1).2 = 0 ∧ (numE (cutB s 58).2.1).1 ≤ 64) then .err 2 else
 .ok (.mk (leafOp (cutB s 58).1) (numE (cutB s 58).2.1).1 0 (leafNm (cutB s 58).1) true [])
end Go.Proofs.YtkofimhnehkdoaaGreatDoor.Rf
end
section
namespace Go.Proofs.YtkofimhnehkdoaaGreatDoor.Rf
section
variable {hp:List HObj} {lo:Nat}
end
end Go.Proofs.YtkofimhnehkdoaaGreatDoor.Rf
end
section
namespace Go.Proofs.YtkofimhnehkdoaaGreatDoor.Rf
theorem any_names (s:List UInt8) : ((List.range s.length).any fun i => !nameC (bt s i)) = !(s.all fun c => nameC (c.toNat : Int)) := by
 induction s with
 | nil => rfl
 | cons c r ih =>
   rw [List.length_cons,List.range_succ_eq_map]
   simp [List.any_map,Function.comp_def,bt] at ih ⊢
   rw [ih]
section
variable {hp:List HObj} {lo:Nat} (q:Bool)
theorem name_D (s : List UInt8) (hs:s.length ≤ 9223372036854775807) : callD G0 IP n_term_Name [.str s] hp lo q = some (.ret (.bool (nameOk s)) hp) := by
 rw [callD_eq]
 by_cases h1 : s.length < 1
 · have h0 : ¬ 1 ≤ s.length := by omega
   have hi : (s.length : Int) < 1 := by omega
   simp [IP_term_Name,i_term_Name,nameOk,hi,h0]
 · have h1' : 1 ≤ s.length := by omega
   have hi : ¬ (s.length : Int) < 1 := by omega
   by_cases h2 : 16 < s.length
   · have h2' : (16:Int) < (s.length : Int) := by omega
     have h0 : ¬ s.length ≤ 16 := by omega
     simp [IP_term_Name,i_term_Name,nameOk,hi,h2',h0]
   · have h2' : ¬ (16 : Int) < (s.length : Int) := by omega
     obtain ⟨c,h4,hb⟩ := bt_some (s := s) (i := 0) (by omega)
     have h3 : s.length ≤ 16 := by omega
     by_cases h5 : (c.toNat : Int) < 97
     · have g : lowC (c.toNat : Int) = false := by simp [lowC]; omega
       simp [IP_term_Name,i_term_Name,nameOk,hi,h2',h4,hb,h5,g]
     · by_cases h6 : 122 < (c.toNat : Int)
       · have g : lowC (c.toNat : Int) = false := by simp [lowC]; omega
         simp [IP_term_Name,i_term_Name,nameOk,hi,h2',h4,hb,h5,h6,g]
       · have g : lowC (c.toNat : Int) = true := by simp [lowC]; omega
         have hloop := loop_find (G := G0) (IP := IP) (lo := hp.length) (b := l_term_Name_0)
           (fun i => ⟨[(0,.str s),(24,.int .i64 s.length),(25,.int .i64 i)],hp⟩) s.length (fun i => !nameC (bt s i))
           (.ret,⟨[(2,.bool false)],hp⟩) (.exit 0,⟨[(0,.str s),(24,.int .i64 s.length),(25,.int .i64 s.length),(26,.bool false)],hp⟩)
           (fun i hi hp => by
             have hw := wrap_succ hi hs
             obtain ⟨c,h4,hb⟩ := bt_some (s := s) (i := i) hi
             have h4' : s[i] = c := by simpa [hi] using h4
             rw [hb] at hp
             rw [← hw]
             by_cases a1 : (c.toNat : Int) < 97
             · by_cases a2 : (c.toNat : Int) < 48
               · simp [nameC,lowC] at hp; omega
               · by_cases a3 : 57 < (c.toNat : Int)
                 · have a4 : (c.toNat : Int) = 95 := by simp [nameC,lowC] at hp; omega
                   simp [l_term_Name_0,h4,h4',hi,a1,a2,a3,a4]
                 · simp [l_term_Name_0,h4,h4',hi,a1,a2,a3]
             · by_cases a2 : 122 < (c.toNat : Int)
               · simp [nameC,lowC] at hp; omega
               · simp [l_term_Name_0,h4,h4',hi,a1,a2])
           (fun i hi hp => by
             obtain ⟨c,h4,hb⟩ := bt_some (s := s) (i := i) hi
             have h4' : s[i] = c := by simpa [hi] using h4
             rw [hb] at hp
             have a4 : ¬ (c.toNat : Int) = 95 := by simp [nameC,lowC] at hp; omega
             by_cases a1 : (c.toNat : Int) < 97
             · by_cases a2 : (c.toNat : Int) < 48
               · simp [l_term_Name_0,h4,h4',hi,a1,a2,a4]
               · have a3 : 57 < (c.toNat : Int) := by simp [nameC,lowC] at hp; omega
                 simp [l_term_Name_0,h4,h4',hi,a1,a2,a3,a4]
             · have a2 : 122 < (c.toNat : Int) := by simp [nameC,lowC] at hp; omega
               have a3 : 57 < (c.toNat : Int) := by omega
               have a5 : ¬ (c.toNat : Int) < 48 := by omega
               simp [l_term_Name_0,h4,h4',hi,a1,a2,a3,a4,a5])
           (by simp) (by simp [l_term_Name_0]) (by simp)
         rw [any_names] at hloop
         simp only [Int.natCast_zero] at hloop
         cases h : s.all fun c => nameC (c.toNat : Int) with
         | true => rw [h] at hloop; simp only [Bool.not_true,Bool.false_eq_true,if_false] at hloop; simp [IP_term_Name,i_term_Name,hi,h2',h4,h5,h6,hloop,nameOk,hb,g,h1',h3,h]
         | false => rw [h] at hloop; simp only [Bool.not_false,if_true] at hloop; simp [IP_term_Name,i_term_Name,hi,h2',h4,h5,h6,hloop,nameOk,hb,g,h1',h3,h]
theorem name7_D (s : List UInt8) (hs:s.length ≤ 9223372036854775807) : callD G0 IP n_sr07_Name [.str s] hp lo q = some (.ret (.bool (nameOk s)) hp) := by
 rw [callD_eq]
 by_cases h1 : s.length < 1
 · have h0 : ¬ 1 ≤ s.length := by omega
   have hi : (s.length : Int) < 1 := by omega
   simp [IP_sr07_Name,i_sr07_Name,nameOk,hi,h0]
 · have h1' : 1 ≤ s.length := by omega
   have hi : ¬ (s.length : Int) < 1 := by omega
   by_cases h2 : 16 < s.length
   · have h2' : (16:Int) < (s.length : Int) := by omega
     have h0 : ¬ s.length ≤ 16 := by omega
     simp [IP_sr07_Name,i_sr07_Name,nameOk,hi,h2',h0]
   · have h2' : ¬ (16 : Int) < (s.length : Int) := by omega
     obtain ⟨c,h4,hb⟩ := bt_some (s := s) (i := 0) (by omega)
     have h3 : s.length ≤ 16 := by omega
     by_cases h5 : (c.toNat : Int) < 97
     · have g : lowC (c.toNat : Int) = false := by simp [lowC]; omega
       simp [IP_sr07_Name,i_sr07_Name,nameOk,hi,h2',h4,hb,h5,g]
     · by_cases h6 : 122 < (c.toNat : Int)
       · have g : lowC (c.toNat : Int) = false := by simp [lowC]; omega
         simp [IP_sr07_Name,i_sr07_Name,nameOk,hi,h2',h4,hb,h5,h6,g]
       · have g : lowC (c.toNat : Int) = true := by simp [lowC]; omega
         have hloop := loop_find (G := G0) (IP := IP) (lo := hp.length) (b := l_sr07_Name_0)
           (fun i => ⟨[(0,.str s),(3,.int .i64 i)],hp⟩) s.length (fun i => !nameC (bt s i))
           (.ret,⟨[(2,.bool false)],hp⟩) (.exit 0,⟨[(0,.str s),(3,.int .i64 s.length),(26,.bool false)],hp⟩)
           (fun i hi hp => by
             have hw := wrap_succ hi hs
             obtain ⟨c,h4,hb⟩ := bt_some (s := s) (i := i) hi
             have h4' : s[i] = c := by simpa [hi] using h4
             rw [hb] at hp
             rw [← hw]
             by_cases a1 : 97 ≤ (c.toNat : Int)
             · by_cases a2 : (c.toNat : Int) ≤ 122
               · simp [l_sr07_Name_0,h4,h4',hi,a1,a2]
               · simp [nameC,lowC] at hp; omega
             · by_cases a2 : 48 ≤ (c.toNat : Int)
               · by_cases a3 : (c.toNat : Int) ≤ 57
                 · simp [l_sr07_Name_0,h4,h4',hi,a1,a2,a3]
                 · have a4 : (c.toNat : Int) = 95 := by simp [nameC,lowC] at hp; omega
                   simp [l_sr07_Name_0,h4,h4',hi,a1,a2,a3,a4]
               · simp [nameC,lowC] at hp; omega)
           (fun i hi hp => by
             obtain ⟨c,h4,hb⟩ := bt_some (s := s) (i := i) hi
             have h4' : s[i] = c := by simpa [hi] using h4
             rw [hb] at hp
             have a4 : ¬ (c.toNat : Int) = 95 := by simp [nameC,lowC] at hp; omega
             by_cases a1 : 97 ≤ (c.toNat : Int)
             · have a2 : ¬ (c.toNat : Int) ≤ 122 := by simp [nameC,lowC] at hp; omega
               have a3 : ¬ (c.toNat : Int) ≤ 57 := by omega
               have a5 : 48 ≤ (c.toNat : Int) := by omega
               simp [l_sr07_Name_0,h4,h4',hi,a1,a2,a3,a4,a5]
             · by_cases a2 : 48 ≤ (c.toNat : Int)
               · have a3 : ¬ (c.toNat : Int) ≤ 57 := by simp [nameC,lowC] at hp; omega
                 simp [l_sr07_Name_0,h4,h4',hi,a1,a2,a3,a4]
               · simp [l_sr07_Name_0,h4,h4',hi,a1,a2,a4])
           (by simp) (by simp [l_sr07_Name_0]) (by simp)
         rw [any_names] at hloop
         simp only [Int.natCast_zero] at hloop
         cases h : s.all fun c => nameC (c.toNat : Int) with
         | true => rw [h] at hloop; simp only [Bool.not_true,Bool.false_eq_true,if_false] at hloop; simp [IP_sr07_Name,i_sr07_Name,hi,h2',h4,h5,h6,hloop,nameOk,hb,g,h1',h3,h]
         | false => rw [h] at hloop; simp only [Bool.not_false,if_true] at hloop; simp [IP_sr07_Name,i_sr07_Name,hi,h2',h4,h5,h6,hloop,nameOk,hb,g,h1',h3,h]
end
end Go.Proofs.YtkofimhnehkdoaaGreatDoor.Rf
end
section
namespace Go.Proofs.YtkofimhnehkdoaaGreatDoor.Rf
theorem numE_bd (s:List UInt8) : 0 ≤ (numE s).1 ∧ (numE s).1 < 18446744073709551616 := by
 unfold numE
 split
 · omega
 · split <;> omega
mutual
@[simp] theorem T.av_clo (n:Nat) : ∀ t : T,AV.closed n t.av = true
 | .mk _ _ _ _ o as => by simp [T.av,AV.closed,AV.closedL,T.avs_clo n as]
@[simp] theorem T.avs_clo (n:Nat) : ∀ as : List T,AV.closedL n (T.avs as) = true
 | [] => rfl
 | t :: r => by simp [T.avs,AV.closedL,T.av_clo n t,T.avs_clo n r]
end
section
variable {hp:List HObj} {lo:Nat} (q:Bool)
end
end Go.Proofs.YtkofimhnehkdoaaGreatDoor.Rf
end
section
namespace Go.Proofs.YtkofimhnehkdoaaGreatDoor.Rf
def numsN (op:Int) : Nat := if op = 21 then 2 else if op = 22 ∨ op = 23 then 1 else 0
def numR (s:List UInt8) (most:Int) : Int × Int := if (numE s).2 = 6 then (0,6) else if (numE s).2 ≠ 0 ∨ most < (numE s).1 then (0,2) else ((numE s).1,0)
def S.z : S := .mk [] true []
def numsR (op:Int) (l:List S) : Int × Int × Int :=
 if op = 21 then
   (if (numR (l.getD 1 S.z).atom 18446744073709551615).2 ≠ 0 then (0,0,(numR (l.getD 1 S.z).atom 18446744073709551615).2) else
    if (numR (l.getD 2 S.z).atom 64).2 ≠ 0 then (0,0,(numR (l.getD 2 S.z).atom 64).2) else
    ((numR (l.getD 1 S.z).atom 18446744073709551615).1,(numR (l.getD 2 S.z).atom 64).1,0))
 else if op = 22 ∨ op = 23 then
   (if (numR (l.getD 1 S.z).atom 64).2 ≠ 0 then (0,0,(numR (l.getD 1 S.z).atom 64).2) else (0,(numR (l.getD 1 S.z).atom 64).1,0))
 else (0,0,0)
inductive TRs where
 | ok (t:List T) | err (e:Int)
def TRs.cons (r:TR) (s:TRs) : TRs := match r with
 | .err e => .err e
 | .ok t => match s with
   | .err e => .err e
   | .ok ts => .ok (t :: ts)
def nodeR (op v w:Int) (s:TRs) : TR := match s with
 | .err e => .err e
 | .ok ts => if (widE op w v (ts.map T.width)).2 ≠ 0 then .err (widE op w v (ts.map T.width)).2 else .ok (.mk op (widE op w v (ts.map T.width)).1 v [] ts.isEmpty ts)
def headR (l:List S) : Bool := decide (l ≠ []) && ((ofE (l.getD 0 S.z).atom).2 && (!decide (arE (ofE (l.getD 0 S.z).atom).1 = 0) && decide ((l.length : Int) = 1 + numsN (ofE (l.getD 0 S.z).atom).1 + arE (ofE (l.getD 0 S.z).atom).1)))
mutual
def readS : S → TR
 | .mk a o l => if a ≠ [] then leafR a else
   if headR l = false then .err 6 else
   if (numsR (ofE (l.getD 0 S.z).atom).1 l).2.2 ≠ 0 then .err (numsR (ofE (l.getD 0 S.z).atom).1 l).2.2 else
   nodeR (ofE (l.getD 0 S.z).atom).1 (numsR (ofE (l.getD 0 S.z).atom).1 l).1 (numsR (ofE (l.getD 0 S.z).atom).1 l).2.1 (readsS l (1 + numsN (ofE (l.getD 0 S.z).atom).1))
def readsS : List S → Nat → TRs
 | [],_ => .ok []
 | x :: r,k + 1 => readsS r k
 | x :: r,0 => TRs.cons (readS x) (readsS r 0)
end
theorem numR_bd (s:List UInt8) (m:Int) (hm:0 ≤ m) : 0 ≤ (numR s m).1 ∧ (numR s m).1 ≤ m := by
 have := numE_bd s
 unfold numR; split
 · simp; omega
 · split
   · simp; omega
   · rename_i h; simp only; omega
end Go.Proofs.YtkofimhnehkdoaaGreatDoor.Rf
end
section
namespace Go.Proofs.YtkofimhnehkdoaaGreatDoor.Rf
section
variable {hp:List HObj} {lo:Nat} (q:Bool)
theorem ttNumerals_D (op:Int) : callD G0 IP n_tt_numerals [.int .i64 op] hp lo q = some (.ret (.int .i64 (numsN op)) hp) := by
 rw [callD_eq]
 by_cases h1 : op = 21
 · subst h1; simp [IP_tt_numerals,i_tt_numerals,numsN]
 · by_cases h2 : op = 22
   · subst h2; simp [IP_tt_numerals,i_tt_numerals,numsN]
   · by_cases h3 : op = 23
     · subst h3; simp [IP_tt_numerals,i_tt_numerals,numsN]
     · simp [IP_tt_numerals,i_tt_numerals,numsN,h1,h2,h3]
theorem plain7_D (op:Int) : callD G0 IP n_sr07_plain [.int .i64 op] hp lo q = some (.ret (.int .i64 (numsN op)) hp) := by
 rw [callD_eq]
 by_cases h1 : op = 21
 · subst h1; simp [IP_sr07_plain,i_sr07_plain,numsN]
 · by_cases h2 : op = 22
   · subst h2; simp [IP_sr07_plain,i_sr07_plain,numsN]
   · by_cases h3 : op = 23
     · subst h3; simp [IP_sr07_plain,i_sr07_plain,numsN]
     · simp [IP_sr07_plain,i_sr07_plain,numsN,h1,h2,h3]
end
end Go.Proofs.YtkofimhnehkdoaaGreatDoor.Rf
end
section
namespace Go.Proofs.YtkofimhnehkdoaaGreatDoor.Rf
section
variable {hp:List HObj} {lo:Nat} (q:Bool)
end
end Go.Proofs.YtkofimhnehkdoaaGreatDoor.Rf
end
section
namespace Go.Proofs.YtkofimhnehkdoaaGreatDoor.Rf
section
variable {hp:List HObj} {lo:Nat} (q:Bool)
end
theorem arE_bd (op:Int) : -1 ≤ arE op ∧ arE op ≤ 3 := by
 unfold arE; split
 · omega
 · split
   · omega
   · split
     · omega
     · split <;> omega
mutual
def S.sm : S → Prop
 | .mk a _ l => a.length ≤ 140737488355328 ∧ S.sms l
def S.sms : List S → Prop
 | [] => True
 | t :: r => t.sm ∧ S.sms r
end
def ownT (acc:List T) : Own := if acc.isEmpty then .nil else .own 5 0
@[simp] theorem ownT_cp (acc:List T) : (ownT acc).cp = ownB acc.isEmpty := by cases acc <;> rfl
@[simp] theorem ownT_app (acc:List T) (x:T) : ownT (acc ++ [x]) = .own 5 0 := by cases acc <;> rfl
theorem T.avs_app (a b:List T) : T.avs (a ++ b) = T.avs a ++ T.avs b := by simp [T.avs_eq]
def wds (acc:List T) : List AV := (acc.map T.width).map (AV.int .i64)
@[simp] theorem wds_len (acc:List T) : (wds acc).length = acc.length := by simp [wds]
@[simp] theorem wds_nil : wds [] = [] := rfl
@[simp] theorem T.okSize_avs (l:List T) : okSize 5 (T.avs l) = true := by
 cases l with
 | nil => rfl
 | cons t r => simp [T.avs,T.av_eq]
@[simp] theorem okSize_wds (l:List T) : okSize 1 (wds l) = true := by
 cases l with
 | nil => rfl
 | cons t r => simp [wds]
section
variable {hp:List HObj} {lo:Nat} (q:Bool)
end
end Go.Proofs.YtkofimhnehkdoaaGreatDoor.Rf
end
section
namespace Go.Proofs.YtkofimhnehkdoaaGreatDoor.Rf
def w7 (s:List UInt8) : Int × Int := if (numE s).2 ≠ 0 then (0,(numE s).2) else if 64 < (numE s).1 then (0,2) else ((numE s).1,0)
section
variable {hp:List HObj} {lo:Nat} (q:Bool)
end
end Go.Proofs.YtkofimhnehkdoaaGreatDoor.Rf
end
section
namespace Go.Proofs.YtkofimhnehkdoaaGreatDoor.Rf
section
variable {hp:List HObj} {lo:Nat} (q:Bool)
end
end Go.Proofs.YtkofimhnehkdoaaGreatDoor.Rf
end
section
namespace Go.Proofs.YtkofimhnehkdoaaGreatDoor.Rf
section
variable {hp:List HObj} {lo:Nat} (q:Bool)
end
end Go.Proofs.YtkofimhnehkdoaaGreatDoor.Rf
end
section
namespace Go.Proofs.YtkofimhnehkdoaaGreatDoor.Rf
def notE (t:T) : Bool := decide (0 ≤ t.width) && (decide (t.width ≤ 64) && (decide ((t.args.length : Int) = arE t.op) && (if t.op = 1 ∨ t.op = 24 ∨ t.op = 25 then nameOk t.name && decide (t.val = 0) else if t.op = 2 ∨ t.op = 21 then decide (t.name = []) else decide (t.name = []) && decide (t.val = 0))))
theorem notE_mk (op w v:Int) (n:List UInt8) (o:Bool) (as:List T) : notE (.mk op w v n o as) = (decide (0 ≤ w) && (decide (w ≤ 64) && (decide ((as.length : Int) = arE op) && (if op = 1 ∨ op = 24 ∨ op = 25 then nameOk n && decide (v = 0) else if op = 2 ∨ op = 21 then decide (n = []) else decide (n = []) && decide (v = 0))))) := rfl
def decI (n:Int) : List UInt8 := dec n.toNat
def aS (a:List UInt8) : S := .mk a true []
def headW (op w v:Int) : List S := aS (nameE op) :: ((if op = 21 then [aS (decI v)] else []) ++ (if op = 21 ∨ op = 22 ∨ op = 23 then [aS (decI w)] else []))
mutual
def writeT : T → S
 | .mk op w v n o as => if notE (.mk op w v n o as) = false then aS [63] else
   if op = 1 then aS (n ++ 58 :: decI w) else
   if op = 24 then aS (63 :: (n ++ 58 :: decI w)) else
   if op = 25 then aS (35 :: (n ++ 58 :: decI w)) else
   if op = 2 then aS (decI v ++ 58 :: decI w) else
   .mk [] false (headW op w v ++ writeTs as)
def writeTs : List T → List S
 | [] => []
 | t :: r => writeT t :: writeTs r
end
mutual
def T.valid : T → Bool
 | .mk op w v n o as => T.valids as && (notE (.mk op w v n o as) && (decide ((widE op w v (as.map T.width)).2 = 0) && decide ((widE op w v (as.map T.width)).1 = w)))
def T.valids : List T → Bool
 | [] => true
 | t :: r => t.valid && T.valids r
end
theorem writeTs_len : ∀ as : List T,(writeTs as).length = as.length
 | [] => rfl
 | t :: r => by simp [writeTs,writeTs_len r]
theorem nameOk_mem {n:List UInt8} (h:nameOk n = true) : n ≠ [] ∧ n.length ≤ 16 ∧ 97 ≤ bt n 0 ∧ bt n 0 ≤ 122 ∧ ∀ c,c ∈ n → nameC (c.toNat : Int) = true := by
 simp only [nameOk,lowC,Bool.and_eq_true,decide_eq_true_eq,List.all_eq_true] at h
 obtain ⟨h1,h2,⟨h3,h4⟩,h5⟩ := h
 exact ⟨fun e => by subst e; simp at h1,h2,h3,h4,h5⟩
theorem decI_digs (n:Int) : ∀ c,c ∈ decI n → isDig c = true := dec_digs _
theorem arE_ok {op:Int} (h:arE op ≠ -1) : opOk op = true := by
 cases h2 : opOk op with
 | true => rfl
 | false => exact absurd (by simp [arE,h2]) h
theorem arE_ne {op:Int} (h:opOk op = true) (h1:op ≠ 1) (h2:op ≠ 2) (h3:op ≠ 24) (h4:op ≠ 25) : arE op ≠ 0 := by
 unfold arE
 rw [if_neg (by simp [h]),if_neg (by omega)]
 split
 · omega
 · split <;> omega
end Go.Proofs.YtkofimhnehkdoaaGreatDoor.Rf
end
