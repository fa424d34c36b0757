/- A part of the proof: see the last text. -/
import Derived.Test.YtkofimhnehkdoaaGreatDoorRcG21
set_option linter.unusedVariables false
set_option linter.unusedSimpArgs false
section
namespace Go.Proofs.YtkofimhnehkdoaaGreatDoor.Rf
structure Rl where
 name : List UInt8
 rest : List AV
def Rl.av (r:Rl) : AV := .agg (.str r.name :: r.rest)
theorem rl_av (r:Rl) : r.av = .agg (.str r.name :: r.rest) := rfl
def Rl.avs (l:List Rl) : List AV := l.map Rl.av
@[simp] theorem Rl.avs_len (l:List Rl) : (Rl.avs l).length = l.length := by simp [Rl.avs]
@[simp] theorem Rl.avs_getElem {l:List Rl} {i:Nat} (h:i < (Rl.avs l).length) : (Rl.avs l)[i] = (l[i]'(by simpa using h)).av := by simp [Rl.avs]
def refsX (l:List Int) : List UInt8 := (l.map fun n => 32 :: decZ n).flatten
theorem refsX_take {l:List Int} {i:Nat} (h:i < l.length) : refsX (l.take (i + 1)) = refsX (l.take i) ++ 32 :: decZ l[i] := by
 unfold refsX
 rw [List.take_succ_eq_append_getElem h,List.map_append,List.flatten_append]; simp
theorem refsX_len : ∀ l : List Int,(∀ x,x ∈ l → i64B x) → (refsX l).length ≤ 22 * l.length
 | [],_ => by simp [refsX]
 | x :: r,h => by
   have h1 := decZ_len (h x (by simp))
   have h2 := refsX_len r fun y hy => h y (by simp [hy])
   simp only [refsX,List.map_cons,List.flatten_cons,List.length_append,List.length_cons] at h2 ⊢
   omega
def nameX (rules:List Rl) (k:Int) : List UInt8 := if 0 ≤ k ∧ k < rules.length then ((rules[k.toNat]?).map Rl.name).getD [63] else [63]
theorem nameX_len {rules:List Rl} {n:Nat} (h:∀ r,r ∈ rules → r.name.length ≤ n) (hn:1 ≤ n) (k:Int) : (nameX rules k).length ≤ n := by
 unfold nameX
 split
 · cases hk : rules[k.toNat]? with
   | none => simpa using hn
   | some r => simpa using h r (List.mem_of_getElem? hk)
 · simpa using hn
def ruleX (rules:List Rl) (s:St7) : List UInt8 := if s.kind = 5 then 32 :: nameX rules s.rule else []
def headX (i:Nat) (s:St7) (c:Cl) : List UInt8 := decZ i ++ ([58,32] ++ (conclT c ++ ([32,32] ++ kindE s.kind)))
def lineX (rules:List Rl) (i:Nat) (s:St7) (c:Cl) : List UInt8 := headX i s c ++ (ruleX rules s ++ (refsX s.refs ++ [10]))
def zSt : St7 := ⟨0,true,[],0,true,[],.mk 0 0 0 [] true [],.mk 0 0 0 [] true []⟩
def zCl : Cl := ⟨false,.mk 0 0 0 [] true [],.mk 0 0 0 [] true [],0,0,0,0,0⟩
theorem getD_lt {α:Type} {l:List α} {i:Nat} {d:α} (h:i < l.length) : l.getD i d = l[i] := by simp [List.getD,List.getElem?_eq_getElem h]
def explX (rules:List Rl) (p:List St7) (l:List Cl) (n:Nat) : List UInt8 := ((List.range n).map fun i => lineX rules i (p.getD i zSt) (l.getD i zCl)).flatten
theorem explX_succ {rules:List Rl} {p:List St7} {l:List Cl} {i:Nat} (h1:i < p.length) (h2:i < l.length) : explX rules p l (i + 1) = explX rules p l i ++ lineX rules i p[i] l[i] := by
 simp only [explX,List.range_succ,List.map_append,List.flatten_append,List.map_cons,List.map_nil,List.flatten_cons,List.flatten_nil,List.append_nil,getD_lt h1,getD_lt h2]
structure Fits7 (rules:List Rl) (p:List St7) (l:List Cl) : Prop where
 rl : rules.length ≤ 20
 pl : p.length ≤ 20
 ll : l.length ≤ 20
 names : ∀ r,r ∈ rules → r.name.length ≤ 1048576 ∧ r.rest.length = 7
 steps : ∀ s,s ∈ p → s.wf ∧ s.refs.length ≤ 20
 concls : ∀ c,c ∈ l → c.wf ∧ (writeT c.a).text.length ≤ 100000 ∧ (writeT c.b).text.length ≤ 100000
theorem line_lenX {rules:List Rl} {p:List St7} {l:List Cl} (h:Fits7 rules p l) {i:Nat} (hi:i < 20) {s:St7} (hs:s ∈ p) {c:Cl} (hc:c ∈ l) :
   (headX i s c).length ≤ 200150 ∧ (ruleX rules s).length ≤ 1048577 ∧ (refsX s.refs).length ≤ 440 ∧ (lineX rules i s c).length ≤ 1300000 := by
 obtain ⟨c1,c2,c3⟩ := h.concls c hc
 obtain ⟨s1,s2⟩ := h.steps s hs
 have h1 := concl_len c1 c2 c3
 have h2 := decZ_len (n := (i:Int)) ⟨by omega,by omega⟩
 have h3 := kindE_len s.kind
 have h4 := nameX_len (n := 1048576) (fun r hr => (h.names r hr).1) (by omega) s.rule
 have h5 := refsX_len s.refs (fun x hx => i64B_of (s1.2.1 x hx))
 have a1 : (headX i s c).length ≤ 200150 := by simp only [headX,List.length_append,List.length_cons,List.length_nil]; omega
 have a2 : (ruleX rules s).length ≤ 1048577 := by
   unfold ruleX; split
   · simp only [List.length_cons]; omega
   · simp
 have a3 : (refsX s.refs).length ≤ 440 := by omega
 refine ⟨a1,a2,a3,?_⟩
 simp only [lineX,List.length_append,List.length_cons,List.length_nil]; omega
theorem expl_lenX {rules:List Rl} {p:List St7} {l:List Cl} (h:Fits7 rules p l) : ∀ n,n ≤ p.length → n ≤ l.length → (explX rules p l n).length ≤ 1300000 * n
 | 0,_,_ => by simp [explX]
 | n + 1,h1,h2 => by
   have ih := expl_lenX h n (by omega) (by omega)
   have hl := (line_lenX h (i := n) (by have := h.pl; omega) (List.getElem_mem (show n < p.length by omega)) (List.getElem_mem (show n < l.length by omega))).2.2.2
   rw [explX_succ (by omega) (by omega),List.length_append]; omega
section
variable {hp:List HObj} {lo:Nat}
theorem refs_L (rules:List Rl) (p:List St7) (l:List Cl) (o0 o1 o2 o3:Own) (m i:Int) (bs:List UInt8) (rs:List Int) (hrl:rs.length ≤ 20) (hr:∀ x,x ∈ rs → i64B x) (hb:bs.length ≤ 100000000) (hp:List HObj) :
   loopD G0 IP hp.length l_pt_Explain_1 ⟨[(0,.list (Rl.avs rules) o0),(1,.list (St7.avs p) o1),(2,.list (Cl.avs l) o2),(7,.ptr hp.length 0),(17,.int .i64 m),(18,.int .i64 i),(62,.list (i64s rs) o3),(63,.int .i64 rs.length),(64,.int .i64 0)],BW hp bs⟩ =
     some (.exit 2,⟨[(0,.list (Rl.avs rules) o0),(1,.list (St7.avs p) o1),(2,.list (Cl.avs l) o2),(7,.ptr hp.length 0),(17,.int .i64 m),(18,.int .i64 i),(62,.list (i64s rs) o3),(63,.int .i64 rs.length),(64,.int .i64 rs.length),(65,.bool false)],BW hp (bs ++ refsX rs)⟩) := by
 have hloop := loop_iter (G := G0) (IP := IP) (lo := hp.length) (b := l_pt_Explain_1)
   (fun k => ⟨[(0,.list (Rl.avs rules) o0),(1,.list (St7.avs p) o1),(2,.list (Cl.avs l) o2),(7,.ptr hp.length 0),(17,.int .i64 m),(18,.int .i64 i),(62,.list (i64s rs) o3),(63,.int .i64 rs.length),(64,.int .i64 k)],BW hp (bs ++ refsX (rs.take k))⟩) rs.length
   (r := (.exit 2,⟨[(0,.list (Rl.avs rules) o0),(1,.list (St7.avs p) o1),(2,.list (Cl.avs l) o2),(7,.ptr hp.length 0),(17,.int .i64 m),(18,.int .i64 i),(62,.list (i64s rs) o3),(63,.int .i64 rs.length),(64,.int .i64 rs.length),(65,.bool false)],BW hp (bs ++ refsX rs)⟩)) (fun k hk => by
     have hkI : (k:Int) < (rs.length : Int) := by omega
     have hw1 := wrap_succ hk (n := rs.length) (by omega)
     have hxb := hr rs[k] (List.getElem_mem hk)
     have hd := decZ_len hxb
     have h1 := refsX_len (rs.take k) (fun x hx => hr x (List.mem_of_mem_take hx))
     have h2 : (rs.take k).length = k := by simp; omega
     have e1 := itoa_D rs[k] hxb.1 hxb.2 (BW hp (bs ++ refsX (rs.take k))) hp.length false
     have ej := fun (o:Own) => joinP_D [32] [decZ rs[k]] (by simp) (by simp) o (by simp) (by simp; omega) (BW hp (bs ++ refsX (rs.take k))) hp.length false
     simp only [strs,List.map_cons,List.map_nil,List.flatten_cons,List.flatten_nil,List.append_nil,List.singleton_append] at ej
     have e2 := wstrG_D (hp := hp) (lo := hp.length) (Nat.le_refl _) (bs ++ refsX (rs.take k)) (32 :: decZ rs[k]) (by simp only [List.length_append,List.length_cons]; omega)
     rw [← hw1,refsX_take hk,← List.append_assoc]
     generalize bs ++ refsX (rs.take k) = cs at *
     generalize decZ rs[k] = tx at *
     simp [l_pt_Explain_1,hk,hkI,e1,ej,e2])
   (by simp [l_pt_Explain_1]) (by simp)
 simpa [refsX] using hloop
end
end Go.Proofs.YtkofimhnehkdoaaGreatDoor.Rf
end
section
namespace Go.Proofs.YtkofimhnehkdoaaGreatDoor.Rf
section
variable {H:Type} {P:Program}
theorem HasTy.three {n:Nat} {t a b c:TypeId} {fs:Array Field} {cs:List AV} {d:DataW H} (hu:P.underlying t = some (.struct fs)) (hf:fs.toList.map Field.type = [a,b,c]) (h:HasTy P n t cs d) :
   ∃ p q r : List AV,cs = p ++ (q ++ r) ∧ (∃ m,∃ d' : DataW H,m < n ∧ HasTy P m a p d') ∧ (∃ m,∃ d' : DataW H,m < n ∧ HasTy P m b q d') ∧ (∃ m,∃ d' : DataW H,m < n ∧ HasTy P m c r d') := by
 obtain ⟨parts,rfl,hl,hp⟩ := h.fields hu
 have hsz : fs.size = 3 := by have := congrArg List.length hf; simpa using this
 rw [hsz] at hl
 match parts,hl with
 | [p0,p1,p2],_ =>
   have g : ∀ (i:Nat) ds x,[p0,p1,p2][i]? = some ds → [a,b,c][i]? = some x → ∃ m,∃ d' : DataW H,m < n ∧ HasTy P m x ds d' := by
     intro i ds x h1 h2
     rw [← hf] at h2
     simp only [List.getElem?_map,Array.getElem?_toList,Option.map_eq_some_iff] at h2
     obtain ⟨f,f1,f2⟩ := h2
     obtain ⟨m,d',m1,m2⟩ := hp i f ds f1 h1
     exact ⟨m,d',m1,f2 ▸ m2⟩
   exact ⟨p0,p1,p2,by simp,g 0 _ _ rfl rfl,g 1 _ _ rfl rfl,g 2 _ _ rfl rfl⟩
theorem HasTy.four {n:Nat} {t a b c e:TypeId} {fs:Array Field} {cs:List AV} {d:DataW H} (hu:P.underlying t = some (.struct fs)) (hf:fs.toList.map Field.type = [a,b,c,e]) (h:HasTy P n t cs d) :
   ∃ p q r s : List AV,cs = p ++ (q ++ (r ++ s)) ∧ (∃ m,∃ d' : DataW H,m < n ∧ HasTy P m a p d') ∧ (∃ m,∃ d' : DataW H,m < n ∧ HasTy P m b q d') ∧ (∃ m,∃ d' : DataW H,m < n ∧ HasTy P m c r d') ∧ (∃ m,∃ d' : DataW H,m < n ∧ HasTy P m e s d') := by
 obtain ⟨parts,rfl,hl,hp⟩ := h.fields hu
 have hsz : fs.size = 4 := by have := congrArg List.length hf; simpa using this
 rw [hsz] at hl
 match parts,hl with
 | [p0,p1,p2,p3],_ =>
   have g : ∀ (i:Nat) ds x,[p0,p1,p2,p3][i]? = some ds → [a,b,c,e][i]? = some x → ∃ m,∃ d' : DataW H,m < n ∧ HasTy P m x ds d' := by
     intro i ds x h1 h2
     rw [← hf] at h2
     simp only [List.getElem?_map,Array.getElem?_toList,Option.map_eq_some_iff] at h2
     obtain ⟨f,f1,f2⟩ := h2
     obtain ⟨m,d',m1,m2⟩ := hp i f ds f1 h1
     exact ⟨m,d',m1,f2 ▸ m2⟩
   exact ⟨p0,p1,p2,p3,by simp,g 0 _ _ rfl rfl,g 1 _ _ rfl rfl,g 2 _ _ rfl rfl,g 3 _ _ rfl rfl⟩
theorem HasTy.concl {tc tb te tf ti tk tr tu:TypeId} {fs gs ks rs:Array Field} (hT:∀ n cs (d:DataW H),HasTy P n te cs d → ∃ t : T,cs = t.cells ∧ t.wf)
   (hu:P.underlying tc = some (.struct fs)) (hf:fs.toList.map Field.type = [tb,te,te,tf]) (hb:P.underlying tb = some .bool)
   (hg:P.underlying tf = some (.struct gs)) (hgf:gs.toList.map Field.type = [ti,tk,tr]) (hi:P.underlying ti = some (.int .i64))
   (hk:P.underlying tk = some (.struct ks)) (hkf:ks.toList.map Field.type = [tu,tu]) (hr:P.underlying tr = some (.struct rs)) (hrf:rs.toList.map Field.type = [tu,tu]) (hv:P.underlying tu = some (.int .u64))
   {n:Nat} {cs:List AV} {d:DataW H} (h:HasTy P n tc cs d) : ∃ c : Cl,cs = c.cells ∧ c.wf := by
 obtain ⟨p0,p1,p2,p3,rfl,⟨_,_,_,q0⟩,⟨_,_,_,q1⟩,⟨_,_,_,q2⟩,⟨_,_,_,q3⟩⟩ := h.four hu hf
 obtain ⟨x0,rfl⟩ := q0.bool hb
 obtain ⟨t1,rfl,w1⟩ := hT _ _ _ q1
 obtain ⟨t2,rfl,w2⟩ := hT _ _ _ q2
 obtain ⟨r0,r1,r2,rfl,⟨_,_,_,s0⟩,⟨_,_,_,s1⟩,⟨_,_,_,s2⟩⟩ := q3.three hg hgf
 obtain ⟨y0,rfl,_⟩ := s0.int hi
 obtain ⟨a0,a1,rfl,⟨_,_,_,b0⟩,⟨_,_,_,b1⟩⟩ := s1.two hk hkf
 obtain ⟨e0,e1,rfl,⟨_,_,_,f0⟩,⟨_,_,_,f1⟩⟩ := s2.two hr hrf
 obtain ⟨z1,rfl,v1⟩ := b0.int hv
 obtain ⟨z2,rfl,v2⟩ := b1.int hv
 obtain ⟨z3,rfl,v3⟩ := f0.int hv
 obtain ⟨z4,rfl,v4⟩ := f1.int hv
 exact ⟨⟨x0,t1,t2,y0,z1,z2,z3,z4⟩,rfl,w1,w2,u64B_of v1,u64B_of v2,u64B_of v3,u64B_of v4⟩
theorem ArgTy.concl {tc tb te tf ti tk tr tu:TypeId} {fs gs ks rs:Array Field} (hT:∀ n cs (d:DataW H),HasTy P n te cs d → ∃ t : T,cs = t.cells ∧ t.wf)
   (hu:P.underlying tc = some (.struct fs)) (hf:fs.toList.map Field.type = [tb,te,te,tf]) (hb:P.underlying tb = some .bool)
   (hg:P.underlying tf = some (.struct gs)) (hgf:gs.toList.map Field.type = [ti,tk,tr]) (hi:P.underlying ti = some (.int .i64))
   (hk:P.underlying tk = some (.struct ks)) (hkf:ks.toList.map Field.type = [tu,tu]) (hr:P.underlying tr = some (.struct rs)) (hrf:rs.toList.map Field.type = [tu,tu]) (hv:P.underlying tu = some (.int .u64))
   {v:AV} {d:DataW H} (h:ArgTy P tc v d) : ∃ c : Cl,v = c.av ∧ c.wf := by
 obtain ⟨n,cs,rfl,h⟩ := h
 obtain ⟨c,rfl,hw⟩ := HasTy.concl hT hu hf hb hg hgf hi hk hkf hr hrf hv h
 exact ⟨c,by unfold elemAV aggTy; rw [hu]; rfl,hw⟩
theorem ArgTy.concls {tl tc tb te tf ti tk tr tu:TypeId} {fs gs ks rs:Array Field} (hl:P.underlying tl = some (.slice tc)) (hT:∀ n cs (d:DataW H),HasTy P n te cs d → ∃ t : T,cs = t.cells ∧ t.wf)
   (hu:P.underlying tc = some (.struct fs)) (hf:fs.toList.map Field.type = [tb,te,te,tf]) (hb:P.underlying tb = some .bool)
   (hg:P.underlying tf = some (.struct gs)) (hgf:gs.toList.map Field.type = [ti,tk,tr]) (hi:P.underlying ti = some (.int .i64))
   (hk:P.underlying tk = some (.struct ks)) (hkf:ks.toList.map Field.type = [tu,tu]) (hr:P.underlying tr = some (.struct rs)) (hrf:rs.toList.map Field.type = [tu,tu]) (hv:P.underlying tu = some (.int .u64))
   {v:AV} {d:DataW H} (h:ArgTy P tl v d) : ∃ (o:Bool) (l:List Cl),v = .list (Cl.avs l) (ownB o) ∧ l.length ≤ 9223372036854775807 ∧ ∀ c,c ∈ l → c.wf := by
 obtain ⟨n,cs,rfl,h⟩ := h
 obtain ⟨o,l,rfl,h1,h2,h3⟩ := h.slice Cl.av Cl.wf hl fun m hm ds d' h => by
   obtain ⟨x,rfl,hx⟩ := HasTy.concl hT hu hf hb hg hgf hi hk hkf hr hrf hv h
   exact ⟨x,by unfold elemAV aggTy; rw [hu]; rfl,hx⟩
 exact ⟨o,l,by unfold elemAV aggTy; rw [hl]; rfl,h2,h3⟩
theorem ArgTy.rules {tl tr tn ta te tg ea eg:TypeId} {fs:Array Field} (hl:P.underlying tl = some (.slice tr)) (hT:∀ n cs (d:DataW H),HasTy P n te cs d → ∃ t : T,cs = t.cells ∧ t.wf)
   (hu:P.underlying tr = some (.struct fs)) (hf:fs.toList.map Field.type = [tn,ta,te,tg]) (hn:P.underlying tn = some .string) (ha:P.underlying ta = some (.slice ea)) (hg:P.underlying tg = some (.slice eg))
   {v:AV} {d:DataW H} (h:ArgTy P tl v d) : ∃ (o:Bool) (l:List Rl),v = .list (Rl.avs l) (ownB o) ∧ l.length ≤ 9223372036854775807 ∧ ∀ r,r ∈ l → r.rest.length = 7 := by
 obtain ⟨n,cs,rfl,h⟩ := h
 obtain ⟨o,l,rfl,h1,h2,h3⟩ := h.slice Rl.av (fun r => r.rest.length = 7) hl fun m hm ds d' h => by
   obtain ⟨p0,p1,p2,p3,rfl,⟨_,_,_,q0⟩,⟨_,_,_,q1⟩,⟨_,_,_,q2⟩,⟨_,_,_,q3⟩⟩ := h.four hu hf
   obtain ⟨x0,rfl,_⟩ := q0.str hn
   obtain ⟨o1,l1,rfl,_⟩ := q1.slice (α := AV) id (fun _ => True) ha fun m hm ds d' h => ⟨_,rfl,trivial⟩
   obtain ⟨t2,rfl,_⟩ := hT _ _ _ q2
   obtain ⟨o3,l3,rfl,_⟩ := q3.slice (α := AV) id (fun _ => True) hg fun m hm ds d' h => ⟨_,rfl,trivial⟩
   exact ⟨⟨x0,_⟩,by unfold elemAV aggTy; rw [hu]; rfl,rfl⟩
 exact ⟨o,l,by unfold elemAV aggTy; rw [hl]; rfl,h2,h3⟩
end
end Go.Proofs.YtkofimhnehkdoaaGreatDoor.Rf
end
section
namespace Go.Proofs.YtkofimhnehkdoaaGreatDoor.Rf
section
variable {hp:List HObj} {lo:Nat}
set_option maxHeartbeats 8000000 in
theorem expl_S {rules:List Rl} {p:List St7} {l:List Cl} (h:Fits7 rules p l) (o0 o1 o2:Own) (hp:List HObj) (m:Int) (i:Nat) (h1:i < p.length) (h2:i < l.length) (hm:(i:Int) < m) (bs:List UInt8) (hb:bs.length ≤ 30000000) :
   evalC G0 (callD G0 IP) (loopD G0 IP hp.length) hp.length l_pt_Explain_0 ⟨[(0,.list (Rl.avs rules) o0),(1,.list (St7.avs p) o1),(2,.list (Cl.avs l) o2),(7,.ptr hp.length 0),(17,.int .i64 m),(18,.int .i64 i)],BH hp bs⟩ =
     some (.normal,⟨[(0,.list (Rl.avs rules) o0),(1,.list (St7.avs p) o1),(2,.list (Cl.avs l) o2),(7,.ptr hp.length 0),(17,.int .i64 m),(18,.int .i64 (IntKind.wrap .i64 ((i:Int) + 1)))],BW hp (bs ++ lineX rules i p[i] l[i])⟩) := by
 have hi1 : (i:Int) < (p.length : Int) := by omega
 have hi2 : (i:Int) < (l.length : Int) := by omega
 obtain ⟨b1,b2,b3,b4⟩ := line_lenX h (i := i) (by have := h.pl; omega) (List.getElem_mem h1) (List.getElem_mem h2)
 obtain ⟨c1,c2,c3⟩ := h.concls l[i] (List.getElem_mem h2)
 obtain ⟨s1,s2⟩ := h.steps p[i] (List.getElem_mem h1)
 have hrefs := fun x hx => i64B_of (s1.2.1 x hx)
 have hrule := i64B_of s1.2.2.2.1
 have hrl := h.rl
 have e1 := fun (q:Bool) => itoa_D (i:Int) (by omega) (by have := h.pl; omega) (BH hp bs) hp.length q
 have ec := fun (q:Bool) => conclP_D l[i] c1 (by omega) (by omega) (BH hp bs) hp.length q
 have ek := fun (q:Bool) => kind_D p[i].kind (BH hp bs) hp.length q
 have ew := wstrA_D (hp := hp) (lo := hp.length) (Nat.le_refl _) bs (headX i p[i] l[i]) (by omega)
 have ej := fun (o:Own) (q:Bool) => joinP_D (decZ i) [[58,32],conclT l[i],[32,32],kindE p[i].kind] (by simp) (by simp) o (by simp) (by refine Nat.le_trans (Nat.le_of_eq ?_) (Nat.le_trans b1 (by omega)); simp [headX]) (BH hp bs) hp.length q
 simp only [strs,List.map_cons,List.map_nil,List.flatten_cons,List.flatten_nil,List.append_nil] at ej
 have hhe : decZ (i:Int) ++ ([58,32] ++ (conclT l[i] ++ ([32,32] ++ kindE p[i].kind))) = headX i p[i] l[i] := rfl
 rw [hhe] at ej
 have hline : lineX rules i p[i] l[i] = headX i p[i] l[i] ++ (ruleX rules p[i] ++ (refsX p[i].refs ++ [10])) := rfl
 rw [hline]
 rw [cl_av,Cl.cells] at ec
 generalize conclT l[i] = ct at *
 generalize headX i p[i] l[i] = hd at *
 generalize kindE p[i].kind = kd at *
 have h10 : ((10:UInt8).toNat : Int) = 10 := rfl
 have er := fun (cs:List UInt8) (hc:cs.length ≤ 100000000) (o0 o1 o2 o3:Own) => refs_L rules p l o0 o1 o2 o3 m i cs p[i].refs s2 hrefs hc hp
 have eb := fun (cs:List UInt8) (hc:cs.length + 1 ≤ 140737488355328) => wbyteW_D (hp := hp) (lo := hp.length) (Nat.le_refl _) cs 10 hc
 rw [h10] at eb
 have er1 := er (bs ++ hd) (by simp; omega)
 have er2 := er (bs ++ hd ++ ruleX rules p[i]) (by simp only [List.length_append]; omega)
 have eb1 := eb (bs ++ hd ++ refsX p[i].refs) (by simp only [List.length_append]; omega)
 have eb2 := eb (bs ++ hd ++ ruleX rules p[i] ++ refsX p[i].refs) (by simp only [List.length_append]; omega)
 have ew2 := wstrG_D (hp := hp) (lo := hp.length) (Nat.le_refl _) (bs ++ hd) (ruleX rules p[i]) (by simp only [List.length_append]; omega)
 generalize refsX p[i].refs = rx at *
 by_cases h5 : p[i].kind = 5
 · have hru : ruleX rules p[i] = 32 :: nameX rules p[i].rule := by unfold ruleX; rw [if_pos h5]
   rw [hru] at ew2 er2 eb2 b2 ⊢
   rw [h5] at ek
   have ej2 := fun (o:Own) => joinP_D [32] [nameX rules p[i].rule] (by simp) (by simp) o (by simp) (by simp at b2 ⊢; omega) (BW hp (bs ++ hd)) hp.length false
   simp only [strs,List.map_cons,List.map_nil,List.flatten_cons,List.flatten_nil,List.append_nil,List.singleton_append] at ej2
   by_cases h6 : 0 ≤ p[i].rule
   · obtain ⟨k,hk⟩ := Int.eq_ofNat_of_zero_le h6
     by_cases h7 : k < rules.length
     · have hn : nameX rules p[i].rule = rules[k].name := by
         unfold nameX
         rw [hk,if_pos (by omega)]
         simp [h7]
       rw [hn] at ew2 er2 eb2 ej2 ⊢
       have h7' : (k:Int) < (rules.length : Int) := by omega
       have hrn := (h.names rules[k] (List.getElem_mem h7)).2
       simp only [List.append_assoc,List.cons_append,List.nil_append] at ew2 er2 eb2 ej2 ⊢
       simp [l_pt_Explain_0,hm,h1,h2,hi1,hi2,st_av,cl_av,rl_av,e1,ec,ek,ej,ew,h5,hk,h7,h7',hrn,ej2,ew2,er2,eb2]
     · have hn : nameX rules p[i].rule = [63] := by
         unfold nameX
         rw [hk,if_neg (by omega)]
       rw [hn] at ew2 er2 eb2 ej2 ⊢
       have h7' : ¬ (k:Int) < (rules.length : Int) := by omega
       simp only [List.append_assoc,List.cons_append,List.nil_append] at ew2 er2 eb2 ej2 ⊢
       simp [l_pt_Explain_0,hm,h1,h2,hi1,hi2,st_av,cl_av,rl_av,e1,ec,ek,ej,ew,h5,hk,h7,h7',ej2,ew2,er2,eb2]
   · have hn : nameX rules p[i].rule = [63] := by
       unfold nameX
       rw [if_neg (by omega)]
     rw [hn] at ew2 er2 eb2 ej2 ⊢
     simp only [List.append_assoc,List.cons_append,List.nil_append] at ew2 er2 eb2 ej2 ⊢
     simp [l_pt_Explain_0,hm,h1,h2,hi1,hi2,st_av,cl_av,rl_av,e1,ec,ek,ej,ew,h5,h6,ej2,ew2,er2,eb2]
 · have hru : ruleX rules p[i] = [] := by unfold ruleX; rw [if_neg h5]
   rw [hru,List.nil_append]
   simp only [List.append_assoc,List.cons_append,List.nil_append] at er1 eb1 ⊢
   simp [l_pt_Explain_0,hm,h1,h2,hi1,hi2,st_av,cl_av,rl_av,e1,ec,ek,ej,ew,h5,er1,eb1]
set_option maxHeartbeats 2000000 in
theorem explainP_D {rules:List Rl} {p:List St7} {l:List Cl} (h:Fits7 rules p l) (o0 o1 o2:Own) (hp:List HObj) (lo:Nat) (q:Bool) :
   callD G0 IP n_pt_Explain [.list (Rl.avs rules) o0,.list (St7.avs p) o1,.list (Cl.avs l) o2] hp lo q = some (.ret (.str (explX rules p l (min p.length l.length))) hp) := by
 rw [callD_eq]
 have hpl := h.pl
 have hlen := expl_lenX h (min p.length l.length) (by omega) (by omega)
 generalize hn : min p.length l.length = n at *
 have hmin : (if l.length < p.length then (l.length : Int) else (p.length : Int)) = (n:Int) := by split <;> omega
 have hloop := fun (o0 o1 o2:Own) => loop_iter (G := G0) (IP := IP) (lo := hp.length) (b := l_pt_Explain_0)
   (fun i => ⟨[(0,.list (Rl.avs rules) o0),(1,.list (St7.avs p) o1),(2,.list (Cl.avs l) o2),(7,.ptr hp.length 0),(17,.int .i64 n),(18,.int .i64 i)],BH hp (explX rules p l i)⟩) n
   (r := (.exit 0,⟨[(0,.list (Rl.avs rules) o0),(1,.list (St7.avs p) o1),(2,.list (Cl.avs l) o2),(7,.ptr hp.length 0),(17,.int .i64 n),(18,.int .i64 n),(19,.bool false)],BH hp (explX rules p l n)⟩)) (fun i hi => by
     have hw1 := wrap_succ hi (n := n) (by omega)
     have h1 := expl_lenX h i (by omega) (by omega)
     have hne : explX rules p l i ++ lineX rules i p[i] l[i] ≠ [] := by simp [lineX]
     rw [expl_S h o0 o1 o2 hp n i (by omega) (by omega) (by omega) _ (by omega),hw1,explX_succ (by omega) (by omega),BH_BW hne])
   (by simp [l_pt_Explain_0]) (by simp)
 have e2 := bstr_D (hp := hp) (lo := hp.length) (Nat.le_refl _) (explX rules p l n) (by omega)
 have e0 : explX rules p l 0 = [] := rfl
 simp only [e0,Int.natCast_zero] at hloop
 generalize explX rules p l n = tx at *
 simp [IP_pt_Explain,i_pt_Explain,B0_fold,hmin,hloop,e2]
end
end Go.Proofs.YtkofimhnehkdoaaGreatDoor.Rf
end
section
namespace Go.Proofs.YtkofimhnehkdoaaGreatDoor.Rf
section
variable {hp:List HObj} {lo:Nat}
theorem refsX36_L (rules:List Rl) (p:List St7) (l:List Cl) (o0 o1 o2:Own) (i:Nat) (hi:i < p.length) (bs:List UInt8) (hrl:p[i].refs.length ≤ 20) (hr:∀ x,x ∈ p[i].refs → i64B x) (hb:bs.length ≤ 100000000) (hp:List HObj) (lo:Nat) :
   loopD G0 IP lo l_sr36_Explain_1 ⟨[(0,.list (Rl.avs rules) o0),(1,.list (St7.avs p) o1),(2,.list (Cl.avs l) o2),(7,.str bs),(8,.int .i64 i),(10,.int .i64 0)],hp⟩ =
     some (.exit 2,⟨[(0,.list (Rl.avs rules) o0),(1,.list (St7.avs p) o1),(2,.list (Cl.avs l) o2),(7,.str (bs ++ refsX p[i].refs)),(8,.int .i64 i),(10,.int .i64 p[i].refs.length),(84,.bool false)],hp⟩) := by
 have hiI : (i:Int) < (p.length : Int) := by omega
 have hloop := loop_iter (G := G0) (IP := IP) (lo := lo) (b := l_sr36_Explain_1)
   (fun k => ⟨[(0,.list (Rl.avs rules) o0),(1,.list (St7.avs p) o1),(2,.list (Cl.avs l) o2),(7,.str (bs ++ refsX (p[i].refs.take k))),(8,.int .i64 i),(10,.int .i64 k)],hp⟩) p[i].refs.length
   (r := (.exit 2,⟨[(0,.list (Rl.avs rules) o0),(1,.list (St7.avs p) o1),(2,.list (Cl.avs l) o2),(7,.str (bs ++ refsX p[i].refs)),(8,.int .i64 i),(10,.int .i64 p[i].refs.length),(84,.bool false)],hp⟩)) (fun k hk => by
     have hkI : (k:Int) < (p[i].refs.length : Int) := by omega
     have hw1 := wrap_succ hk (n := p[i].refs.length) (by omega)
     have hxb := hr p[i].refs[k] (List.getElem_mem hk)
     have hd := decZ_len hxb
     have h1 := refsX_len (p[i].refs.take k) (fun x hx => hr x (List.mem_of_mem_take hx))
     have h2 : (p[i].refs.take k).length = k := by simp; omega
     have e1 := fun (q:Bool) => intZ2_D p[i].refs[k] hxb.1 hxb.2 hp lo q
     have hcl : (bs ++ refsX (p[i].refs.take k)).length ≤ 100000500 := by simp only [List.length_append]; omega
     rw [← hw1,refsX_take hk,← List.append_assoc]
     generalize bs ++ refsX (p[i].refs.take k) = cs at *
     generalize decZ p[i].refs[k] = tx at *
     have g1 : tx.length + 1 ≤ 9223372036854775807 := by omega
     have g2 : 1 + tx.length ≤ 9223372036854775807 := by omega
     have g3 : cs.length + (tx.length + 1) ≤ 9223372036854775807 := by omega
     simp [l_sr36_Explain_1,hi,hiI,st_av,hk,hkI,e1,g1,g2,g3])
   (by simp [l_sr36_Explain_1,hi,hiI,st_av]) (by simp)
 simpa [refsX] using hloop
set_option maxHeartbeats 8000000 in
theorem expl36_S {rules:List Rl} {p:List St7} {l:List Cl} (h:Fits7 rules p l) (o0 o1 o2:Own) (hp:List HObj) (lo:Nat) (i:Nat) (h1:i < p.length) (h2:i < l.length) (bs:List UInt8) (hb:bs.length ≤ 30000000) :
   evalC G0 (callD G0 IP) (loopD G0 IP lo) lo l_sr36_Explain_0 ⟨[(0,.list (Rl.avs rules) o0),(1,.list (St7.avs p) o1),(2,.list (Cl.avs l) o2),(7,.str bs),(8,.int .i64 i)],hp⟩ =
     some (.normal,⟨[(0,.list (Rl.avs rules) o0),(1,.list (St7.avs p) o1),(2,.list (Cl.avs l) o2),(7,.str (bs ++ lineX rules i p[i] l[i])),(8,.int .i64 (IntKind.wrap .i64 ((i:Int) + 1)))],hp⟩) := by
 have hi1 : (i:Int) < (p.length : Int) := by omega
 have hi2 : (i:Int) < (l.length : Int) := by omega
 obtain ⟨b1,b2,b3,b4⟩ := line_lenX h (i := i) (by have := h.pl; omega) (List.getElem_mem h1) (List.getElem_mem h2)
 obtain ⟨c1,c2,c3⟩ := h.concls l[i] (List.getElem_mem h2)
 obtain ⟨s1,s2⟩ := h.steps p[i] (List.getElem_mem h1)
 have hrefs := fun x hx => i64B_of (s1.2.1 x hx)
 have hrule := i64B_of s1.2.2.2.1
 have hrl := h.rl
 have e1 := fun (q:Bool) => intZ2_D (i:Int) (by omega) (by have := h.pl; omega) hp lo q
 have ec := fun (q:Bool) => concl36_D l[i] c1 (Nat.le_trans c2 (by omega)) (Nat.le_trans c3 (by omega)) hp lo q
 have ek := fun (q:Bool) => kind34_D p[i].kind hp lo q
 have hline : lineX rules i p[i] l[i] = headX i p[i] l[i] ++ (ruleX rules p[i] ++ (refsX p[i].refs ++ [10])) := rfl
 rw [hline]
 rw [cl_av,Cl.cells] at ec
 have er := fun (cs:List UInt8) (hc:cs.length ≤ 100000000) (o0 o1 o2:Own) => refsX36_L rules p l o0 o1 o2 i h1 cs s2 hrefs hc hp lo
 have er1 := er (bs ++ headX i p[i] l[i]) (by simp only [List.length_append]; omega)
 have er2 := er (bs ++ headX i p[i] l[i] ++ ruleX rules p[i]) (by simp only [List.length_append]; omega)
 have hde : headX i p[i] l[i] = decZ i ++ ([58,32] ++ (conclT l[i] ++ ([32,32] ++ kindE p[i].kind))) := rfl
 rw [hde] at b1 er1 er2 ⊢
 generalize conclT l[i] = ct at *
 generalize kindE p[i].kind = kd at *
 generalize decZ (i:Int) = dz at *
 simp only [List.length_append,List.length_cons,List.length_nil] at b1
 have g1 : dz.length + 2 ≤ 9223372036854775807 := by omega
 have g2 : dz.length + 2 + ct.length ≤ 9223372036854775807 := by omega
 have g3 : dz.length + (ct.length + 1 + 1) + 2 ≤ 9223372036854775807 := by omega
 have g4 : dz.length + (ct.length + 1 + 1 + 1 + 1) + kd.length ≤ 9223372036854775807 := by omega
 have g5 : bs.length + (dz.length + (ct.length + (kd.length + 1 + 1) + 1 + 1)) ≤ 9223372036854775807 := by omega
 generalize refsX p[i].refs = rx at *
 simp only [List.append_assoc,List.cons_append,List.nil_append] at er1 er2 ⊢
 by_cases h5 : p[i].kind = 5
 · have hru : ruleX rules p[i] = 32 :: nameX rules p[i].rule := by unfold ruleX; rw [if_pos h5]
   rw [hru] at er2 b2 ⊢
   simp only [List.length_cons] at b2
   rw [h5] at ek
   by_cases h6 : 0 ≤ p[i].rule
   · obtain ⟨k,hk⟩ := Int.eq_ofNat_of_zero_le h6
     by_cases h7 : k < rules.length
     · have hn : nameX rules p[i].rule = rules[k].name := by
         unfold nameX
         rw [hk,if_pos (by omega)]
         simp [h7]
       rw [hn] at er2 b2 ⊢
       have h7' : (k:Int) < (rules.length : Int) := by omega
       have hrn := (h.names rules[k] (List.getElem_mem h7)).2
       generalize hnm : rules[k].name = nm at *
       have n1 : 1 + nm.length ≤ 9223372036854775807 := by omega
       have n2 : nm.length + 1 ≤ 9223372036854775807 := by omega
       have n3 : bs.length + (dz.length + (ct.length + (kd.length + 1 + 1) + 1 + 1)) + (nm.length + 1) ≤ 9223372036854775807 := by omega
       have g6 : bs.length + (dz.length + (ct.length + (kd.length + (nm.length + rx.length + 1) + 1 + 1) + 1 + 1)) ≤ 9223372036854775806 := by omega
       simp [l_sr36_Explain_0,h1,h2,hi1,hi2,st_av,cl_av,rl_av,e1,ec,ek,g1,g2,g3,g4,g5,g6,h5,hk,h7,h7',hrn,hnm,n1,n2,n3,er2]
     · have hn : nameX rules p[i].rule = [63] := by
         unfold nameX
         rw [hk,if_neg (by omega)]
       rw [hn] at er2 b2 ⊢
       have h7' : ¬ (k:Int) < (rules.length : Int) := by omega
       have g6 : bs.length + (dz.length + (ct.length + (kd.length + (1 + rx.length + 1) + 1 + 1) + 1 + 1)) ≤ 9223372036854775806 := by omega
       have g7 : bs.length + (dz.length + (ct.length + (kd.length + (rx.length + 1 + 1) + 1 + 1) + 1 + 1)) ≤ 9223372036854775806 := by omega
       have n3 : bs.length + (dz.length + (ct.length + (kd.length + 1 + 1) + 1 + 1)) + 2 ≤ 9223372036854775807 := by omega
       simp [l_sr36_Explain_0,h1,h2,hi1,hi2,st_av,cl_av,rl_av,e1,ec,ek,g1,g2,g3,g4,g5,g6,g7,h5,hk,h7,h7',n3,er2]
   · have hn : nameX rules p[i].rule = [63] := by
       unfold nameX
       rw [if_neg (by omega)]
     rw [hn] at er2 b2 ⊢
     have g6 : bs.length + (dz.length + (ct.length + (kd.length + (1 + rx.length + 1) + 1 + 1) + 1 + 1)) ≤ 9223372036854775806 := by omega
     have g7 : bs.length + (dz.length + (ct.length + (kd.length + (rx.length + 1 + 1) + 1 + 1) + 1 + 1)) ≤ 9223372036854775806 := by omega
     have n3 : bs.length + (dz.length + (ct.length + (kd.length + 1 + 1) + 1 + 1)) + 2 ≤ 9223372036854775807 := by omega
     simp [l_sr36_Explain_0,h1,h2,hi1,hi2,st_av,cl_av,rl_av,e1,ec,ek,g1,g2,g3,g4,g5,g6,g7,h5,h6,n3,er2]
 · have hru : ruleX rules p[i] = [] := by unfold ruleX; rw [if_neg h5]
   rw [hru,List.nil_append]
   have g6 : bs.length + (dz.length + (ct.length + (kd.length + rx.length + 1 + 1) + 1 + 1)) ≤ 9223372036854775806 := by omega
   simp [l_sr36_Explain_0,h1,h2,hi1,hi2,st_av,cl_av,rl_av,e1,ec,ek,g1,g2,g3,g4,g5,g6,h5,er1]
set_option maxHeartbeats 2000000 in
theorem explain36_D {rules:List Rl} {p:List St7} {l:List Cl} (h:Fits7 rules p l) (o0 o1 o2:Own) (hp:List HObj) (lo:Nat) (q:Bool) :
   callD G0 IP n_sr36_Explain [.list (Rl.avs rules) o0,.list (St7.avs p) o1,.list (Cl.avs l) o2] hp lo q = some (.ret (.str (explX rules p l (min p.length l.length))) hp) := by
 rw [callD_eq]
 have hpl := h.pl
 generalize hn : min p.length l.length = n at *
 have hloop := fun (o0 o1 o2:Own) (lo:Nat) => loop_iter (G := G0) (IP := IP) (lo := lo) (b := l_sr36_Explain_0)
   (fun i => ⟨[(0,.list (Rl.avs rules) o0),(1,.list (St7.avs p) o1),(2,.list (Cl.avs l) o2),(7,.str (explX rules p l i)),(8,.int .i64 i)],hp⟩) n
   (r := (.exit 0,⟨[(0,.list (Rl.avs rules) o0),(1,.list (St7.avs p) o1),(2,.list (Cl.avs l) o2),(7,.str (explX rules p l n)),(8,.int .i64 n),(20,.bool false)],hp⟩)) (fun i hi => by
     have hw1 := wrap_succ hi (n := n) (by omega)
     have h1 := expl_lenX h i (by omega) (by omega)
     rw [expl36_S h o0 o1 o2 hp lo i (by omega) (by omega) _ (by omega),hw1,explX_succ (by omega) (by omega)])
   (by
     by_cases h1 : p.length ≤ l.length
     · have h2 : n = p.length := by omega
       subst h2
       simp [l_sr36_Explain_0]
     · have h2 : n = l.length := by omega
       have h3 : (l.length : Int) < (p.length : Int) := by omega
       subst h2
       simp [l_sr36_Explain_0,h3]
       try omega) (by simp)
 have e0 : explX rules p l 0 = [] := rfl
 simp only [e0,Int.natCast_zero] at hloop
 generalize explX rules p l n = tx at *
 simp [IP_sr36_Explain,i_sr36_Explain,hloop]
end
end Go.Proofs.YtkofimhnehkdoaaGreatDoor.Rf
end
section
namespace Go.Proofs.YtkofimhnehkdoaaGreatDoor.Rf
section
variable {hp:List HObj} {lo:Nat}
end
end Go.Proofs.YtkofimhnehkdoaaGreatDoor.Rf
end
section
namespace Go.Proofs.YtkofimhnehkdoaaGreatDoor.Rf
section
variable {hp:List HObj} {lo:Nat}
end
end Go.Proofs.YtkofimhnehkdoaaGreatDoor.Rf
end
section
namespace Go.Proofs.YtkofimhnehkdoaaGreatDoor.Rf
mutual
def T.post : T → List T
 | .mk op w v n o as => T.posts as ++ [.mk op w v n o as]
def T.posts : List T → List T
 | [] => []
 | t :: r => t.post ++ T.posts r
end
@[simp] theorem okSize_T (l:List T) : okSize 5 (T.avs l) = true := by cases l <;> simp [T.avs,T.av_eq]
section
variable {hp:List HObj} {lo:Nat}
end
end Go.Proofs.YtkofimhnehkdoaaGreatDoor.Rf
end
section
namespace Go.Proofs.YtkofimhnehkdoaaGreatDoor.Rf
end Go.Proofs.YtkofimhnehkdoaaGreatDoor.Rf
end
section
namespace Go.Proofs.YtkofimhnehkdoaaGreatDoor.Rf
theorem leafR_three {s:List UInt8} {t:T} (h:leafR s = .ok t) : 3 ≤ s.length ∧ t.size = 1 ∧ t.dep = 1 := by
 have hg := idxB_ge s 58
 unfold leafR at h
 split at h
 · cases h
 · rename_i h1
   have hc : (cutB s 58).2.2 = true := by cases hh : (cutB s 58).2.2 with | true => rfl | false => exact absurd (.inl hh) h1
   have hi : 0 ≤ idxB s 58 := by
     by_cases hi : 0 ≤ idxB s 58
     · exact hi
     · unfold cutB at hc; rw [if_neg hi] at hc; cases hc
   have hcut : cutB s 58 = (s.take (idxB s 58).toNat,s.drop ((idxB s 58).toNat + 1),true) := by unfold cutB; rw [if_pos hi]
   have hr : s.drop ((idxB s 58).toNat + 1) ≠ [] := fun e => by
     apply h1; right; rw [hcut]; simp only; rw [e]; rfl
   have hrl : (idxB s 58).toNat + 1 < s.length := by
     by_cases hh : (idxB s 58).toNat + 1 < s.length
     · exact hh
     · exact absurd (List.drop_eq_nil_of_le (by omega)) hr
   have hlen : ∀ l : List UInt8,l = s.take (idxB s 58).toNat → l ≠ [] → 3 ≤ s.length := by
     intro l hl hne
     have : l.length = (idxB s 58).toNat := by rw [hl,List.length_take]; omega
     have : l.length ≠ 0 := fun e => hne (List.length_eq_zero_iff.1 e)
     omega
   rw [hcut] at h
   simp only at h
   generalize hL : s.take (idxB s 58).toNat = L at h
   have h3 := hlen L hL.symm
   split at h
   · unfold constR at h
     split at h
     · cases h
     · rename_i h6
       have hne : L ≠ [] := fun e => h6 (by rw [e]; rfl)
       split at h
       · cases h
       · split at h
         · cases h
         · cases h
           exact ⟨h3 hne,rfl,rfl⟩
   · split at h
     · cases h
     · rename_i h6
       have hne : L ≠ [] := fun e => by
         apply h6; rw [e]; rfl
       split at h
       · cases h
       · cases h
         exact ⟨h3 hne,rfl,rfl⟩
mutual
theorem readS_dep : ∀ (e:S) (t:T),readS e = .ok t → t.dep ≤ e.depth ∧ 4 * t.size ≤ e.text.length + 1
 | .mk a o l, t,h => by
   rw [readS] at h
   by_cases ha : a = []
   · subst ha
     rw [if_neg (by simp)] at h
     split at h
     · cases h
     · rename_i hh
       split at h
       · cases h
       · cases hs : readsS l (1 + numsN (ofE (l.getD 0 S.z).atom).1) with
         | err e => rw [hs] at h; simp [nodeR] at h
         | ok ts =>
           rw [hs] at h
           have hR : headR l = true := by cases hx : headR l <;> simp_all
           simp only [headR,Bool.and_eq_true,decide_eq_true_eq] at hR
           simp only [nodeR] at h
           split at h
           · cases h
           · cases h
             match l,hR.1 with
             | x :: r,_ =>
               rw [Nat.add_comm 1,readsS] at hs
               have ih := readsS_dep r _ ts hs
               have hx : x.text.length ≠ 0 := fun e => S.text_ne x (List.length_eq_zero_iff.1 e)
               simp only [T.dep,T.size,S.depth,S.text,S.depths,S.texts,if_true,List.length_cons,List.length_append,List.length_nil]
               omega
   · rw [if_pos ha] at h
     obtain ⟨h1,h2,h3⟩ := leafR_three h
     simp only [S.depth,S.text,if_neg ha]
     omega
theorem readsS_dep : ∀ (l:List S) (k:Nat) (ts:List T),readsS l k = .ok ts → T.deps ts ≤ S.depths l ∧ 4 * T.sizes ts ≤ (S.texts false l).length
 | [],k,ts,h => by simp [readsS] at h; subst h; simp [T.deps,T.sizes]
 | x :: r,k + 1,ts,h => by
   rw [readsS] at h
   have ih := readsS_dep r k ts h
   simp only [S.depths,S.texts,List.length_append]
   omega
 | x :: r,0,ts,h => by
   rw [readsS] at h
   cases hx : readS x with
   | err e => rw [hx] at h; simp [TRs.cons] at h
   | ok t =>
     cases hr : readsS r 0 with
     | err e => rw [hx,hr] at h; simp [TRs.cons] at h
     | ok us =>
       rw [hx,hr] at h; simp [TRs.cons] at h; subst h
       have a := readS_dep x t hx
       have b := readsS_dep r 0 us hr
       simp only [S.depths,S.texts,List.length_append,T.deps,T.sizes]
       simp
       omega
end
def Sh (x y:S) : Prop := x.right = true ∧ x.depth ≤ y.depth ∧ x.text.length + 1 ≤ 16 * (y.text.length + 1)
def shs : List S → List S → Prop
 | [],[] => True
 | x :: r,y :: s => Sh x y ∧ shs r s
 | _,_ => False
theorem Sh.list {o o' : Bool} {l l' : List S} (h:shs l l') : Sh (.mk [] o l) (.mk [] o' l') := by
 have key : ∀ (l l' : List S),shs l l' → S.rights l = true ∧ S.depths l ≤ S.depths l' ∧ (S.texts false l).length ≤ 16 * (S.texts false l').length := by
   intro l
   induction l with
   | nil => intro l' h; cases l' <;> simp [shs,S.rights,S.depths,S.texts] at h ⊢
   | cons x r ih =>
     intro l' h
     cases l' with
     | nil => simp [shs] at h
     | cons y s =>
       obtain ⟨⟨h1,h2,h3⟩,h4⟩ := h
       obtain ⟨g1,g2,g3⟩ := ih s h4
       refine ⟨by simp [S.rights,h1,g1],?_,?_⟩
       · simp only [S.depths]; omega
       · simp only [S.texts,List.length_append]; simp; omega
 obtain ⟨h1,h2,h3⟩ := key l l' h
 refine ⟨by simp [S.right,h1],by simp [S.depth]; omega,?_⟩
 cases l with
 | nil => simp [S.text,S.texts]; omega
 | cons x r =>
   cases l' with
   | nil => simp [shs] at h
   | cons y s =>
     simp only [S.text,S.texts,List.length_append,List.length_cons,List.length_nil,if_true] at h3 ⊢
     simp at h3 ⊢
     omega
theorem same_looks (x:S) : ∀ y : S,x.same y = true → x.right = y.right ∧ x.depth = y.depth ∧ x.text = y.text := by
 induction x using S.ind with | h x ih =>
 intro y h
 obtain ⟨h1,h2⟩ := same_parts h
 have key : ∀ (l l' : List S),(∀ u,u ∈ l → ∀ y : S,u.same y = true → u.right = y.right ∧ u.depth = y.depth ∧ u.text = y.text) → S.sames l l' = true → S.rights l = S.rights l' ∧ S.depths l = S.depths l' ∧ (∀ b,S.texts b l = S.texts b l') ∧ l.isEmpty = l'.isEmpty := by
   intro l
   induction l with
   | nil => intro l' _ h; cases l' <;> simp [S.sames] at h ⊢
   | cons u r ihr =>
     intro l' hu h
     cases l' with
     | nil => simp [S.sames] at h
     | cons v s =>
       simp only [S.sames,Bool.and_eq_true] at h
       obtain ⟨g1,g2,g3⟩ := hu u (by simp) v h.1
       obtain ⟨k1,k2,k3,k4⟩ := ihr s (fun z hz => hu z (by simp [hz])) h.2
       exact ⟨by simp only [S.rights,g1,k1],by simp only [S.depths,g2,k2],fun b => by simp only [S.texts,g3,k3],rfl⟩
 obtain ⟨k1,k2,k3,k4⟩ := key x.list y.list ih h2
 refine ⟨?_,?_,?_⟩
 · rw [S.right_eq,S.right_eq,h1,k1,k4]
 · rw [S.depth_eq,S.depth_eq,h1,k2]
 · rw [S.text_eq,S.text_eq,h1,k3]
theorem Sh.of_same {x y:S} (h:x.same y = true) (hr:y.right = true) : Sh x y := by
 obtain ⟨h1,h2,h3⟩ := same_looks x y h
 exact ⟨by rw [h1,hr],by omega,by rw [h3]; omega⟩
theorem Sh.term {e:S} {t:T} (h:readS e = .ok t) : Sh (writeT t) e := by
 have hv := readS_valid e t h
 have hd := readS_dep e t h
 have h1 := write_len t hv.2
 have h2 := write_depth t
 exact ⟨write_right t,by omega,by omega⟩
theorem Sh.atom {x:S} {a:List UInt8} (ha:a = x.atom) (hne:x.atom ≠ []) (hr:x.right = true) : Sh (aS a) x := by
 refine Sh.of_same ?_ hr
 have hl := (right_atom hr hne).1
 cases x with | mk xa xo xl =>
 simp only [S.atom,S.list] at ha hl
 subst ha; subst hl
 simp [S.same,S.sames,aS]
end Go.Proofs.YtkofimhnehkdoaaGreatDoor.Rf
end
section
namespace Go.Proofs.YtkofimhnehkdoaaGreatDoor.Rf
end Go.Proofs.YtkofimhnehkdoaaGreatDoor.Rf
end
section
namespace Go.Proofs.YtkofimhnehkdoaaGreatDoor.Rf
def subL (n:Int) (x:Sb) : Bool := decide (0 ≤ x.t.cnt 40 n)
def lightS (n:Int) (s:St7) : Bool := decide (0 ≤ s.a.cnt 40 n) && (decide (0 ≤ s.b.cnt 40 n) && (decide (s.refs.length ≤ 20) && (decide (s.subs.length ≤ 20) && s.subs.all (subL n))))
def lightB (p:List St7) (most n:Int) : Bool := decide ((p.length : Int) ≤ most) && p.all (lightS n)
def sbZ7 : Sb := ⟨[],T.z⟩
section
variable {hp:List HObj} {lo:Nat}
set_option maxHeartbeats 2000000 in
theorem light36_L (p:List St7) (o:Own) (n:Int) (h0:0 ≤ n) (h1:n ≤ 1000) (i:Nat) (hi:i < p.length) (hw:p[i].wf) (hl:p[i].subs.length ≤ 20) (hp:List HObj) (lo:Nat) :
   loopD G0 IP lo l_sr36_Light_1 ⟨[(0,.list (St7.avs p) o),(2,.int .i64 n),(7,.int .i64 i),(12,.int .i64 0)],hp⟩ =
     some (if p[i].subs.all (subL n) then (.exit 2,⟨[(0,.list (St7.avs p) o),(2,.int .i64 n),(7,.int .i64 i),(12,.int .i64 p[i].subs.length),(76,.bool false)],hp⟩) else (.ret,⟨[(6,.bool false)],hp⟩)) := by
 have hloop := loop_find (G := G0) (IP := IP) (lo := lo) (b := l_sr36_Light_1)
   (fun k => ⟨[(0,.list (St7.avs p) o),(2,.int .i64 n),(7,.int .i64 i),(12,.int .i64 k)],hp⟩) p[i].subs.length (fun k => !subL n (p[i].subs.getD k sbZ7))
   (.ret,⟨[(6,.bool false)],hp⟩) (.exit 2,⟨[(0,.list (St7.avs p) o),(2,.int .i64 n),(7,.int .i64 i),(12,.int .i64 p[i].subs.length),(76,.bool false)],hp⟩)
   (fun k hk hp1 => by
     have hI : (k:Int) < (p[i].subs.length : Int) := by omega
     have hw1 := wrap_succ hk (n := p[i].subs.length) (by omega)
     have hb : subL n p[i].subs[k] = true := by simpa [hk] using hp1
     simp only [subL,decide_eq_true_eq] at hb
     obtain ⟨v,e1⟩ := light_D p[i].subs[k].t (hw.2.2.2.2.1 _ (List.getElem_mem hk)).2 40 n (by omega) (by omega) h0 (by omega) hp lo false
     rw [T.av_eq,T.av_eq] at e1
     rw [← hw1]
     simp [l_sr36_Light_1,hi,hk,hI,st_av,Sb.av_eq p[i].subs[k],e1,hb])
   (fun k hk hp1 => by
     have hI : (k:Int) < (p[i].subs.length : Int) := by omega
     have hb : subL n p[i].subs[k] = false := by simpa [hk] using hp1
     simp only [subL,decide_eq_false_iff_not] at hb
     obtain ⟨v,e1⟩ := light_D p[i].subs[k].t (hw.2.2.2.2.1 _ (List.getElem_mem hk)).2 40 n (by omega) (by omega) h0 (by omega) hp lo false
     rw [T.av_eq,T.av_eq] at e1
     simp [l_sr36_Light_1,hi,hk,hI,st_av,Sb.av_eq p[i].subs[k],e1,hb])
   (by simp) (by simp [l_sr36_Light_1,hi,st_av]) (by simp)
 rw [all_range p[i].subs sbZ7 (subL n)] at hloop
 simp only [Int.natCast_zero] at hloop
 rw [hloop]
 cases p[i].subs.all (subL n) <;> simp
set_option maxHeartbeats 4000000 in
theorem light36_D (p:List St7) (hw:∀ s,s ∈ p → s.wf) (hl:p.length ≤ 9223372036854775807) (o:Own) (most n:Int) (h0:0 ≤ n) (h1:n ≤ 1000) (hm:most ≤ 1000) (hp:List HObj) (lo:Nat) (q:Bool) :
   callD G0 IP n_sr36_Light [.list (St7.avs p) o,.int .i64 most,.int .i64 n] hp lo q = some (.ret (.bool (lightB p most n)) hp) := by
 rw [callD_eq,lightB]
 by_cases hmost : most < (p.length : Int)
 · have hm2 : ¬ (p.length : Int) ≤ most := by omega
   simp [IP_sr36_Light,i_sr36_Light,hmost,hm2]
 · have hm2 : (p.length : Int) ≤ most := by omega
   have hloop := fun (o:Own) => loop_find (G := G0) (IP := IP) (lo := hp.length) (b := l_sr36_Light_0)
     (fun i => ⟨[(0,.list (St7.avs p) o),(2,.int .i64 n),(7,.int .i64 i)],hp⟩) p.length (fun i => !lightS n (p.getD i St7.z))
     (.ret,⟨[(6,.bool false)],hp⟩) (.exit 0,⟨[(0,.list (St7.avs p) o),(2,.int .i64 n),(7,.int .i64 p.length),(22,.bool false)],hp⟩)
     (fun i hi hp1 => by
       have hI : (i:Int) < (p.length : Int) := by omega
       have hw1 := wrap_succ hi (n := p.length) hl
       have hb : lightS n p[i] = true := by simpa [hi] using hp1
       simp only [lightS,Bool.and_eq_true,decide_eq_true_eq] at hb
       obtain ⟨a1,a2,a3,a4,a5⟩ := hb
       have hwi := hw p[i] (List.getElem_mem hi)
       obtain ⟨v,e1⟩ := light_D p[i].a hwi.2.2.2.2.2.2.1 40 n (by omega) (by omega) h0 (by omega) hp hp.length false
       obtain ⟨u,e2⟩ := light_D p[i].b hwi.2.2.2.2.2.2.2 40 n (by omega) (by omega) h0 (by omega) hp hp.length false
       have e3 := light36_L p o n h0 h1 i hi hwi a4 hp hp.length
       rw [a5,if_pos rfl] at e3
       rw [T.av_eq,T.av_eq] at e1 e2
       have b3 : ¬ (20:Int) < (p[i].refs.length : Int) := by omega
       have b4 : ¬ (20:Int) < (p[i].subs.length : Int) := by omega
       rw [← hw1]
       simp [l_sr36_Light_0,hi,hI,st_av,e1,e2,a1,a2,b3,b4,e3])
     (fun i hi hp1 => by
       have hI : (i:Int) < (p.length : Int) := by omega
       have hb : lightS n p[i] = false := by simpa [hi] using hp1
       have hwi := hw p[i] (List.getElem_mem hi)
       obtain ⟨v,e1⟩ := light_D p[i].a hwi.2.2.2.2.2.2.1 40 n (by omega) (by omega) h0 (by omega) hp hp.length false
       obtain ⟨u,e2⟩ := light_D p[i].b hwi.2.2.2.2.2.2.2 40 n (by omega) (by omega) h0 (by omega) hp hp.length false
       rw [T.av_eq,T.av_eq] at e1 e2
       by_cases a1 : 0 ≤ p[i].a.cnt 40 n
       · by_cases a2 : 0 ≤ p[i].b.cnt 40 n
         · by_cases a3 : p[i].refs.length ≤ 20
           · have b3 : ¬ (20:Int) < (p[i].refs.length : Int) := by omega
             by_cases a4 : p[i].subs.length ≤ 20
             · have b4 : ¬ (20:Int) < (p[i].subs.length : Int) := by omega
               have e3 := light36_L p o n h0 h1 i hi hwi a4 hp hp.length
               have a5 : p[i].subs.all (subL n) = false := by simpa [lightS,a1,a2,a3,a4] using hb
               rw [a5] at e3
               simp only [Bool.false_eq_true,if_false] at e3
               simp [l_sr36_Light_0,hi,hI,st_av,e1,e2,a1,a2,b3,b4,e3]
             · have b4 : (20:Int) < (p[i].subs.length : Int) := by omega
               simp [l_sr36_Light_0,hi,hI,st_av,e1,e2,a1,a2,b3,b4]
           · have b3 : (20:Int) < (p[i].refs.length : Int) := by omega
             simp [l_sr36_Light_0,hi,hI,st_av,e1,e2,a1,a2,b3]
         · simp [l_sr36_Light_0,hi,hI,st_av,e1,e2,a1,a2]
       · simp [l_sr36_Light_0,hi,hI,st_av,e1,e2,a1])
     (by simp) (by simp [l_sr36_Light_0]) (by simp)
   rw [all_range p St7.z (lightS n)] at hloop
   simp only [Int.natCast_zero] at hloop
   cases hall : p.all (lightS n) with
   | true =>
     simp only [hall,Bool.not_true,Bool.false_eq_true,if_false] at hloop
     simp [IP_sr36_Light,i_sr36_Light,hmost,hm2,hloop]
   | false =>
     simp only [hall,Bool.not_false,if_true] at hloop
     simp [IP_sr36_Light,i_sr36_Light,hmost,hm2,hloop]
end
end Go.Proofs.YtkofimhnehkdoaaGreatDoor.Rf
end
