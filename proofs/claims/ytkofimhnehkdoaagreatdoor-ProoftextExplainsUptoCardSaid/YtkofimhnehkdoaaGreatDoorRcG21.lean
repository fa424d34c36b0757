/- A part of the proof: see the last text. -/
import Derived.Test.YtkofimhnehkdoaaGreatDoorRcG20
set_option linter.unusedVariables false
set_option linter.unusedSimpArgs false
section
namespace Go.Proofs.YtkofimhnehkdoaaGreatDoor.Rf
theorem ownB_false : ownB false = .no := rfl
theorem S.avs_cons (x:S) (l:List S) : S.avs (x :: l) = x.av :: S.avs l := rfl
theorem aS_av (a:List UInt8) : (aS a).av = .agg [.str a,.list [] .nil] := rfl
abbrev boxS : AV := .box [.str [],.list [] .nil]
section
variable {hp:List HObj} {lo:Nat}
set_option maxHeartbeats 1000000 in
theorem writeT_L (as:List T) (o:Own) (hl10:as.length ≤ 10) : ∀ (r p:List T) (acc:List S),as = p ++ r → acc.length ≤ p.length + 10 →
   (∀ x,x ∈ r → ∀ hp lo q,callD G0 IP n_tt_Write [x.av] hp lo q = some (.ret (writeT x).av hp)) →
   loopD G0 IP lo l_tt_Write_0 ⟨[(2,boxS),(4,.list (S.avs acc) (.own 2 0)),(76,.list (T.avs as) o),(77,.int .i64 as.length),(78,.int .i64 p.length)],hp⟩ =
     some (.exit 1,⟨[(2,boxS),(4,.list (S.avs (acc ++ writeTs r)) (.own 2 0)),(76,.list (T.avs as) o),(77,.int .i64 as.length),(78,.int .i64 as.length),(79,.bool false)],hp⟩)
 | [],p,acc,h,ha,_ => by
   rw [loopD_eq,loopBody]
   simp at h
   subst h
   simp [l_tt_Write_0,writeTs]
 | x :: r,p,acc,h,ha,ih => by
   rw [loopD_eq,loopBody]
   have hlen : as.length = p.length + (r.length + 1) := by rw [h]; simp
   have h1 : (p.length : Int) < (as.length : Int) := by omega
   have hl : p.length < as.length := by omega
   have h2 : as[p.length] = x := by simp [h]
   have hw : IntKind.wrap .i64 ((p.length : Int) + 1) = (p.length : Int) + 1 := wrap_small (by omega) (by omega)
   have e1 := ih x (by simp) hp lo false
   rw [T.av_eq,S.av_eq] at e1
   have e2 := writeT_L as o hl10 r (p ++ [x]) (acc ++ [writeT x]) (by rw [h]; simp) (by simp; omega) (fun y hy => ih y (by simp [hy]))
   simp only [List.length_append,List.length_cons,List.length_nil,Nat.zero_add,Int.natCast_add,Int.natCast_one] at e2
   have hb1 : (acc.length + 1) * 40 ≤ 140737488355328 := by omega
   have hb2 : acc.length + 1 ≤ 9223372036854775807 := by omega
   rw [S.avs_app,show S.avs [writeT x] = [.agg [.str (writeT x).atom,.list (S.avs (writeT x).list) (ownB (writeT x).o)]] by simp [S.avs,S.av_eq]] at e2
   simp [l_tt_Write_0,hl,h1,h2,T.av_eq x,e1,hb1,hb2,hw]
   refine Eq.trans e2 ?_
   simp [writeTs]
set_option maxHeartbeats 4000000 in
theorem writeT_D (t:T) : t.wf → ∀ (hp:List HObj) (lo:Nat) (q:Bool),callD G0 IP n_tt_Write [t.av] hp lo q = some (.ret (writeT t).av hp) := by
 induction t using T.ind with | h t ih =>
 intro hw hp lo q
 have hwf := (T.wf_eq t).1 hw
 have en := notable_D t hw
 rw [callD_eq]
 cases t with | mk op w v n o as =>
 simp only [T.op,T.width,T.val,T.name,T.o,T.args] at hwf ih
 rw [T.av_eq] at en ⊢
 simp only [T.op,T.width,T.val,T.name,T.o,T.args] at en ⊢
 rw [writeT]
 cases hN : notE (.mk op w v n o as) with
 | false =>
   rw [hN] at en
   rw [if_pos rfl]
   simp [IP_tt_Write,i_tt_Write,en,atom_D,aS_av]
 | true =>
   rw [hN] at en
   rw [if_neg (by simp)]
   have hN2 := hN
   rw [notE_mk] at hN2
   simp only [Bool.and_eq_true,decide_eq_true_eq] at hN2
   obtain ⟨n0,n1,n2,n3⟩ := hN2
   have hop : opOk op = true := arE_ok (by omega)
   have eI := intT_D w n0 n1
   have hv : 0 ≤ v ∧ v < 18446744073709551616 := by
     have := hwf.2.2.1
     simp [Lit.wf,IntKind.min,IntKind.max,IntKind.signed,IntKind.bits] at this; omega
   have eD := decT_D v hv.1 hv.2
   have lI := decI_len (n := w) (by omega)
   have lD := decI_len hv.2
   have nl : (op = 1 ∨ op = 24 ∨ op = 25) → n.length ≤ 16 := fun e => by
     rw [if_pos e] at n3
     simp only [Bool.and_eq_true,decide_eq_true_eq] at n3
     exact (nameOk_mem n3.1).2.1
   generalize hdi : decI w = dw at *
   generalize hdv : decI v = dv at *
   by_cases k1 : op = 1
   · subst k1
     have := nl (by simp)
     have b1 : n.length + 1 ≤ 9223372036854775807 := by omega
     have b2 : n.length + 1 + dw.length ≤ 9223372036854775807 := by omega
     rw [if_pos rfl]
     simp [IP_tt_Write,i_tt_Write,en,atom_D,aS_av,eI,b1,b2]
   by_cases k2 : op = 24
   · subst k2
     have := nl (by simp)
     have b1 : 1 + n.length ≤ 9223372036854775807 := by omega
     have b2 : n.length + 1 + 1 ≤ 9223372036854775807 := by omega
     have b3 : n.length + 1 + 1 + dw.length ≤ 9223372036854775807 := by omega
     rw [if_neg (by simp),if_pos rfl]
     simp [IP_tt_Write,i_tt_Write,en,atom_D,aS_av,eI,b1,b2,b3]
   by_cases k3 : op = 25
   · subst k3
     have := nl (by simp)
     have b1 : 1 + n.length ≤ 9223372036854775807 := by omega
     have b2 : n.length + 1 + 1 ≤ 9223372036854775807 := by omega
     have b3 : n.length + 1 + 1 + dw.length ≤ 9223372036854775807 := by omega
     rw [if_neg (by simp),if_neg (by simp),if_pos rfl]
     simp [IP_tt_Write,i_tt_Write,en,atom_D,aS_av,eI,b1,b2,b3]
   by_cases k4 : op = 2
   · subst k4
     have b1 : dv.length + 1 ≤ 9223372036854775807 := by omega
     have b2 : dv.length + 1 + dw.length ≤ 9223372036854775807 := by omega
     rw [if_neg (by simp),if_neg (by simp),if_neg (by simp),if_pos rfl]
     simp [IP_tt_Write,i_tt_Write,en,atom_D,aS_av,eI,eD,b1,b2]
   rw [if_neg k1,if_neg k2,if_neg k3,if_neg k4]
   have hal : as.length ≤ 10 := by have := arE_bd op; omega
   have eN := fun hp lo q => opName_D (hp := hp) (lo := lo) q op
   have eP := fun hp lo q => ttNumerals_D (hp := hp) (lo := lo) q op
   have el := fun (acc:List S) (ha:acc.length ≤ 10) (o:Own) => writeT_L (hp := hp) (lo := hp.length) as o hal as [] acc rfl (by simpa using ha) (fun x hx => ih x hx (hwf.2.2.2.2.2.2 x hx))
   by_cases k5 : op = 21
   · subst k5
     have e1 := el [aS (nameE 21),aS dv,aS dw] (by simp)
     simp [S.avs_cons,aS_av] at e1
     have h2 : (numsN 21:Int) = 2 := rfl
     simp [IP_tt_Write,i_tt_Write,en,atom_D,eI,eD,eN,eP,h2,e1,headW,hdi,hdv,S.av,S.avs_app,S.avs_cons,aS_av,ownB_false,S.avs_closed]
   by_cases k6 : op = 22 ∨ op = 23
   · have hn : numsN op = 1 := by simp [numsN,k5,k6]
     have e1 := el [aS (nameE op),aS dw] (by simp)
     simp [S.avs_cons,aS_av] at e1
     simp [IP_tt_Write,i_tt_Write,en,atom_D,eI,eD,eN,eP,hn,k1,k2,k3,k4,k5,k6,e1,headW,hdi,hdv,S.av,S.avs_app,S.avs_cons,aS_av,ownB_false,S.avs_closed]
   · have hn : numsN op = 0 := by simp [numsN,k5,k6]
     have e1 := el [aS (nameE op)] (by simp)
     simp [S.avs_cons,aS_av] at e1
     simp [IP_tt_Write,i_tt_Write,en,atom_D,eI,eD,eN,eP,hn,k1,k2,k3,k4,k5,k6,e1,headW,hdi,hdv,S.av,S.avs_app,S.avs_cons,aS_av,ownB_false,S.avs_closed]
end
end Go.Proofs.YtkofimhnehkdoaaGreatDoor.Rf
end
section
namespace Go.Proofs.YtkofimhnehkdoaaGreatDoor.Rf
section
variable {hp:List HObj} {lo:Nat}
set_option maxHeartbeats 1000000 in
theorem write7_L (t:T) (hl10:t.args.length ≤ 10) : ∀ (r p:List T) (acc:List S),t.args = p ++ r → acc.length ≤ p.length + 10 →
   (∀ x,x ∈ r → ∀ hp lo q,callD G0 IP n_sr07_Write [x.av] hp lo q = some (.ret (writeT x).av hp)) →
   loopD G0 IP lo l_sr07_Write_0 ⟨[(1,.box t.cells),(2,boxS),(4,.list (S.avs acc) (.own 2 0)),(5,.int .i64 p.length)],hp⟩ =
     some (.exit 1,⟨[(1,.box t.cells),(2,boxS),(4,.list (S.avs (acc ++ writeTs r)) (.own 2 0)),(5,.int .i64 t.args.length),(77,.bool false)],hp⟩)
 | [],p,acc,h,ha,_ => by
   rw [loopD_eq,loopBody]
   simp at h
   simp [l_sr07_Write_0,writeTs,h]
 | x :: r,p,acc,h,ha,ih => by
   rw [loopD_eq,loopBody]
   have hlen : t.args.length = p.length + (r.length + 1) := by rw [h]; simp
   have h1 : (p.length : Int) < (t.args.length : Int) := by omega
   have hl : p.length < t.args.length := by omega
   have h2 : t.args[p.length] = x := by simp [h]
   have hw : IntKind.wrap .i64 ((p.length : Int) + 1) = (p.length : Int) + 1 := wrap_small (by omega) (by omega)
   have e1 := ih x (by simp) hp lo false
   rw [T.av_eq,S.av_eq] at e1
   have e2 := write7_L t hl10 r (p ++ [x]) (acc ++ [writeT x]) (by rw [h]; simp) (by simp; omega) (fun y hy => ih y (by simp [hy]))
   simp only [List.length_append,List.length_cons,List.length_nil,Nat.zero_add,Int.natCast_add,Int.natCast_one] at e2
   have hb1 : (acc.length + 1) * 40 ≤ 140737488355328 := by omega
   have hb2 : acc.length + 1 ≤ 9223372036854775807 := by omega
   rw [S.avs_app,show S.avs [writeT x] = [.agg [.str (writeT x).atom,.list (S.avs (writeT x).list) (ownB (writeT x).o)]] by simp [S.avs,S.av_eq]] at e2
   simp [l_sr07_Write_0,hl,h1,h2,T.av_eq x,e1,hb1,hb2,hw]
   refine Eq.trans e2 ?_
   simp [writeTs]
set_option maxHeartbeats 4000000 in
theorem write7_D (t:T) : t.wf → ∀ (hp:List HObj) (lo:Nat) (q:Bool),callD G0 IP n_sr07_Write [t.av] hp lo q = some (.ret (writeT t).av hp) := by
 induction t using T.ind with | h t ih =>
 intro hw hp lo q
 have hwf := (T.wf_eq t).1 hw
 have en := notable7_D t hw
 rw [callD_eq]
 cases t with | mk op w v n o as =>
 simp only [T.op,T.width,T.val,T.name,T.o,T.args] at hwf ih
 rw [T.av_eq] at en ⊢
 simp only [T.op,T.width,T.val,T.name,T.o,T.args] at en ⊢
 rw [writeT]
 cases hN : notE (.mk op w v n o as) with
 | false =>
   rw [hN] at en
   rw [if_pos rfl]
   simp [IP_sr07_Write,i_sr07_Write,en,aS_av]
 | true =>
   rw [hN] at en
   rw [if_neg (by simp)]
   have hN2 := hN
   rw [notE_mk] at hN2
   simp only [Bool.and_eq_true,decide_eq_true_eq] at hN2
   obtain ⟨n0,n1,n2,n3⟩ := hN2
   have hop : opOk op = true := arE_ok (by omega)
   have eI := int2_D w n0 n1
   have hv : 0 ≤ v ∧ v < 18446744073709551616 := by
     have := hwf.2.2.1
     simp [Lit.wf,IntKind.min,IntKind.max,IntKind.signed,IntKind.bits] at this; omega
   have eD := dec2_D v hv.1 hv.2
   have lI := decI_len (n := w) (by omega)
   have lD := decI_len hv.2
   have nl : (op = 1 ∨ op = 24 ∨ op = 25) → n.length ≤ 16 := fun e => by
     rw [if_pos e] at n3
     simp only [Bool.and_eq_true,decide_eq_true_eq] at n3
     exact (nameOk_mem n3.1).2.1
   generalize hdi : decI w = dw at *
   generalize hdv : decI v = dv at *
   by_cases k1 : op = 1
   · subst k1
     have := nl (by simp)
     have b1 : 1 + dw.length ≤ 9223372036854775807 := by omega
     have b2 : n.length + (dw.length + 1) ≤ 9223372036854775807 := by omega
     rw [if_pos rfl]
     simp [IP_sr07_Write,i_sr07_Write,en,aS_av,eI,b1,b2]
   by_cases k2 : op = 24
   · subst k2
     have := nl (by simp)
     have b1 : 1 + dw.length ≤ 9223372036854775807 := by omega
     have b2 : 1 + n.length ≤ 9223372036854775807 := by omega
     have b3 : n.length + 1 + (dw.length + 1) ≤ 9223372036854775807 := by omega
     rw [if_neg (by simp),if_pos rfl]
     simp [IP_sr07_Write,i_sr07_Write,en,aS_av,eI,b1,b2,b3]
   by_cases k3 : op = 25
   · subst k3
     have := nl (by simp)
     have b1 : 1 + dw.length ≤ 9223372036854775807 := by omega
     have b2 : 1 + n.length ≤ 9223372036854775807 := by omega
     have b3 : n.length + 1 + (dw.length + 1) ≤ 9223372036854775807 := by omega
     rw [if_neg (by simp),if_neg (by simp),if_pos rfl]
     simp [IP_sr07_Write,i_sr07_Write,en,aS_av,eI,b1,b2,b3]
   by_cases k4 : op = 2
   · subst k4
     have b1 : 1 + dw.length ≤ 9223372036854775807 := by omega
     have b2 : dv.length + (dw.length + 1) ≤ 9223372036854775807 := by omega
     rw [if_neg (by simp),if_neg (by simp),if_neg (by simp),if_pos rfl]
     simp [IP_sr07_Write,i_sr07_Write,en,aS_av,eI,eD,b1,b2]
   rw [if_neg k1,if_neg k2,if_neg k3,if_neg k4]
   have b0 : 1 + dw.length ≤ 9223372036854775807 := by omega
   have hal : as.length ≤ 10 := by have := arE_bd op; omega
   have eN := fun hp lo q => name4_D (hp := hp) (lo := lo) q op
   have eP := fun hp lo q => plain7_D (hp := hp) (lo := lo) q op
   have el := fun (acc:List S) (ha:acc.length ≤ 10) => write7_L (hp := hp) (lo := hp.length) (.mk op w v n o as) hal as [] acc rfl (by simpa using ha) (fun x hx => ih x hx (hwf.2.2.2.2.2.2 x hx))
   by_cases k5 : op = 21
   · subst k5
     have e1 := el [aS (nameE 21),aS dv,aS dw] (by simp)
     simp [S.avs_cons,aS_av,T.cells,T.op,T.width,T.val,T.name,T.args,T.o] at e1
     have h2 : (numsN 21:Int) = 2 := rfl
     simp [IP_sr07_Write,i_sr07_Write,en,eI,eD,eN,eP,b0,h2,e1,headW,hdi,hdv,S.av,S.avs_app,S.avs_cons,aS_av,ownB_false,S.avs_closed]
   by_cases k6 : op = 22 ∨ op = 23
   · have hn : numsN op = 1 := by simp [numsN,k5,k6]
     have e1 := el [aS (nameE op),aS dw] (by simp)
     simp [S.avs_cons,aS_av,T.cells,T.op,T.width,T.val,T.name,T.args,T.o] at e1
     simp [IP_sr07_Write,i_sr07_Write,en,eI,eD,eN,eP,b0,hn,k1,k2,k3,k4,k5,k6,e1,headW,hdi,hdv,S.av,S.avs_app,S.avs_cons,aS_av,ownB_false,S.avs_closed]
   · have hn : numsN op = 0 := by simp [numsN,k5,k6]
     have e1 := el [aS (nameE op)] (by simp)
     simp [S.avs_cons,aS_av,T.cells,T.op,T.width,T.val,T.name,T.args,T.o] at e1
     simp [IP_sr07_Write,i_sr07_Write,en,eI,eD,eN,eP,b0,hn,k1,k2,k3,k4,k5,k6,e1,headW,hdi,hdv,S.av,S.avs_app,S.avs_cons,aS_av,ownB_false,S.avs_closed]
theorem printT_D (t:T) (hw:t.wf) (hs:(writeT t).text.length ≤ 140737488355328) (hp:List HObj) (lo:Nat) (q:Bool) : callD G0 IP n_tt_Print [t.av] hp lo q = some (.ret (.str (writeT t).text) hp) := by
 have e1 := writeT_D t hw
 have e2 := fun hp lo q => print2_D (hp := hp) (lo := lo) (write_wf t hw) hs q
 rw [callD_eq]
 rw [T.av_eq,S.av_eq] at e1
 rw [S.av_eq] at e2
 rw [T.av_eq]
 simp [IP_tt_Print,i_tt_Print,e1,e2]
end
end Go.Proofs.YtkofimhnehkdoaaGreatDoor.Rf
end
section
namespace Go.Proofs.YtkofimhnehkdoaaGreatDoor.Rf
structure Sb where
 name : List UInt8
 t : T
structure St7 where
 kind : Int
 ro : Bool
 refs : List Int
 rule : Int
 so : Bool
 subs : List Sb
 a : T
 b : T
abbrev Sb.cells (s:Sb) : List AV := .str s.name :: s.t.cells
def Sb.av (s:Sb) : AV := .agg s.cells
theorem Sb.av_eq (s:Sb) : s.av = .agg [.str s.name,.int .i64 s.t.op,.int .i64 s.t.width,.int .u64 s.t.val,.str s.t.name,.list (T.avs s.t.args) (ownB s.t.o)] := rfl
def sbs (l:List Sb) : List AV := l.map Sb.av
def i64s (l:List Int) : List AV := l.map (AV.int .i64)
@[simp] theorem sbs_len (l:List Sb) : (sbs l).length = l.length := by simp [sbs]
@[simp] theorem i64s_len (l:List Int) : (i64s l).length = l.length := by simp [i64s]
@[simp] theorem sbs_getElem {l:List Sb} {i:Nat} (h:i < (sbs l).length) : (sbs l)[i] = (l[i]'(by simpa using h)).av := by simp [sbs]
@[simp] theorem i64s_getElem {l:List Int} {i:Nat} (h:i < (i64s l).length) : (i64s l)[i] = .int .i64 (l[i]'(by simpa using h)) := by simp [i64s]
abbrev St7.cells (s:St7) : List AV := [.int .i64 s.kind,.list (i64s s.refs) (ownB s.ro),.int .i64 s.rule,.list (sbs s.subs) (ownB s.so),
 .int .i64 s.a.op,.int .i64 s.a.width,.int .u64 s.a.val,.str s.a.name,.list (T.avs s.a.args) (ownB s.a.o),
 .int .i64 s.b.op,.int .i64 s.b.width,.int .u64 s.b.val,.str s.b.name,.list (T.avs s.b.args) (ownB s.b.o)]
def St7.av (s:St7) : AV := .agg s.cells
def St7.avs (l:List St7) : List AV := l.map St7.av
@[simp] theorem St7.avs_len (l:List St7) : (St7.avs l).length = l.length := by simp [St7.avs]
@[simp] theorem St7.avs_getElem {l:List St7} {i:Nat} (h:i < (St7.avs l).length) : (St7.avs l)[i] = (l[i]'(by simpa using h)).av := by simp [St7.avs]
def Sb.wf (s:Sb) : Prop := s.name.length ≤ 9223372036854775807 ∧ s.t.wf
def St7.wf (s:St7) : Prop := (Lit.int .i64 s.kind).wf = true ∧ (∀ x,x ∈ s.refs → (Lit.int .i64 x).wf = true) ∧ s.refs.length ≤ 9223372036854775807 ∧ (Lit.int .i64 s.rule).wf = true ∧ (∀ x,x ∈ s.subs → x.wf) ∧ s.subs.length ≤ 9223372036854775807 ∧ s.a.wf ∧ s.b.wf
section
variable {H:Type} {P:Program}
theorem HasTy.two {n:Nat} {t a b:TypeId} {fs:Array Field} {cs:List AV} {d:DataW H} (hu:P.underlying t = some (.struct fs)) (hf:fs.toList.map Field.type = [a,b]) (h:HasTy P n t cs d) :
   ∃ p q : List AV,cs = p ++ q ∧ (∃ m,∃ d' : DataW H,m < n ∧ HasTy P m a p d') ∧ (∃ m,∃ d' : DataW H,m < n ∧ HasTy P m b q d') := by
 obtain ⟨parts,rfl,hl,hp⟩ := h.fields hu
 have hsz : fs.size = 2 := by have := congrArg List.length hf; simpa using this
 rw [hsz] at hl
 match parts,hl with
 | [p0,p1],_ =>
   have g : ∀ (i:Nat) ds x,[p0,p1][i]? = some ds → [a,b][i]? = some x → ∃ m,∃ d' : DataW H,m < n ∧ HasTy P m x ds d' := by
     intro i ds x h1 h2
     rw [← hf] at h2
     simp only [List.getElem?_map,Array.getElem?_toList,Option.map_eq_some_iff] at h2
     obtain ⟨f,f1,f2⟩ := h2
     obtain ⟨m,d',m1,m2⟩ := hp i f ds f1 h1
     exact ⟨m,d',m1,f2 ▸ m2⟩
   exact ⟨p0,p1,by simp,g 0 _ _ rfl rfl,g 1 _ _ rfl rfl⟩
theorem HasTy.six {n:Nat} {t a b c e f g:TypeId} {fs:Array Field} {cs:List AV} {d:DataW H} (hu:P.underlying t = some (.struct fs)) (hf:fs.toList.map Field.type = [a,b,c,e,f,g]) (h:HasTy P n t cs d) :
   ∃ p0 p1 p2 p3 p4 p5 : List AV,cs = p0 ++ (p1 ++ (p2 ++ (p3 ++ (p4 ++ p5)))) ∧ (∃ m,∃ d' : DataW H,m < n ∧ HasTy P m a p0 d') ∧ (∃ m,∃ d' : DataW H,m < n ∧ HasTy P m b p1 d') ∧ (∃ m,∃ d' : DataW H,m < n ∧ HasTy P m c p2 d') ∧
     (∃ m,∃ d' : DataW H,m < n ∧ HasTy P m e p3 d') ∧ (∃ m,∃ d' : DataW H,m < n ∧ HasTy P m f p4 d') ∧ (∃ m,∃ d' : DataW H,m < n ∧ HasTy P m g p5 d') := by
 obtain ⟨parts,rfl,hl,hp⟩ := h.fields hu
 have hsz : fs.size = 6 := by have := congrArg List.length hf; simpa using this
 rw [hsz] at hl
 match parts,hl with
 | [p0,p1,p2,p3,p4,p5],_ =>
   have k : ∀ (i:Nat) ds x,[p0,p1,p2,p3,p4,p5][i]? = some ds → [a,b,c,e,f,g][i]? = some x → ∃ m,∃ d' : DataW H,m < n ∧ HasTy P m x ds d' := by
     intro i ds x h1 h2
     rw [← hf] at h2
     simp only [List.getElem?_map,Array.getElem?_toList,Option.map_eq_some_iff] at h2
     obtain ⟨f,f1,f2⟩ := h2
     obtain ⟨m,d',m1,m2⟩ := hp i f ds f1 h1
     exact ⟨m,d',m1,f2 ▸ m2⟩
   exact ⟨p0,p1,p2,p3,p4,p5,by simp,k 0 _ _ rfl rfl,k 1 _ _ rfl rfl,k 2 _ _ rfl rfl,k 3 _ _ rfl rfl,k 4 _ _ rfl rfl,k 5 _ _ rfl rfl⟩
theorem HasTy.sub {st a b:TypeId} {fs:Array Field} (hT:∀ n cs (d:DataW H),HasTy P n b cs d → ∃ t : T,cs = t.cells ∧ t.wf) (hu:P.underlying st = some (.struct fs)) (hf:fs.toList.map Field.type = [a,b]) (ha:P.underlying a = some .string)
   {n:Nat} {cs:List AV} {d:DataW H} (h:HasTy P n st cs d) : ∃ s : Sb,cs = s.cells ∧ s.wf := by
 obtain ⟨p,q,rfl,⟨m0,d0,_,q0⟩,⟨m1,d1,_,q1⟩⟩ := h.two hu hf
 obtain ⟨x0,rfl,w0⟩ := q0.str ha
 obtain ⟨t,rfl,w1⟩ := hT _ _ _ q1
 exact ⟨⟨x0,t⟩,rfl,w0,w1⟩
theorem HasTy.step {tt ti tl ts te st:TypeId} {fs gs:Array Field} {tn:TypeId} (hT:∀ n cs (d:DataW H),HasTy P n te cs d → ∃ t : T,cs = t.cells ∧ t.wf)
   (hu:P.underlying tt = some (.struct fs)) (hf:fs.toList.map Field.type = [ti,tl,ti,ts,te,te]) (hi:P.underlying ti = some (.int .i64)) (hl:P.underlying tl = some (.slice ti)) (hs:P.underlying ts = some (.slice st))
   (hv:P.underlying st = some (.struct gs)) (hg:gs.toList.map Field.type = [tn,te]) (hn:P.underlying tn = some .string)
   {n:Nat} {cs:List AV} {d:DataW H} (h:HasTy P n tt cs d) : ∃ s : St7,cs = s.cells ∧ s.wf := by
 obtain ⟨p0,p1,p2,p3,p4,p5,rfl,⟨_,_,_,q0⟩,⟨_,_,_,q1⟩,⟨_,_,_,q2⟩,⟨_,_,_,q3⟩,⟨_,_,_,q4⟩,⟨_,_,_,q5⟩⟩ := h.six hu hf
 obtain ⟨x0,rfl,w0⟩ := q0.int hi
 obtain ⟨o1,l1,rfl,_,b1,w1⟩ := q1.slice (AV.int .i64) (fun x => (Lit.int .i64 x).wf = true) hl fun m hm ds d' h => by
   obtain ⟨x,rfl,hx⟩ := h.int hi
   exact ⟨x,by unfold elemAV aggTy; rw [hi]; rfl,hx⟩
 obtain ⟨x2,rfl,w2⟩ := q2.int hi
 obtain ⟨o3,l3,rfl,_,b3,w3⟩ := q3.slice Sb.av Sb.wf hs fun m hm ds d' h => by
   obtain ⟨x,rfl,hx⟩ := HasTy.sub hT hv hg hn h
   exact ⟨x,by unfold elemAV aggTy; rw [hv]; rfl,hx⟩
 obtain ⟨t4,rfl,w4⟩ := hT _ _ _ q4
 obtain ⟨t5,rfl,w5⟩ := hT _ _ _ q5
 exact ⟨⟨x0,o1,l1,x2,o3,l3,t4,t5⟩,rfl,w0,w1,b1,w2,w3,b3,w4,w5⟩
theorem ArgTy.steps {tp tt ti tl ts te st:TypeId} {fs gs:Array Field} {tn:TypeId} (hp:P.underlying tp = some (.slice tt)) (hT:∀ n cs (d:DataW H),HasTy P n te cs d → ∃ t : T,cs = t.cells ∧ t.wf)
   (hu:P.underlying tt = some (.struct fs)) (hf:fs.toList.map Field.type = [ti,tl,ti,ts,te,te]) (hi:P.underlying ti = some (.int .i64)) (hl:P.underlying tl = some (.slice ti)) (hs:P.underlying ts = some (.slice st))
   (hv:P.underlying st = some (.struct gs)) (hg:gs.toList.map Field.type = [tn,te]) (hn:P.underlying tn = some .string)
   {v:AV} {d:DataW H} (h:ArgTy P tp v d) : ∃ (o:Bool) (l:List St7),v = .list (St7.avs l) (ownB o) ∧ l.length ≤ 9223372036854775807 ∧ ∀ s,s ∈ l → s.wf := by
 obtain ⟨n,cs,rfl,h⟩ := h
 obtain ⟨o,l,rfl,h1,h2,h3⟩ := h.slice St7.av St7.wf hp fun m hm ds d' h => by
   obtain ⟨x,rfl,hx⟩ := HasTy.step hT hu hf hi hl hs hv hg hn h
   exact ⟨x,by unfold elemAV aggTy; rw [hu]; rfl,hx⟩
 exact ⟨o,l,by unfold elemAV aggTy; rw [hp]; rfl,h2,h3⟩
end
end Go.Proofs.YtkofimhnehkdoaaGreatDoor.Rf
end
section
namespace Go.Proofs.YtkofimhnehkdoaaGreatDoor.Rf
structure Cl where
 fact : Bool
 a : T
 b : T
 w : Int
 z : Int
 o : Int
 lo : Int
 hi : Int
abbrev Cl.cells (c:Cl) : List AV := [.bool c.fact,.int .i64 c.a.op,.int .i64 c.a.width,.int .u64 c.a.val,.str c.a.name,.list (T.avs c.a.args) (ownB c.a.o),
 .int .i64 c.b.op,.int .i64 c.b.width,.int .u64 c.b.val,.str c.b.name,.list (T.avs c.b.args) (ownB c.b.o),.int .i64 c.w,.int .u64 c.z,.int .u64 c.o,.int .u64 c.lo,.int .u64 c.hi]
def Cl.av (c:Cl) : AV := .agg c.cells
theorem cl_av (c:Cl) : c.av = .agg c.cells := rfl
def Cl.avs (l:List Cl) : List AV := l.map Cl.av
@[simp] theorem Cl.avs_len (l:List Cl) : (Cl.avs l).length = l.length := by simp [Cl.avs]
@[simp] theorem Cl.avs_getElem {l:List Cl} {i:Nat} (h:i < (Cl.avs l).length) : (Cl.avs l)[i] = (l[i]'(by simpa using h)).av := by simp [Cl.avs]
def u64B (x:Int) : Prop := 0 ≤ x ∧ x < 18446744073709551616
def Cl.wf (c:Cl) : Prop := c.a.wf ∧ c.b.wf ∧ u64B c.z ∧ u64B c.o ∧ u64B c.lo ∧ u64B c.hi
theorem u64B_of {x:Int} (h:(Lit.int .u64 x).wf = true) : u64B x := by
 simp [Lit.wf,IntKind.min,IntKind.max,IntKind.signed,IntKind.bits] at h
 exact ⟨by omega,by omega⟩
def conclT (c:Cl) : List UInt8 :=
 if c.fact then (writeT c.a).text ++ ([32,105,110,32] ++ (decI c.z ++ ([32] ++ (decI c.o ++ ([32] ++ (decI c.lo ++ ([32] ++ decI c.hi)))))))
 else (writeT c.a).text ++ ([32,61,32] ++ (writeT c.b).text)
theorem concl_len {c:Cl} {n:Nat} (hw:c.wf) (ha:(writeT c.a).text.length ≤ n) (hb:(writeT c.b).text.length ≤ n) : (conclT c).length ≤ 2 * n + 100 := by
 obtain ⟨_,_,z,o,l,h⟩ := hw
 have h1 := decI_len z.2
 have h2 := decI_len o.2
 have h3 := decI_len l.2
 have h4 := decI_len h.2
 unfold conclT
 split <;> simp only [List.length_append,List.length_cons,List.length_nil] <;> omega
section
variable {hp:List HObj} {lo:Nat}
theorem joinP_D (x0:List UInt8) (xs:List (List UInt8)) (h1:xs ≠ []) (hl:xs.length ≤ 65536) (o:Own) (h0:(x0 ++ xs.flatten) ≠ []) (hb:(x0 ++ xs.flatten).length ≤ 140737488355328) (hp:List HObj) (lo:Nat) (q:Bool) :
   callD G0 IP n_pt_join [.list (strs (x0 :: xs)) o] hp lo q = some (.ret (.str (x0 ++ xs.flatten)) hp) := by
 have e1 := fun (o:Own) (hp:List HObj) (lo:Nat) (q:Bool) => join_D x0 xs h1 hl o h0 hb hp lo q
 rw [callD_eq]
 generalize x0 ++ xs.flatten = tx at *
 simp only [strs] at e1 ⊢
 generalize (x0 :: xs).map AV.str = L at *
 simp [IP_pt_join,i_pt_join,e1]
theorem text36_D (t:T) (hw:t.wf) (hs:(writeT t).text.length ≤ 140737488355328) (hp:List HObj) (lo:Nat) (q:Bool) : callD G0 IP n_sr36_text [t.av] hp lo q = some (.ret (.str (writeT t).text) hp) := by
 have e1 := fun hp lo q => write7_D t hw hp lo q
 have e2 := fun hp lo q => print1_D (writeT t) (write_wf t hw) hs hp lo q
 rw [callD_eq,T.av_eq]
 simp only [T.av_eq] at e1
 generalize (writeT t).text = tx at *
 have hc := fun n => S.av_closed n (writeT t)
 simp only [S.av_eq] at e1 e2 hc
 simp [IP_sr36_text,i_sr36_text,e1,e2]
set_option maxHeartbeats 4000000 in
theorem conclP_D (c:Cl) (hw:c.wf) (ha:(writeT c.a).text.length ≤ 1000000000) (hb:(writeT c.b).text.length ≤ 1000000000) (hp:List HObj) (lo:Nat) (q:Bool) :
   callD G0 IP n_pt_Concl [c.av] hp lo q = some (.ret (.str (conclT c)) hp) := by
 have hlen := concl_len hw ha hb
 obtain ⟨w1,w2,z,o,l,h⟩ := hw
 have e1 := fun hp lo q => printT_D c.a w1 (by omega) hp lo q
 have e2 := fun hp lo q => printT_D c.b w2 (by omega) hp lo q
 have d1 := fun hp lo q => decT_D c.z z.1 z.2 hp lo q
 have d2 := fun hp lo q => decT_D c.o o.1 o.2 hp lo q
 have d3 := fun hp lo q => decT_D c.lo l.1 l.2 hp lo q
 have d4 := fun hp lo q => decT_D c.hi h.1 h.2 hp lo q
 rw [callD_eq,cl_av,Cl.cells]
 unfold conclT at hlen ⊢
 simp only [T.av_eq] at e1 e2
 generalize (writeT c.a).text = ta at *
 generalize (writeT c.b).text = tb at *
 generalize decI c.z = sz at *
 generalize decI c.o = so at *
 generalize decI c.lo = sl at *
 generalize decI c.hi = sh at *
 cases hf : c.fact with
 | false =>
   rw [hf] at hlen
   have ej := fun (o:Own) (hp:List HObj) (lo:Nat) (q:Bool) => joinP_D ta [[32,61,32],tb] (by simp) (by simp) o (by simp) (by simp at hlen ⊢; omega) hp lo q
   simp only [strs,List.map_cons,List.map_nil,List.flatten_cons,List.flatten_nil,List.append_nil] at ej
   simp [IP_pt_Concl,i_pt_Concl,e1,e2,ej]
 | true =>
   rw [hf] at hlen
   have ej := fun (o:Own) (hp:List HObj) (lo:Nat) (q:Bool) => joinP_D ta [[32,105,110,32],sz,[32],so,[32],sl,[32],sh] (by simp) (by simp) o (by simp) (by simp at hlen ⊢; omega) hp lo q
   simp only [strs,List.map_cons,List.map_nil,List.flatten_cons,List.flatten_nil,List.append_nil] at ej
   simp [IP_pt_Concl,i_pt_Concl,e1,d1,d2,d3,d4,ej]
set_option maxHeartbeats 4000000 in
theorem concl36_D (c:Cl) (hw:c.wf) (ha:(writeT c.a).text.length ≤ 1000000000) (hb:(writeT c.b).text.length ≤ 1000000000) (hp:List HObj) (lo:Nat) (q:Bool) :
   callD G0 IP n_sr36_Concl [c.av] hp lo q = some (.ret (.str (conclT c)) hp) := by
 have hlen := concl_len hw ha hb
 obtain ⟨w1,w2,z,o,l,h⟩ := hw
 have e1 := fun hp lo q => text36_D c.a w1 (by omega) hp lo q
 have e2 := fun hp lo q => text36_D c.b w2 (by omega) hp lo q
 have d1 := fun hp lo q => dec2_D c.z z.1 z.2 hp lo q
 have d2 := fun hp lo q => dec2_D c.o o.1 o.2 hp lo q
 have d3 := fun hp lo q => dec2_D c.lo l.1 l.2 hp lo q
 have d4 := fun hp lo q => dec2_D c.hi h.1 h.2 hp lo q
 rw [callD_eq,cl_av,Cl.cells]
 unfold conclT at hlen ⊢
 simp only [T.av_eq] at e1 e2
 generalize (writeT c.a).text = ta at *
 generalize (writeT c.b).text = tb at *
 generalize decI c.z = sz at *
 generalize decI c.o = so at *
 generalize decI c.lo = sl at *
 generalize decI c.hi = sh at *
 cases hf : c.fact with
 | false =>
   rw [hf] at hlen
   simp only [Bool.false_eq_true,if_false,List.length_append,List.length_cons,List.length_nil] at hlen
   have g1 : ta.length + (0 + 1 + 1 + 1) ≤ 9223372036854775807 := by omega
   have g2 : ta.length + 3 ≤ 9223372036854775807 := by omega
   have g3 : ta.length + 3 + tb.length ≤ 9223372036854775807 := by omega
   simp [IP_sr36_Concl,i_sr36_Concl,e1,e2,g1,g2,g3]
 | true =>
   rw [hf] at hlen
   simp only [if_true,List.length_append,List.length_cons,List.length_nil] at hlen
   have g1 : ta.length + 4 ≤ 9223372036854775807 := by omega
   have g2 : ta.length + 4 + sz.length ≤ 9223372036854775807 := by omega
   have f1 : ta.length + (sz.length + 1 + 1 + 1 + 1) ≤ 9223372036854775806 := by omega
   have f2 : ta.length + (sz.length + 1 + 1 + 1 + 1 + 1) + so.length ≤ 9223372036854775807 := by omega
   have f3 : ta.length + (sz.length + (so.length + 1) + 1 + 1 + 1 + 1) ≤ 9223372036854775806 := by omega
   have f4 : ta.length + (sz.length + (so.length + 1 + 1) + 1 + 1 + 1 + 1) + sl.length ≤ 9223372036854775807 := by omega
   have f5 : ta.length + (sz.length + (so.length + (sl.length + 1) + 1) + 1 + 1 + 1 + 1) ≤ 9223372036854775806 := by omega
   have f6 : ta.length + (sz.length + (so.length + (sl.length + 1 + 1) + 1) + 1 + 1 + 1 + 1) + sh.length ≤ 9223372036854775807 := by omega
   simp [IP_sr36_Concl,i_sr36_Concl,e1,d1,d2,d3,d4,g1,g2,f1,f2,f3,f4,f5,f6]
end
end Go.Proofs.YtkofimhnehkdoaaGreatDoor.Rf
end
section
namespace Go.Proofs.YtkofimhnehkdoaaGreatDoor.Rf
def w7 (s:List UInt8) : Int × Int := if (numE s).2 ≠ 0 then (0,(numE s).2) else if 64 < (numE s).1 then (0,2) else ((numE s).1,0)
section
variable {hp:List HObj} {lo:Nat} (q:Bool)
end
end Go.Proofs.YtkofimhnehkdoaaGreatDoor.Rf
end
section
namespace Go.Proofs.YtkofimhnehkdoaaGreatDoor.Rf
section
variable {hp:List HObj} {lo:Nat} (q:Bool)
end
end Go.Proofs.YtkofimhnehkdoaaGreatDoor.Rf
end
section
namespace Go.Proofs.YtkofimhnehkdoaaGreatDoor.Rf
section
variable {hp:List HObj} {lo:Nat} (q:Bool)
end
end Go.Proofs.YtkofimhnehkdoaaGreatDoor.Rf
end
section
namespace Go.Proofs.YtkofimhnehkdoaaGreatDoor.Rf
section
variable {hp:List HObj} {lo:Nat} (q:Bool)
end
end Go.Proofs.YtkofimhnehkdoaaGreatDoor.Rf
end
section
namespace Go.Proofs.YtkofimhnehkdoaaGreatDoor.Rf
def ownW (acc:List T) : Own := if acc.isEmpty then .nil else .own 1 0
@[simp] theorem ownW_cp (acc:List T) : (ownW acc).cp = ownB acc.isEmpty := by cases acc <;> rfl
@[simp] theorem ownW_app (acc:List T) (x:T) : ownW (acc ++ [x]) = .own 1 0 := by cases acc <;> rfl
section
variable {hp:List HObj} {lo:Nat} (q:Bool)
end
end Go.Proofs.YtkofimhnehkdoaaGreatDoor.Rf
end
section
namespace Go.Proofs.YtkofimhnehkdoaaGreatDoor.Rf
section
variable {hp:List HObj} {lo:Nat} (q:Bool)
end
end Go.Proofs.YtkofimhnehkdoaaGreatDoor.Rf
end
section
namespace Go.Proofs.YtkofimhnehkdoaaGreatDoor.Rf
section
variable {hp:List HObj} {lo:Nat}
end
end Go.Proofs.YtkofimhnehkdoaaGreatDoor.Rf
end
section
namespace Go.Proofs.YtkofimhnehkdoaaGreatDoor.Rf
mutual
def T.cnt : T → Int → Int → Int
 | .mk _ _ _ _ _ as,d,n => if d < 1 ∨ n < 1 then -1 else T.cnts as (d - 1) (n - 1)
def T.cnts : List T → Int → Int → Int
 | [],_,n => n
 | t :: r,d,n => if 0 ≤ n then T.cnts r d (t.cnt d n) else n
end
theorem T.cnt_eq (t:T) (d n:Int) : t.cnt d n = if d < 1 ∨ n < 1 then -1 else T.cnts t.args (d - 1) (n - 1) := by cases t; rfl
theorem T.cnts_neg : ∀ (l:List T) (d n:Int),n < 0 → T.cnts l d n = n
 | [],d,n,_ => rfl
 | t :: r,d,n,h => by simp only [T.cnts]; rw [if_neg (by omega)]
theorem T.cnt_le (t:T) : ∀ d n : Int,0 ≤ n → -1 ≤ t.cnt d n ∧ t.cnt d n ≤ n := by
 induction t using T.ind with | h t ih =>
 have hl : ∀ (l:List T),(∀ u,u ∈ l → ∀ d n : Int,0 ≤ n → -1 ≤ u.cnt d n ∧ u.cnt d n ≤ n) → ∀ d n : Int,-1 ≤ n → -1 ≤ T.cnts l d n ∧ T.cnts l d n ≤ n := by
   intro l
   induction l with
   | nil => intro _ d n h; simp only [T.cnts]; omega
   | cons x r ihr =>
     intro h d n hn
     simp only [T.cnts]
     split
     · rename_i h0
       have h1 := h x (by simp) d n h0
       have h2 := ihr (fun u hu => h u (by simp [hu])) d (x.cnt d n) h1.1
       omega
     · omega
 intro d n hn
 rw [T.cnt_eq]
 split
 · omega
 · have := hl t.args ih (d - 1) (n - 1) (by omega); omega
theorem T.cnt_ge (t:T) : ∀ d n : Int,0 ≤ t.cnt d n → t.cnt d n = n - t.size := by
 induction t using T.ind with | h t ih =>
 have hl : ∀ (l:List T),(∀ u,u ∈ l → ∀ d n : Int,0 ≤ u.cnt d n → u.cnt d n = n - u.size) → ∀ d n : Int,0 ≤ T.cnts l d n → T.cnts l d n = n - T.sizes l := by
   intro l
   induction l with
   | nil => intro _ d n _; simp [T.cnts,T.sizes]
   | cons x r ihr =>
     intro h d n hn
     simp only [T.cnts] at hn ⊢
     split
     · rename_i h0
       rw [if_pos h0] at hn
       by_cases hx : 0 ≤ x.cnt d n
       · rw [ihr (fun u hu => h u (by simp [hu])) _ _ hn,h x (by simp) d n hx]; simp only [T.sizes]; omega
       · rw [T.cnts_neg r _ _ (by omega)] at hn; exact absurd hn hx
     · rename_i h0; rw [if_neg h0] at hn; exact absurd hn h0
 intro d n hn
 rw [T.cnt_eq] at hn ⊢
 split at hn
 · omega
 · rename_i h; rw [if_neg h,hl t.args ih _ _ hn,T.size_eq]; omega
end Go.Proofs.YtkofimhnehkdoaaGreatDoor.Rf
end
section
namespace Go.Proofs.YtkofimhnehkdoaaGreatDoor.Rf
section
variable {hp:List HObj} {lo:Nat}
theorem count_D (t:T) : t.wf → ∀ (d n:Int),-1000 ≤ d → d ≤ 1000 → 0 ≤ n → n ≤ 10000 → ∀ (hp:List HObj) (lo:Nat) (q:Bool),callD G0 IP n_sr06_count [t.av,.int .i64 d,.int .i64 n] hp lo q = some (.ret (.int .i64 (t.cnt d n)) hp) := by
 induction t using T.ind with | h t ih =>
 intro hw d n hd0 hd1 h0 h1 hp lo q
 rw [T.wf_eq] at hw
 obtain ⟨_,_,_,_,hl,_,hws⟩ := hw
 have hloop : ∀ (k i:Nat) (n:Int),i + k = t.args.length → -1 ≤ n → n ≤ 10000 → 1 ≤ d → ∃ j : Int,loopD G0 IP hp.length l_sr06_count_0 ⟨[(1,.int .i64 d),(2,.int .i64 n),(3,.box t.cells),(7,.int .i64 i)],hp⟩ =
     some (.exit 0,⟨[(1,.int .i64 d),(2,.int .i64 (T.cnts (t.args.drop i) (d - 1) n)),(3,.box t.cells),(7,.int .i64 j),(24,.bool false)],hp⟩) := by
   intro k
   induction k with
   | zero =>
     intro i n hi _ _ _
     have hI : ¬ (i:Int) < (t.args.length : Int) := by omega
     refine ⟨i,?_⟩
     rw [loopD_eq,loopBody,List.drop_eq_nil_of_le (by omega)]
     simp [l_sr06_count_0,hI,T.cnts]
   | succ k ihk =>
     intro i n hi hn0 hn hd
     have hlt : i < t.args.length := by omega
     have hI : (i:Int) < (t.args.length : Int) := by omega
     rw [List.drop_eq_getElem_cons hlt]
     simp only [T.cnts]
     by_cases hneg : 0 ≤ n
     · have e1 := ih t.args[i] (List.getElem_mem hlt) (hws _ (List.getElem_mem hlt)) (d - 1) n (by omega) (by omega) hneg hn hp hp.length false
       have hle := T.cnt_le t.args[i] (d - 1) n hneg
       obtain ⟨j,e2⟩ := ihk (i + 1) (t.args[i].cnt (d - 1) n) (by omega) hle.1 (by omega) hd
       have hw1 := wrap_succ hlt hl
       have hw2 : IntKind.wrap .i64 (d - 1) = d - 1 := wrap_small (by omega) (by omega)
       rw [T.av_eq] at e1
       refine ⟨j,?_⟩
       rw [loopD_eq,loopBody,if_pos hneg]
       simp [l_sr06_count_0,hI,hlt,hneg,T.av_eq t.args[i],hw2,e1,hw1]
       exact e2
     · refine ⟨i,?_⟩
       rw [loopD_eq,loopBody,if_neg hneg]
       simp [l_sr06_count_0,hI,hlt,hneg]
 rw [callD_eq,T.cnt_eq,T.av_eq]
 by_cases hd : d < 1
 · simp [IP_sr06_count,i_sr06_count,hd]
 · by_cases hn : n < 1
   · simp [IP_sr06_count,i_sr06_count,hd,hn]
   · obtain ⟨j,e2⟩ := hloop t.args.length 0 (n - 1) (by omega) (by omega) (by omega) (by omega)
     have hw2 : IntKind.wrap .i64 (n - 1) = n - 1 := wrap_small (by omega) (by omega)
     simp at e2
     simp [IP_sr06_count,i_sr06_count,hd,hn,hw2,e2]
theorem light_D (t:T) (hw:t.wf) (d n:Int) (hd0:-1000 ≤ d) (hd1:d ≤ 1000) (h0:0 ≤ n) (h1:n ≤ 10000) (hp:List HObj) (lo:Nat) (q:Bool) : ∃ v : T,callD G0 IP n_sr06_Light [t.av,.int .i64 d,.int .i64 n] hp lo q = some (.ret (.tup [v.av,.bool (decide (0 ≤ t.cnt d n))]) hp) := by
 have e1 := count_D t hw d n hd0 hd1 h0 h1
 rw [callD_eq]
 rw [T.av_eq] at e1 ⊢
 by_cases h : 0 ≤ t.cnt d n
 · have h' : ¬ t.cnt d n < 0 := by omega
   exact ⟨t,by simp [IP_sr06_Light,i_sr06_Light,e1,h,h',T.av_eq,T.avs_closed]⟩
 · have h' : t.cnt d n < 0 := by omega
   exact ⟨.mk 0 0 0 [] true [],by simp [IP_sr06_Light,i_sr06_Light,e1,h,h']; rfl⟩
end
end Go.Proofs.YtkofimhnehkdoaaGreatDoor.Rf
end
section
namespace Go.Proofs.YtkofimhnehkdoaaGreatDoor.Rf
def kdN : List (List UInt8) := [[],[114,101,102,108],[115,121,109],[116,114,97,110,115],[99,111,110,103],[114,117,108,101],[102,111,108,100],[116,111,112],[110,111,100,101],[109,101,101,116],[109,111,118,101],[115,105,110,103,108,101],[103,105,118,101,110]]
def kindE (k:Int) : List UInt8 := if k < 1 ∨ 12 < k then [] else kdN.getD k.toNat []
theorem kind_cases {k:Int} (h:¬ (k < 1 ∨ 12 < k)) : k = 1 ∨ k = 2 ∨ k = 3 ∨ k = 4 ∨ k = 5 ∨ k = 6 ∨ k = 7 ∨ k = 8 ∨ k = 9 ∨ k = 10 ∨ k = 11 ∨ k = 12 := by omega
section
variable {hp:List HObj} {lo:Nat}
theorem kind_D (k:Int) (hp:List HObj) (lo:Nat) (q:Bool) : callD G0 IP n_proof_Kind [.int .i64 k] hp lo q = some (.ret (.str (kindE k)) hp) := by
 rw [callD_eq]
 by_cases h1 : k < 1
 · simp [IP_proof_Kind,i_proof_Kind,h1,kindE]
 · by_cases h2 : 12 < k
   · simp [IP_proof_Kind,i_proof_Kind,h1,h2,kindE]
   · rcases kind_cases (k := k) (by omega) with rfl | rfl | rfl | rfl | rfl | rfl | rfl | rfl | rfl | rfl | rfl | rfl
     all_goals simp [IP_proof_Kind,i_proof_Kind,kindE,kdN,G0_1,g_1]
theorem kind34_D (k:Int) (hp:List HObj) (lo:Nat) (q:Bool) : callD G0 IP n_sr34_Kind [.int .i64 k] hp lo q = some (.ret (.str (kindE k)) hp) := by
 rw [callD_eq]
 by_cases h1 : k < 1
 · simp [IP_sr34_Kind,i_sr34_Kind,h1,kindE]
 · by_cases h2 : 12 < k
   · simp [IP_sr34_Kind,i_sr34_Kind,h1,h2,kindE]
   · rcases kind_cases (k := k) (by omega) with rfl | rfl | rfl | rfl | rfl | rfl | rfl | rfl | rfl | rfl | rfl | rfl
     all_goals simp [IP_sr34_Kind,i_sr34_Kind,kindE,kdN,show IntKind.wrap .i64 0 = 0 from rfl,show IntKind.wrap .i64 1 = 1 from rfl,show IntKind.wrap .i64 2 = 2 from rfl,show IntKind.wrap .i64 3 = 3 from rfl,show IntKind.wrap .i64 4 = 4 from rfl,show IntKind.wrap .i64 5 = 5 from rfl,show IntKind.wrap .i64 6 = 6 from rfl,show IntKind.wrap .i64 7 = 7 from rfl,show IntKind.wrap .i64 8 = 8 from rfl,show IntKind.wrap .i64 9 = 9 from rfl,show IntKind.wrap .i64 10 = 10 from rfl,show IntKind.wrap .i64 11 = 11 from rfl]
end
end Go.Proofs.YtkofimhnehkdoaaGreatDoor.Rf
end
section
namespace Go.Proofs.YtkofimhnehkdoaaGreatDoor.Rf
section
variable {hp:List HObj} {lo:Nat}
end
end Go.Proofs.YtkofimhnehkdoaaGreatDoor.Rf
end
section
namespace Go.Proofs.YtkofimhnehkdoaaGreatDoor.Rf
section
variable {hp:List HObj} {lo:Nat}
end
end Go.Proofs.YtkofimhnehkdoaaGreatDoor.Rf
end
section
namespace Go.Proofs.YtkofimhnehkdoaaGreatDoor.Rf
section
variable {hp:List HObj} {lo:Nat}
end
end Go.Proofs.YtkofimhnehkdoaaGreatDoor.Rf
end
section
namespace Go.Proofs.YtkofimhnehkdoaaGreatDoor.Rf
mutual
def S.fit : S → Prop
 | .mk a _ l => a.length ≤ 65536 ∧ l.length ≤ 65536 ∧ (a ≠ [] → l = []) ∧ S.fits l
def S.fits : List S → Prop
 | [] => True
 | t :: r => t.fit ∧ S.fits r
end
def ownN (acc:List Int) : Own := if acc.isEmpty then .nil else .own 1 0
@[simp] theorem ownN_cp (acc:List Int) : (ownN acc).cp = ownB acc.isEmpty := by cases acc <;> rfl
@[simp] theorem ownN_app (acc:List Int) (x:Int) : ownN (acc ++ [x]) = .own 1 0 := by cases acc <;> rfl
@[simp] theorem i64s_nil : i64s [] = [] := rfl
@[simp] theorem okSize_i64s (l:List Int) : okSize 1 (i64s l) = true := by cases l <;> simp [i64s]
section
variable {hp:List HObj} {lo:Nat}
end
end Go.Proofs.YtkofimhnehkdoaaGreatDoor.Rf
end
section
namespace Go.Proofs.YtkofimhnehkdoaaGreatDoor.Rf
section
variable {hp:List HObj} {lo:Nat}
end
end Go.Proofs.YtkofimhnehkdoaaGreatDoor.Rf
end
section
namespace Go.Proofs.YtkofimhnehkdoaaGreatDoor.Rf
section
variable {hp:List HObj} {lo:Nat}
end
end Go.Proofs.YtkofimhnehkdoaaGreatDoor.Rf
end
section
namespace Go.Proofs.YtkofimhnehkdoaaGreatDoor.Rf
inductive SbR where
 | ok (l:List Sb) | err (e:Int)
inductive StR where
 | ok (s:St7) | err (e:Int)
def ownSb (acc:List Sb) : Own := if acc.isEmpty then .nil else .own 6 0
@[simp] theorem ownSb_cp (acc:List Sb) : (ownSb acc).cp = ownB acc.isEmpty := by cases acc <;> rfl
@[simp] theorem ownSb_app (acc:List Sb) (x:Sb) : ownSb (acc ++ [x]) = .own 6 0 := by cases acc <;> rfl
@[simp] theorem sbs_nil : sbs [] = [] := rfl
@[simp] theorem okSize_sbs (l:List Sb) : okSize 6 (sbs l) = true := by cases l <;> simp [sbs,Sb.av_eq]
section
variable {hp:List HObj} {lo:Nat}
end
end Go.Proofs.YtkofimhnehkdoaaGreatDoor.Rf
end
section
namespace Go.Proofs.YtkofimhnehkdoaaGreatDoor.Rf
def St7.z : St7 := ⟨0,true,[],0,true,[],T.z,T.z⟩
def StR.tup (hp:List HObj) : StR → COut
 | .ok s => .ret (.tup [s.av,.int .i64 0]) hp
 | .err c => .ret (.tup [St7.z.av,.int .i64 c]) hp
theorem st_av (s:St7) : s.av = .agg s.cells := rfl
section
variable {hp:List HObj} {lo:Nat}
end
end Go.Proofs.YtkofimhnehkdoaaGreatDoor.Rf
end
section
namespace Go.Proofs.YtkofimhnehkdoaaGreatDoor.Rf
section
variable {lo:Nat} (L TL:List AV) (o to:Own) (j:Nat) (H:List HObj)
end
section
variable {hp:List HObj} {lo:Nat}
end
end Go.Proofs.YtkofimhnehkdoaaGreatDoor.Rf
end
section
namespace Go.Proofs.YtkofimhnehkdoaaGreatDoor.Rf
section
variable {hp:List HObj} {lo:Nat}
end
end Go.Proofs.YtkofimhnehkdoaaGreatDoor.Rf
end
section
namespace Go.Proofs.YtkofimhnehkdoaaGreatDoor.Rf
section
variable {hp:List HObj} {lo:Nat}
end
end Go.Proofs.YtkofimhnehkdoaaGreatDoor.Rf
end
section
namespace Go.Proofs.YtkofimhnehkdoaaGreatDoor.Rf
section
variable {hp:List HObj} {lo:Nat}
end
end Go.Proofs.YtkofimhnehkdoaaGreatDoor.Rf
end
section
namespace Go.Proofs.YtkofimhnehkdoaaGreatDoor.Rf
section
variable {hp:List HObj} {lo:Nat}
end
end Go.Proofs.YtkofimhnehkdoaaGreatDoor.Rf
end
section
namespace Go.Proofs.YtkofimhnehkdoaaGreatDoor.Rf
section
variable {lo:Nat} (TL:List AV) (ow:Own) (j:Nat) (H:List HObj)
end
end Go.Proofs.YtkofimhnehkdoaaGreatDoor.Rf
end
section
namespace Go.Proofs.YtkofimhnehkdoaaGreatDoor.Rf
section
variable {lo:Nat}
end
end Go.Proofs.YtkofimhnehkdoaaGreatDoor.Rf
end
section
namespace Go.Proofs.YtkofimhnehkdoaaGreatDoor.Rf
section
variable {hp:List HObj} {lo:Nat}
end
end Go.Proofs.YtkofimhnehkdoaaGreatDoor.Rf
end
section
namespace Go.Proofs.YtkofimhnehkdoaaGreatDoor.Rf
section
variable {hp:List HObj} {lo:Nat}
end
end Go.Proofs.YtkofimhnehkdoaaGreatDoor.Rf
end
section
namespace Go.Proofs.YtkofimhnehkdoaaGreatDoor.Rf
theorem all_range {α:Type} (l:List α) (d:α) (p:α → Bool) : ((List.range l.length).any fun i => !p (l.getD i d)) = !(l.all p) := by
 induction l with
 | nil => rfl
 | cons x r ih => rw [List.length_cons,List.range_succ_eq_map]; simp only [List.any_cons,List.any_map,Function.comp_def,List.all_cons]; simp only [List.getD_cons_zero,List.getD_cons_succ]; rw [ih]; cases p x <;> simp
section
variable {hp:List HObj} {lo:Nat}
end
end Go.Proofs.YtkofimhnehkdoaaGreatDoor.Rf
end
section
namespace Go.Proofs.YtkofimhnehkdoaaGreatDoor.Rf
section
variable {hp:List HObj} {lo:Nat}
end
end Go.Proofs.YtkofimhnehkdoaaGreatDoor.Rf
end
section
namespace Go.Proofs.YtkofimhnehkdoaaGreatDoor.Rf
section
variable {hp:List HObj} {lo:Nat}
end
end Go.Proofs.YtkofimhnehkdoaaGreatDoor.Rf
end
section
namespace Go.Proofs.YtkofimhnehkdoaaGreatDoor.Rf
inductive PrR where
 | ok (l:List St7) | err (i:Int) (e:Int)
def ownSt (acc:List St7) : Own := if acc.isEmpty then .nil else .own 14 0
@[simp] theorem ownSt_cp (acc:List St7) : (ownSt acc).cp = ownB acc.isEmpty := by cases acc <;> rfl
@[simp] theorem ownSt_app (acc:List St7) (x:St7) : ownSt (acc ++ [x]) = .own 14 0 := by cases acc <;> rfl
@[simp] theorem avs7_nil : St7.avs [] = [] := rfl
@[simp] theorem okSize_avs7 (l:List St7) : okSize 14 (St7.avs l) = true := by cases l <;> simp [St7.avs,st_av]
section
variable {hp:List HObj} {lo:Nat}
end
end Go.Proofs.YtkofimhnehkdoaaGreatDoor.Rf
end
section
namespace Go.Proofs.YtkofimhnehkdoaaGreatDoor.Rf
section
variable {hp:List HObj} {lo:Nat}
end
end Go.Proofs.YtkofimhnehkdoaaGreatDoor.Rf
end
section
namespace Go.Proofs.YtkofimhnehkdoaaGreatDoor.Rf
def same2 {α:Type} (p:α → α → Bool) : List α → List α → Bool
 | [],[] => true
 | a :: r,b :: r' => p a b && same2 p r r'
 | _,_ => false
def eqI (a b:Int) : Bool := decide (a = b)
def Sb.same (s t:Sb) : Bool := decide (s.name = t.name) && s.t.same t.t
def St7.same (s t:St7) : Bool := decide (s.kind = t.kind) && (same2 eqI s.refs t.refs && (decide (s.rule = t.rule) && (same2 Sb.same s.subs t.subs && (s.a.same t.a && s.b.same t.b))))
section
variable {hp:List HObj} {lo:Nat}
set_option maxHeartbeats 4000000 in
set_option maxRecDepth 8192 in
end
end Go.Proofs.YtkofimhnehkdoaaGreatDoor.Rf
end
section
namespace Go.Proofs.YtkofimhnehkdoaaGreatDoor.Rf
set_option maxRecDepth 100000 in
theorem live36_ok : (run G0 IP 100).1 n_sl36_live [] [] 0 false = some (.ret (.bool true) []) := by kernel_rfl
end Go.Proofs.YtkofimhnehkdoaaGreatDoor.Rf
end
section
namespace Go.Proofs.YtkofimhnehkdoaaGreatDoor.Rf
theorem live36_D : callD G0 IP n_sl36_live [] [] 0 false = some (.ret (.bool true) []) := callD_iff.2 ⟨100,live36_ok⟩
end Go.Proofs.YtkofimhnehkdoaaGreatDoor.Rf
end
section
namespace Go.Proofs.YtkofimhnehkdoaaGreatDoor.Rf
set_option maxRecDepth 100000 in
theorem live36_okT : (run G0 IP 100).1 n_sl36_live [] [] 0 true = some (.ret (.bool true) []) := by kernel_rfl
end Go.Proofs.YtkofimhnehkdoaaGreatDoor.Rf
end
section
namespace Go.Proofs.YtkofimhnehkdoaaGreatDoor.Rf
theorem live36_T : callD G0 IP n_sl36_live [] [] 0 true = some (.ret (.bool true) []) := callD_iff.2 ⟨100,live36_okT⟩
theorem term_lenX {t:T} {d n:Int} (hw:t.wf) (h:0 ≤ t.cnt d n) (hn:n ≤ 100) : (writeT t).text.length ≤ 6400 := by
 have h1 := write_len t hw
 have h4 := T.cnt_ge t d n h
 omega
set_option maxHeartbeats 2000000 in
theorem prooftextConcls_D (c:Cl) (hw:c.wf) (q:Bool) : callD G0 IP n_sl36_ProoftextConcls [c.av] [] 0 q = some (.ret (.bool true) []) := by
 obtain ⟨v1,e1⟩ := light_D c.a hw.1 66 100 (by omega) (by omega) (by omega) (by omega) [] 0 false
 obtain ⟨v2,e2⟩ := light_D c.b hw.2.1 66 100 (by omega) (by omega) (by omega) (by omega) [] 0 false
 rw [callD_eq,cl_av,Cl.cells]
 simp only [T.av_eq] at e1 e2
 by_cases h1 : 0 ≤ c.a.cnt 66 100
 · by_cases h2 : 0 ≤ c.b.cnt 66 100
   · have l1 := term_lenX hw.1 h1 (by omega)
     have l2 := term_lenX hw.2.1 h2 (by omega)
     have e3 := fun (q:Bool) => conclP_D c hw (by omega) (by omega) [] 0 q
     have e4 := fun (q:Bool) => concl36_D c hw (by omega) (by omega) [] 0 q
     rw [cl_av,Cl.cells] at e3 e4
     generalize conclT c = tx at *
     simp [IP_sl36_ProoftextConcls,i_sl36_ProoftextConcls,e1,e2,h1,h2,e3,e4,live36_D,live36_T]
   · simp [IP_sl36_ProoftextConcls,i_sl36_ProoftextConcls,e1,e2,h1,h2,live36_D]
 · simp [IP_sl36_ProoftextConcls,i_sl36_ProoftextConcls,e1,e2,h1,live36_D]
end Go.Proofs.YtkofimhnehkdoaaGreatDoor.Rf
end
section
namespace Go.Proofs.YtkofimhnehkdoaaGreatDoor.Rf
def decZ (n:Int) : List UInt8 := if 0 ≤ n then decI n else 45 :: decI (-n)
section
variable {hp:List HObj} {lo:Nat}
set_option maxHeartbeats 1000000 in
theorem formatInt_D (w:Int) (h0:-9223372036854775808 ≤ w) (h1:w ≤ 9223372036854775807) (hp:List HObj) (lo:Nat) (q:Bool) : callD G0 IP n_isc_FormatInt [.int .i64 w,.int .i64 10] hp lo q = some (.ret (.str (decZ w)) hp) := by
 rw [callD_eq]
 by_cases hs : 0 ≤ w ∧ w < 100
 · have e1 := fun hp lo q => small_D (hp := hp) (lo := lo) q w.toNat (by omega)
   rw [Int.toNat_of_nonneg hs.1] at e1
   simp [IP_isc_FormatInt,i_isc_FormatInt,hs.1,hs.2,e1,decZ,decI]
 · by_cases hn : 0 ≤ w
   · have h100 : ¬ w < 100 := by omega
     have hneg : ¬ w < 0 := by omega
     have hwu : IntKind.wrap .u64 w = w := by simp [IntKind.wrap,IntKind.signed,IntKind.bits]; omega
     obtain ⟨u,rfl⟩ : ∃ u : Nat,w = u := ⟨w.toNat,by omega⟩
     obtain ⟨n,n1,n2,n3,n4⟩ := numDigits_D u (by omega) (by omega)
     have hd : digN (n + 1) u = dec u := digN_dec n u n3 (.inr n2)
     have e1 := formatBase10_D (hp := hp) (lo := hp.length) (Nat.le_refl _) [.int .u8 0] ((Z24.drop 1).take (n + 1)) ((Z24.drop 1).drop (n + 1)) (n + 1) u (by simp; omega) (by omega) n3 (by omega)
     rw [List.take_append_drop,hd] at e1
     have k1 : (0:Int) ≤ 1 + ((n:Int) + 1) := by omega
     have k2 : n + 2 ≤ 24 := by omega
     have k3 : (1 + ((n:Int) + 1)).toNat = n + 2 := by omega
     have hl : (dec u).length = n + 1 := by rw [← hd,digN_len]
     have hw2 : IntKind.wrap .i64 (1 + ((n:Int) + 1)) = 1 + ((n:Int) + 1) := wrap_small (by omega) (by omega)
     have hz : decZ (u:Int) = dec u := by simp [decZ,decI]
     rw [hz]
     have k4 : 23 ≤ (dec u).length + (22 - n) := by omega
     have k5 : ∀ X,List.take (n + 1) (((dec u).map fun c => AV.int .u8 (c.toNat : Int)) ++ X) = (dec u).map fun c => AV.int .u8 (c.toNat : Int) := fun X => List.take_left' (by simp; omega)
     have k6 : 1 + (n + 1) ≤ (dec u).length + (22 - n) + 1 := by omega
     have k7 : n + 1 ≤ (dec u).length + (22 - n) := by omega
     have k8 : n + 2 ≤ (dec u).length + (22 - n) + 1 := by omega
     simp [digA] at e1
     simp [IP_isc_FormatInt,i_isc_FormatInt,h100,hneg,hwu,n4,k1,k2,k3,k4,k5,k6,k7,k8,hw2,bytesOf_digA,e1]
   · have hneg : w < 0 := by omega
     obtain ⟨u,hu⟩ : ∃ u : Nat,w = -(u:Int) := ⟨(-w).toNat,by omega⟩
     subst hu
     have hwu : IntKind.wrap .u64 (-(u:Int)) = 18446744073709551616 - (u:Int) := by simp [IntKind.wrap,IntKind.signed,IntKind.bits]; omega
     have hwn : IntKind.wrap .u64 (-(18446744073709551616 - (u:Int))) = u := by simp [IntKind.wrap,IntKind.signed,IntKind.bits]; omega
     obtain ⟨n,n1,n2,n3,n4⟩ := numDigits_D u (by omega) (by omega)
     have hd : digN (n + 1) u = dec u := digN_dec n u n3 (.inr n2)
     have e1 := formatBase10_D (hp := hp) (lo := hp.length) (Nat.le_refl _) [.int .u8 0] ((Z24.drop 1).take (n + 1)) ((Z24.drop 1).drop (n + 1)) (n + 1) u (by simp; omega) (by omega) n3 (by omega)
     rw [List.take_append_drop,hd] at e1
     have k1 : (0:Int) ≤ 1 + ((n:Int) + 1) := by omega
     have k2 : n + 2 ≤ 24 := by omega
     have k3 : (1 + ((n:Int) + 1)).toNat = n + 2 := by omega
     have hl : (dec u).length = n + 1 := by rw [← hd,digN_len]
     have hw2 : IntKind.wrap .i64 (1 + ((n:Int) + 1)) = 1 + ((n:Int) + 1) := wrap_small (by omega) (by omega)
     have hz : decZ (-(u:Int)) = 45 :: dec u := by simp [decZ,decI]; omega
     have hb45 : AV.int .u8 45 = AV.int .u8 (((45:UInt8).toNat : Nat) : Int) := rfl
     have hu0 : 0 < u := by omega
     have hu1 : ¬ u = 0 := by omega
     rw [hz]
     have k4 : 23 ≤ (dec u).length + (22 - n) := by omega
     have k5 : ∀ X,List.take (n + 1) (((dec u).map fun c => AV.int .u8 (c.toNat : Int)) ++ X) = (dec u).map fun c => AV.int .u8 (c.toNat : Int) := fun X => List.take_left' (by simp; omega)
     have k6 : 1 + (n + 1) ≤ (dec u).length + (22 - n) + 1 := by omega
     have k7 : n + 1 ≤ (dec u).length + (22 - n) := by omega
     have k8 : n + 2 ≤ (dec u).length + (22 - n) + 1 := by omega
     have hb : bytesOf (AV.int .u8 45 :: (dec u).map fun c => AV.int .u8 (c.toNat : Int)) = some (45 :: dec u) := bytesOf_digA (45 :: dec u)
     simp [digA] at e1
     simp [IP_isc_FormatInt,i_isc_FormatInt,hneg,hu0,hu1,hwu,hwn,n4,k1,k2,k3,k4,k5,k6,k7,k8,hw2,hb,e1]
theorem itoa_D (w:Int) (h0:-9223372036854775808 ≤ w) (h1:w ≤ 9223372036854775807) (hp:List HObj) (lo:Nat) (q:Bool) : callD G0 IP n_digits_Int [.int .i64 w] hp lo q = some (.ret (.str (decZ w)) hp) := by
 have e2 := formatInt_D w h0 h1
 have e3 : ∀ hp lo q,callD G0 IP n_isc_Itoa [.int .i64 w] hp lo q = some (.ret (.str (decZ w)) hp) := fun hp lo q => by
   rw [callD_eq]; simp [IP_isc_Itoa,i_isc_Itoa,e2]
 have e4 : ∀ hp lo q,callD G0 IP n_sc_Itoa [.int .i64 w] hp lo q = some (.ret (.str (decZ w)) hp) := fun hp lo q => by
   rw [callD_eq]; simp [IP_sc_Itoa,i_sc_Itoa,e3]
 rw [callD_eq]
 simp [IP_digits_Int,i_digits_Int,e4]
theorem intZ2_D (w:Int) (h0:-9223372036854775808 ≤ w) (h1:w ≤ 9223372036854775807) (hp:List HObj) (lo:Nat) (q:Bool) : callD G0 IP n_sr02_Int [.int .i64 w] hp lo q = some (.ret (.str (decZ w)) hp) := by
 rw [callD_eq]
 by_cases hn : 0 ≤ w
 · have e := dec2_D w hn (by omega)
   have hw' : IntKind.wrap .u64 w = w := by simp [IntKind.wrap,IntKind.signed,IntKind.bits]; omega
   simp [IP_sr02_Int,i_sr02_Int,hn,hw',e,decZ]
 · have e := dec2_D (-w) (by omega) (by omega)
   have a1 : IntKind.wrap .i64 (w + 1) = w + 1 := by simp [IntKind.wrap,IntKind.signed,IntKind.bits]; omega
   have a2 : IntKind.wrap .i64 (-(w + 1)) = -(w + 1) := by simp [IntKind.wrap,IntKind.signed,IntKind.bits]; omega
   have a3 : IntKind.wrap .u64 (-(w + 1)) = -(w + 1) := by simp [IntKind.wrap,IntKind.signed,IntKind.bits]; omega
   have a4 : IntKind.wrap .u64 (-(w + 1) + 1) = -w := by simp [IntKind.wrap,IntKind.signed,IntKind.bits]; omega
   have hl := dec_len20 (n := (-w).toNat) (by omega)
   have b1 : 1 + (decI (-w)).length ≤ 9223372036854775807 := by unfold decI; omega
   simp [IP_sr02_Int,i_sr02_Int,hn,a1,a2,a3,a4,e,decZ,b1]
end
end Go.Proofs.YtkofimhnehkdoaaGreatDoor.Rf
end
section
namespace Go.Proofs.YtkofimhnehkdoaaGreatDoor.Rf
theorem same_parts {x y:S} (h:x.same y = true) : x.atom = y.atom ∧ S.sames x.list y.list = true := by
 rw [S.same_eq] at h
 simpa using h
def i64B (n:Int) : Prop := -9223372036854775808 ≤ n ∧ n ≤ 9223372036854775807
structure St7.ok (s:St7) : Prop where
 kind : 1 ≤ s.kind ∧ s.kind ≤ 12
 refs : ∀ n,n ∈ s.refs → i64B n
 rule : i64B s.rule
 rule0 : s.kind ≠ 5 → s.kind ≠ 12 → s.rule = 0
 subs0 : s.kind ≠ 5 → s.subs = []
 subs : ∀ x,x ∈ s.subs → x.name ≠ [] ∧ x.t.wf ∧ x.t.valid = true
 a0 : ¬ (s.kind = 1 ∨ s.kind = 6 ∨ s.kind = 7 ∨ s.kind = 8 ∨ s.kind = 4) → T.z.same s.a = true
 a1 : (s.kind = 1 ∨ s.kind = 6 ∨ s.kind = 7 ∨ s.kind = 8 ∨ s.kind = 4) → s.a.wf ∧ s.a.valid = true
 b0 : s.kind ≠ 4 → T.z.same s.b = true
 b1 : s.kind = 4 → s.b.wf ∧ s.b.valid = true
end Go.Proofs.YtkofimhnehkdoaaGreatDoor.Rf
end
section
namespace Go.Proofs.YtkofimhnehkdoaaGreatDoor.Rf
section
variable {hp:List HObj} {lo:Nat}
theorem i64B_of {x:Int} (h:(Lit.int .i64 x).wf = true) : i64B x := by
 simp [Lit.wf,IntKind.min,IntKind.max,IntKind.signed,IntKind.bits] at h
 exact ⟨by omega,by omega⟩
end
end Go.Proofs.YtkofimhnehkdoaaGreatDoor.Rf
end
section
namespace Go.Proofs.YtkofimhnehkdoaaGreatDoor.Rf
theorem decZ_len {n:Int} (h:i64B n) : (decZ n).length ≤ 21 := by
 unfold decZ decI
 obtain ⟨h0,h1⟩ := h
 split
 · have := dec_len20 (n := n.toNat) (by omega); omega
 · have := dec_len20 (n := (-n).toNat) (by omega); simp; omega
theorem kindE_len (k:Int) : (kindE k).length ≤ 6 := by
 unfold kindE
 split
 · simp
 · rename_i h
   rcases kind_cases h with rfl | rfl | rfl | rfl | rfl | rfl | rfl | rfl | rfl | rfl | rfl | rfl
   all_goals decide
section
variable {hp:List HObj} {lo:Nat}
end
end Go.Proofs.YtkofimhnehkdoaaGreatDoor.Rf
end
section
namespace Go.Proofs.YtkofimhnehkdoaaGreatDoor.Rf
theorem BH_ne {hp:List HObj} {bs:List UInt8} (h:bs ≠ []) : BH hp bs = BW hp bs := if_neg h
section
variable {hp:List HObj} {lo:Nat}
theorem wstrA_D (hlo:lo ≤ hp.length) (bs cs:List UInt8) (hb:bs.length + cs.length ≤ 140737488355328) : callD G0 IP n_sb_WriteString [.ptr hp.length 0,.str cs] (BH hp bs) lo false = some (.ret (.tup [.int .i64 cs.length,.nili]) (BW hp (bs ++ cs))) := by
 by_cases hc : cs = []
 · subst hc
   rw [callD_eq]
   have h63 : bs.length ≤ 9223372036854775807 := by simp at hb; omega
   have hb' : bs.length ≤ 140737488355328 := by simpa using hb
   by_cases h0 : bs = []
   · subst h0
     have e1 := copy0_D (hp := hp) (lo := lo) hlo
     simp [IP_sb_WriteString,i_sb_WriteString,BH,e1,hlo]
     simp [BW]
   · have e1 := copyW_D (hp := hp) (lo := lo) hlo bs
     simp [IP_sb_WriteString,i_sb_WriteString,BH,h0,e1,hlo,hb',h63]
     simp [BW]
 · rw [wstr_D hlo bs cs hc hb,BH_ne (by simp [hc])]
theorem wbyteW_D (hlo:lo ≤ hp.length) (bs:List UInt8) (c:UInt8) (hb:bs.length + 1 ≤ 140737488355328) : callD G0 IP n_sb_WriteByte [.ptr hp.length 0,.int .u8 c.toNat] (BW hp bs) lo false = some (.ret .nili (BW hp (bs ++ [c]))) := by
 rw [callD_eq]
 have h63 : bs.length + 1 ≤ 9223372036854775807 := by omega
 have e1 := copyW_D (hp := hp) (lo := lo) hlo bs
 simp [IP_sb_WriteByte,i_sb_WriteByte,e1,hlo,hb,h63]
 simp [BW]
end
end Go.Proofs.YtkofimhnehkdoaaGreatDoor.Rf
end
