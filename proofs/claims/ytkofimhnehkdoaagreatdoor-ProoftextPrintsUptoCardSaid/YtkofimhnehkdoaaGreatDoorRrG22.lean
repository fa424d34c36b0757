/- A part of the proof: see the last text. -/
import Derived.Test.YtkofimhnehkdoaaGreatDoorRrG21
import Derived.Test.YtkofimhnehkdoaaGreatDoorRrG18
import Derived.Test.YtkofimhnehkdoaaGreatDoorRrG19
set_option linter.unusedVariables false
set_option linter.unusedSimpArgs false
section
namespace Go.Proofs.YtkofimhnehkdoaaGreatDoor.Rf
def linesT : List St7 → List UInt8
 | [] => []
 | s :: r => lineT s ++ (10 :: linesT r)
theorem linesT_app : ∀ (l:List St7) (s:St7),linesT (l ++ [s]) = linesT l ++ (lineT s ++ [10])
 | [],s => by simp [linesT]
 | u :: r,s => by simp [linesT,linesT_app r s]
theorem linesT_take {l:List St7} {i:Nat} (h:i < l.length) : linesT (l.take (i + 1)) = linesT (l.take i) ++ (lineT l[i] ++ [10]) := by
 rw [List.take_succ_eq_append_getElem h,linesT_app]
theorem linesT_le : ∀ (l:List St7) (i:Nat),(linesT (l.take i)).length ≤ (linesT l).length
 | [],i => by simp
 | x :: r,0 => by simp [linesT]
 | x :: r,i + 1 => by
   have := linesT_le r i
   simp only [List.take_succ_cons,linesT,List.length_append,List.length_cons]; omega
theorem BH_ne {hp:List HObj} {bs:List UInt8} (h:bs ≠ []) : BH hp bs = BW hp bs := if_neg h
section
variable {hp:List HObj} {lo:Nat}
theorem wstrA_D (hlo:lo ≤ hp.length) (bs cs:List UInt8) (hb:bs.length + cs.length ≤ 140737488355328) : callD G0 IP n_sb_WriteString [.ptr hp.length 0,.str cs] (BH hp bs) lo false = some (.ret (.tup [.int .i64 cs.length,.nili]) (BW hp (bs ++ cs))) := by
 by_cases hc : cs = []
 · subst hc
   rw [callD_eq]
   have h63 : bs.length ≤ 9223372036854775807 := by simp at hb; omega
   have hb' : bs.length ≤ 140737488355328 := by simpa using hb
   by_cases h0 : bs = []
   · subst h0
     have e1 := copy0_D (hp := hp) (lo := lo) hlo
     simp [IP_sb_WriteString,i_sb_WriteString,BH,e1,hlo]
     simp [BW]
   · have e1 := copyW_D (hp := hp) (lo := lo) hlo bs
     simp [IP_sb_WriteString,i_sb_WriteString,BH,h0,e1,hlo,hb',h63]
     simp [BW]
 · rw [wstr_D hlo bs cs hc hb,BH_ne (by simp [hc])]
theorem wbyteW_D (hlo:lo ≤ hp.length) (bs:List UInt8) (c:UInt8) (hb:bs.length + 1 ≤ 140737488355328) : callD G0 IP n_sb_WriteByte [.ptr hp.length 0,.int .u8 c.toNat] (BW hp bs) lo false = some (.ret .nili (BW hp (bs ++ [c]))) := by
 rw [callD_eq]
 have h63 : bs.length + 1 ≤ 9223372036854775807 := by omega
 have e1 := copyW_D (hp := hp) (lo := lo) hlo bs
 simp [IP_sb_WriteByte,i_sb_WriteByte,e1,hlo,hb,h63]
 simp [BW]
set_option maxHeartbeats 2000000 in
theorem printA_D (p:List St7) (hw:∀ s,s ∈ p → s.wf ∧ s.refs.length ≤ 65536 ∧ s.subs.length ≤ 65536) (hl:p.length ≤ 65536) (hb:(linesT p).length ≤ 140737488355328) (o:Own) (hp:List HObj) (lo:Nat) (q:Bool) :
   callD G0 IP n_pt_Print [.list (St7.avs p) o] hp lo q = some (.ret (.str (linesT p)) hp) := by
 rw [callD_eq]
 have hte : p.take p.length = p := List.take_length ..
 have hloop := loop_iter (G := G0) (IP := IP) (lo := hp.length) (b := l_pt_Print_0)
   (fun i => ⟨[(3,.ptr hp.length 0),(6,.list (St7.avs p) o),(7,.int .i64 p.length),(8,.int .i64 i)],BH hp (linesT (p.take i))⟩) p.length
   (r := (.exit 0,⟨[(3,.ptr hp.length 0),(6,.list (St7.avs p) o),(7,.int .i64 p.length),(8,.int .i64 p.length),(9,.bool false)],BH hp (linesT p)⟩)) (fun i hi => by
     have hiI : (i:Int) < (p.length : Int) := by omega
     have hw1 := wrap_succ hi (n := p.length) (by omega)
     have hle := linesT_le p (i + 1)
     rw [linesT_take hi] at hle ⊢
     obtain ⟨g1,g2,g3⟩ := hw p[i] (List.getElem_mem hi)
     simp only [List.length_append,List.length_cons,List.length_nil] at hle
     have e1 := lineP_D p[i] g1 g2 g3 (by omega) (BH hp (linesT (p.take i))) hp.length false
     rw [st_av,St7.cells] at e1
     have e2 := wstrA_D (hp := hp) (lo := hp.length) (Nat.le_refl _) (linesT (p.take i)) (lineT p[i]) (by omega)
     have e3 := wbyteW_D (hp := hp) (lo := hp.length) (Nat.le_refl _) (linesT (p.take i) ++ lineT p[i]) 10 (by simp; omega)
     have h10 : ((10:UInt8).toNat : Int) = 10 := rfl
     rw [h10,List.append_assoc] at e3
     rw [← hw1,BH_ne (bs := linesT (p.take i) ++ (lineT p[i] ++ [10])) (by simp)]
     generalize lineT p[i] = tx at *
     generalize linesT (p.take i) = bs at *
     simp [l_pt_Print_0,hi,hiI,st_av,e1,e2,e3])
   (by simp [l_pt_Print_0,hte]) (by simp)
 have e2 := bstr_D (hp := hp) (lo := hp.length) (Nat.le_refl _) (linesT p) hb
 simp only [List.take_zero,linesT,Int.natCast_zero] at hloop
 generalize linesT p = tx at *
 simp [IP_pt_Print,i_pt_Print,B0_fold,hloop,e2]
end
end Go.Proofs.YtkofimhnehkdoaaGreatDoor.Rf
end
section
namespace Go.Proofs.YtkofimhnehkdoaaGreatDoor.Rf
section
variable {hp:List HObj} {lo:Nat}
set_option maxHeartbeats 1000000 in
theorem write7_L (t:T) (hl10:t.args.length ≤ 10) : ∀ (r p:List T) (acc:List S),t.args = p ++ r → acc.length ≤ p.length + 10 →
   (∀ x,x ∈ r → ∀ hp lo q,callD G0 IP n_sr07_Write [x.av] hp lo q = some (.ret (writeT x).av hp)) →
   loopD G0 IP lo l_sr07_Write_0 ⟨[(1,.box t.cells),(2,boxS),(4,.list (S.avs acc) (.own 2 0)),(5,.int .i64 p.length)],hp⟩ =
     some (.exit 1,⟨[(1,.box t.cells),(2,boxS),(4,.list (S.avs (acc ++ writeTs r)) (.own 2 0)),(5,.int .i64 t.args.length),(77,.bool false)],hp⟩)
 | [],p,acc,h,ha,_ => by
   rw [loopD_eq,loopBody]
   simp at h
   simp [l_sr07_Write_0,writeTs,h]
 | x :: r,p,acc,h,ha,ih => by
   rw [loopD_eq,loopBody]
   have hlen : t.args.length = p.length + (r.length + 1) := by rw [h]; simp
   have h1 : (p.length : Int) < (t.args.length : Int) := by omega
   have hl : p.length < t.args.length := by omega
   have h2 : t.args[p.length] = x := by simp [h]
   have hw : IntKind.wrap .i64 ((p.length : Int) + 1) = (p.length : Int) + 1 := wrap_small (by omega) (by omega)
   have e1 := ih x (by simp) hp lo false
   rw [T.av_eq,S.av_eq] at e1
   have e2 := write7_L t hl10 r (p ++ [x]) (acc ++ [writeT x]) (by rw [h]; simp) (by simp; omega) (fun y hy => ih y (by simp [hy]))
   simp only [List.length_append,List.length_cons,List.length_nil,Nat.zero_add,Int.natCast_add,Int.natCast_one] at e2
   have hb1 : (acc.length + 1) * 40 ≤ 140737488355328 := by omega
   have hb2 : acc.length + 1 ≤ 9223372036854775807 := by omega
   rw [S.avs_app,show S.avs [writeT x] = [.agg [.str (writeT x).atom,.list (S.avs (writeT x).list) (ownB (writeT x).o)]] by simp [S.avs,S.av_eq]] at e2
   simp [l_sr07_Write_0,hl,h1,h2,T.av_eq x,e1,hb1,hb2,hw]
   refine Eq.trans e2 ?_
   simp [writeTs]
set_option maxHeartbeats 4000000 in
theorem write7_D (t:T) : t.wf → ∀ (hp:List HObj) (lo:Nat) (q:Bool),callD G0 IP n_sr07_Write [t.av] hp lo q = some (.ret (writeT t).av hp) := by
 induction t using T.ind with | h t ih =>
 intro hw hp lo q
 have hwf := (T.wf_eq t).1 hw
 have en := notable7_D t hw
 rw [callD_eq]
 cases t with | mk op w v n o as =>
 simp only [T.op,T.width,T.val,T.name,T.o,T.args] at hwf ih
 rw [T.av_eq] at en ⊢
 simp only [T.op,T.width,T.val,T.name,T.o,T.args] at en ⊢
 rw [writeT]
 cases hN : notE (.mk op w v n o as) with
 | false =>
   rw [hN] at en
   rw [if_pos rfl]
   simp [IP_sr07_Write,i_sr07_Write,en,aS_av]
 | true =>
   rw [hN] at en
   rw [if_neg (by simp)]
   have hN2 := hN
   rw [notE_mk] at hN2
   simp only [Bool.and_eq_true,decide_eq_true_eq] at hN2
   obtain ⟨n0,n1,n2,n3⟩ := hN2
   have hop : opOk op = true := arE_ok (by omega)
   have eI := int2_D w n0 n1
   have hv : 0 ≤ v ∧ v < 18446744073709551616 := by
     have := hwf.2.2.1
     simp [Lit.wf,IntKind.min,IntKind.max,IntKind.signed,IntKind.bits] at this; omega
   have eD := dec2_D v hv.1 hv.2
   have lI := decI_len (n := w) (by omega)
   have lD := decI_len hv.2
   have nl : (op = 1 ∨ op = 24 ∨ op = 25) → n.length ≤ 16 := fun e => by
     rw [if_pos e] at n3
     simp only [Bool.and_eq_true,decide_eq_true_eq] at n3
     exact (nameOk_mem n3.1).2.1
   generalize hdi : decI w = dw at *
   generalize hdv : decI v = dv at *
   by_cases k1 : op = 1
   · subst k1
     have := nl (by simp)
     have b1 : 1 + dw.length ≤ 9223372036854775807 := by omega
     have b2 : n.length + (dw.length + 1) ≤ 9223372036854775807 := by omega
     rw [if_pos rfl]
     simp [IP_sr07_Write,i_sr07_Write,en,aS_av,eI,b1,b2]
   by_cases k2 : op = 24
   · subst k2
     have := nl (by simp)
     have b1 : 1 + dw.length ≤ 9223372036854775807 := by omega
     have b2 : 1 + n.length ≤ 9223372036854775807 := by omega
     have b3 : n.length + 1 + (dw.length + 1) ≤ 9223372036854775807 := by omega
     rw [if_neg (by simp),if_pos rfl]
     simp [IP_sr07_Write,i_sr07_Write,en,aS_av,eI,b1,b2,b3]
   by_cases k3 : op = 25
   · subst k3
     have := nl (by simp)
     have b1 : 1 + dw.length ≤ 9223372036854775807 := by omega
     have b2 : 1 + n.length ≤ 9223372036854775807 := by omega
     have b3 : n.length + 1 + (dw.length + 1) ≤ 9223372036854775807 := by omega
     rw [if_neg (by simp),if_neg (by simp),if_pos rfl]
     simp [IP_sr07_Write,i_sr07_Write,en,aS_av,eI,b1,b2,b3]
   by_cases k4 : op = 2
   · subst k4
     have b1 : 1 + dw.length ≤ 9223372036854775807 := by omega
     have b2 : dv.length + (dw.length + 1) ≤ 9223372036854775807 := by omega
     rw [if_neg (by simp),if_neg (by simp),if_neg (by simp),if_pos rfl]
     simp [IP_sr07_Write,i_sr07_Write,en,aS_av,eI,eD,b1,b2]
   rw [if_neg k1,if_neg k2,if_neg k3,if_neg k4]
   have b0 : 1 + dw.length ≤ 9223372036854775807 := by omega
   have hal : as.length ≤ 10 := by have := arE_bd op; omega
   have eN := fun hp lo q => name4_D (hp := hp) (lo := lo) q op
   have eP := fun hp lo q => plain7_D (hp := hp) (lo := lo) q op
   have el := fun (acc:List S) (ha:acc.length ≤ 10) => write7_L (hp := hp) (lo := hp.length) (.mk op w v n o as) hal as [] acc rfl (by simpa using ha) (fun x hx => ih x hx (hwf.2.2.2.2.2.2 x hx))
   by_cases k5 : op = 21
   · subst k5
     have e1 := el [aS (nameE 21),aS dv,aS dw] (by simp)
     simp [S.avs_cons,aS_av,T.cells,T.op,T.width,T.val,T.name,T.args,T.o] at e1
     have h2 : (numsN 21:Int) = 2 := rfl
     simp [IP_sr07_Write,i_sr07_Write,en,eI,eD,eN,eP,b0,h2,e1,headW,hdi,hdv,S.av,S.avs_app,S.avs_cons,aS_av,ownB_false,S.avs_closed]
   by_cases k6 : op = 22 ∨ op = 23
   · have hn : numsN op = 1 := by simp [numsN,k5,k6]
     have e1 := el [aS (nameE op),aS dw] (by simp)
     simp [S.avs_cons,aS_av,T.cells,T.op,T.width,T.val,T.name,T.args,T.o] at e1
     simp [IP_sr07_Write,i_sr07_Write,en,eI,eD,eN,eP,b0,hn,k1,k2,k3,k4,k5,k6,e1,headW,hdi,hdv,S.av,S.avs_app,S.avs_cons,aS_av,ownB_false,S.avs_closed]
   · have hn : numsN op = 0 := by simp [numsN,k5,k6]
     have e1 := el [aS (nameE op)] (by simp)
     simp [S.avs_cons,aS_av,T.cells,T.op,T.width,T.val,T.name,T.args,T.o] at e1
     simp [IP_sr07_Write,i_sr07_Write,en,eI,eD,eN,eP,b0,hn,k1,k2,k3,k4,k5,k6,e1,headW,hdi,hdv,S.av,S.avs_app,S.avs_cons,aS_av,ownB_false,S.avs_closed]
end
end Go.Proofs.YtkofimhnehkdoaaGreatDoor.Rf
end
section
namespace Go.Proofs.YtkofimhnehkdoaaGreatDoor.Rf
section
variable {hp:List HObj} {lo:Nat}
theorem atom36_D (a:List UInt8) (hp:List HObj) (lo:Nat) (q:Bool) : callD G0 IP n_sr36_atom [.str a] hp lo q = some (.ret (.agg [.str a,.list [] .nil]) hp) := by
 rw [callD_eq]
 simp [IP_sr36_atom,i_sr36_atom]
theorem numbers36_L (l:List Int) (o:Own) (hl:l.length ≤ 65536) (hp:List HObj) (lo:Nat) : ∀ (r p:List Int) (acc:List S),l = p ++ r → acc.length = p.length → (∀ x,x ∈ r → i64B x) →
   loopD G0 IP lo l_sr36_numbers_0 ⟨[(0,.list (i64s l) o),(2,boxS),(3,.box [.str [],.list (S.avs acc) (ownA acc)]),(4,.int .i64 p.length)],hp⟩ =
     some (.exit 0,⟨[(0,.list (i64s l) o),(2,boxS),(3,.box [.str [],.list (S.avs (acc ++ r.map fun n => aS (decZ n))) (ownA (acc ++ r.map fun n => aS (decZ n)))]),(4,.int .i64 l.length),(9,.bool false)],hp⟩)
 | [],p,acc,h,ha,_ => by
   rw [loopD_eq,loopBody]
   simp at h
   subst h
   simp [l_sr36_numbers_0]
 | x :: r,p,acc,h,ha,hx => by
   rw [loopD_eq,loopBody]
   have hlen : l.length = p.length + (r.length + 1) := by rw [h]; simp
   have h1 : (p.length : Int) < (l.length : Int) := by omega
   have hll : p.length < l.length := by omega
   have h2 : l[p.length] = x := by simp [h]
   have hw : IntKind.wrap .i64 ((p.length : Int) + 1) = (p.length : Int) + 1 := wrap_small (by omega) (by omega)
   have hxb := hx x (by simp)
   have e1 := intZ2_D x hxb.1 hxb.2 hp lo true
   have ih := numbers36_L l o hl hp lo r (p ++ [x]) (acc ++ [aS (decZ x)]) (by rw [h]; simp) (by simp [ha]) (fun y hy => hx y (by simp [hy]))
   simp only [List.length_append,List.length_cons,List.length_nil,Nat.zero_add,Int.natCast_add,Int.natCast_one] at ih
   have hb1 : (acc.length + 1) * 40 ≤ 140737488355328 := by omega
   have hb2 : acc.length + 1 ≤ 9223372036854775807 := by omega
   rw [S.avs_app,ownA_app,show S.avs [aS (decZ x)] = [.agg [.str (decZ x),.list [] .nil]] from rfl] at ih
   simp [l_sr36_numbers_0,hll,h1,h2,e1,atom36_D,hb1,hb2,ownA_ok,hw]
   refine Eq.trans ih ?_
   simp
theorem numbers36_D (l:List Int) (o:Own) (hl:l.length ≤ 65536) (hi:∀ x,x ∈ l → i64B x) (hp:List HObj) (lo:Nat) (q:Bool) : callD G0 IP n_sr36_numbers [.list (i64s l) o] hp lo q = some (.ret (refsW l).av hp) := by
 have e1 := fun (hp:List HObj) (lo:Nat) => numbers36_L l o hl hp lo l [] [] rfl rfl hi
 simp only [List.nil_append,S.avs_nil,show ownA [] = .nil from rfl,List.length_nil,Int.natCast_zero] at e1
 have hie : (l.map fun n => aS (decZ n)).isEmpty = l.isEmpty := by cases l <;> rfl
 have hc := fun n => S.avs_closed n (l.map fun n => aS (decZ n))
 rw [callD_eq,refsW_av]
 generalize (l.map fun n => aS (decZ n)) = L at *
 simp [IP_sr36_numbers,i_sr36_numbers,e1,hie,hc]
theorem pairs36_L (l:List Sb) (o:Own) (hl:l.length ≤ 65536) (hp:List HObj) (lo:Nat) : ∀ (r p:List Sb) (acc:List S),l = p ++ r → acc.length = p.length → (∀ x,x ∈ r → x.t.wf) →
   loopD G0 IP lo l_sr36_pairs_0 ⟨[(0,.list (sbs l) o),(2,boxS),(3,.box [.str [],.list (S.avs acc) (ownA acc)]),(4,.int .i64 p.length)],hp⟩ =
     some (.exit 0,⟨[(0,.list (sbs l) o),(2,boxS),(3,.box [.str [],.list (S.avs (acc ++ r.map pairW)) (ownA (acc ++ r.map pairW))]),(4,.int .i64 l.length),(9,.bool false)],hp⟩)
 | [],p,acc,h,ha,_ => by
   rw [loopD_eq,loopBody]
   simp at h
   subst h
   simp [l_sr36_pairs_0]
 | x :: r,p,acc,h,ha,hx => by
   rw [loopD_eq,loopBody]
   have hlen : l.length = p.length + (r.length + 1) := by rw [h]; simp
   have h1 : (p.length : Int) < (l.length : Int) := by omega
   have hll : p.length < l.length := by omega
   have h2 : l[p.length] = x := by simp [h]
   have hw : IntKind.wrap .i64 ((p.length : Int) + 1) = (p.length : Int) + 1 := wrap_small (by omega) (by omega)
   have e1 := write7_D x.t (hx x (by simp)) hp lo true
   have ih := pairs36_L l o hl hp lo r (p ++ [x]) (acc ++ [pairW x]) (by rw [h]; simp) (by simp [ha]) (fun y hy => hx y (by simp [hy]))
   simp only [List.length_append,List.length_cons,List.length_nil,Nat.zero_add,Int.natCast_add,Int.natCast_one] at ih
   have hb1 : (acc.length + 1) * 40 ≤ 140737488355328 := by omega
   have hb2 : acc.length + 1 ≤ 9223372036854775807 := by omega
   rw [S.av_eq,T.av_eq] at e1
   rw [S.avs_app,ownA_app,show S.avs [pairW x] = [.agg [.str [],.list [.agg [.str x.name,.list [] .nil],.agg [.str (writeT x.t).atom,.list (S.avs (writeT x.t).list) (ownB (writeT x.t).o)]] .no]] by simp [S.avs,pairW,S.av,aS_av,S.av_eq (writeT x.t),ownB_false]] at ih
   simp [l_sr36_pairs_0,hll,h1,h2,Sb.av_eq x,e1,atom36_D,hb1,hb2,ownA_ok,hw]
   refine Eq.trans ih ?_
   simp
theorem pairs36_D (l:List Sb) (o:Own) (hl:l.length ≤ 65536) (hw:∀ x,x ∈ l → x.t.wf) (hp:List HObj) (lo:Nat) (q:Bool) : callD G0 IP n_sr36_pairs [.list (sbs l) o] hp lo q = some (.ret (subsW l).av hp) := by
 have e1 := fun (hp:List HObj) (lo:Nat) => pairs36_L l o hl hp lo l [] [] rfl rfl hw
 simp only [List.nil_append,S.avs_nil,show ownA [] = .nil from rfl,List.length_nil,Int.natCast_zero] at e1
 have hie : (l.map pairW).isEmpty = l.isEmpty := by cases l <;> rfl
 have hc := fun n => S.avs_closed n (l.map pairW)
 rw [callD_eq,subsW_av]
 generalize (l.map pairW) = L at *
 simp [IP_sr36_pairs,i_sr36_pairs,e1,hie,hc]
set_option maxHeartbeats 8000000 in
theorem line36_D (s:St7) (hw:s.wf) (hr:s.refs.length ≤ 65536) (hsb:s.subs.length ≤ 65536) (hb:(lineT s).length ≤ 140737488355328) (hp:List HObj) (lo:Nat) (q:Bool) : callD G0 IP n_sr36_Line [s.av] hp lo q = some (.ret (.str (lineT s)) hp) := by
 have hwf := lineW_wf hw
 obtain ⟨w1,w2,w3,w4,w5,w6,w7,w8⟩ := hw
 rw [callD_eq,st_av,St7.cells]
 have ek := fun hp lo q => kind34_D s.kind hp lo q
 by_cases hk : kindE s.kind = []
 · rw [hk] at ek
   simp [IP_sr36_Line,i_sr36_Line,ek,lineT,hk]
 · have hL : lineT s = (lineW s).text := by unfold lineT; rw [if_neg hk]
   rw [hL] at hb ⊢
   have e5 := fun hp lo q => print1_D (lineW s) hwf hb hp lo q
   rw [show (lineW s).av = .agg [.str [],.list ((aS (kindE s.kind)).av :: (refsW s.refs).av :: S.avs (restW s)) .no] from rfl,aS_av,refsW_av] at e5
   generalize (lineW s).text = txt at *
   have enu := fun (o:Own) (hp:List HObj) (lo:Nat) (q:Bool) => numbers36_D s.refs o hr (fun x hx => i64B_of (w2 x hx)) hp lo q
   rw [refsW_av] at enu
   have ep := fun (o:Own) (hp:List HObj) (lo:Nat) (q:Bool) => pairs36_D s.subs o hsb (fun x hx => (w5 x hx).2) hp lo q
   rw [subsW_av] at ep
   have hrb := i64B_of w4
   have en := fun hp lo q => intZ2_D s.rule hrb.1 hrb.2 hp lo q
   have ew1 := fun hp lo q => write7_D s.a w7 hp lo q
   have ew2 := fun hp lo q => write7_D s.b w8 hp lo q
   simp only [T.av_eq,S.av_eq] at ew1 ew2
   have hrest : s.kind ≠ 5 → s.kind ≠ 12 → ¬ (s.kind = 1 ∨ s.kind = 6 ∨ s.kind = 7 ∨ s.kind = 8) → s.kind ≠ 4 → restW s = [] := fun a b c d => by unfold restW; rw [if_neg a,if_neg b,if_neg c,if_neg d]
   have hrest1 : (s.kind = 1 ∨ s.kind = 6 ∨ s.kind = 7 ∨ s.kind = 8) → restW s = [writeT s.a] := fun c => by unfold restW; rw [if_neg (by omega),if_neg (by omega),if_pos c]
   have hrest4 : s.kind = 4 → restW s = [writeT s.a,writeT s.b] := fun c => by unfold restW; rw [if_neg (by omega),if_neg (by omega),if_neg (by omega),if_pos c]
   have hrest12 : s.kind = 12 → restW s = [aS (decZ s.rule)] := fun c => by unfold restW; rw [if_neg (by omega),if_pos c]
   have hrest5 : s.kind = 5 → restW s = [aS (decZ s.rule),subsW s.subs] := fun c => by unfold restW; rw [if_pos c]
   generalize restW s = R at *
   generalize kindE s.kind = nm at *
   generalize hR2 : (s.refs.map fun n => aS (decZ n)) = RL at *
   by_cases h5 : s.kind = 5
   · rw [h5] at ek
     rw [hrest5 h5] at e5
     simp only [S.avs,aS_av,subsW_av] at e5
     generalize (s.subs.map pairW) = PL at *
     simp [IP_sr36_Line,i_sr36_Line,ek,hk,atom36_D,enu,en,ep,h5,e5]
   · by_cases h12 : s.kind = 12
     · rw [h12] at ek
       rw [hrest12 h12] at e5
       simp only [S.avs,aS_av] at e5
       simp [IP_sr36_Line,i_sr36_Line,ek,hk,atom36_D,enu,en,h12,e5]
     · by_cases h4 : s.kind = 4
       · rw [h4] at ek
         rw [hrest4 h4] at e5
         simp only [S.avs,S.av_eq] at e5
         simp [IP_sr36_Line,i_sr36_Line,ek,hk,atom36_D,enu,ew1,ew2,h4,e5]
       · by_cases h1 : s.kind = 1 ∨ s.kind = 6 ∨ s.kind = 7 ∨ s.kind = 8
         · rw [hrest1 h1] at e5
           simp only [S.avs,S.av_eq] at e5
           rcases h1 with h1 | h1 | h1 | h1
           all_goals
             rw [h1] at ek
             simp [IP_sr36_Line,i_sr36_Line,ek,hk,atom36_D,enu,ew1,h1,e5]
         · rw [hrest h5 h12 h1 h4] at e5
           simp only [S.avs] at e5
           have n1 : ¬ s.kind = 1 := fun h => h1 (.inl h)
           have n6 : ¬ s.kind = 6 := fun h => h1 (.inr (.inl h))
           have n7 : ¬ s.kind = 7 := fun h => h1 (.inr (.inr (.inl h)))
           have n8 : ¬ s.kind = 8 := fun h => h1 (.inr (.inr (.inr h)))
           simp [IP_sr36_Line,i_sr36_Line,ek,hk,atom36_D,enu,h5,h12,h4,n1,n6,n7,n8,e5]
set_option maxHeartbeats 2000000 in
theorem print36_D (p:List St7) (hw:∀ s,s ∈ p → s.wf ∧ s.refs.length ≤ 65536 ∧ s.subs.length ≤ 65536) (hl:p.length ≤ 65536) (hb:(linesT p).length ≤ 140737488355328) (o:Own) (hp:List HObj) (lo:Nat) (q:Bool) :
   callD G0 IP n_sr36_Print [.list (St7.avs p) o] hp lo q = some (.ret (.str (linesT p)) hp) := by
 rw [callD_eq]
 have hte : p.take p.length = p := List.take_length ..
 have hloop := fun (o:Own) => loop_iter (G := G0) (IP := IP) (lo := hp.length) (b := l_sr36_Print_0)
   (fun i => ⟨[(0,.list (St7.avs p) o),(3,.str (linesT (p.take i))),(4,.int .i64 i)],hp⟩) p.length
   (r := (.exit 0,⟨[(0,.list (St7.avs p) o),(3,.str (linesT p)),(4,.int .i64 p.length),(8,.bool false)],hp⟩)) (fun i hi => by
     have hiI : (i:Int) < (p.length : Int) := by omega
     have hw1 := wrap_succ hi (n := p.length) (by omega)
     have hle := linesT_le p (i + 1)
     rw [linesT_take hi] at hle ⊢
     obtain ⟨g1,g2,g3⟩ := hw p[i] (List.getElem_mem hi)
     simp only [List.length_append,List.length_cons,List.length_nil] at hle
     have e1 := line36_D p[i] g1 g2 g3 (by omega) hp hp.length false
     rw [st_av,St7.cells] at e1
     rw [← hw1]
     have l1 : (lineT p[i]).length + 1 ≤ 140737488355328 := by omega
     have l2 : (linesT (p.take i)).length + ((lineT p[i]).length + 1) ≤ 9223372036854775807 := by omega
     have l3 : (lineT p[i]).length ≤ 9223372036854775806 := by omega
     have l4 : (lineT p[i]).length + 1 ≤ 9223372036854775807 := by omega
     generalize lineT p[i] = tx at *
     generalize linesT (p.take i) = bs at *
     simp [l_sr36_Print_0,hi,hiI,st_av,e1,l1,l2,l3,l4])
   (by simp [l_sr36_Print_0,hte]) (by simp)
 simp only [List.take_zero,linesT,Int.natCast_zero] at hloop
 generalize linesT p = tx at *
 simp [IP_sr36_Print,i_sr36_Print,hloop]
end
end Go.Proofs.YtkofimhnehkdoaaGreatDoor.Rf
end
section
namespace Go.Proofs.YtkofimhnehkdoaaGreatDoor.Rf
section
variable {hp:List HObj} {lo:Nat}
end
end Go.Proofs.YtkofimhnehkdoaaGreatDoor.Rf
end
section
namespace Go.Proofs.YtkofimhnehkdoaaGreatDoor.Rf
section
variable {hp:List HObj} {lo:Nat}
end
end Go.Proofs.YtkofimhnehkdoaaGreatDoor.Rf
end
section
namespace Go.Proofs.YtkofimhnehkdoaaGreatDoor.Rf
mutual
def T.post : T → List T
 | .mk op w v n o as => T.posts as ++ [.mk op w v n o as]
def T.posts : List T → List T
 | [] => []
 | t :: r => t.post ++ T.posts r
end
@[simp] theorem okSize_T (l:List T) : okSize 5 (T.avs l) = true := by cases l <;> simp [T.avs,T.av_eq]
section
variable {hp:List HObj} {lo:Nat}
end
end Go.Proofs.YtkofimhnehkdoaaGreatDoor.Rf
end
section
namespace Go.Proofs.YtkofimhnehkdoaaGreatDoor.Rf
end Go.Proofs.YtkofimhnehkdoaaGreatDoor.Rf
end
section
namespace Go.Proofs.YtkofimhnehkdoaaGreatDoor.Rf
theorem leafR_three {s:List UInt8} {t:T} (h:leafR s = .ok t) : 3 ≤ s.length ∧ t.size = 1 ∧ t.dep = 1 := by
 have hg := idxB_ge s 58
 unfold leafR at h
 split at h
 · cases h
 · rename_i h1
   have hc : (cutB s 58).2.2 = true := by cases hh : (cutB s 58).2.2 with | true => rfl | false => exact absurd (.inl hh) h1
   have hi : 0 ≤ idxB s 58 := by
     by_cases hi : 0 ≤ idxB s 58
     · exact hi
     · unfold cutB at hc; rw [if_neg hi] at hc; cases hc
   have hcut : cutB s 58 = (s.take (idxB s 58).toNat,s.drop ((idxB s 58).toNat + 1),true) := by unfold cutB; rw [if_pos hi]
   have hr : s.drop ((idxB s 58).toNat + 1) ≠ [] := fun e => by
     apply h1; right; rw [hcut]; simp only; rw [e]; rfl
   have hrl : (idxB s 58).toNat + 1 < s.length := by
     by_cases hh : (idxB s 58).toNat + 1 < s.length
     · exact hh
     · exact absurd (List.drop_eq_nil_of_le (by omega)) hr
   have hlen : ∀ l : List UInt8,l = s.take (idxB s 58).toNat → l ≠ [] → 3 ≤ s.length := by
     intro l hl hne
     have : l.length = (idxB s 58).toNat := by rw [hl,List.length_take]; omega
     have : l.length ≠ 0 := fun e => hne (List.length_eq_zero_iff.1 e)
     omega
   rw [hcut] at h
   simp only at h
   generalize hL : s.take (idxB s 58).toNat = L at h
   have h3 := hlen L hL.symm
   split at h
   · unfold constR at h
     split at h
     · cases h
     · rename_i h6
       have hne : L ≠ [] := fun e => h6 (by rw [e]; rfl)
       split at h
       · cases h
       · split at h
         · cases h
         · cases h
           exact ⟨h3 hne,rfl,rfl⟩
   · split at h
     · cases h
     · rename_i h6
       have hne : L ≠ [] := fun e => by
         apply h6; rw [e]; rfl
       split at h
       · cases h
       · cases h
         exact ⟨h3 hne,rfl,rfl⟩
mutual
theorem readS_dep : ∀ (e:S) (t:T),readS e = .ok t → t.dep ≤ e.depth ∧ 4 * t.size ≤ e.text.length + 1
 | .mk a o l, t,h => by
   rw [readS] at h
   by_cases ha : a = []
   · subst ha
     rw [if_neg (by simp)] at h
     split at h
     · cases h
     · rename_i hh
       split at h
       · cases h
       · cases hs : readsS l (1 + numsN (ofE (l.getD 0 S.z).atom).1) with
         | err e => rw [hs] at h; simp [nodeR] at h
         | ok ts =>
           rw [hs] at h
           have hR : headR l = true := by cases hx : headR l <;> simp_all
           simp only [headR,Bool.and_eq_true,decide_eq_true_eq] at hR
           simp only [nodeR] at h
           split at h
           · cases h
           · cases h
             match l,hR.1 with
             | x :: r,_ =>
               rw [Nat.add_comm 1,readsS] at hs
               have ih := readsS_dep r _ ts hs
               have hx : x.text.length ≠ 0 := fun e => S.text_ne x (List.length_eq_zero_iff.1 e)
               simp only [T.dep,T.size,S.depth,S.text,S.depths,S.texts,if_true,List.length_cons,List.length_append,List.length_nil]
               omega
   · rw [if_pos ha] at h
     obtain ⟨h1,h2,h3⟩ := leafR_three h
     simp only [S.depth,S.text,if_neg ha]
     omega
theorem readsS_dep : ∀ (l:List S) (k:Nat) (ts:List T),readsS l k = .ok ts → T.deps ts ≤ S.depths l ∧ 4 * T.sizes ts ≤ (S.texts false l).length
 | [],k,ts,h => by simp [readsS] at h; subst h; simp [T.deps,T.sizes]
 | x :: r,k + 1,ts,h => by
   rw [readsS] at h
   have ih := readsS_dep r k ts h
   simp only [S.depths,S.texts,List.length_append]
   omega
 | x :: r,0,ts,h => by
   rw [readsS] at h
   cases hx : readS x with
   | err e => rw [hx] at h; simp [TRs.cons] at h
   | ok t =>
     cases hr : readsS r 0 with
     | err e => rw [hx,hr] at h; simp [TRs.cons] at h
     | ok us =>
       rw [hx,hr] at h; simp [TRs.cons] at h; subst h
       have a := readS_dep x t hx
       have b := readsS_dep r 0 us hr
       simp only [S.depths,S.texts,List.length_append,T.deps,T.sizes]
       simp
       omega
end
def Sh (x y:S) : Prop := x.right = true ∧ x.depth ≤ y.depth ∧ x.text.length + 1 ≤ 16 * (y.text.length + 1)
def shs : List S → List S → Prop
 | [],[] => True
 | x :: r,y :: s => Sh x y ∧ shs r s
 | _,_ => False
theorem Sh.list {o o' : Bool} {l l' : List S} (h:shs l l') : Sh (.mk [] o l) (.mk [] o' l') := by
 have key : ∀ (l l' : List S),shs l l' → S.rights l = true ∧ S.depths l ≤ S.depths l' ∧ (S.texts false l).length ≤ 16 * (S.texts false l').length := by
   intro l
   induction l with
   | nil => intro l' h; cases l' <;> simp [shs,S.rights,S.depths,S.texts] at h ⊢
   | cons x r ih =>
     intro l' h
     cases l' with
     | nil => simp [shs] at h
     | cons y s =>
       obtain ⟨⟨h1,h2,h3⟩,h4⟩ := h
       obtain ⟨g1,g2,g3⟩ := ih s h4
       refine ⟨by simp [S.rights,h1,g1],?_,?_⟩
       · simp only [S.depths]; omega
       · simp only [S.texts,List.length_append]; simp; omega
 obtain ⟨h1,h2,h3⟩ := key l l' h
 refine ⟨by simp [S.right,h1],by simp [S.depth]; omega,?_⟩
 cases l with
 | nil => simp [S.text,S.texts]; omega
 | cons x r =>
   cases l' with
   | nil => simp [shs] at h
   | cons y s =>
     simp only [S.text,S.texts,List.length_append,List.length_cons,List.length_nil,if_true] at h3 ⊢
     simp at h3 ⊢
     omega
theorem same_looks (x:S) : ∀ y : S,x.same y = true → x.right = y.right ∧ x.depth = y.depth ∧ x.text = y.text := by
 induction x using S.ind with | h x ih =>
 intro y h
 obtain ⟨h1,h2⟩ := same_parts h
 have key : ∀ (l l' : List S),(∀ u,u ∈ l → ∀ y : S,u.same y = true → u.right = y.right ∧ u.depth = y.depth ∧ u.text = y.text) → S.sames l l' = true → S.rights l = S.rights l' ∧ S.depths l = S.depths l' ∧ (∀ b,S.texts b l = S.texts b l') ∧ l.isEmpty = l'.isEmpty := by
   intro l
   induction l with
   | nil => intro l' _ h; cases l' <;> simp [S.sames] at h ⊢
   | cons u r ihr =>
     intro l' hu h
     cases l' with
     | nil => simp [S.sames] at h
     | cons v s =>
       simp only [S.sames,Bool.and_eq_true] at h
       obtain ⟨g1,g2,g3⟩ := hu u (by simp) v h.1
       obtain ⟨k1,k2,k3,k4⟩ := ihr s (fun z hz => hu z (by simp [hz])) h.2
       exact ⟨by simp only [S.rights,g1,k1],by simp only [S.depths,g2,k2],fun b => by simp only [S.texts,g3,k3],rfl⟩
 obtain ⟨k1,k2,k3,k4⟩ := key x.list y.list ih h2
 refine ⟨?_,?_,?_⟩
 · rw [S.right_eq,S.right_eq,h1,k1,k4]
 · rw [S.depth_eq,S.depth_eq,h1,k2]
 · rw [S.text_eq,S.text_eq,h1,k3]
theorem Sh.of_same {x y:S} (h:x.same y = true) (hr:y.right = true) : Sh x y := by
 obtain ⟨h1,h2,h3⟩ := same_looks x y h
 exact ⟨by rw [h1,hr],by omega,by rw [h3]; omega⟩
theorem Sh.term {e:S} {t:T} (h:readS e = .ok t) : Sh (writeT t) e := by
 have hv := readS_valid e t h
 have hd := readS_dep e t h
 have h1 := write_len t hv.2
 have h2 := write_depth t
 exact ⟨write_right t,by omega,by omega⟩
theorem Sh.atom {x:S} {a:List UInt8} (ha:a = x.atom) (hne:x.atom ≠ []) (hr:x.right = true) : Sh (aS a) x := by
 refine Sh.of_same ?_ hr
 have hl := (right_atom hr hne).1
 cases x with | mk xa xo xl =>
 simp only [S.atom,S.list] at ha hl
 subst ha; subst hl
 simp [S.same,S.sames,aS]
end Go.Proofs.YtkofimhnehkdoaaGreatDoor.Rf
end
section
namespace Go.Proofs.YtkofimhnehkdoaaGreatDoor.Rf
end Go.Proofs.YtkofimhnehkdoaaGreatDoor.Rf
end
section
namespace Go.Proofs.YtkofimhnehkdoaaGreatDoor.Rf
def subL (n:Int) (x:Sb) : Bool := decide (0 ≤ x.t.cnt 40 n)
def lightS (n:Int) (s:St7) : Bool := decide (0 ≤ s.a.cnt 40 n) && (decide (0 ≤ s.b.cnt 40 n) && (decide (s.refs.length ≤ 20) && (decide (s.subs.length ≤ 20) && s.subs.all (subL n))))
def lightB (p:List St7) (most n:Int) : Bool := decide ((p.length : Int) ≤ most) && p.all (lightS n)
def sbZ7 : Sb := ⟨[],T.z⟩
section
variable {hp:List HObj} {lo:Nat}
set_option maxHeartbeats 2000000 in
theorem light36_L (p:List St7) (o:Own) (n:Int) (h0:0 ≤ n) (h1:n ≤ 1000) (i:Nat) (hi:i < p.length) (hw:p[i].wf) (hl:p[i].subs.length ≤ 20) (hp:List HObj) (lo:Nat) :
   loopD G0 IP lo l_sr36_Light_1 ⟨[(0,.list (St7.avs p) o),(2,.int .i64 n),(7,.int .i64 i),(12,.int .i64 0)],hp⟩ =
     some (if p[i].subs.all (subL n) then (.exit 2,⟨[(0,.list (St7.avs p) o),(2,.int .i64 n),(7,.int .i64 i),(12,.int .i64 p[i].subs.length),(76,.bool false)],hp⟩) else (.ret,⟨[(6,.bool false)],hp⟩)) := by
 have hloop := loop_find (G := G0) (IP := IP) (lo := lo) (b := l_sr36_Light_1)
   (fun k => ⟨[(0,.list (St7.avs p) o),(2,.int .i64 n),(7,.int .i64 i),(12,.int .i64 k)],hp⟩) p[i].subs.length (fun k => !subL n (p[i].subs.getD k sbZ7))
   (.ret,⟨[(6,.bool false)],hp⟩) (.exit 2,⟨[(0,.list (St7.avs p) o),(2,.int .i64 n),(7,.int .i64 i),(12,.int .i64 p[i].subs.length),(76,.bool false)],hp⟩)
   (fun k hk hp1 => by
     have hI : (k:Int) < (p[i].subs.length : Int) := by omega
     have hw1 := wrap_succ hk (n := p[i].subs.length) (by omega)
     have hb : subL n p[i].subs[k] = true := by simpa [hk] using hp1
     simp only [subL,decide_eq_true_eq] at hb
     obtain ⟨v,e1⟩ := light_D p[i].subs[k].t (hw.2.2.2.2.1 _ (List.getElem_mem hk)).2 40 n (by omega) (by omega) h0 (by omega) hp lo false
     rw [T.av_eq,T.av_eq] at e1
     rw [← hw1]
     simp [l_sr36_Light_1,hi,hk,hI,st_av,Sb.av_eq p[i].subs[k],e1,hb])
   (fun k hk hp1 => by
     have hI : (k:Int) < (p[i].subs.length : Int) := by omega
     have hb : subL n p[i].subs[k] = false := by simpa [hk] using hp1
     simp only [subL,decide_eq_false_iff_not] at hb
     obtain ⟨v,e1⟩ := light_D p[i].subs[k].t (hw.2.2.2.2.1 _ (List.getElem_mem hk)).2 40 n (by omega) (by omega) h0 (by omega) hp lo false
     rw [T.av_eq,T.av_eq] at e1
     simp [l_sr36_Light_1,hi,hk,hI,st_av,Sb.av_eq p[i].subs[k],e1,hb])
   (by simp) (by simp [l_sr36_Light_1,hi,st_av]) (by simp)
 rw [all_range p[i].subs sbZ7 (subL n)] at hloop
 simp only [Int.natCast_zero] at hloop
 rw [hloop]
 cases p[i].subs.all (subL n) <;> simp
set_option maxHeartbeats 4000000 in
theorem light36_D (p:List St7) (hw:∀ s,s ∈ p → s.wf) (hl:p.length ≤ 9223372036854775807) (o:Own) (most n:Int) (h0:0 ≤ n) (h1:n ≤ 1000) (hm:most ≤ 1000) (hp:List HObj) (lo:Nat) (q:Bool) :
   callD G0 IP n_sr36_Light [.list (St7.avs p) o,.int .i64 most,.int .i64 n] hp lo q = some (.ret (.bool (lightB p most n)) hp) := by
 rw [callD_eq,lightB]
 by_cases hmost : most < (p.length : Int)
 · have hm2 : ¬ (p.length : Int) ≤ most := by omega
   simp [IP_sr36_Light,i_sr36_Light,hmost,hm2]
 · have hm2 : (p.length : Int) ≤ most := by omega
   have hloop := fun (o:Own) => loop_find (G := G0) (IP := IP) (lo := hp.length) (b := l_sr36_Light_0)
     (fun i => ⟨[(0,.list (St7.avs p) o),(2,.int .i64 n),(7,.int .i64 i)],hp⟩) p.length (fun i => !lightS n (p.getD i St7.z))
     (.ret,⟨[(6,.bool false)],hp⟩) (.exit 0,⟨[(0,.list (St7.avs p) o),(2,.int .i64 n),(7,.int .i64 p.length),(22,.bool false)],hp⟩)
     (fun i hi hp1 => by
       have hI : (i:Int) < (p.length : Int) := by omega
       have hw1 := wrap_succ hi (n := p.length) hl
       have hb : lightS n p[i] = true := by simpa [hi] using hp1
       simp only [lightS,Bool.and_eq_true,decide_eq_true_eq] at hb
       obtain ⟨a1,a2,a3,a4,a5⟩ := hb
       have hwi := hw p[i] (List.getElem_mem hi)
       obtain ⟨v,e1⟩ := light_D p[i].a hwi.2.2.2.2.2.2.1 40 n (by omega) (by omega) h0 (by omega) hp hp.length false
       obtain ⟨u,e2⟩ := light_D p[i].b hwi.2.2.2.2.2.2.2 40 n (by omega) (by omega) h0 (by omega) hp hp.length false
       have e3 := light36_L p o n h0 h1 i hi hwi a4 hp hp.length
       rw [a5,if_pos rfl] at e3
       rw [T.av_eq,T.av_eq] at e1 e2
       have b3 : ¬ (20:Int) < (p[i].refs.length : Int) := by omega
       have b4 : ¬ (20:Int) < (p[i].subs.length : Int) := by omega
       rw [← hw1]
       simp [l_sr36_Light_0,hi,hI,st_av,e1,e2,a1,a2,b3,b4,e3])
     (fun i hi hp1 => by
       have hI : (i:Int) < (p.length : Int) := by omega
       have hb : lightS n p[i] = false := by simpa [hi] using hp1
       have hwi := hw p[i] (List.getElem_mem hi)
       obtain ⟨v,e1⟩ := light_D p[i].a hwi.2.2.2.2.2.2.1 40 n (by omega) (by omega) h0 (by omega) hp hp.length false
       obtain ⟨u,e2⟩ := light_D p[i].b hwi.2.2.2.2.2.2.2 40 n (by omega) (by omega) h0 (by omega) hp hp.length false
       rw [T.av_eq,T.av_eq] at e1 e2
       by_cases a1 : 0 ≤ p[i].a.cnt 40 n
       · by_cases a2 : 0 ≤ p[i].b.cnt 40 n
         · by_cases a3 : p[i].refs.length ≤ 20
           · have b3 : ¬ (20:Int) < (p[i].refs.length : Int) := by omega
             by_cases a4 : p[i].subs.length ≤ 20
             · have b4 : ¬ (20:Int) < (p[i].subs.length : Int) := by omega
               have e3 := light36_L p o n h0 h1 i hi hwi a4 hp hp.length
               have a5 : p[i].subs.all (subL n) = false := by simpa [lightS,a1,a2,a3,a4] using hb
               rw [a5] at e3
               simp only [Bool.false_eq_true,if_false] at e3
               simp [l_sr36_Light_0,hi,hI,st_av,e1,e2,a1,a2,b3,b4,e3]
             · have b4 : (20:Int) < (p[i].subs.length : Int) := by omega
               simp [l_sr36_Light_0,hi,hI,st_av,e1,e2,a1,a2,b3,b4]
           · have b3 : (20:Int) < (p[i].refs.length : Int) := by omega
             simp [l_sr36_Light_0,hi,hI,st_av,e1,e2,a1,a2,b3]
         · simp [l_sr36_Light_0,hi,hI,st_av,e1,e2,a1,a2]
       · simp [l_sr36_Light_0,hi,hI,st_av,e1,e2,a1])
     (by simp) (by simp [l_sr36_Light_0]) (by simp)
   rw [all_range p St7.z (lightS n)] at hloop
   simp only [Int.natCast_zero] at hloop
   cases hall : p.all (lightS n) with
   | true =>
     simp only [hall,Bool.not_true,Bool.false_eq_true,if_false] at hloop
     simp [IP_sr36_Light,i_sr36_Light,hmost,hm2,hloop]
   | false =>
     simp only [hall,Bool.not_false,if_true] at hloop
     simp [IP_sr36_Light,i_sr36_Light,hmost,hm2,hloop]
end
end Go.Proofs.YtkofimhnehkdoaaGreatDoor.Rf
end
section
namespace Go.Proofs.YtkofimhnehkdoaaGreatDoor.Rf
section
variable {hp:List HObj} {lo:Nat}
end
end Go.Proofs.YtkofimhnehkdoaaGreatDoor.Rf
end
section
namespace Go.Proofs.YtkofimhnehkdoaaGreatDoor.Rf
section
variable {hp:List HObj} {lo:Nat}
end
end Go.Proofs.YtkofimhnehkdoaaGreatDoor.Rf
end
section
namespace Go.Proofs.YtkofimhnehkdoaaGreatDoor.Rf
section
variable {hp:List HObj} {lo:Nat}
end
end Go.Proofs.YtkofimhnehkdoaaGreatDoor.Rf
end
section
namespace Go.Proofs.YtkofimhnehkdoaaGreatDoor.Rf
section
variable {hp:List HObj} {lo:Nat}
end
end Go.Proofs.YtkofimhnehkdoaaGreatDoor.Rf
end
section
namespace Go.Proofs.YtkofimhnehkdoaaGreatDoor.Rf
end Go.Proofs.YtkofimhnehkdoaaGreatDoor.Rf
end
section
namespace Go.Proofs.YtkofimhnehkdoaaGreatDoor.Rf
section
variable {hp:List HObj} {lo:Nat}
end
end Go.Proofs.YtkofimhnehkdoaaGreatDoor.Rf
end
section
namespace Go.Proofs.YtkofimhnehkdoaaGreatDoor.Rf
mutual
theorem cnt_dep : ∀ (t:T) (d n:Int),0 ≤ t.cnt d n → (t.dep : Int) ≤ d
 | .mk op w v nm o as,d,n,h => by
   rw [T.cnt] at h
   split at h
   · omega
   · have := cnts_dep as (d - 1) (n - 1) h
     simp only [T.dep]
     omega
theorem cnts_dep : ∀ (as:List T) (d n:Int),0 ≤ T.cnts as d n → 0 ≤ d → (T.deps as : Int) ≤ d
 | [],d,n,h,h0 => by simp [T.deps]; exact h0
 | t :: r,d,n,h,h0 => by
   rw [T.cnts] at h
   split at h
   · have hx : 0 ≤ t.cnt d n := by
       by_cases hx : 0 ≤ t.cnt d n
       · exact hx
       · rw [T.cnts_neg r _ _ (by omega)] at h; exact h
     have a := cnt_dep t d n hx
     have b := cnts_dep r d _ h h0
     simp only [T.deps]
     omega
   · omega
end
theorem texts_bd (c:Nat) : ∀ (l:List S) (b:Bool),(∀ x,x ∈ l → x.text.length ≤ c) → (S.texts b l).length ≤ l.length * (c + 1)
 | [],b,_ => by simp [S.texts]
 | x :: r,b,h => by
   have h1 := h x (by simp)
   have h2 := texts_bd c r false fun y hy => h y (by simp [hy])
   have h3 : (if b = true then ([] : List UInt8) else [32]).length ≤ 1 := by cases b <;> simp
   simp only [S.texts,List.length_append,List.length_cons,Nat.add_mul]
   omega
theorem list_text (o:Bool) (l:List S) : (S.mk [] o l).text.length = (S.texts true l).length + 2 := by simp [S.text]
theorem depths_bd (c:Nat) : ∀ l : List S,(∀ x,x ∈ l → x.depth ≤ c) → S.depths l ≤ c
 | [],_ => by simp [S.depths]
 | x :: r,h => by
   have h1 := h x (by simp)
   have h2 := depths_bd c r fun y hy => h y (by simp [hy])
   simp only [S.depths]; omega
theorem aS_rightP {a:List UInt8} (h:allPlain a = true) (hne:a ≠ []) : (aS a).right = true := by
 simp [aS,S.right,hne,h]
def Pc (c d:Nat) (x:S) : Prop := x.right = true ∧ x.depth ≤ d ∧ x.text.length ≤ c
theorem Pc.atom {a:List UInt8} (h:allPlain a = true) (hne:a ≠ []) {c d:Nat} (hc:a.length ≤ c) (hd:1 ≤ d) : Pc c d (aS a) :=
 ⟨aS_rightP h hne,by simp only [aS,S.depth,if_neg hne]; exact hd,by simp only [aS,S.text,if_neg hne]; exact hc⟩
theorem Pc.list {c d n c' d' : Nat} {o:Bool} {l:List S} (h:∀ x,x ∈ l → Pc c d x) (hn:l.length ≤ n) (hc:n * (c + 1) + 2 ≤ c') (hd:d + 1 ≤ d') : Pc c' d' (.mk [] o l) := by
 refine ⟨?_,?_,?_⟩
 · simp only [S.right,if_true]; exact (S.rights_iff l).2 fun x hx => (h x hx).1
 · have := depths_bd d l fun x hx => (h x hx).2.1
   simp only [S.depth,if_true]; omega
 · have := texts_bd c l true fun x hx => (h x hx).2.2
   rw [list_text]
   have h2 : l.length * (c + 1) ≤ n * (c + 1) := Nat.mul_le_mul_right _ hn
   omega
theorem Pc.mono {c d c' d' : Nat} {x:S} (h:Pc c d x) (hc:c ≤ c') (hd:d ≤ d') : Pc c' d' x := ⟨h.1,by have := h.2.1; omega,by have := h.2.2; omega⟩
theorem Pc.term {t:T} (hw:t.wf) {n:Int} (h:0 ≤ t.cnt 40 n) (hn:n ≤ 40) : Pc 2560 40 (writeT t) := by
 have h1 := write_len t hw
 have h2 := write_depth t
 have h3 := cnt_dep t 40 n h
 have h4 := T.cnt_ge t 40 n h
 exact ⟨write_right t,by omega,by omega⟩
end Go.Proofs.YtkofimhnehkdoaaGreatDoor.Rf
end
