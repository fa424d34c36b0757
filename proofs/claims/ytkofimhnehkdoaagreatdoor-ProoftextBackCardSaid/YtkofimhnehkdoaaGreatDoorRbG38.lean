/- A part. -/
import Derived.Test.YtkofimhnehkdoaaGreatDoorRbG37
set_option linter.unusedVariables false
set_option linter.unusedSimpArgs false
section
namespace Go.Proofs.YtkofimhnehkdoaaGreatDoor.Rf
section
variable {hp:List HObj} {lo:Nat}
set_option maxHeartbeats 4000000 in
theorem plain36_6 (s:St7) (hw:s.wf) (hk:s.kind = 6) (hp:List HObj) (lo:Nat) (q:Bool) : callD G0 IP n_sr36_Plain [s.av] hp lo q = some (.ret (.bool (plainB s)) hp) := by
 have eloop := fun (k ru:Int) (ua ub:Bool) (hp:List HObj) (lo:Nat) => plain36_L s hw k ru ua ub hp lo
 have ea := fun (u:Bool) (hp:List HObj) (lo:Nat) (q:Bool) => fits36_D u s.a hw.2.2.2.2.2.2.1 hp lo q
 have eb := fun (u:Bool) (hp:List HObj) (lo:Nat) (q:Bool) => fits36_D u s.b hw.2.2.2.2.2.2.2 hp lo q
 simp only [T.av_eq] at ea eb
 unfold plC at eloop
 rw [callD_eq,plainB,st_av,St7.cells]
 obtain ⟨ba,hba⟩ : ∃ b,s.subs.all subP = b := ⟨_,rfl⟩
 rw [hba] at eloop ⊢
 by_cases r0 : s.rule = 0
 rotate_left
 · simp [IP_sr36_Plain,i_sr36_Plain,hk,r0]
 by_cases l0 : 0 < s.subs.length
 · have l1 : (0:Int) < (s.subs.length : Int) := by omega
   simp [IP_sr36_Plain,i_sr36_Plain,hk,l0,l1,r0]
 · have l1 : ¬ (0:Int) < (s.subs.length : Int) := by omega
   have l2 : s.subs = [] := List.length_eq_zero_iff.1 (by omega)
   have hba' : ba = true := by rw [← hba,l2]; rfl
   subst hba'
   cases hFA : fitsT true s.a <;> simp [IP_sr36_Plain,i_sr36_Plain,hk,l0,l1,eloop,useA,ea,eb,hFA,r0]
set_option maxHeartbeats 4000000 in
theorem plain36_7 (s:St7) (hw:s.wf) (hk:s.kind = 7) (hp:List HObj) (lo:Nat) (q:Bool) : callD G0 IP n_sr36_Plain [s.av] hp lo q = some (.ret (.bool (plainB s)) hp) := by
 have eloop := fun (k ru:Int) (ua ub:Bool) (hp:List HObj) (lo:Nat) => plain36_L s hw k ru ua ub hp lo
 have ea := fun (u:Bool) (hp:List HObj) (lo:Nat) (q:Bool) => fits36_D u s.a hw.2.2.2.2.2.2.1 hp lo q
 have eb := fun (u:Bool) (hp:List HObj) (lo:Nat) (q:Bool) => fits36_D u s.b hw.2.2.2.2.2.2.2 hp lo q
 simp only [T.av_eq] at ea eb
 unfold plC at eloop
 rw [callD_eq,plainB,st_av,St7.cells]
 obtain ⟨ba,hba⟩ : ∃ b,s.subs.all subP = b := ⟨_,rfl⟩
 rw [hba] at eloop ⊢
 by_cases r0 : s.rule = 0
 rotate_left
 · simp [IP_sr36_Plain,i_sr36_Plain,hk,r0]
 by_cases l0 : 0 < s.subs.length
 · have l1 : (0:Int) < (s.subs.length : Int) := by omega
   simp [IP_sr36_Plain,i_sr36_Plain,hk,l0,l1,r0]
 · have l1 : ¬ (0:Int) < (s.subs.length : Int) := by omega
   have l2 : s.subs = [] := List.length_eq_zero_iff.1 (by omega)
   have hba' : ba = true := by rw [← hba,l2]; rfl
   subst hba'
   cases hFA : fitsT true s.a <;> simp [IP_sr36_Plain,i_sr36_Plain,hk,l0,l1,eloop,useA,ea,eb,hFA,r0]
set_option maxHeartbeats 4000000 in
theorem plain36_8 (s:St7) (hw:s.wf) (hk:s.kind = 8) (hp:List HObj) (lo:Nat) (q:Bool) : callD G0 IP n_sr36_Plain [s.av] hp lo q = some (.ret (.bool (plainB s)) hp) := by
 have eloop := fun (k ru:Int) (ua ub:Bool) (hp:List HObj) (lo:Nat) => plain36_L s hw k ru ua ub hp lo
 have ea := fun (u:Bool) (hp:List HObj) (lo:Nat) (q:Bool) => fits36_D u s.a hw.2.2.2.2.2.2.1 hp lo q
 have eb := fun (u:Bool) (hp:List HObj) (lo:Nat) (q:Bool) => fits36_D u s.b hw.2.2.2.2.2.2.2 hp lo q
 simp only [T.av_eq] at ea eb
 unfold plC at eloop
 rw [callD_eq,plainB,st_av,St7.cells]
 obtain ⟨ba,hba⟩ : ∃ b,s.subs.all subP = b := ⟨_,rfl⟩
 rw [hba] at eloop ⊢
 by_cases r0 : s.rule = 0
 rotate_left
 · simp [IP_sr36_Plain,i_sr36_Plain,hk,r0]
 by_cases l0 : 0 < s.subs.length
 · have l1 : (0:Int) < (s.subs.length : Int) := by omega
   simp [IP_sr36_Plain,i_sr36_Plain,hk,l0,l1,r0]
 · have l1 : ¬ (0:Int) < (s.subs.length : Int) := by omega
   have l2 : s.subs = [] := List.length_eq_zero_iff.1 (by omega)
   have hba' : ba = true := by rw [← hba,l2]; rfl
   subst hba'
   cases hFA : fitsT true s.a <;> simp [IP_sr36_Plain,i_sr36_Plain,hk,l0,l1,eloop,useA,ea,eb,hFA,r0]
end
end Go.Proofs.YtkofimhnehkdoaaGreatDoor.Rf
end
section
namespace Go.Proofs.YtkofimhnehkdoaaGreatDoor.Rf
section
variable {hp:List HObj} {lo:Nat}
set_option maxHeartbeats 4000000 in
theorem plain36_e (s:St7) (hw:s.wf) (n5:¬ s.kind = 5) (n12:¬ s.kind = 12) (n4:¬ s.kind = 4) (n1:¬ s.kind = 1) (n6:¬ s.kind = 6) (n7:¬ s.kind = 7) (n8:¬ s.kind = 8) (hp:List HObj) (lo:Nat) (q:Bool) : callD G0 IP n_sr36_Plain [s.av] hp lo q = some (.ret (.bool (plainB s)) hp) := by
 have eloop := fun (k ru:Int) (ua ub:Bool) (hp:List HObj) (lo:Nat) => plain36_L s hw k ru ua ub hp lo
 have ea := fun (u:Bool) (hp:List HObj) (lo:Nat) (q:Bool) => fits36_D u s.a hw.2.2.2.2.2.2.1 hp lo q
 have eb := fun (u:Bool) (hp:List HObj) (lo:Nat) (q:Bool) => fits36_D u s.b hw.2.2.2.2.2.2.2 hp lo q
 simp only [T.av_eq] at ea eb
 unfold plC at eloop
 rw [callD_eq,plainB,st_av,St7.cells]
 obtain ⟨ba,hba⟩ : ∃ b,s.subs.all subP = b := ⟨_,rfl⟩
 rw [hba] at eloop ⊢
 by_cases r0 : s.rule = 0
 rotate_left
 · simp [IP_sr36_Plain,i_sr36_Plain,n5,n12,n4,n1,n6,n7,n8,r0]
 by_cases l0 : 0 < s.subs.length
 · have l1 : (0:Int) < (s.subs.length : Int) := by omega
   simp [IP_sr36_Plain,i_sr36_Plain,n5,n12,n4,n1,n6,n7,n8,l0,l1,r0]
 · have l1 : ¬ (0:Int) < (s.subs.length : Int) := by omega
   have l2 : s.subs = [] := List.length_eq_zero_iff.1 (by omega)
   have hba' : ba = true := by rw [← hba,l2]; rfl
   subst hba'
   cases hFA : fitsT false s.a <;> simp [IP_sr36_Plain,i_sr36_Plain,n5,n12,n4,n1,n6,n7,n8,l0,l1,eloop,useA,ea,eb,hFA,r0]
end
end Go.Proofs.YtkofimhnehkdoaaGreatDoor.Rf
end
section
namespace Go.Proofs.YtkofimhnehkdoaaGreatDoor.Rf
theorem plain36_D (s:St7) (hw:s.wf) (hp:List HObj) (lo:Nat) (q:Bool) : callD G0 IP n_sr36_Plain [s.av] hp lo q = some (.ret (.bool (plainB s)) hp) := by
 by_cases n5 : s.kind = 5
 · exact plain36_5 s hw n5 hp lo q
 by_cases n12 : s.kind = 12
 · exact plain36_12 s hw n12 hp lo q
 by_cases n4 : s.kind = 4
 · exact plain36_4 s hw n4 hp lo q
 by_cases n1 : s.kind = 1
 · exact plain36_1 s hw n1 hp lo q
 by_cases n6 : s.kind = 6
 · exact plain36_6 s hw n6 hp lo q
 by_cases n7 : s.kind = 7
 · exact plain36_7 s hw n7 hp lo q
 by_cases n8 : s.kind = 8
 · exact plain36_8 s hw n8 hp lo q
 exact plain36_e s hw n5 n12 n4 n1 n6 n7 n8 hp lo q
end Go.Proofs.YtkofimhnehkdoaaGreatDoor.Rf
end
section
namespace Go.Proofs.YtkofimhnehkdoaaGreatDoor.Rf
section
variable {hp:List HObj} {lo:Nat}
set_option maxHeartbeats 4000000 in
theorem notable_D (t:T) (hw:t.wf) (hp:List HObj) (lo:Nat) (q:Bool) : callD G0 IP n_tt_notable [t.av] hp lo q = some (.ret (.bool (notE t)) hp) := by
 rw [callD_eq]
 have hwf := (T.wf_eq t).1 hw
 cases t with | mk op w v n o as =>
 rw [notE_mk,T.av_eq]
 simp only [T.op,T.width,T.val,T.name,T.o,T.args] at hwf ⊢
 have en := fun hp lo q => name_D (hp := hp) (lo := lo) q n hwf.2.2.2.1
 by_cases h1 : w < 0
 · have h1' : ¬ 0 ≤ w := by omega
   simp [IP_tt_notable,i_tt_notable,h1,h1']
 have h1' : 0 ≤ w := by omega
 by_cases h2 : 64 < w
 · have h2' : ¬ w ≤ 64 := by omega
   simp [IP_tt_notable,i_tt_notable,h1,h1',h2,h2']
 have h2' : w ≤ 64 := by omega
 by_cases h3 : (as.length : Int) = arE op
 · by_cases k1 : op = 1
   · subst k1
     simp [IP_tt_notable,i_tt_notable,arity_D,h1,h1',h2,h2',h3,en]
     cases nameOk n <;> simp
   by_cases k2 : op = 24
   · subst k2
     simp [IP_tt_notable,i_tt_notable,arity_D,h1,h1',h2,h2',h3,en]
     cases nameOk n <;> simp
   by_cases k3 : op = 25
   · subst k3
     simp [IP_tt_notable,i_tt_notable,arity_D,h1,h1',h2,h2',h3,en]
     cases nameOk n <;> simp
   by_cases k4 : op = 2
   · subst k4
     simp [IP_tt_notable,i_tt_notable,arity_D,h1,h1',h2,h2',h3]
     cases n <;> simp
   by_cases k5 : op = 21
   · subst k5
     simp [IP_tt_notable,i_tt_notable,arity_D,h1,h1',h2,h2',h3]
     cases n <;> simp
   rcases n with _ | ⟨c,n'⟩
   · simp [IP_tt_notable,i_tt_notable,arity_D,h1,h1',h2,h2',h3,k1,k2,k3,k4,k5]
   · simp [IP_tt_notable,i_tt_notable,arity_D,h1,h1',h2,h2',h3,k1,k2,k3,k4,k5]
 · simp [IP_tt_notable,i_tt_notable,arity_D,h1,h1',h2,h2',h3]
theorem atom_D (s:List UInt8) (hp:List HObj) (lo:Nat) (q:Bool) : callD G0 IP n_tt_atom [.str s] hp lo q = some (.ret (.agg [.str s,.list [] .nil]) hp) := by
 rw [callD_eq]
 simp [IP_tt_atom,i_tt_atom]
end
end Go.Proofs.YtkofimhnehkdoaaGreatDoor.Rf
end
section
namespace Go.Proofs.YtkofimhnehkdoaaGreatDoor.Rf
theorem ownB_false : ownB false = .no := rfl
theorem S.avs_cons (x:S) (l:List S) : S.avs (x :: l) = x.av :: S.avs l := rfl
theorem aS_av (a:List UInt8) : (aS a).av = .agg [.str a,.list [] .nil] := rfl
abbrev boxS : AV := .box [.str [],.list [] .nil]
section
variable {hp:List HObj} {lo:Nat}
set_option maxHeartbeats 1000000 in
theorem writeT_L (as:List T) (o:Own) (hl10:as.length ≤ 10) : ∀ (r p:List T) (acc:List S),as = p ++ r → acc.length ≤ p.length + 10 →
   (∀ x,x ∈ r → ∀ hp lo q,callD G0 IP n_tt_Write [x.av] hp lo q = some (.ret (writeT x).av hp)) →
   loopD G0 IP lo l_tt_Write_0 ⟨[(2,boxS),(4,.list (S.avs acc) (.own 2 0)),(76,.list (T.avs as) o),(77,.int .i64 as.length),(78,.int .i64 p.length)],hp⟩ =
     some (.exit 1,⟨[(2,boxS),(4,.list (S.avs (acc ++ writeTs r)) (.own 2 0)),(76,.list (T.avs as) o),(77,.int .i64 as.length),(78,.int .i64 as.length),(79,.bool false)],hp⟩)
 | [],p,acc,h,ha,_ => by
   rw [loopD_eq,loopBody]
   simp at h
   subst h
   simp [l_tt_Write_0,writeTs]
 | x :: r,p,acc,h,ha,ih => by
   rw [loopD_eq,loopBody]
   have hlen : as.length = p.length + (r.length + 1) := by rw [h]; simp
   have h1 : (p.length : Int) < (as.length : Int) := by omega
   have hl : p.length < as.length := by omega
   have h2 : as[p.length] = x := by simp [h]
   have hw : IntKind.wrap .i64 ((p.length : Int) + 1) = (p.length : Int) + 1 := wrap_small (by omega) (by omega)
   have e1 := ih x (by simp) hp lo false
   rw [T.av_eq,S.av_eq] at e1
   have e2 := writeT_L as o hl10 r (p ++ [x]) (acc ++ [writeT x]) (by rw [h]; simp) (by simp; omega) (fun y hy => ih y (by simp [hy]))
   simp only [List.length_append,List.length_cons,List.length_nil,Nat.zero_add,Int.natCast_add,Int.natCast_one] at e2
   have hb1 : (acc.length + 1) * 40 ≤ 140737488355328 := by omega
   have hb2 : acc.length + 1 ≤ 9223372036854775807 := by omega
   rw [S.avs_app,show S.avs [writeT x] = [.agg [.str (writeT x).atom,.list (S.avs (writeT x).list) (ownB (writeT x).o)]] by simp [S.avs,S.av_eq]] at e2
   simp [l_tt_Write_0,hl,h1,h2,T.av_eq x,e1,hb1,hb2,hw]
   refine Eq.trans e2 ?_
   simp [writeTs]
set_option maxHeartbeats 4000000 in
theorem writeT_D (t:T) : t.wf → ∀ (hp:List HObj) (lo:Nat) (q:Bool),callD G0 IP n_tt_Write [t.av] hp lo q = some (.ret (writeT t).av hp) := by
 induction t using T.ind with | h t ih =>
 intro hw hp lo q
 have hwf := (T.wf_eq t).1 hw
 have en := notable_D t hw
 rw [callD_eq]
 cases t with | mk op w v n o as =>
 simp only [T.op,T.width,T.val,T.name,T.o,T.args] at hwf ih
 rw [T.av_eq] at en ⊢
 simp only [T.op,T.width,T.val,T.name,T.o,T.args] at en ⊢
 rw [writeT]
 cases hN : notE (.mk op w v n o as) with
 | false =>
   rw [hN] at en
   rw [if_pos rfl]
   simp [IP_tt_Write,i_tt_Write,en,atom_D,aS_av]
 | true =>
   rw [hN] at en
   rw [if_neg (by simp)]
   have hN2 := hN
   rw [notE_mk] at hN2
   simp only [Bool.and_eq_true,decide_eq_true_eq] at hN2
   obtain ⟨n0,n1,n2,n3⟩ := hN2
   have hop : opOk op = true := arE_ok (by omega)
   have eI := intT_D w n0 n1
   have hv : 0 ≤ v ∧ v < 18446744073709551616 := by
     have := hwf.2.2.1
     simp [Lit.wf,IntKind.min,IntKind.max,IntKind.signed,IntKind.bits] at this; omega
   have eD := decT_D v hv.1 hv.2
   have lI := decI_len (n := w) (by omega)
   have lD := decI_len hv.2
   have nl : (op = 1 ∨ op = 24 ∨ op = 25) → n.length ≤ 16 := fun e => by
     rw [if_pos e] at n3
     simp only [Bool.and_eq_true,decide_eq_true_eq] at n3
     exact (nameOk_mem n3.1).2.1
   generalize hdi : decI w = dw at *
   generalize hdv : decI v = dv at *
   by_cases k1 : op = 1
   · subst k1
     have := nl (by simp)
     have b1 : n.length + 1 ≤ 9223372036854775807 := by omega
     have b2 : n.length + 1 + dw.length ≤ 9223372036854775807 := by omega
     rw [if_pos rfl]
     simp [IP_tt_Write,i_tt_Write,en,atom_D,aS_av,eI,b1,b2]
   by_cases k2 : op = 24
   · subst k2
     have := nl (by simp)
     have b1 : 1 + n.length ≤ 9223372036854775807 := by omega
     have b2 : n.length + 1 + 1 ≤ 9223372036854775807 := by omega
     have b3 : n.length + 1 + 1 + dw.length ≤ 9223372036854775807 := by omega
     rw [if_neg (by simp),if_pos rfl]
     simp [IP_tt_Write,i_tt_Write,en,atom_D,aS_av,eI,b1,b2,b3]
   by_cases k3 : op = 25
   · subst k3
     have := nl (by simp)
     have b1 : 1 + n.length ≤ 9223372036854775807 := by omega
     have b2 : n.length + 1 + 1 ≤ 9223372036854775807 := by omega
     have b3 : n.length + 1 + 1 + dw.length ≤ 9223372036854775807 := by omega
     rw [if_neg (by simp),if_neg (by simp),if_pos rfl]
     simp [IP_tt_Write,i_tt_Write,en,atom_D,aS_av,eI,b1,b2,b3]
   by_cases k4 : op = 2
   · subst k4
     have b1 : dv.length + 1 ≤ 9223372036854775807 := by omega
     have b2 : dv.length + 1 + dw.length ≤ 9223372036854775807 := by omega
     rw [if_neg (by simp),if_neg (by simp),if_neg (by simp),if_pos rfl]
     simp [IP_tt_Write,i_tt_Write,en,atom_D,aS_av,eI,eD,b1,b2]
   rw [if_neg k1,if_neg k2,if_neg k3,if_neg k4]
   have hal : as.length ≤ 10 := by have := arE_bd op; omega
   have eN := fun hp lo q => opName_D (hp := hp) (lo := lo) q op
   have eP := fun hp lo q => ttNumerals_D (hp := hp) (lo := lo) q op
   have el := fun (acc:List S) (ha:acc.length ≤ 10) (o:Own) => writeT_L (hp := hp) (lo := hp.length) as o hal as [] acc rfl (by simpa using ha) (fun x hx => ih x hx (hwf.2.2.2.2.2.2 x hx))
   by_cases k5 : op = 21
   · subst k5
     have e1 := el [aS (nameE 21),aS dv,aS dw] (by simp)
     simp [S.avs_cons,aS_av] at e1
     have h2 : (numsN 21:Int) = 2 := rfl
     simp [IP_tt_Write,i_tt_Write,en,atom_D,eI,eD,eN,eP,h2,e1,headW,hdi,hdv,S.av,S.avs_app,S.avs_cons,aS_av,ownB_false,S.avs_closed]
   by_cases k6 : op = 22 ∨ op = 23
   · have hn : numsN op = 1 := by simp [numsN,k5,k6]
     have e1 := el [aS (nameE op),aS dw] (by simp)
     simp [S.avs_cons,aS_av] at e1
     simp [IP_tt_Write,i_tt_Write,en,atom_D,eI,eD,eN,eP,hn,k1,k2,k3,k4,k5,k6,e1,headW,hdi,hdv,S.av,S.avs_app,S.avs_cons,aS_av,ownB_false,S.avs_closed]
   · have hn : numsN op = 0 := by simp [numsN,k5,k6]
     have e1 := el [aS (nameE op)] (by simp)
     simp [S.avs_cons,aS_av] at e1
     simp [IP_tt_Write,i_tt_Write,en,atom_D,eI,eD,eN,eP,hn,k1,k2,k3,k4,k5,k6,e1,headW,hdi,hdv,S.av,S.avs_app,S.avs_cons,aS_av,ownB_false,S.avs_closed]
end
end Go.Proofs.YtkofimhnehkdoaaGreatDoor.Rf
end
