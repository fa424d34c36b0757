/- A part. -/
import Derived.Test.YtkofimhnehkdoaaGreatDoorRbG36
set_option linter.unusedVariables false
set_option linter.unusedSimpArgs false
section
namespace Go.Proofs.YtkofimhnehkdoaaGreatDoor.Rf
def subL (n:Int) (x:Sb) : Bool := decide (0 ≤ x.t.cnt 40 n)
def lightS (n:Int) (s:St7) : Bool := decide (0 ≤ s.a.cnt 40 n) && (decide (0 ≤ s.b.cnt 40 n) && (decide (s.refs.length ≤ 20) && (decide (s.subs.length ≤ 20) && s.subs.all (subL n))))
def lightB (p:List St7) (most n:Int) : Bool := decide ((p.length : Int) ≤ most) && p.all (lightS n)
def sbZ7 : Sb := ⟨[],T.z⟩
section
variable {hp:List HObj} {lo:Nat}
set_option maxHeartbeats 2000000 in
theorem light36_L (p:List St7) (o:Own) (n:Int) (h0:0 ≤ n) (h1:n ≤ 1000) (i:Nat) (hi:i < p.length) (hw:p[i].wf) (hl:p[i].subs.length ≤ 20) (hp:List HObj) (lo:Nat) :
   loopD G0 IP lo l_sr36_Light_1 ⟨[(0,.list (St7.avs p) o),(2,.int .i64 n),(7,.int .i64 i),(12,.int .i64 0)],hp⟩ =
     some (if p[i].subs.all (subL n) then (.exit 2,⟨[(0,.list (St7.avs p) o),(2,.int .i64 n),(7,.int .i64 i),(12,.int .i64 p[i].subs.length),(76,.bool false)],hp⟩) else (.ret,⟨[(6,.bool false)],hp⟩)) := by
 have hloop := loop_find (G := G0) (IP := IP) (lo := lo) (b := l_sr36_Light_1)
   (fun k => ⟨[(0,.list (St7.avs p) o),(2,.int .i64 n),(7,.int .i64 i),(12,.int .i64 k)],hp⟩) p[i].subs.length (fun k => !subL n (p[i].subs.getD k sbZ7))
   (.ret,⟨[(6,.bool false)],hp⟩) (.exit 2,⟨[(0,.list (St7.avs p) o),(2,.int .i64 n),(7,.int .i64 i),(12,.int .i64 p[i].subs.length),(76,.bool false)],hp⟩)
   (fun k hk hp1 => by
     have hI : (k:Int) < (p[i].subs.length : Int) := by omega
     have hw1 := wrap_succ hk (n := p[i].subs.length) (by omega)
     have hb : subL n p[i].subs[k] = true := by simpa [hk] using hp1
     simp only [subL,decide_eq_true_eq] at hb
     obtain ⟨v,e1⟩ := light_D p[i].subs[k].t (hw.2.2.2.2.1 _ (List.getElem_mem hk)).2 40 n (by omega) (by omega) h0 (by omega) hp lo false
     rw [T.av_eq,T.av_eq] at e1
     rw [← hw1]
     simp [l_sr36_Light_1,hi,hk,hI,st_av,Sb.av_eq p[i].subs[k],e1,hb])
   (fun k hk hp1 => by
     have hI : (k:Int) < (p[i].subs.length : Int) := by omega
     have hb : subL n p[i].subs[k] = false := by simpa [hk] using hp1
     simp only [subL,decide_eq_false_iff_not] at hb
     obtain ⟨v,e1⟩ := light_D p[i].subs[k].t (hw.2.2.2.2.1 _ (List.getElem_mem hk)).2 40 n (by omega) (by omega) h0 (by omega) hp lo false
     rw [T.av_eq,T.av_eq] at e1
     simp [l_sr36_Light_1,hi,hk,hI,st_av,Sb.av_eq p[i].subs[k],e1,hb])
   (by simp) (by simp [l_sr36_Light_1,hi,st_av]) (by simp)
 rw [all_range p[i].subs sbZ7 (subL n)] at hloop
 simp only [Int.natCast_zero] at hloop
 rw [hloop]
 cases p[i].subs.all (subL n) <;> simp
set_option maxHeartbeats 4000000 in
theorem light36_D (p:List St7) (hw:∀ s,s ∈ p → s.wf) (hl:p.length ≤ 9223372036854775807) (o:Own) (most n:Int) (h0:0 ≤ n) (h1:n ≤ 1000) (hm:most ≤ 1000) (hp:List HObj) (lo:Nat) (q:Bool) :
   callD G0 IP n_sr36_Light [.list (St7.avs p) o,.int .i64 most,.int .i64 n] hp lo q = some (.ret (.bool (lightB p most n)) hp) := by
 rw [callD_eq,lightB]
 by_cases hmost : most < (p.length : Int)
 · have hm2 : ¬ (p.length : Int) ≤ most := by omega
   simp [IP_sr36_Light,i_sr36_Light,hmost,hm2]
 · have hm2 : (p.length : Int) ≤ most := by omega
   have hloop := fun (o:Own) => loop_find (G := G0) (IP := IP) (lo := hp.length) (b := l_sr36_Light_0)
     (fun i => ⟨[(0,.list (St7.avs p) o),(2,.int .i64 n),(7,.int .i64 i)],hp⟩) p.length (fun i => !lightS n (p.getD i St7.z))
     (.ret,⟨[(6,.bool false)],hp⟩) (.exit 0,⟨[(0,.list (St7.avs p) o),(2,.int .i64 n),(7,.int .i64 p.length),(22,.bool false)],hp⟩)
     (fun i hi hp1 => by
       have hI : (i:Int) < (p.length : Int) := by omega
       have hw1 := wrap_succ hi (n := p.length) hl
       have hb : lightS n p[i] = true := by simpa [hi] using hp1
       simp only [lightS,Bool.and_eq_true,decide_eq_true_eq] at hb
       obtain ⟨a1,a2,a3,a4,a5⟩ := hb
       have hwi := hw p[i] (List.getElem_mem hi)
       obtain ⟨v,e1⟩ := light_D p[i].a hwi.2.2.2.2.2.2.1 40 n (by omega) (by omega) h0 (by omega) hp hp.length false
       obtain ⟨u,e2⟩ := light_D p[i].b hwi.2.2.2.2.2.2.2 40 n (by omega) (by omega) h0 (by omega) hp hp.length false
       have e3 := light36_L p o n h0 h1 i hi hwi a4 hp hp.length
       rw [a5,if_pos rfl] at e3
       rw [T.av_eq,T.av_eq] at e1 e2
       have b3 : ¬ (20:Int) < (p[i].refs.length : Int) := by omega
       have b4 : ¬ (20:Int) < (p[i].subs.length : Int) := by omega
       rw [← hw1]
       simp [l_sr36_Light_0,hi,hI,st_av,e1,e2,a1,a2,b3,b4,e3])
     (fun i hi hp1 => by
       have hI : (i:Int) < (p.length : Int) := by omega
       have hb : lightS n p[i] = false := by simpa [hi] using hp1
       have hwi := hw p[i] (List.getElem_mem hi)
       obtain ⟨v,e1⟩ := light_D p[i].a hwi.2.2.2.2.2.2.1 40 n (by omega) (by omega) h0 (by omega) hp hp.length false
       obtain ⟨u,e2⟩ := light_D p[i].b hwi.2.2.2.2.2.2.2 40 n (by omega) (by omega) h0 (by omega) hp hp.length false
       rw [T.av_eq,T.av_eq] at e1 e2
       by_cases a1 : 0 ≤ p[i].a.cnt 40 n
       · by_cases a2 : 0 ≤ p[i].b.cnt 40 n
         · by_cases a3 : p[i].refs.length ≤ 20
           · have b3 : ¬ (20:Int) < (p[i].refs.length : Int) := by omega
             by_cases a4 : p[i].subs.length ≤ 20
             · have b4 : ¬ (20:Int) < (p[i].subs.length : Int) := by omega
               have e3 := light36_L p o n h0 h1 i hi hwi a4 hp hp.length
               have a5 : p[i].subs.all (subL n) = false := by simpa [lightS,a1,a2,a3,a4] using hb
               rw [a5] at e3
               simp only [Bool.false_eq_true,if_false] at e3
               simp [l_sr36_Light_0,hi,hI,st_av,e1,e2,a1,a2,b3,b4,e3]
             · have b4 : (20:Int) < (p[i].subs.length : Int) := by omega
               simp [l_sr36_Light_0,hi,hI,st_av,e1,e2,a1,a2,b3,b4]
           · have b3 : (20:Int) < (p[i].refs.length : Int) := by omega
             simp [l_sr36_Light_0,hi,hI,st_av,e1,e2,a1,a2,b3]
         · simp [l_sr36_Light_0,hi,hI,st_av,e1,e2,a1,a2]
       · simp [l_sr36_Light_0,hi,hI,st_av,e1,e2,a1])
     (by simp) (by simp [l_sr36_Light_0]) (by simp)
   rw [all_range p St7.z (lightS n)] at hloop
   simp only [Int.natCast_zero] at hloop
   cases hall : p.all (lightS n) with
   | true =>
     simp only [hall,Bool.not_true,Bool.false_eq_true,if_false] at hloop
     simp [IP_sr36_Light,i_sr36_Light,hmost,hm2,hloop]
   | false =>
     simp only [hall,Bool.not_false,if_true] at hloop
     simp [IP_sr36_Light,i_sr36_Light,hmost,hm2,hloop]
def fitsT (used:Bool) (t:T) : Bool := if used then decide (checkT t = 0) else t.same T.z
theorem fits36_D (used:Bool) (t:T) (hw:t.wf) (hp:List HObj) (lo:Nat) (q:Bool) : callD G0 IP n_sr36_fits [.bool used,t.av] hp lo q = some (.ret (.bool (fitsT used t)) hp) := by
 have e1 := fun hp lo q => check6_D t hw hp lo q
 have e2 := fun hp lo q => same6_D t hw T.z hp lo q
 rw [show T.z.av = .agg [.int .i64 0,.int .i64 0,.int .u64 0,.str [],.list [] .nil] from rfl] at e2
 rw [callD_eq,fitsT]
 rw [T.av_eq] at e1 e2 ⊢
 cases used with
 | true => simp [IP_sr36_fits,i_sr36_fits,e1]
 | false => simp [IP_sr36_fits,i_sr36_fits,e2]
def subP (x:Sb) : Bool := nameOk x.name && decide (checkT x.t = 0)
def useA (k:Int) : Bool := decide (k = 1) || (decide (k = 6) || (decide (k = 7) || (decide (k = 8) || decide (k = 4))))
def plainB (s:St7) : Bool := !((!decide (s.rule = 0) && (!decide (s.kind = 5) && !decide (s.kind = 12))) || (decide (0 < s.subs.length) && !decide (s.kind = 5))) && (s.subs.all subP && (fitsT (useA s.kind) s.a && fitsT (decide (s.kind = 4)) s.b))
abbrev plC (s:St7) (k ru:Int) : List AV := [.int .i64 k,.list (i64s s.refs) (ownB s.ro),.int .i64 ru,.list (sbs s.subs) (ownB s.so),
 .int .i64 s.a.op,.int .i64 s.a.width,.int .u64 s.a.val,.str s.a.name,.list (T.avs s.a.args) (ownB s.a.o),
 .int .i64 s.b.op,.int .i64 s.b.width,.int .u64 s.b.val,.str s.b.name,.list (T.avs s.b.args) (ownB s.b.o)]
set_option maxHeartbeats 2000000 in
theorem plain36_L (s:St7) (hw:s.wf) (k ru:Int) (ua ub:Bool) (hp:List HObj) (lo:Nat) :
   loopD G0 IP lo l_sr36_Plain_0 ⟨[(1,.box (plC s k ru)),(3,.bool ua),(4,.bool ub),(5,.int .i64 0)],hp⟩ =
     some (if s.subs.all subP then (.exit 0,⟨[(1,.box (plC s k ru)),(3,.bool ua),(4,.bool ub),(5,.int .i64 s.subs.length),(60,.bool false)],hp⟩) else (.ret,⟨[(2,.bool false)],hp⟩)) := by
 have hl := hw.2.2.2.2.2.1
 have hloop := loop_find (G := G0) (IP := IP) (lo := lo) (b := l_sr36_Plain_0)
   (fun kk => ⟨[(1,.box (plC s k ru)),(3,.bool ua),(4,.bool ub),(5,.int .i64 kk)],hp⟩) s.subs.length (fun kk => !subP (s.subs.getD kk sbZ7))
   (.ret,⟨[(2,.bool false)],hp⟩) (.exit 0,⟨[(1,.box (plC s k ru)),(3,.bool ua),(4,.bool ub),(5,.int .i64 s.subs.length),(60,.bool false)],hp⟩)
   (fun k hk hp1 => by
     have hI : (k:Int) < (s.subs.length : Int) := by omega
     have hw1 := wrap_succ hk (n := s.subs.length) hl
     have hb : subP s.subs[k] = true := by simpa [hk] using hp1
     simp only [subP,Bool.and_eq_true,decide_eq_true_eq] at hb
     have hwk := hw.2.2.2.2.1 _ (List.getElem_mem hk)
     have e1 := name6_D s.subs[k].name hwk.1 hp lo false
     have e2 := check6_D s.subs[k].t hwk.2 hp lo false
     rw [hb.1] at e1
     rw [hb.2,T.av_eq] at e2
     rw [← hw1]
     simp [l_sr36_Plain_0,hk,hI,Sb.av_eq s.subs[k],e1,e2])
   (fun k hk hp1 => by
     have hI : (k:Int) < (s.subs.length : Int) := by omega
     have hb : subP s.subs[k] = false := by simpa [hk] using hp1
     have hwk := hw.2.2.2.2.1 _ (List.getElem_mem hk)
     have e1 := name6_D s.subs[k].name hwk.1 hp lo false
     have e2 := check6_D s.subs[k].t hwk.2 hp lo false
     rw [T.av_eq] at e2
     cases hn : nameOk s.subs[k].name with
     | false =>
       rw [hn] at e1
       simp [l_sr36_Plain_0,hk,hI,Sb.av_eq s.subs[k],e1]
     | true =>
       rw [hn] at e1
       have hc : ¬ checkT s.subs[k].t = 0 := by simpa [subP,hn] using hb
       simp [l_sr36_Plain_0,hk,hI,Sb.av_eq s.subs[k],e1,e2,hc])
   (by simp) (by simp [l_sr36_Plain_0]) (by simp)
 rw [all_range s.subs sbZ7 subP] at hloop
 simp only [Int.natCast_zero] at hloop
 rw [hloop]
 cases s.subs.all subP <;> simp
end
end Go.Proofs.YtkofimhnehkdoaaGreatDoor.Rf
end
section
namespace Go.Proofs.YtkofimhnehkdoaaGreatDoor.Rf
section
variable {hp:List HObj} {lo:Nat}
set_option maxHeartbeats 4000000 in
theorem plain36_5 (s:St7) (hw:s.wf) (hk:s.kind = 5) (hp:List HObj) (lo:Nat) (q:Bool) : callD G0 IP n_sr36_Plain [s.av] hp lo q = some (.ret (.bool (plainB s)) hp) := by
 have eloop := fun (k ru:Int) (ua ub:Bool) (hp:List HObj) (lo:Nat) => plain36_L s hw k ru ua ub hp lo
 have ea := fun (u:Bool) (hp:List HObj) (lo:Nat) (q:Bool) => fits36_D u s.a hw.2.2.2.2.2.2.1 hp lo q
 have eb := fun (u:Bool) (hp:List HObj) (lo:Nat) (q:Bool) => fits36_D u s.b hw.2.2.2.2.2.2.2 hp lo q
 simp only [T.av_eq] at ea eb
 unfold plC at eloop
 rw [callD_eq,plainB,st_av,St7.cells]
 obtain ⟨ba,hba⟩ : ∃ b,s.subs.all subP = b := ⟨_,rfl⟩
 rw [hba] at eloop ⊢
 by_cases l0 : 0 < s.subs.length
 · have l1 : (0:Int) < (s.subs.length : Int) := by omega
   by_cases r0 : s.rule = 0
   · cases ba <;> cases hFA : fitsT false s.a <;> simp [IP_sr36_Plain,i_sr36_Plain,hk,l0,l1,eloop,useA,ea,eb,hFA,r0]
   · cases ba <;> cases hFA : fitsT false s.a <;> simp [IP_sr36_Plain,i_sr36_Plain,hk,l0,l1,eloop,useA,ea,eb,hFA,r0]
 · have l1 : ¬ (0:Int) < (s.subs.length : Int) := by omega
   have l2 : s.subs = [] := List.length_eq_zero_iff.1 (by omega)
   have hba' : ba = true := by rw [← hba,l2]; rfl
   subst hba'
   by_cases r0 : s.rule = 0
   · cases hFA : fitsT false s.a <;> simp [IP_sr36_Plain,i_sr36_Plain,hk,l0,l1,eloop,useA,ea,eb,hFA,r0]
   · cases hFA : fitsT false s.a <;> simp [IP_sr36_Plain,i_sr36_Plain,hk,l0,l1,eloop,useA,ea,eb,hFA,r0]
set_option maxHeartbeats 4000000 in
theorem plain36_12 (s:St7) (hw:s.wf) (hk:s.kind = 12) (hp:List HObj) (lo:Nat) (q:Bool) : callD G0 IP n_sr36_Plain [s.av] hp lo q = some (.ret (.bool (plainB s)) hp) := by
 have eloop := fun (k ru:Int) (ua ub:Bool) (hp:List HObj) (lo:Nat) => plain36_L s hw k ru ua ub hp lo
 have ea := fun (u:Bool) (hp:List HObj) (lo:Nat) (q:Bool) => fits36_D u s.a hw.2.2.2.2.2.2.1 hp lo q
 have eb := fun (u:Bool) (hp:List HObj) (lo:Nat) (q:Bool) => fits36_D u s.b hw.2.2.2.2.2.2.2 hp lo q
 simp only [T.av_eq] at ea eb
 unfold plC at eloop
 rw [callD_eq,plainB,st_av,St7.cells]
 obtain ⟨ba,hba⟩ : ∃ b,s.subs.all subP = b := ⟨_,rfl⟩
 rw [hba] at eloop ⊢
 by_cases l0 : 0 < s.subs.length
 · have l1 : (0:Int) < (s.subs.length : Int) := by omega
   by_cases r0 : s.rule = 0 <;> simp [IP_sr36_Plain,i_sr36_Plain,hk,l0,l1,r0]
 · have l1 : ¬ (0:Int) < (s.subs.length : Int) := by omega
   have l2 : s.subs = [] := List.length_eq_zero_iff.1 (by omega)
   have hba' : ba = true := by rw [← hba,l2]; rfl
   subst hba'
   cases hFA : fitsT false s.a <;> by_cases r0 : s.rule = 0 <;> simp [IP_sr36_Plain,i_sr36_Plain,hk,l0,l1,eloop,useA,ea,eb,hFA,r0]
end
end Go.Proofs.YtkofimhnehkdoaaGreatDoor.Rf
end
section
namespace Go.Proofs.YtkofimhnehkdoaaGreatDoor.Rf
section
variable {hp:List HObj} {lo:Nat}
set_option maxHeartbeats 4000000 in
theorem plain36_4 (s:St7) (hw:s.wf) (hk:s.kind = 4) (hp:List HObj) (lo:Nat) (q:Bool) : callD G0 IP n_sr36_Plain [s.av] hp lo q = some (.ret (.bool (plainB s)) hp) := by
 have eloop := fun (k ru:Int) (ua ub:Bool) (hp:List HObj) (lo:Nat) => plain36_L s hw k ru ua ub hp lo
 have ea := fun (u:Bool) (hp:List HObj) (lo:Nat) (q:Bool) => fits36_D u s.a hw.2.2.2.2.2.2.1 hp lo q
 have eb := fun (u:Bool) (hp:List HObj) (lo:Nat) (q:Bool) => fits36_D u s.b hw.2.2.2.2.2.2.2 hp lo q
 simp only [T.av_eq] at ea eb
 unfold plC at eloop
 rw [callD_eq,plainB,st_av,St7.cells]
 obtain ⟨ba,hba⟩ : ∃ b,s.subs.all subP = b := ⟨_,rfl⟩
 rw [hba] at eloop ⊢
 by_cases r0 : s.rule = 0
 rotate_left
 · simp [IP_sr36_Plain,i_sr36_Plain,hk,r0]
 by_cases l0 : 0 < s.subs.length
 · have l1 : (0:Int) < (s.subs.length : Int) := by omega
   simp [IP_sr36_Plain,i_sr36_Plain,hk,l0,l1,r0]
 · have l1 : ¬ (0:Int) < (s.subs.length : Int) := by omega
   have l2 : s.subs = [] := List.length_eq_zero_iff.1 (by omega)
   have hba' : ba = true := by rw [← hba,l2]; rfl
   subst hba'
   cases hFA : fitsT true s.a <;> simp [IP_sr36_Plain,i_sr36_Plain,hk,l0,l1,eloop,useA,ea,eb,hFA,r0]
set_option maxHeartbeats 4000000 in
theorem plain36_1 (s:St7) (hw:s.wf) (hk:s.kind = 1) (hp:List HObj) (lo:Nat) (q:Bool) : callD G0 IP n_sr36_Plain [s.av] hp lo q = some (.ret (.bool (plainB s)) hp) := by
 have eloop := fun (k ru:Int) (ua ub:Bool) (hp:List HObj) (lo:Nat) => plain36_L s hw k ru ua ub hp lo
 have ea := fun (u:Bool) (hp:List HObj) (lo:Nat) (q:Bool) => fits36_D u s.a hw.2.2.2.2.2.2.1 hp lo q
 have eb := fun (u:Bool) (hp:List HObj) (lo:Nat) (q:Bool) => fits36_D u s.b hw.2.2.2.2.2.2.2 hp lo q
 simp only [T.av_eq] at ea eb
 unfold plC at eloop
 rw [callD_eq,plainB,st_av,St7.cells]
 obtain ⟨ba,hba⟩ : ∃ b,s.subs.all subP = b := ⟨_,rfl⟩
 rw [hba] at eloop ⊢
 by_cases r0 : s.rule = 0
 rotate_left
 · simp [IP_sr36_Plain,i_sr36_Plain,hk,r0]
 by_cases l0 : 0 < s.subs.length
 · have l1 : (0:Int) < (s.subs.length : Int) := by omega
   simp [IP_sr36_Plain,i_sr36_Plain,hk,l0,l1,r0]
 · have l1 : ¬ (0:Int) < (s.subs.length : Int) := by omega
   have l2 : s.subs = [] := List.length_eq_zero_iff.1 (by omega)
   have hba' : ba = true := by rw [← hba,l2]; rfl
   subst hba'
   cases hFA : fitsT true s.a <;> simp [IP_sr36_Plain,i_sr36_Plain,hk,l0,l1,eloop,useA,ea,eb,hFA,r0]
end
end Go.Proofs.YtkofimhnehkdoaaGreatDoor.Rf
end
