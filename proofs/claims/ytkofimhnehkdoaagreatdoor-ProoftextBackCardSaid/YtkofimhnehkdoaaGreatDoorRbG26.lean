/- A part. -/
import Derived.Test.YtkofimhnehkdoaaGreatDoorRbG25
set_option linter.unusedVariables false
set_option linter.unusedSimpArgs false
section
namespace Go.Proofs.YtkofimhnehkdoaaGreatDoor.Rf
abbrev hpC (hp:List HObj) (m:Nat) (C:List AV) : List HObj := hp ++ List.replicate m .dead ++ [.cells 0 C]
theorem hpC_get (hp:List HObj) (m:Nat) (C:List AV) : (hpC hp m C)[hp.length + m]? = some (.cells 0 C) := by
 unfold hpC
 rw [List.getElem?_append_right (by simp)]
 simp
theorem hpC_set (hp:List HObj) (m:Nat) (C D:List AV) : (hpC hp m C).set (hp.length + m) (.cells 0 D) = hpC hp m D := by
 unfold hpC
 rw [List.set_append_right _ _ (by simp)]
 simp
theorem prH_hpC (hp:List HObj) (x:S) (r:List S) : prH hp (x :: r) = hpC hp r.length (sbZs (x :: r)) := rfl
def outSb5 (TL:List AV) (ow:Own) (hp:List HObj) (m id n:Nat) (rl:List Int) (ru:Int) (dn:List Sb) : SbR → Ex × St → Prop
 | .err c,st => ∃ hp',st = (.ret,⟨[(2,boxZ14),(3,.int .i64 c)],hp'⟩)
 | .ok l,st => st = (.exit 0,⟨[(2,boxZ14),(4,.box (cellsP 5 rl ru (.sref id 0 n 6))),(20,.list TL ow),(21,.int .i64 TL.length),(22,.int .i64 TL.length),(23,.bool false)],hpC hp m (sbC (dn ++ l))⟩)
section
variable {lo:Nat}
theorem readP_L (L:List S) (ow:Own) (hL:L.length ≤ 65536) (hp:List HObj) (lo:Nat) (hlo:lo ≤ hp.length) (m n:Nat) (hn:L.length = n) (rl:List Int) (ru:Int) : ∀ (r p:List S) (dn:List Sb),L = p ++ r → dn.length = p.length → (∀ x,x ∈ r → x.fit ∧ pairB x = true) →
   ∃ st,loopD G0 IP lo l_pt_read_0 ⟨[(2,boxZ14),(4,.box (cellsP 5 rl ru (.sref (hp.length + m) 0 n 6))),(20,.list (S.avs (L.map trS)) ow),(21,.int .i64 (S.avs (L.map trS)).length),(22,.int .i64 p.length)],hpC hp m (sbC dn ++ sbZs r)⟩ = some st ∧
     outSb5 (S.avs (L.map trS)) ow hp m (hp.length + m) n rl ru dn (subsS r) st
 | [],p,dn,h,hd,_ => by
   simp at h
   subst h
   refine ⟨(.exit 0,⟨[(2,boxZ14),(4,.box (cellsP 5 rl ru (.sref (hp.length + m) 0 n 6))),(20,.list (S.avs (L.map trS)) ow),(21,.int .i64 (S.avs (L.map trS)).length),(22,.int .i64 (S.avs (L.map trS)).length),(23,.bool false)],hpC hp m (sbC dn)⟩),?_,?_⟩
   · have : sbC dn ++ sbZs [] = sbC dn := by simp [sbZs]
     rw [this,loopD_eq,loopBody]
     have hl : (S.avs (L.map trS)).length = L.length := by simp
     generalize hpC hp m (sbC dn) = H
     simp [l_pt_read_0]
   · simp [subsS,outSb5]
 | x :: r,p,dn,h,hd,hx => by
   obtain ⟨xf,xp⟩ := hx x (by simp)
   obtain ⟨a,u,hxl⟩ := pairB_two xp
   have hf := (S.fit_eq x).1 xf
   have hu : u.sm := S.sm_of_fit u (hf.2.2.2 u (by rw [hxl]; simp))
   have hlen : L.length = p.length + (r.length + 1) := by rw [h]; simp
   have hTL : (S.avs (L.map trS)).length = L.length := by simp
   have hj : p.length < (S.avs (L.map trS)).length := by omega
   have ht : trS x = u := by unfold trS; rw [hxl]; rfl
   have h2 : (S.avs (L.map trS))[p.length] = u.av := by simp [h,ht]
   have g1 : x.list.getD 1 zS = u := ht
   have hid : lo ≤ hp.length + m := by omega
   have hC : p.length * 6 + 6 ≤ (sbC dn ++ sbZs (x :: r)).length := by rw [List.length_append,sbC_len,sbZs_len,hd]; simp; omega
   rw [loopD_eq,loopBody,subsS,g1]
   cases hr : readS u with
   | err c =>
     have e1 := readP_err (lo := lo) (S.avs (L.map trS)) ow p.length (hpC hp m (sbC dn ++ sbZs (x :: r))) hj u hu h2 c hr (cellsP 5 rl ru (.sref (hp.length + m) 0 n 6))
     rw [evR] at e1
     exact ⟨_,by rw [e1],_,rfl⟩
   | ok t =>
     have e1 := readP_5 (lo := lo) (S.avs (L.map trS)) ow p.length (hpC hp m (sbC dn ++ sbZs (x :: r))) hj (by omega) u hu h2 t hr rl ru (hp.length + m) n _ (hpC_get hp m _) hid (by omega) (by omega) hC
     rw [evR,hpC_set,← hd,put_sbC,hd] at e1
     obtain ⟨st,hs1,hs2⟩ := readP_L L ow hL hp lo hlo m n hn rl ru r (p ++ [x]) (dn ++ [⟨nmS x,t⟩]) (by rw [h]; simp) (by simp [hd]) (fun y hy => hx y (by simp [hy]))
     simp only [List.length_append,List.length_cons,List.length_nil,Nat.zero_add,Int.natCast_add,Int.natCast_one] at hs1
     refine ⟨st,by rw [e1]; exact hs1,?_⟩
     cases hsb : subsS r with
     | err c => rw [hsb] at hs2; exact hs2
     | ok l => rw [hsb] at hs2; simpa [outSb5,nmS] using hs2
end
end Go.Proofs.YtkofimhnehkdoaaGreatDoor.Rf
end
section
namespace Go.Proofs.YtkofimhnehkdoaaGreatDoor.Rf
section
variable {hp:List HObj} {lo:Nat}
theorem read_bad (e:S) (hb:∀ hp lo,lo ≤ hp.length → badT (callD G0 IP n_pt_step [e.av] hp lo false)) (hp:List HObj) (lo:Nat) (q:Bool) : callD G0 IP n_pt_read [e.av] hp lo q = some ((StR.err 6).tup hp) := by
 obtain ⟨k,a,ru,hp',h1⟩ := hb hp hp.length (Nat.le_refl _)
 rw [callD_eq]
 rw [S.av_eq] at h1 ⊢
 simp [IP_pt_read,i_pt_read,h1,StR.tup,stz_av]
theorem read_none (e:S) (k:Int) (rl:List Int) (ru:Int) (o:Own) (hs:∀ hp lo,lo ≤ hp.length → callD G0 IP n_pt_step [e.av] hp lo false = some (.ret (.tup [.agg (cellsF k rl ru),.list [] o,.bool true]) hp)) (hp:List HObj) (lo:Nat) (q:Bool) :
   callD G0 IP n_pt_read [e.av] hp lo q = some ((StR.ok ⟨k,rl.isEmpty,rl,ru,true,[],T.z,T.z⟩).tup hp) := by
 have h1 := hs hp hp.length (Nat.le_refl _)
 have hl : ∀ (B:List AV) (o:Own) (hp:List HObj) (lo:Nat),loopD G0 IP lo l_pt_read_0 ⟨[(2,boxZ14),(4,.box B),(20,.list [] o),(21,.int .i64 0),(22,.int .i64 0)],hp⟩ = some (.exit 0,⟨[(2,boxZ14),(4,.box B),(20,.list [] o),(21,.int .i64 0),(22,.int .i64 0),(23,.bool false)],hp⟩) := fun B o hp lo => by
   rw [loopD_eq,loopBody]; simp [l_pt_read_0]
 rw [callD_eq]
 rw [S.av_eq] at h1 ⊢
 simp [IP_pt_read,i_pt_read,h1,hl,StR.tup,st_av]
 first | exact i64s_closed _ _ | exact ⟨i64s_closed _ _,rfl,rfl,rfl,rfl,rfl,⟨rfl,rfl⟩,rfl,rfl,rfl,rfl,rfl,rfl⟩
set_option maxHeartbeats 2000000 in
theorem read_one (e z:S) (k:Int) (hk:¬ k = 5) (rl:List Int) (hz:z.sm) (hs:∀ hp lo,lo ≤ hp.length → callD G0 IP n_pt_step [e.av] hp lo false = some (.ret (.tup [.agg (cellsF k rl 0),.list [z.av] .no,.bool true]) hp)) (hp:List HObj) (lo:Nat) (q:Bool) :
   callD G0 IP n_pt_read [e.av] hp lo q = some ((match readS z with | .err c => StR.err c | .ok t => .ok ⟨k,rl.isEmpty,rl,0,true,[],t,T.z⟩).tup hp) := by
 have h1 := hs hp hp.length (Nat.le_refl _)
 have e1 := fun hp lo q => read_D z hz hp lo q
 rw [callD_eq]
 rw [S.av_eq] at h1 ⊢
 rw [S.av_eq z] at h1 e1
 cases hr : readS z with
 | err c =>
   have hc := readS_ne z c hr
   simp only [hr,tup_err] at e1
   have hl : ∀ (B:List AV) (hp:List HObj) (lo:Nat),loopD G0 IP lo l_pt_read_0 ⟨[(2,boxZ14),(4,.box B),(20,.list [.agg [.str z.atom,.list (S.avs z.list) (ownB z.o)]] .no),(21,.int .i64 1),(22,.int .i64 0)],hp⟩ = some (.ret,⟨[(2,boxZ14),(3,.int .i64 c)],hp⟩) := fun B hp lo => by
     rw [loopD_eq,loopBody]; simp [l_pt_read_0,e1,hc]
   simp [IP_pt_read,i_pt_read,h1,hl,StR.tup,stz_av]
 | ok t =>
   simp only [hr,tup_ok,T.av_eq] at e1
   have hl : ∀ (hp:List HObj) (lo:Nat),loopD G0 IP lo l_pt_read_0 ⟨[(2,boxZ14),(4,.box (cellsF k rl 0)),(20,.list [.agg [.str z.atom,.list (S.avs z.list) (ownB z.o)]] .no),(21,.int .i64 1),(22,.int .i64 0)],hp⟩ =
       some (.exit 0,⟨[(2,boxZ14),(4,.box (St7.mk k rl.isEmpty rl 0 true [] t T.z).cells),(20,.list [.agg [.str z.atom,.list (S.avs z.list) (ownB z.o)]] .no),(21,.int .i64 1),(22,.int .i64 1),(23,.bool false)],hp⟩) := fun hp lo => by
     rw [loopD_eq,loopBody]
     have hw : IntKind.wrap .i64 (0 + 1) = 1 := rfl
     simp [l_pt_read_0,e1,hk]
     rw [loopD_eq,loopBody]
     simp [l_pt_read_0]
     rfl
   simp [IP_pt_read,i_pt_read,h1,hl,StR.tup,st_av]
   first | exact i64s_closed _ _ | exact ⟨i64s_closed _ _,rfl,rfl,rfl,rfl,rfl,⟨rfl,rfl⟩,rfl,rfl,rfl,rfl,rfl,rfl⟩
set_option maxHeartbeats 2000000 in
theorem read_two (e z w:S) (k:Int) (hk:¬ k = 5) (rl:List Int) (hz:z.sm) (hw:w.sm) (hs:∀ hp lo,lo ≤ hp.length → callD G0 IP n_pt_step [e.av] hp lo false = some (.ret (.tup [.agg (cellsF k rl 0),.list [z.av,w.av] .no,.bool true]) hp)) (hp:List HObj) (lo:Nat) (q:Bool) :
   callD G0 IP n_pt_read [e.av] hp lo q = some ((match readS z with | .err c => StR.err c | .ok t => match readS w with | .err c => .err c | .ok u => .ok ⟨k,rl.isEmpty,rl,0,true,[],t,u⟩).tup hp) := by
 have h1 := hs hp hp.length (Nat.le_refl _)
 have e1 := fun hp lo q => read_D z hz hp lo q
 have e2 := fun hp lo q => read_D w hw hp lo q
 have hw1 : IntKind.wrap .i64 1 = 1 := rfl
 rw [callD_eq]
 rw [S.av_eq] at h1 ⊢
 rw [S.av_eq z] at h1 e1
 rw [S.av_eq w] at h1 e2
 cases hr : readS z with
 | err c =>
   have hc := readS_ne z c hr
   simp only [hr,tup_err] at e1
   have hl : ∀ (B:List AV) (hp:List HObj) (lo:Nat),loopD G0 IP lo l_pt_read_0 ⟨[(2,boxZ14),(4,.box B),(20,.list [.agg [.str z.atom,.list (S.avs z.list) (ownB z.o)],.agg [.str w.atom,.list (S.avs w.list) (ownB w.o)]] .no),(21,.int .i64 2),(22,.int .i64 0)],hp⟩ = some (.ret,⟨[(2,boxZ14),(3,.int .i64 c)],hp⟩) := fun B hp lo => by
     rw [loopD_eq,loopBody]; simp [l_pt_read_0,e1,hc]
   simp [IP_pt_read,i_pt_read,h1,hl,StR.tup,stz_av]
 | ok t =>
   simp only [hr,tup_ok,T.av_eq] at e1
   cases hr2 : readS w with
   | err c =>
     have hc := readS_ne w c hr2
     simp only [hr2,tup_err] at e2
     have hl : ∀ (hp:List HObj) (lo:Nat),loopD G0 IP lo l_pt_read_0 ⟨[(2,boxZ14),(4,.box (cellsF k rl 0)),(20,.list [.agg [.str z.atom,.list (S.avs z.list) (ownB z.o)],.agg [.str w.atom,.list (S.avs w.list) (ownB w.o)]] .no),(21,.int .i64 2),(22,.int .i64 0)],hp⟩ = some (.ret,⟨[(2,boxZ14),(3,.int .i64 c)],hp⟩) := fun hp lo => by
       rw [loopD_eq,loopBody]
       simp [l_pt_read_0,e1,hk,hw1]
       rw [loopD_eq,loopBody]
       simp [l_pt_read_0,e2,hc]
     simp [IP_pt_read,i_pt_read,h1,hl,StR.tup,stz_av]
   | ok u =>
     simp only [hr2,tup_ok,T.av_eq] at e2
     have hl : ∀ (hp:List HObj) (lo:Nat),loopD G0 IP lo l_pt_read_0 ⟨[(2,boxZ14),(4,.box (cellsF k rl 0)),(20,.list [.agg [.str z.atom,.list (S.avs z.list) (ownB z.o)],.agg [.str w.atom,.list (S.avs w.list) (ownB w.o)]] .no),(21,.int .i64 2),(22,.int .i64 0)],hp⟩ =
         some (.exit 0,⟨[(2,boxZ14),(4,.box (St7.mk k rl.isEmpty rl 0 true [] t u).cells),(20,.list [.agg [.str z.atom,.list (S.avs z.list) (ownB z.o)],.agg [.str w.atom,.list (S.avs w.list) (ownB w.o)]] .no),(21,.int .i64 2),(22,.int .i64 2),(23,.bool false)],hp⟩) := fun hp lo => by
       rw [loopD_eq,loopBody]
       simp [l_pt_read_0,e1,hk,hw1]
       rw [loopD_eq,loopBody]
       simp [l_pt_read_0,e2,hk]
       rw [loopD_eq,loopBody]
       simp [l_pt_read_0]
       rfl
     simp [IP_pt_read,i_pt_read,h1,hl,StR.tup,st_av]
     first | exact i64s_closed _ _ | exact ⟨i64s_closed _ _,rfl,rfl,rfl,rfl,rfl,⟨rfl,rfl⟩,rfl,rfl,rfl,rfl,rfl,rfl⟩
set_option maxHeartbeats 2000000 in
theorem read_subs (e w:S) (hwf:w.fit) (hn:namedB w = true) (rl:List Int) (ru:Int) (hs:∀ hp lo,lo ≤ hp.length → ∃ ow,callD G0 IP n_pt_step [e.av] hp lo false = some (.ret (.tup [.agg (cellsP 5 rl ru (prV hp.length w.list)),.list (S.avs (w.list.map trS)) ow,.bool true]) (prH hp w.list))) (hp:List HObj) (lo:Nat) (q:Bool) :
   callD G0 IP n_pt_read [e.av] hp lo q = some ((match subsS w.list with | .err c => StR.err c | .ok sb => .ok ⟨5,rl.isEmpty,rl,ru,sb.isEmpty,sb,T.z,T.z⟩).tup hp) := by
 obtain ⟨ow,h1⟩ := hs hp hp.length (Nat.le_refl _)
 have hwl := (S.fit_eq w).1 hwf
 cases hl : w.list with
 | nil =>
   rw [hl] at h1
   simp only [prV,prH,List.map_nil,S.avs_nil] at h1
   have hl : ∀ (B:List AV) (ow:Own) (hp:List HObj) (lo:Nat),loopD G0 IP lo l_pt_read_0 ⟨[(2,boxZ14),(4,.box B),(20,.list [] ow),(21,.int .i64 0),(22,.int .i64 0)],hp⟩ = some (.exit 0,⟨[(2,boxZ14),(4,.box B),(20,.list [] ow),(21,.int .i64 0),(22,.int .i64 0),(23,.bool false)],hp⟩) := fun B ow hp lo => by
     rw [loopD_eq,loopBody]; simp [l_pt_read_0]
   rw [callD_eq]
   rw [S.av_eq] at h1 ⊢
   simp [IP_pt_read,i_pt_read,h1,hl,StR.tup,st_av,subsS]
   first | exact i64s_closed _ _ | exact ⟨i64s_closed _ _,rfl,rfl,rfl,rfl,rfl,⟨rfl,rfl⟩,rfl,rfl,rfl,rfl,rfl,rfl⟩
 | cons x r =>
   rw [hl] at h1
   simp only [namedB,Bool.and_eq_true,List.all_eq_true] at hn
   have hloop := readP_L (x :: r) ow.cp (by rw [← hl]; exact hwl.2.1) hp hp.length (Nat.le_refl _) r.length (r.length + 1) rfl rl ru (x :: r) [] [] rfl rfl (fun y hy => ⟨hwl.2.2.2 y (by rw [hl]; exact hy),hn.1 y (by rw [hl]; exact hy)⟩)
   obtain ⟨st,hs1,hs2⟩ := hloop
   rw [prV_cons,prH_hpC] at h1
   have e0 : sbC [] ++ sbZs (x :: r) = sbZs (x :: r) := rfl
   rw [e0] at hs1
   simp only [List.length_nil,Int.natCast_zero] at hs1
   have hget : ∀ C,(hpC hp r.length C)[hp.length + r.length]? = some (.cells 0 C) := fun C => hpC_get hp r.length C
   have hlen : ∀ sb : List Sb,subsS (x :: r) = .ok sb → sb.length = r.length + 1 := by
     have : ∀ (l:List S) (sb:List Sb),subsS l = .ok sb → sb.length = l.length := by
       intro l
       induction l with
       | nil => intro sb h; simp [subsS] at h; subst h; rfl
       | cons y s ih =>
         intro sb h
         rw [subsS] at h
         split at h
         · cases h
         · split at h
           · cases h
           · rename_i l' hl'
             cases h
             simp [ih _ hl']
     exact fun sb h => this _ sb h
   rw [callD_eq]
   rw [S.av_eq] at h1 ⊢
   have hsr : ∀ C,(hpC hp r.length C).take hp.length = hp := fun C => by simp [hpC]
   have hid : hp.length ≤ hp.length + r.length := by omega
   cases hsub : subsS (x :: r) with
   | err c =>
     rw [hsub] at hs2
     obtain ⟨hp',rfl⟩ := hs2
     generalize hpC hp r.length (sbZs (x :: r)) = H at *
     generalize S.avs ((x :: r).map trS) = X at *
     simp [IP_pt_read,i_pt_read,h1,hs1,StR.tup,stz_av]
   | ok sb =>
     have hsl := hlen sb hsub
     rw [hsub] at hs2
     simp only [outSb5,List.nil_append] at hs2
     subst hs2
     have hch := chunks_sbC sb
     rw [hsl] at hch
     have hcl := sbC_len sb
     rw [hsl] at hcl
     have hg := hget (sbC sb)
     generalize hpC hp r.length (sbZs (x :: r)) = H at *
     generalize hpC hp r.length (sbC sb) = H2 at *
     generalize S.avs ((x :: r).map trS) = X at *
     generalize hp.length + r.length = id at *
     have hne : sb.isEmpty = false := by cases sb <;> simp at hsl ⊢
     simp [IP_pt_read,i_pt_read,h1,hs1,StR.tup,st_av,hg,hid,hcl,hch,hne]
     first | exact ⟨i64s_closed _ _,sbs_closed _ _⟩ | exact ⟨⟨i64s_closed _ _,sbs_closed _ _⟩,rfl,rfl,rfl,rfl,rfl,⟨rfl,rfl⟩,rfl,rfl,rfl,rfl,rfl,rfl⟩
end
end Go.Proofs.YtkofimhnehkdoaaGreatDoor.Rf
end
