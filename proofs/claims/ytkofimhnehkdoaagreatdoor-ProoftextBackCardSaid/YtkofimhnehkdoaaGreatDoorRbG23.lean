/- A part. -/
import Derived.Test.YtkofimhnehkdoaaGreatDoorRbG22
set_option linter.unusedVariables false
set_option linter.unusedSimpArgs false
section
namespace Go.Proofs.YtkofimhnehkdoaaGreatDoor.Rf
theorem T.sizes_mem : ∀ l : List T,(l.length : Int) ≤ T.sizes l ∧ ∀ x,x ∈ l → x.size ≤ T.sizes l := by
 intro l
 induction l with
 | nil => simp [T.sizes]
 | cons x r ihr =>
   have hx : 1 ≤ x.size := by rw [T.size_eq]; omega
   refine ⟨by simp only [T.sizes,List.length_cons]; have := ihr.1; omega,fun y hy => ?_⟩
   simp only [T.sizes]
   rcases List.mem_cons.1 hy with rfl | hy
   · omega
   · have := ihr.2 y hy; omega
mutual
def T.nodesE : T → Int
 | .mk op w v n o as => if ¬ T.nodesEs as = 0 then T.nodesEs as else nodeE (.mk op w v n o as)
def T.nodesEs : List T → Int
 | [] => 0
 | t :: r => if ¬ t.nodesE = 0 then t.nodesE else T.nodesEs r
end
theorem T.nodesE_eq (t:T) : t.nodesE = if ¬ T.nodesEs t.args = 0 then T.nodesEs t.args else nodeE t := by cases t; rfl
mutual
def T.post : T → List T
 | .mk op w v n o as => T.posts as ++ [.mk op w v n o as]
def T.posts : List T → List T
 | [] => []
 | t :: r => t.post ++ T.posts r
end
theorem T.post_eq (t:T) : t.post = T.posts t.args ++ [t] := by cases t; rfl
mutual
theorem T.post_len : ∀ t : T,t.post.length = t.size
 | .mk op w v n o as => by simp only [T.post,T.size,List.length_append,List.length_cons,List.length_nil,T.posts_len as]; omega
theorem T.posts_len : ∀ as : List T,(T.posts as).length = T.sizes as
 | [] => rfl
 | t :: r => by simp only [T.posts,T.sizes,List.length_append,T.post_len t,T.posts_len r]
end
def ownT5 (acc:List T) : Own := if acc.isEmpty then .nil else .own 5 0
theorem ownT5_ok (acc:List T) : ownT5 acc = .nil ∨ ownT5 acc = .own 5 0 := by cases acc <;> simp [ownT5]
theorem ownT5_ne {acc:List T} (h:acc ≠ []) : ownT5 acc = .own 5 0 := by cases acc <;> simp [ownT5] at h ⊢
@[simp] theorem okSize_T (l:List T) : okSize 5 (T.avs l) = true := by cases l <;> simp [T.avs,T.av_eq]
def confl (l:List T) (i k:Nat) : Bool := decide ((l.getD i T.z).op = 1) && (decide ((l.getD k T.z).op = 1) && (decide ((l.getD i T.z).name = (l.getD k T.z).name) && !decide ((l.getD i T.z).width = (l.getD k T.z).width)))
def checkT (t:T) : Int := if t.cnt 64 4096 < 0 then 7 else if ¬ t.nodesE = 0 then t.nodesE else if (List.range t.post.length).any (fun i => (List.range i).any (confl t.post i)) then 12 else 0
section
variable {hp:List HObj} {lo:Nat}
def outN (t:T) (hp:List HObj) (c:Int) : Ex × St := if ¬ c = 0 then (.ret,⟨[(2,.int .i64 c)],hp⟩) else (.exit 0,⟨[(1,.box t.cells),(3,.int .i64 t.args.length),(9,.bool false)],hp⟩)
theorem nodes6_L (t:T) (hl:t.args.length ≤ 9223372036854775806) (hp:List HObj) (lo:Nat) : ∀ (r p:List T),t.args = p ++ r →
   (∀ x,x ∈ r → ∀ hp lo q,callD G0 IP n_sr06_nodes [x.av] hp lo q = some (.ret (.int .i64 x.nodesE) hp)) →
   loopD G0 IP lo l_sr06_nodes_0 ⟨[(1,.box t.cells),(3,.int .i64 p.length)],hp⟩ = some (outN t hp (T.nodesEs r))
 | [],p,h,_ => by
   rw [loopD_eq,loopBody]
   simp at h
   simp [l_sr06_nodes_0,T.nodesEs,outN,h]
 | x :: r,p,h,ih => by
   rw [loopD_eq,loopBody]
   have hlen : t.args.length = p.length + (r.length + 1) := by rw [h]; simp
   have h1 : (p.length : Int) < (t.args.length : Int) := by omega
   have hll : p.length < t.args.length := by omega
   have h2 : t.args[p.length] = x := by simp [h]
   have hw : IntKind.wrap .i64 ((p.length : Int) + 1) = (p.length : Int) + 1 := wrap_small (by omega) (by omega)
   have e1 := ih x (by simp) hp lo false
   rw [T.av_eq] at e1
   have e2 := nodes6_L t hl hp lo r (p ++ [x]) (by rw [h]; simp) (fun y hy => ih y (by simp [hy]))
   simp only [List.length_append,List.length_cons,List.length_nil,Nat.zero_add,Int.natCast_add,Int.natCast_one] at e2
   by_cases hz : x.nodesE = 0
   · rw [hz] at e1
     simp [l_sr06_nodes_0,hll,h1,h2,T.av_eq x,e1,T.nodesEs,hz,hw]
     exact e2
   · simp [l_sr06_nodes_0,hll,h1,h2,T.av_eq x,e1,T.nodesEs,hz,outN]
theorem nodes6_D (t:T) : t.wf → (t.size : Int) ≤ 10000 → ∀ hp lo q,callD G0 IP n_sr06_nodes [t.av] hp lo q = some (.ret (.int .i64 t.nodesE) hp) := by
 induction t using T.ind with | h t ih =>
 intro hw hsz hp lo q
 have hwf := (T.wf_eq t).1 hw
 have hs2 := T.sizes_mem t.args
 rw [T.size_eq] at hsz
 have en := fun hp lo q => node6_D t hw (by omega) hp lo q
 have e1 := nodes6_L t (by omega) hp hp.length t.args [] rfl (fun x hx => ih x hx (hwf.2.2.2.2.2.2 x hx) (by have := hs2.2 x hx; omega))
 rw [callD_eq,T.nodesE_eq]
 rw [T.av_eq] at en ⊢
 simp [T.cells] at e1
 by_cases hz : T.nodesEs t.args = 0
 · rw [hz] at e1
   simp [outN] at e1
   simp [IP_sr06_nodes,i_sr06_nodes,e1,en,hz]
 · simp [outN,hz] at e1
   simp [IP_sr06_nodes,i_sr06_nodes,e1,hz]
theorem post6_L (t:T) (hsz:t.size ≤ 10000) (hp:List HObj) (lo:Nat) : ∀ (r p:List T),t.args = p ++ r →
   (∀ x,x ∈ r → ∀ hp lo q,callD G0 IP n_sr06_Post [x.av] hp lo q = some (.ret (.list (T.avs x.post) (.own 5 0)) hp)) →
   loopD G0 IP lo l_sr06_Post_0 ⟨[(1,.box t.cells),(3,.list (T.avs (T.posts p)) (ownT5 (T.posts p))),(4,.int .i64 p.length)],hp⟩ =
     some (.exit 0,⟨[(1,.box t.cells),(3,.list (T.avs (T.posts t.args)) (ownT5 (T.posts t.args))),(4,.int .i64 t.args.length),(9,.bool false)],hp⟩)
 | [],p,h,_ => by
   rw [loopD_eq,loopBody]
   simp at h
   simp [l_sr06_Post_0,h]
 | x :: r,p,h,ih => by
   rw [loopD_eq,loopBody]
   have hlen : t.args.length = p.length + (r.length + 1) := by rw [h]; simp
   have h1 : (p.length : Int) < (t.args.length : Int) := by omega
   have hll : p.length < t.args.length := by omega
   have h2 : t.args[p.length] = x := by simp [h]
   have hsl : t.args.length ≤ T.sizes t.args := by have := (T.sizes_mem t.args).1; omega
   have hsz2 := hsz
   rw [T.size_eq] at hsz2
   have hw : IntKind.wrap .i64 ((p.length : Int) + 1) = (p.length : Int) + 1 := wrap_small (by omega) (by omega)
   have e1 := ih x (by simp) hp lo false
   rw [T.av_eq] at e1
   have hpp : ∀ a b : List T,T.posts (a ++ b) = T.posts a ++ T.posts b := fun a b => by
     induction a with
     | nil => rfl
     | cons y s ihs => simp [T.posts,ihs]
   have e2 := post6_L t hsz hp lo r (p ++ [x]) (by rw [h]; simp) (fun y hy => ih y (by simp [hy]))
   have hx1 : T.posts [x] = x.post := by simp [T.posts]
   have hne : x.post ≠ [] := by rw [T.post_eq]; simp
   rw [hpp,hx1,ownT5_ne (by simp [hne]),T.avs_app] at e2
   simp only [List.length_append,List.length_cons,List.length_nil,Nat.zero_add,Int.natCast_add,Int.natCast_one] at e2
   have hl1 : (T.avs (T.posts p)).length + (T.avs x.post).length ≤ 10000 := by
     rw [T.avs_len,T.avs_len,T.posts_len,T.post_len]
     rw [h,T.sizes_app] at hsz2
     simp only [T.sizes] at hsz2
     omega
   have hb1 : ((T.avs (T.posts p)).length + (T.avs x.post).length) * 64 ≤ 140737488355328 := by omega
   have hb2 : (T.avs (T.posts p)).length + (T.avs x.post).length ≤ 9223372036854775807 := by omega
   have hok1 := okSize_T (T.posts p)
   have hok2 := okSize_T x.post
   have how := ownT5_ok (T.posts p)
   generalize ownT5 (T.posts p) = ow at *
   generalize T.avs (T.posts p) = A at *
   generalize T.avs x.post = B at *
   simp [l_sr06_Post_0,hll,h1,h2,T.av_eq x,e1,how,hok1,hok2,hb1,hb2,hw]
   exact e2
theorem post6_D (t:T) : t.wf → t.size ≤ 10000 → ∀ hp lo q,callD G0 IP n_sr06_Post [t.av] hp lo q = some (.ret (.list (T.avs t.post) (.own 5 0)) hp) := by
 induction t using T.ind with | h t ih =>
 intro hw hsz hp lo q
 have hwf := (T.wf_eq t).1 hw
 have hs2 := T.sizes_mem t.args
 have hsz2 := hsz
 rw [T.size_eq] at hsz2
 have e1 := fun (hp:List HObj) (lo:Nat) => post6_L t hsz hp lo t.args [] rfl (fun x hx => ih x hx (hwf.2.2.2.2.2.2 x hx) (by have := hs2.2 x hx; omega))
 simp only [T.cells,T.posts,T.avs,List.length_nil,Int.natCast_zero,show ownT5 [] = .nil from rfl] at e1
 have hl1 : (T.avs (T.posts t.args)).length + 1 ≤ 10000 := by
   rw [T.avs_len,T.posts_len]; omega
 have hb1 : ((T.avs (T.posts t.args)).length + 1) * 64 ≤ 140737488355328 := by omega
 have hb2 : (T.avs (T.posts t.args)).length + 1 ≤ 9223372036854775807 := by omega
 have hok1 := okSize_T (T.posts t.args)
 have how := ownT5_ok (T.posts t.args)
 have hcl : ∀ n,AV.closedL n (T.avs (T.posts t.args)) = true := fun n => T.avs_closed n _
 have hca : ∀ n,AV.closedL n (T.avs t.args) = true := fun n => T.avs_closed n _
 rw [callD_eq,T.post_eq,T.avs_app,show T.avs [t] = [t.av] from rfl,T.av_eq]
 generalize ownT5 (T.posts t.args) = ow at *
 generalize T.avs (T.posts t.args) = A at *
 simp [IP_sr06_Post,i_sr06_Post,e1,how,hok1,hb1,hb2,hcl,hca]
set_option maxHeartbeats 2000000 in
theorem check6_L (l:List T) (o:Own) (hl:l.length ≤ 10000) (i:Nat) (hi:i < l.length) (hp:List HObj) (lo:Nat) :
   loopD G0 IP lo l_sr06_Check_1 ⟨[(4,.list (T.avs l) o),(5,.int .i64 i),(6,.int .i64 0)],hp⟩ =
     some (if (List.range i).any (confl l i) then (.ret,⟨[(2,.int .i64 12)],hp⟩) else (.exit 2,⟨[(4,.list (T.avs l) o),(5,.int .i64 i),(6,.int .i64 i),(25,.bool false)],hp⟩)) := by
 have hi' : l[i]?.getD T.z = l[i] := by simp [hi]
 exact loop_find (G := G0) (IP := IP) (lo := lo) (b := l_sr06_Check_1)
   (fun k => ⟨[(4,.list (T.avs l) o),(5,.int .i64 i),(6,.int .i64 k)],hp⟩) i (confl l i)
   (.ret,⟨[(2,.int .i64 12)],hp⟩) (.exit 2,⟨[(4,.list (T.avs l) o),(5,.int .i64 i),(6,.int .i64 i),(25,.bool false)],hp⟩)
   (fun k hk hp1 => by
     have hkl : k < l.length := by omega
     have hI : (k:Int) < (i:Int) := by omega
     have hw := wrap_succ hk (n := i) (by omega)
     have hp2 : confl l i k = false := hp1
     simp only [confl,List.getD_eq_getElem?_getD,List.getElem?_eq_getElem hi,List.getElem?_eq_getElem hkl,Option.getD_some] at hp2
     rw [← hw]
     by_cases a1 : l[i].op = 1
     · by_cases a2 : l[k].op = 1
       · by_cases a3 : l[i].name = l[k].name
         · by_cases a4 : l[i].width = l[k].width
           · simp [l_sr06_Check_1,hI,hi,hkl,T.av_eq l[i],T.av_eq l[k],a1,a2,a3,a4]
           · simp [a1,a2,a3,a4] at hp2
         · simp [l_sr06_Check_1,hI,hi,hkl,T.av_eq l[i],T.av_eq l[k],a1,a2,a3]
       · simp [l_sr06_Check_1,hI,hi,hkl,T.av_eq l[i],T.av_eq l[k],a1,a2]
     · simp [l_sr06_Check_1,hI,hi,hkl,T.av_eq l[i],T.av_eq l[k],a1])
   (fun k hk hp1 => by
     have hkl : k < l.length := by omega
     have hI : (k:Int) < (i:Int) := by omega
     have hp2 : confl l i k = true := hp1
     simp only [confl,List.getD_eq_getElem?_getD,List.getElem?_eq_getElem hi,List.getElem?_eq_getElem hkl,Option.getD_some,Bool.and_eq_true,decide_eq_true_eq,Bool.not_eq_true',decide_eq_false_iff_not] at hp2
     obtain ⟨a1,a2,a3,a4⟩ := hp2
     simp [l_sr06_Check_1,hI,hi,hkl,T.av_eq l[i],T.av_eq l[k],a1,a2,a3,a4])
   (by simp) (by simp [l_sr06_Check_1]) (by simp)
theorem check6_D (t:T) (hw:t.wf) (hp:List HObj) (lo:Nat) (q:Bool) : callD G0 IP n_sr06_Check [t.av] hp lo q = some (.ret (.int .i64 (checkT t)) hp) := by
 have ec := fun hp lo q => count_D t hw 64 4096 (by omega) (by omega) (by omega) (by omega) hp lo q
 rw [callD_eq,checkT]
 by_cases hc : t.cnt 64 4096 < 0
 · rw [T.av_eq] at ec ⊢
   simp [IP_sr06_Check,i_sr06_Check,ec,hc]
 · have hge := T.cnt_ge t 64 4096 (by omega)
   have hsz : (t.size : Int) ≤ 4096 := by omega
   have en := fun hp lo q => nodes6_D t hw (by omega) hp lo q
   have ep := fun hp lo q => post6_D t hw (by omega) hp lo q
   have hlen : t.post.length ≤ 10000 := by rw [T.post_len]; omega
   rw [T.av_eq] at ec en ep ⊢
   by_cases hz : t.nodesE = 0
   · rw [hz] at en
     generalize t.post = l at *
     have hloop := fun (o:Own) (hp:List HObj) (lo:Nat) => loop_find (G := G0) (IP := IP) (lo := lo) (b := l_sr06_Check_0)
       (fun i => ⟨[(4,.list (T.avs l) o),(5,.int .i64 i)],hp⟩) l.length (fun i => (List.range i).any (confl l i))
       (.ret,⟨[(2,.int .i64 12)],hp⟩) (.exit 0,⟨[(4,.list (T.avs l) o),(5,.int .i64 l.length),(20,.bool false)],hp⟩)
       (fun i hi hp1 => by
         have hI : (i:Int) < (l.length : Int) := by omega
         have hw := wrap_succ hi (n := l.length) (by omega)
         have e1 := check6_L l o hlen i hi hp lo
         simp only [hp1,Bool.false_eq_true,if_false] at e1
         rw [← hw]
         simp [l_sr06_Check_0,hI,e1])
       (fun i hi hp1 => by
         have hI : (i:Int) < (l.length : Int) := by omega
         have e1 := check6_L l o hlen i hi hp lo
         simp only [hp1,if_true] at e1
         simp [l_sr06_Check_0,hI,e1])
       (by simp) (by simp [l_sr06_Check_0]) (by simp)
     simp only [Int.natCast_zero] at hloop
     cases ha : (List.range l.length).any (fun i => (List.range i).any (confl l i)) with
     | true =>
       simp only [ha,if_true] at hloop
       simp [IP_sr06_Check,i_sr06_Check,ec,hc,hz,en,ep,hloop]
     | false =>
       simp only [ha,Bool.false_eq_true,if_false] at hloop
       simp [IP_sr06_Check,i_sr06_Check,ec,hc,hz,en,ep,hloop]
   · simp [IP_sr06_Check,i_sr06_Check,ec,hc,hz,en]
end
theorem node_valid {t:T} (h:nodeE t = 0) : notE t = true ∧ (widE t.op t.width t.val (t.args.map T.width)).2 = 0 ∧ (widE t.op t.width t.val (t.args.map T.width)).1 = t.width := by
 unfold nodeE at h
 split at h
 · cases h
 · rename_i h1
   split at h
   · cases h
   · rename_i h2
     split at h
     · cases h
     · rename_i h3
       split at h
       · cases h
       · rename_i h4
         have a0 : ¬ arE t.op < 0 := fun e => h1 (.inl e)
         have a1 : patB t.op = false := by cases hh : patB t.op with | false => rfl | true => exact absurd (.inr (.inl hh)) h1
         have a2 : (t.args.length : Int) = arE t.op := Classical.byContradiction fun e => h1 (.inr (.inr (.inl e)))
         have a3 : t.name = [] ∨ t.op = 1 := by
           by_cases e : t.name = []
           · exact .inl e
           · by_cases e2 : t.op = 1
             · exact .inr e2
             · exact absurd (.inr (.inr (.inr (.inl ⟨e,e2⟩)))) h1
         have a4 : t.val = 0 ∨ t.op = 2 ∨ t.op = 21 := by
           by_cases e : t.val = 0
           · exact .inl e
           · by_cases e2 : t.op = 2
             · exact .inr (.inl e2)
             · by_cases e3 : t.op = 21
               · exact .inr (.inr e3)
               · exact absurd (.inr (.inr (.inr (.inr ⟨e,e2,e3⟩)))) h1
         have w1 : (widE t.op t.width t.val (t.args.map T.width)).2 = 0 := Classical.byContradiction fun e => h4 (.inl e)
         have w2 : (widE t.op t.width t.val (t.args.map T.width)).1 = t.width := Classical.byContradiction fun e => h4 (.inr e)
         have wi := widE_idem w1
         refine ⟨?_,w1,w2⟩
         simp only [patB,Bool.or_eq_false_iff,decide_eq_false_iff_not] at a1
         have hop : t.op = 1 → nameOk t.name = true := fun e => by
           cases hh : nameOk t.name with
           | true => rfl
           | false => exact absurd ⟨e,hh⟩ h2
         have n1 : decide (0 ≤ t.width) = true := by simp; omega
         have n2 : decide (t.width ≤ 64) = true := by simp; omega
         have n3 : decide ((t.args.length : Int) = arE t.op) = true := by simp [a2]
         unfold notE
         rw [n1,n2,n3]
         simp only [Bool.true_and]
         by_cases e1 : t.op = 1
         · have hv : t.val = 0 := by
             rcases a4 with a4 | a4 | a4
             · exact a4
             · omega
             · omega
           rw [if_pos (.inl e1),hop e1,hv]; rfl
         · have hn : t.name = [] := by
             rcases a3 with a3 | a3
             · exact a3
             · exact absurd a3 e1
           rw [if_neg (by omega)]
           split
           · simp [hn]
           · rename_i h5
             have hv : t.val = 0 := by
               rcases a4 with a4 | a4 | a4
               · exact a4
               · exact absurd (.inl a4) h5
               · exact absurd (.inr a4) h5
             simp [hn,hv]
mutual
theorem nodes_valid : ∀ t : T,t.nodesE = 0 → t.valid = true
 | .mk op w v n o as,h => by
   rw [T.nodesE] at h
   by_cases hz : T.nodesEs as = 0
   · rw [if_neg (by simp [hz])] at h
     obtain ⟨h1,h2,h3⟩ := node_valid h
     have h4 := nodess_valid as hz
     simp only [T.op,T.width,T.val,T.args] at h2 h3
     simp only [T.valid,h1,h2,h3,h4,decide_true,Bool.and_self]
   · rw [if_pos hz] at h
     exact absurd h hz
theorem nodess_valid : ∀ as : List T,T.nodesEs as = 0 → T.valids as = true
 | [],_ => rfl
 | t :: r,h => by
   rw [T.nodesEs] at h
   by_cases hz : t.nodesE = 0
   · rw [if_neg (by simp [hz])] at h
     simp only [T.valids,nodes_valid t hz,nodess_valid r h,Bool.and_self]
   · rw [if_pos hz] at h
     exact absurd h hz
end
theorem check_valid {t:T} (h:checkT t = 0) : t.valid = true := by
 unfold checkT at h
 split at h
 · cases h
 · split at h
   · rename_i hz; exact absurd h hz
   · rename_i hz; exact nodes_valid t (by simpa using hz)
end Go.Proofs.YtkofimhnehkdoaaGreatDoor.Rf
end
section
namespace Go.Proofs.YtkofimhnehkdoaaGreatDoor.Rf
def pairB (x:S) : Bool := decide (x.list.length = 2) && !decide ((x.list.getD 0 (.mk [] true [])).atom = [])
def namedB (e:S) : Bool := e.list.all pairB && decide (e.atom = [])
section
variable {hp:List HObj} {lo:Nat}
end
end Go.Proofs.YtkofimhnehkdoaaGreatDoor.Rf
end
section
namespace Go.Proofs.YtkofimhnehkdoaaGreatDoor.Rf
abbrev zS : S := .mk [] true []
def lineK (l:List S) : Int := kindOf (l.getD 0 zS).atom
def shapeB (e:S) : Bool := decide (2 ≤ e.list.length) && ((!decide (lineK e.list = 0) && ((refsE (e.list.getD 1 zS)).isSome && decide ((e.list.length : Int) = partsE (lineK e.list)))) &&
 ((if lineK e.list = 5 ∨ lineK e.list = 12 then decide ((intE (e.list.getD 2 zS).atom).2 = 0) else true) && (!decide (lineK e.list = 5) || namedB (e.list.getD 3 zS))))
def shapeS (e:S) : St7 := ⟨lineK e.list,((refsE (e.list.getD 1 zS)).getD []).isEmpty,(refsE (e.list.getD 1 zS)).getD [],if lineK e.list = 5 ∨ lineK e.list = 12 then (intE (e.list.getD 2 zS).atom).1 else 0,true,[],T.z,T.z⟩
section
variable {hp:List HObj} {lo:Nat}
end
end Go.Proofs.YtkofimhnehkdoaaGreatDoor.Rf
end
