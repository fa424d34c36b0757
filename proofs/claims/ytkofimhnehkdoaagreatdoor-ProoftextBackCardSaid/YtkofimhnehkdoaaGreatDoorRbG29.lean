/- A part. -/
import Derived.Test.YtkofimhnehkdoaaGreatDoorRbG28
set_option linter.unusedVariables false
set_option linter.unusedSimpArgs false
section
namespace Go.Proofs.YtkofimhnehkdoaaGreatDoor.Rf
def outLT (L:List S) (o:Own) (hp:List HObj) (acc:List St7) : PrR → Ex × St
 | .err i c => (.ret,⟨[(2,.list [] .nil),(3,.int .i64 i),(4,.int .i64 c)],hp⟩)
 | .ok l => (.exit 0,⟨[(8,.list (St7.avs (acc ++ l)) (ownSt (acc ++ l))),(25,.list (S.avs L) o),(26,.int .i64 L.length),(27,.int .i64 L.length),(28,.bool false)],hp⟩)
theorem outLT_ok (L:List S) (o:Own) (hp:List HObj) (acc:List St7) (i:Int) (x:S) (r:List S) (s:St7) (h:stepR x = .ok s) : outLT L o hp acc (stepsR i (x :: r)) = outLT L o hp (acc ++ [s]) (stepsR (i + 1) r) := by
 rw [stepsR,h]
 cases stepsR (i + 1) r <;> simp [outLT]
section
variable {hp:List HObj} {lo:Nat}
set_option maxHeartbeats 2000000 in
theorem parseP_L (L:List S) (o:Own) (hL:L.length ≤ 65536) : ∀ (r p:List S) (acc:List St7),L = p ++ r → acc.length ≤ p.length → (∀ x,x ∈ r → x.fit) →
   loopD G0 IP lo l_pt_Parse_0 ⟨[(8,.list (St7.avs acc) (ownSt acc)),(25,.list (S.avs L) o),(26,.int .i64 L.length),(27,.int .i64 p.length)],hp⟩ = some (outLT L o hp acc (stepsR p.length r))
 | [],p,acc,h,ha,_ => by
   rw [loopD_eq,loopBody]
   simp at h
   subst h
   simp [l_pt_Parse_0,stepsR,outLT]
 | x :: r,p,acc,h,ha,hx => by
   rw [loopD_eq,loopBody]
   have xf := hx x (by simp)
   have hlen : L.length = p.length + (r.length + 1) := by rw [h]; simp
   have h1 : (p.length : Int) < (L.length : Int) := by omega
   have hl : p.length < L.length := by omega
   have h2 : L[p.length] = x := by simp [h]
   have hw : IntKind.wrap .i64 ((p.length : Int) + 1) = (p.length : Int) + 1 := wrap_small (by omega) (by omega)
   have e1 := readP_D x xf hp lo false
   cases hr : stepR x with
   | err c =>
     have hc := stepR_ne x c hr
     rw [stepsR,hr]
     rw [hr,StR.tup,stz_av,S.av_eq] at e1
     simp [l_pt_Parse_0,hl,h1,h2,S.av_eq x,e1,hc,outLT]
   | ok s =>
     rw [hr,StR.tup,st_av,St7.cells,S.av_eq] at e1
     have ih := parseP_L L o hL r (p ++ [x]) (acc ++ [s]) (by rw [h]; simp) (by simp; omega) (fun y hy => hx y (by simp [hy]))
     simp only [List.length_append,List.length_cons,List.length_nil,Nat.zero_add,Int.natCast_add,Int.natCast_one] at ih
     have hb1 : (acc.length + 1) * 192 ≤ 140737488355328 := by omega
     have hb2 : acc.length + 1 ≤ 9223372036854775807 := by omega
     rw [outLT_ok L o hp acc _ x r s hr]
     rw [avs7_app,ownSt_app,show St7.avs [s] = [.agg s.cells] from rfl,St7.cells] at ih
     simp [l_pt_Parse_0,hl,h1,h2,S.av_eq x,e1,hb1,hb2,ownSt_ok,hw]
     exact ih
set_option maxHeartbeats 2000000 in
theorem parseP_D (s:List UInt8) (hp:List HObj) (lo:Nat) (q:Bool) : callD G0 IP n_pt_Parse [.str s] hp lo q = some (.ret (outQ ownSt (proofR s)) hp) := by
 rw [callD_eq]
 have e1 := fun hp lo q => parseAll2_D (s := s) (hp := hp) (lo := lo) q
 unfold proofR
 cases hx : pAll s with
 | err j e =>
   have he := pAll_err hx
   simp only [hx,outA] at e1
   simp [IP_pt_Parse,i_pt_Parse,e1,outQ,he]
 | ok l st =>
   simp only [hx,outA] at e1
   have hfit := pAll_fit hx
   have hlen : l.length ≤ 65536 := (pAll_wf hx).2
   have e2 := fun (o:Own) => parseP_L (hp := hp) (lo := hp.length) l o hlen l [] [] rfl (by simp) hfit
   simp only [List.length_nil,Int.natCast_zero,show ownSt [] = .nil from rfl,avs7_nil] at e2
   cases hs : stepsR 0 l with
   | err i c =>
     rw [hs] at e2
     simp only [outLT] at e2
     simp [IP_pt_Parse,i_pt_Parse,e1,outQ,hs,e2]
   | ok p =>
     rw [hs] at e2
     simp only [outLT,List.nil_append] at e2
     have hrl : ∀ t,t ∈ p → t.refs.length ≤ 9223372036854775807 := by
       intro t ht
       obtain ⟨e,he,h2⟩ := stepsR_mem l 0 p hs t ht
       have := stepR_len (hfit e he) h2
       omega
     have e4 := fun (o:Bool) (hp:List HObj) (lo:Nat) (q:Bool) => check_D p hrl o hp lo q
     by_cases hc : (checkE p).2 = 0
     · rw [hc] at e4
       simp [IP_pt_Parse,i_pt_Parse,e1,outQ,e2,e4,avs7_closed,hs,hc]
     · simp [IP_pt_Parse,i_pt_Parse,e1,outQ,e2,e4,hs,hc]
end
end Go.Proofs.YtkofimhnehkdoaaGreatDoor.Rf
end
section
namespace Go.Proofs.YtkofimhnehkdoaaGreatDoor.Rf
def same2 {α:Type} (p:α → α → Bool) : List α → List α → Bool
 | [],[] => true
 | a :: r,b :: r' => p a b && same2 p r r'
 | _,_ => false
theorem same2_eq {α:Type} (p:α → α → Bool) (d:α) : ∀ l m : List α,l.length = m.length → ((List.range l.length).any fun i => !p (l.getD i d) (m.getD i d)) = !(same2 p l m)
 | [],[],_ => rfl
 | a :: r,b :: r',h => by
   have := same2_eq p d r r' (by simpa using h)
   rw [List.length_cons,List.range_succ_eq_map]; simp only [List.any_cons,List.any_map,Function.comp_def]; simp only [List.getD_cons_zero,List.getD_cons_succ]; rw [this,same2]; cases p a b <;> simp
theorem same2_len {α:Type} (p:α → α → Bool) : ∀ l m : List α,¬ l.length = m.length → same2 p l m = false
 | [],[],h => absurd rfl h
 | [],_ :: _,_ => rfl
 | _ :: _,[],_ => rfl
 | a :: r,b :: r',h => by rw [same2,same2_len p r r' (by simpa using h)]; simp
theorem same2_refl {α:Type} {p:α → α → Bool} : ∀ l : List α,(∀ x,x ∈ l → p x x = true) → same2 p l l = true
 | [],_ => rfl
 | a :: r,h => by rw [same2,h a (by simp),same2_refl r (fun x hx => h x (by simp [hx]))]; rfl
def eqI (a b:Int) : Bool := decide (a = b)
def Sb.same (s t:Sb) : Bool := decide (s.name = t.name) && s.t.same t.t
def St7.same (s t:St7) : Bool := decide (s.kind = t.kind) && (same2 eqI s.refs t.refs && (decide (s.rule = t.rule) && (same2 Sb.same s.subs t.subs && (s.a.same t.a && s.b.same t.b))))
section
variable {hp:List HObj} {lo:Nat}
theorem same3_D (l m:List Int) (hl:l.length ≤ 9223372036854775807) (o1 o2:Own) (hp:List HObj) (lo:Nat) (q:Bool) : callD G0 IP n_sr03_Same [.list (i64s l) o1,.list (i64s m) o2] hp lo q = some (.ret (.bool (same2 eqI l m)) hp) := by
 rw [callD_eq]
 by_cases he : l.length = m.length
 · have hloop := loop_find (G := G0) (IP := IP) (lo := hp.length) (b := l_sr03_Same_0)
     (fun i => ⟨[(0,.list (i64s l) o1),(1,.list (i64s m) o2),(5,.int .i64 i)],hp⟩) l.length (fun i => !eqI (l.getD i 0) (m.getD i 0))
     (.ret,⟨[(4,.bool false)],hp⟩) (.exit 0,⟨[(0,.list (i64s l) o1),(1,.list (i64s m) o2),(5,.int .i64 l.length),(14,.bool false)],hp⟩)
     (fun i hi hp1 => by
       have hi2 : i < m.length := by omega
       have h2 : l[i] = m[i] := by simpa [hi,hi2,eqI] using hp1
       have hiI : (i:Int) < (l.length : Int) := by omega
       have hiI2 : (i:Int) < (m.length : Int) := by omega
       have hw := wrap_succ hi hl
       simp [l_sr03_Same_0,hi,hi2,hiI,hiI2,h2,hw])
     (fun i hi hp1 => by
       have hi2 : i < m.length := by omega
       have h2 : ¬ l[i] = m[i] := by simpa [hi,hi2,eqI] using hp1
       have hiI : (i:Int) < (l.length : Int) := by omega
       have hiI2 : (i:Int) < (m.length : Int) := by omega
       simp [l_sr03_Same_0,hi,hi2,hiI,hiI2,h2])
     (fun s => by simp) (by simp [l_sr03_Same_0]) (fun s => by simp)
   rw [same2_eq eqI 0 l m he] at hloop
   have hI : (l.length : Int) = (m.length : Int) := by omega
   simp only [Int.natCast_zero] at hloop
   cases hs : same2 eqI l m
   · rw [hs] at hloop
     simp only [Bool.not_false,if_true] at hloop
     simp [IP_sr03_Same,i_sr03_Same,hI,hloop]
   · rw [hs] at hloop
     simp only [Bool.not_true,Bool.false_eq_true,if_false] at hloop
     simp [IP_sr03_Same,i_sr03_Same,hI,hloop]
 · have hI : ¬ (l.length : Int) = (m.length : Int) := by omega
   rw [same2_len eqI l m he]
   simp [IP_sr03_Same,i_sr03_Same,hI]
theorem subs34_D (l m:List Sb) (hl:l.length ≤ 9223372036854775807) (hw:∀ s,s ∈ l → s.t.wf) (o1 o2:Own) (hp:List HObj) (lo:Nat) (q:Bool) : callD G0 IP n_sr34_subs [.list (sbs l) o1,.list (sbs m) o2] hp lo q = some (.ret (.bool (same2 Sb.same l m)) hp) := by
 rw [callD_eq]
 by_cases he : l.length = m.length
 · have hloop := loop_find (G := G0) (IP := IP) (lo := hp.length) (b := l_sr34_subs_0)
     (fun i => ⟨[(0,.list (sbs l) o1),(1,.list (sbs m) o2),(5,.int .i64 i)],hp⟩) l.length (fun i => !Sb.same (l.getD i ⟨[],T.z⟩) (m.getD i ⟨[],T.z⟩))
     (.ret,⟨[(4,.bool false)],hp⟩) (.exit 0,⟨[(0,.list (sbs l) o1),(1,.list (sbs m) o2),(5,.int .i64 l.length),(14,.bool false)],hp⟩)
     (fun i hi hp1 => by
       have hi2 : i < m.length := by omega
       have h2 : Sb.same l[i] m[i] = true := by simpa [hi,hi2] using hp1
       simp only [Sb.same,Bool.and_eq_true,decide_eq_true_eq] at h2
       have e1 := fun hp lo q => same6_D l[i].t (hw _ (List.getElem_mem hi)) m[i].t hp lo q
       rw [h2.2] at e1
       rw [T.av_eq,T.av_eq] at e1
       have hiI : (i:Int) < (l.length : Int) := by omega
       have hiI2 : (i:Int) < (m.length : Int) := by omega
       have hw := wrap_succ hi hl
       simp [l_sr34_subs_0,hi,hi2,hiI,hiI2,Sb.av_eq l[i],Sb.av_eq m[i],h2.1,e1,hw])
     (fun i hi hp1 => by
       have hi2 : i < m.length := by omega
       have h2 : Sb.same l[i] m[i] = false := by simpa [hi,hi2] using hp1
       simp only [Sb.same,Bool.and_eq_false_iff,decide_eq_false_iff_not] at h2
       have e1 := fun hp lo q => same6_D l[i].t (hw _ (List.getElem_mem hi)) m[i].t hp lo q
       rw [T.av_eq,T.av_eq] at e1
       have hiI : (i:Int) < (l.length : Int) := by omega
       have hiI2 : (i:Int) < (m.length : Int) := by omega
       by_cases h3 : l[i].name = m[i].name
       · have h4 : l[i].t.same m[i].t = false := by
           rcases h2 with h2 | h2
           · exact absurd h3 h2
           · exact h2
         rw [h4] at e1
         simp [l_sr34_subs_0,hi,hi2,hiI,hiI2,Sb.av_eq l[i],Sb.av_eq m[i],h3,e1]
       · simp [l_sr34_subs_0,hi,hi2,hiI,hiI2,Sb.av_eq l[i],Sb.av_eq m[i],h3])
     (fun s => by simp) (by simp [l_sr34_subs_0]) (fun s => by simp)
   rw [same2_eq Sb.same ⟨[],T.z⟩ l m he] at hloop
   have hI : (l.length : Int) = (m.length : Int) := by omega
   simp only [Int.natCast_zero] at hloop
   cases hs : same2 Sb.same l m
   · rw [hs] at hloop
     simp only [Bool.not_false,if_true] at hloop
     simp [IP_sr34_subs,i_sr34_subs,hI,hloop]
   · rw [hs] at hloop
     simp only [Bool.not_true,Bool.false_eq_true,if_false] at hloop
     simp [IP_sr34_subs,i_sr34_subs,hI,hloop]
 · have hI : ¬ (l.length : Int) = (m.length : Int) := by omega
   rw [same2_len Sb.same l m he]
   simp [IP_sr34_subs,i_sr34_subs,hI]
set_option maxHeartbeats 4000000 in
set_option maxRecDepth 8192 in
theorem same34_D (l m : List St7) (hl:l.length ≤ 9223372036854775807) (hw:∀ s,s ∈ l → s.wf) (o1 o2:Own) (hp:List HObj) (lo:Nat) (q:Bool) : callD G0 IP n_sr34_Same [.list (St7.avs l) o1,.list (St7.avs m) o2] hp lo q = some (.ret (.bool (same2 St7.same l m)) hp) := by
 rw [callD_eq]
 by_cases he : l.length = m.length
 · have hE : ∀ i (hi:i < l.length) (hi2:i < m.length),(∀ (o1 o2:Own) (hp:List HObj) (lo:Nat) (q:Bool),callD G0 IP n_sr03_Same [.list (i64s l[i].refs) o1,.list (i64s m[i].refs) o2] hp lo q = some (.ret (.bool (same2 eqI l[i].refs m[i].refs)) hp)) ∧
       (∀ (o1 o2:Own) (hp:List HObj) (lo:Nat) (q:Bool),callD G0 IP n_sr34_subs [.list (sbs l[i].subs) o1,.list (sbs m[i].subs) o2] hp lo q = some (.ret (.bool (same2 Sb.same l[i].subs m[i].subs)) hp)) ∧
       (∀ hp lo q,callD G0 IP n_sr06_Same [l[i].a.av,m[i].a.av] hp lo q = some (.ret (.bool (l[i].a.same m[i].a)) hp)) ∧
       (∀ hp lo q,callD G0 IP n_sr06_Same [l[i].b.av,m[i].b.av] hp lo q = some (.ret (.bool (l[i].b.same m[i].b)) hp)) := by
     intro i hi hi2
     obtain ⟨w1,w2,w3,w4,w5,w6,w7,w8⟩ := hw _ (List.getElem_mem hi)
     exact ⟨same3_D _ _ w3,subs34_D _ _ w6 (fun s hs => (w5 s hs).2),same6_D _ w7 _,same6_D _ w8 _⟩
   have hloop := loop_find (G := G0) (IP := IP) (lo := hp.length) (b := l_sr34_Same_0)
     (fun i => ⟨[(0,.list (St7.avs l) o1),(1,.list (St7.avs m) o2),(5,.int .i64 i)],hp⟩) l.length (fun i => !St7.same (l.getD i St7.z) (m.getD i St7.z))
     (.ret,⟨[(4,.bool false)],hp⟩) (.exit 0,⟨[(0,.list (St7.avs l) o1),(1,.list (St7.avs m) o2),(5,.int .i64 l.length),(16,.bool false)],hp⟩)
     (fun i hi hp1 => by
       have hi2 : i < m.length := by omega
       have h2 : St7.same l[i] m[i] = true := by simpa [hi,hi2] using hp1
       simp only [St7.same,Bool.and_eq_true,decide_eq_true_eq] at h2
       obtain ⟨c1,c2,c3,c4,c5,c6⟩ := h2
       obtain ⟨e1,e2,e3,e4⟩ := hE i hi hi2
       rw [c2] at e1
       rw [c4] at e2
       rw [c5,T.av_eq,T.av_eq] at e3
       rw [c6,T.av_eq,T.av_eq] at e4
       have hiI : (i:Int) < (l.length : Int) := by omega
       have hiI2 : (i:Int) < (m.length : Int) := by omega
       have hw := wrap_succ hi hl
       simp [l_sr34_Same_0,hi,hi2,hiI,hiI2,st_av,c1,c3,e1,e2,e3,e4,hw])
     (fun i hi hp1 => by
       have hi2 : i < m.length := by omega
       have h2 : St7.same l[i] m[i] = false := by simpa [hi,hi2] using hp1
       unfold St7.same at h2
       obtain ⟨e1,e2,e3,e4⟩ := hE i hi hi2
       rw [T.av_eq,T.av_eq] at e3
       rw [T.av_eq,T.av_eq] at e4
       have hiI : (i:Int) < (l.length : Int) := by omega
       have hiI2 : (i:Int) < (m.length : Int) := by omega
       by_cases c1 : l[i].kind = m[i].kind
       · cases c2 : same2 eqI l[i].refs m[i].refs with
         | false => rw [c2] at e1; simp [l_sr34_Same_0,hi,hi2,hiI,hiI2,st_av,c1,e1]
         | true =>
           rw [c2] at e1
           by_cases c3 : l[i].rule = m[i].rule
           · cases c4 : same2 Sb.same l[i].subs m[i].subs with
             | false => rw [c4] at e2; simp [l_sr34_Same_0,hi,hi2,hiI,hiI2,st_av,c1,c3,e1,e2]
             | true =>
               rw [c4] at e2
               cases c5 : l[i].a.same m[i].a with
               | false => rw [c5] at e3; simp [l_sr34_Same_0,hi,hi2,hiI,hiI2,st_av,c1,c3,e1,e2,e3]
               | true =>
                 rw [c5] at e3
                 have c6 : l[i].b.same m[i].b = false := by simpa [c1,c2,c3,c4,c5] using h2
                 rw [c6] at e4
                 simp [l_sr34_Same_0,hi,hi2,hiI,hiI2,st_av,c1,c3,e1,e2,e3,e4]
           · simp [l_sr34_Same_0,hi,hi2,hiI,hiI2,st_av,c1,c3,e1]
       · simp [l_sr34_Same_0,hi,hi2,hiI,hiI2,st_av,c1])
     (fun s => by simp) (by simp [l_sr34_Same_0]) (fun s => by simp)
   rw [same2_eq St7.same St7.z l m he] at hloop
   have hI : (l.length : Int) = (m.length : Int) := by omega
   simp only [Int.natCast_zero] at hloop
   cases hs : same2 St7.same l m
   · rw [hs] at hloop
     simp only [Bool.not_false,if_true] at hloop
     simp [IP_sr34_Same,i_sr34_Same,hI,hloop]
   · rw [hs] at hloop
     simp only [Bool.not_true,Bool.false_eq_true,if_false] at hloop
     simp [IP_sr34_Same,i_sr34_Same,hI,hloop]
 · have hI : ¬ (l.length : Int) = (m.length : Int) := by omega
   rw [same2_len St7.same l m he]
   simp [IP_sr34_Same,i_sr34_Same,hI]
end
end Go.Proofs.YtkofimhnehkdoaaGreatDoor.Rf
end
section
namespace Go.Proofs.YtkofimhnehkdoaaGreatDoor.Rf
set_option maxRecDepth 100000 in
theorem live36_ok : (run G0 IP 100).1 n_sl36_live [] [] 0 false = some (.ret (.bool true) []) := by kernel_rfl
end Go.Proofs.YtkofimhnehkdoaaGreatDoor.Rf
end
section
namespace Go.Proofs.YtkofimhnehkdoaaGreatDoor.Rf
mutual
theorem T.same_refl : ∀ t : T,t.same t = true
 | .mk _ _ _ _ _ as => by simp [T.same,T.sames_refl as]
theorem T.sames_refl : ∀ as : List T,T.sames as as = true
 | [] => rfl
 | t :: r => by simp [T.sames,T.same_refl t,T.sames_refl r]
end
theorem St7.same_refl (s:St7) : s.same s = true := by
 have h1 : same2 eqI s.refs s.refs = true := same2_refl _ fun x _ => by simp [eqI]
 have h2 : same2 Sb.same s.subs s.subs = true := same2_refl _ fun x _ => by simp [Sb.same,T.same_refl]
 simp only [St7.same,h1,h2,T.same_refl,decide_true,Bool.and_self]
theorem live36_D : callD G0 IP n_sl36_live [] [] 0 false = some (.ret (.bool true) []) := callD_iff.2 ⟨100,live36_ok⟩
end Go.Proofs.YtkofimhnehkdoaaGreatDoor.Rf
end
