/- A part. -/
import Derived.Test.YtkofimhnehkdoaaGreatDoorRbG38
set_option linter.unusedVariables false
set_option linter.unusedSimpArgs false
section
namespace Go.Proofs.YtkofimhnehkdoaaGreatDoor.Rf
def lineT (s:St7) : List UInt8 := if kindE s.kind = [] then [] else (lineW s).text
section
variable {hp:List HObj} {lo:Nat}
theorem atomP_D (a:List UInt8) (hp:List HObj) (lo:Nat) (q:Bool) : callD G0 IP n_pt_atom [.str a] hp lo q = some (.ret (.agg [.str a,.list [] .nil]) hp) := by
 rw [callD_eq]
 simp [IP_pt_atom,i_pt_atom]
theorem numberP_D (n:Int) (h:i64B n) (hp:List HObj) (lo:Nat) (q:Bool) : callD G0 IP n_pt_number [.int .i64 n] hp lo q = some (.ret (.agg [.str (decZ n),.list [] .nil]) hp) := by
 have e1 := fun hp lo q => itoa_D n h.1 h.2 hp lo q
 rw [callD_eq]
 simp [IP_pt_number,i_pt_number,e1,atomP_D]
theorem listP_D (l:List S) (hp:List HObj) (lo:Nat) (q:Bool) : callD G0 IP n_pt_list [.list (S.avs l) .tight] hp lo q = some (.ret (.agg [.str [],.list (S.avs l) .tight]) hp) := by
 have hc := fun n => S.avs_closed n l
 rw [callD_eq]
 simp [IP_pt_list,i_pt_list,hc]
theorem i64B_of {x:Int} (h:(Lit.int .i64 x).wf = true) : i64B x := by
 simp [Lit.wf,IntKind.min,IntKind.max,IntKind.signed,IntKind.bits] at h
 exact ⟨by omega,by omega⟩
theorem lineT_L0 (B:List AV) (nm:List UInt8) (l:List Int) (o:Own) (hl:l.length ≤ 65536) (hp:List HObj) (lo:Nat) : ∀ (r p:List Int) (acc:List S),l = p ++ r → acc.length = p.length → (∀ x,x ∈ r → i64B x) →
   loopD G0 IP lo l_pt_Line_0 ⟨[(1,.box B),(3,.str nm),(4,.box [.str [],.list (S.avs acc) (ownA acc)]),(17,.list (i64s l) o),(18,.int .i64 l.length),(19,.int .i64 p.length)],hp⟩ =
     some (.exit 0,⟨[(1,.box B),(3,.str nm),(4,.box [.str [],.list (S.avs (acc ++ r.map fun n => aS (decZ n))) (ownA (acc ++ r.map fun n => aS (decZ n)))]),(17,.list (i64s l) o),(18,.int .i64 l.length),(19,.int .i64 l.length),(20,.bool false)],hp⟩)
 | [],p,acc,h,ha,_ => by
   rw [loopD_eq,loopBody]
   simp at h
   subst h
   simp [l_pt_Line_0]
 | x :: r,p,acc,h,ha,hx => by
   rw [loopD_eq,loopBody]
   have hlen : l.length = p.length + (r.length + 1) := by rw [h]; simp
   have h1 : (p.length : Int) < (l.length : Int) := by omega
   have hll : p.length < l.length := by omega
   have h2 : l[p.length] = x := by simp [h]
   have hw : IntKind.wrap .i64 ((p.length : Int) + 1) = (p.length : Int) + 1 := wrap_small (by omega) (by omega)
   have e1 := numberP_D x (hx x (by simp)) hp lo true
   have ih := lineT_L0 B nm l o hl hp lo r (p ++ [x]) (acc ++ [aS (decZ x)]) (by rw [h]; simp) (by simp [ha]) (fun y hy => hx y (by simp [hy]))
   simp only [List.length_append,List.length_cons,List.length_nil,Nat.zero_add,Int.natCast_add,Int.natCast_one] at ih
   have hb1 : (acc.length + 1) * 40 ≤ 140737488355328 := by omega
   have hb2 : acc.length + 1 ≤ 9223372036854775807 := by omega
   rw [S.avs_app,ownA_app,show S.avs [aS (decZ x)] = [.agg [.str (decZ x),.list [] .nil]] from rfl] at ih
   simp [l_pt_Line_0,hll,h1,h2,e1,hb1,hb2,ownA_ok,hw]
   refine Eq.trans ih ?_
   simp
theorem lineT_L1 (B C:List AV) (l:List Sb) (o:Own) (hl:l.length ≤ 65536) (hp:List HObj) (lo:Nat) : ∀ (r p:List Sb) (acc:List S),l = p ++ r → acc.length = p.length → (∀ x,x ∈ r → x.t.wf) →
   loopD G0 IP lo l_pt_Line_1 ⟨[(1,.box B),(7,.box C),(8,.box [.str [],.list (S.avs acc) (ownA acc)]),(41,.list (sbs l) o),(42,.int .i64 l.length),(43,.int .i64 p.length)],hp⟩ =
     some (.exit 3,⟨[(1,.box B),(7,.box C),(8,.box [.str [],.list (S.avs (acc ++ r.map pairW)) (ownA (acc ++ r.map pairW))]),(41,.list (sbs l) o),(42,.int .i64 l.length),(43,.int .i64 l.length),(44,.bool false)],hp⟩)
 | [],p,acc,h,ha,_ => by
   rw [loopD_eq,loopBody]
   simp at h
   subst h
   simp [l_pt_Line_1]
 | x :: r,p,acc,h,ha,hx => by
   rw [loopD_eq,loopBody]
   have hlen : l.length = p.length + (r.length + 1) := by rw [h]; simp
   have h1 : (p.length : Int) < (l.length : Int) := by omega
   have hll : p.length < l.length := by omega
   have h2 : l[p.length] = x := by simp [h]
   have hw : IntKind.wrap .i64 ((p.length : Int) + 1) = (p.length : Int) + 1 := wrap_small (by omega) (by omega)
   have e1 := writeT_D x.t (hx x (by simp)) hp lo true
   have e2 := listP_D [aS x.name,writeT x.t] hp lo true
   have ih := lineT_L1 B C l o hl hp lo r (p ++ [x]) (acc ++ [pairW x]) (by rw [h]; simp) (by simp [ha]) (fun y hy => hx y (by simp [hy]))
   simp only [List.length_append,List.length_cons,List.length_nil,Nat.zero_add,Int.natCast_add,Int.natCast_one] at ih
   have hb1 : (acc.length + 1) * 40 ≤ 140737488355328 := by omega
   have hb2 : acc.length + 1 ≤ 9223372036854775807 := by omega
   rw [S.av_eq,T.av_eq] at e1
   simp only [S.avs,aS_av,S.av_eq (writeT x.t)] at e2
   rw [S.avs_app,ownA_app,show S.avs [pairW x] = [.agg [.str [],.list [.agg [.str x.name,.list [] .nil],.agg [.str (writeT x.t).atom,.list (S.avs (writeT x.t).list) (ownB (writeT x.t).o)]] .no]] by simp [S.avs,pairW,S.av,aS_av,S.av_eq (writeT x.t),ownB_false]] at ih
   simp [l_pt_Line_1,hll,h1,h2,Sb.av_eq x,e1,e2,atomP_D,hb1,hb2,ownA_ok,hw]
   refine Eq.trans ih ?_
   simp
end
end Go.Proofs.YtkofimhnehkdoaaGreatDoor.Rf
end
section
namespace Go.Proofs.YtkofimhnehkdoaaGreatDoor.Rf
theorem aS_wf {a:List UInt8} (h:a.length ≤ 9223372036854775807) : (aS a).wf := by simp only [aS,S.wf,S.wfs]; exact ⟨h,by simp,by simp,trivial⟩
theorem decZ_len {n:Int} (h:i64B n) : (decZ n).length ≤ 21 := by
 unfold decZ decI
 obtain ⟨h0,h1⟩ := h
 split
 · have := dec_len20 (n := n.toNat) (by omega); omega
 · have := dec_len20 (n := (-n).toNat) (by omega); simp; omega
theorem kindE_len (k:Int) : (kindE k).length ≤ 6 := by
 unfold kindE
 split
 · simp
 · rename_i h
   rcases kind_cases h with rfl | rfl | rfl | rfl | rfl | rfl | rfl | rfl | rfl | rfl | rfl | rfl
   all_goals decide
theorem refsW_wf {l:List Int} (hl:l.length ≤ 9223372036854775807) (h:∀ x,x ∈ l → i64B x) : (refsW l).wf := by
 rw [S.wf_eq]
 refine ⟨by simp [refsW,S.atom],by simpa [refsW,S.list] using hl,by simp [refsW,S.o,S.list],fun u hu => ?_⟩
 simp only [refsW,S.list,List.mem_map] at hu
 obtain ⟨n,hn,rfl⟩ := hu
 exact aS_wf (by have := decZ_len (h n hn); omega)
theorem subsW_wf {l:List Sb} (hl:l.length ≤ 9223372036854775807) (h:∀ x,x ∈ l → x.wf) : (subsW l).wf := by
 rw [S.wf_eq]
 refine ⟨by simp [subsW,S.atom],by simpa [subsW,S.list] using hl,by simp [subsW,S.o,S.list],fun u hu => ?_⟩
 simp only [subsW,S.list,List.mem_map] at hu
 obtain ⟨x,hx,rfl⟩ := hu
 rw [S.wf_eq]
 refine ⟨by simp [pairW,S.atom],by simp [pairW,S.list],by simp [pairW,S.o],fun u hu => ?_⟩
 simp only [pairW,S.list,List.mem_cons,List.mem_nil_iff,or_false] at hu
 rcases hu with rfl | rfl
 · exact aS_wf (h x hx).1
 · exact write_wf _ (h x hx).2
theorem lineW_wf {s:St7} (hw:s.wf) : (lineW s).wf := by
 obtain ⟨w1,w2,w3,w4,w5,w6,w7,w8⟩ := hw
 have hr : ∀ u,u ∈ restW s → u.wf := by
   intro u hu
   unfold restW at hu
   have hd := decZ_len (i64B_of w4)
   split at hu
   · simp only [List.mem_cons,List.mem_nil_iff,or_false] at hu
     rcases hu with rfl | rfl
     · exact aS_wf (by omega)
     · exact subsW_wf w6 w5
   · split at hu
     · simp only [List.mem_cons,List.mem_nil_iff,or_false] at hu
       subst hu; exact aS_wf (by omega)
     · split at hu
       · simp only [List.mem_cons,List.mem_nil_iff,or_false] at hu
         subst hu; exact write_wf _ w7
       · split at hu
         · simp only [List.mem_cons,List.mem_nil_iff,or_false] at hu
           rcases hu with rfl | rfl
           · exact write_wf _ w7
           · exact write_wf _ w8
         · simp at hu
 have hl : (restW s).length ≤ 2 := by
   unfold restW
   split
   · simp
   · split
     · simp
     · split
       · simp
       · split <;> simp
 rw [S.wf_eq]
 refine ⟨by simp [lineW,S.atom],by simp [lineW,S.list]; omega,by simp [lineW,S.o],fun u hu => ?_⟩
 simp only [lineW,S.list,List.mem_cons] at hu
 rcases hu with rfl | rfl | hu
 · exact aS_wf (by have := kindE_len s.kind; omega)
 · exact refsW_wf w3 fun x hx => i64B_of (w2 x hx)
 · exact hr u hu
theorem refsW_av (l:List Int) : (refsW l).av = .agg [.str [],.list (S.avs (l.map fun n => aS (decZ n))) (ownB l.isEmpty)] := rfl
theorem subsW_av (l:List Sb) : (subsW l).av = .agg [.str [],.list (S.avs (l.map pairW)) (ownB l.isEmpty)] := rfl
section
variable {hp:List HObj} {lo:Nat}
set_option maxHeartbeats 8000000 in
theorem lineP_D (s:St7) (hw:s.wf) (hr:s.refs.length ≤ 65536) (hsb:s.subs.length ≤ 65536) (hb:(lineT s).length ≤ 140737488355328) (hp:List HObj) (lo:Nat) (q:Bool) : callD G0 IP n_pt_Line [s.av] hp lo q = some (.ret (.str (lineT s)) hp) := by
 have hwf := lineW_wf hw
 obtain ⟨w1,w2,w3,w4,w5,w6,w7,w8⟩ := hw
 rw [callD_eq,st_av,St7.cells]
 have ek := fun hp lo q => kind_D s.kind hp lo q
 by_cases hk : kindE s.kind = []
 · rw [hk] at ek
   simp [IP_pt_Line,i_pt_Line,ek,lineT,hk]
 · have hkb : 1 ≤ s.kind ∧ s.kind ≤ 12 := by
     unfold kindE at hk; split at hk
     · exact absurd rfl hk
     · omega
   have hL : lineT s = (lineW s).text := by unfold lineT; rw [if_neg hk]
   rw [hL] at hb ⊢
   have e5 := fun hp lo q => print2_D (t := lineW s) (hp := hp) (lo := lo) hwf hb q
   rw [show (lineW s).av = .agg [.str [],.list ((aS (kindE s.kind)).av :: (refsW s.refs).av :: S.avs (restW s)) .no] from rfl,aS_av,refsW_av] at e5
   generalize (lineW s).text = txt at *
   have hloop := fun (B:List AV) (hp:List HObj) (lo:Nat) => lineT_L0 B (kindE s.kind) s.refs (ownB s.ro) hr hp lo s.refs [] [] rfl rfl (fun x hx => i64B_of (w2 x hx))
   simp only [List.nil_append,S.avs_nil,show ownA [] = .nil from rfl,List.length_nil,Int.natCast_zero] at hloop
   have el := fun hp lo q => listP_D [aS (kindE s.kind),refsW s.refs] hp lo q
   simp only [S.avs,aS_av,refsW_av] at el
   have en := fun hp lo q => numberP_D s.rule (i64B_of w4) hp lo q
   have ew1 := fun hp lo q => writeT_D s.a w7 hp lo q
   have ew2 := fun hp lo q => writeT_D s.b w8 hp lo q
   simp only [T.av_eq,S.av_eq] at ew1 ew2
   have hie : (s.refs.map fun n => aS (decZ n)).isEmpty = s.refs.isEmpty := by cases s.refs <;> rfl
   have hrest : s.kind ≠ 5 → s.kind ≠ 12 → ¬ (s.kind = 1 ∨ s.kind = 6 ∨ s.kind = 7 ∨ s.kind = 8) → s.kind ≠ 4 → restW s = [] := fun a b c d => by unfold restW; rw [if_neg a,if_neg b,if_neg c,if_neg d]
   have hrest1 : (s.kind = 1 ∨ s.kind = 6 ∨ s.kind = 7 ∨ s.kind = 8) → restW s = [writeT s.a] := fun c => by unfold restW; rw [if_neg (by omega),if_neg (by omega),if_pos c]
   have hrest4 : s.kind = 4 → restW s = [writeT s.a,writeT s.b] := fun c => by unfold restW; rw [if_neg (by omega),if_neg (by omega),if_neg (by omega),if_pos c]
   have hrest12 : s.kind = 12 → restW s = [aS (decZ s.rule)] := fun c => by unfold restW; rw [if_neg (by omega),if_pos c]
   have hrest5 : s.kind = 5 → restW s = [aS (decZ s.rule),subsW s.subs] := fun c => by unfold restW; rw [if_pos c]
   generalize restW s = R at *
   generalize kindE s.kind = nm at *
   generalize hR2 : (s.refs.map fun n => aS (decZ n)) = RL at *
   by_cases h5 : s.kind = 5
   · have hloop1 := fun (B C:List AV) (hp:List HObj) (lo:Nat) => lineT_L1 B C s.subs (ownB s.so) hsb hp lo s.subs [] [] rfl rfl (fun x hx => (w5 x hx).2)
     simp only [List.nil_append,S.avs_nil,show ownA [] = .nil from rfl,List.length_nil,Int.natCast_zero] at hloop1
     have hie2 : (s.subs.map pairW).isEmpty = s.subs.isEmpty := by cases s.subs <;> rfl
     rw [h5] at ek
     rw [hrest5 h5] at e5
     simp only [S.avs,aS_av,subsW_av] at e5
     generalize (s.subs.map pairW) = PL at *
     simp [IP_pt_Line,i_pt_Line,ek,hk,hloop,atomP_D,el,en,hie,hie2,h5,hloop1,e5]
   · by_cases h12 : s.kind = 12
     · rw [h12] at ek
       rw [hrest12 h12] at e5
       simp only [S.avs,aS_av] at e5
       simp [IP_pt_Line,i_pt_Line,ek,hk,hloop,atomP_D,el,en,hie,h12,e5]
     · by_cases h4 : s.kind = 4
       · rw [h4] at ek
         rw [hrest4 h4] at e5
         simp only [S.avs,S.av_eq] at e5
         simp [IP_pt_Line,i_pt_Line,ek,hk,hloop,atomP_D,el,ew1,ew2,hie,h4,e5]
       · by_cases h1 : s.kind = 1 ∨ s.kind = 6 ∨ s.kind = 7 ∨ s.kind = 8
         · rw [hrest1 h1] at e5
           simp only [S.avs,S.av_eq] at e5
           rcases h1 with h1 | h1 | h1 | h1
           all_goals
             rw [h1] at ek
             simp [IP_pt_Line,i_pt_Line,ek,hk,hloop,atomP_D,el,ew1,hie,h1,e5]
         · rw [hrest h5 h12 h1 h4] at e5
           simp only [S.avs] at e5
           have n1 : ¬ s.kind = 1 := fun h => h1 (.inl h)
           have n6 : ¬ s.kind = 6 := fun h => h1 (.inr (.inl h))
           have n7 : ¬ s.kind = 7 := fun h => h1 (.inr (.inr (.inl h)))
           have n8 : ¬ s.kind = 8 := fun h => h1 (.inr (.inr (.inr h)))
           simp [IP_pt_Line,i_pt_Line,ek,hk,hloop,atomP_D,el,hie,h5,h12,h4,n1,n6,n7,n8,e5]
end
end Go.Proofs.YtkofimhnehkdoaaGreatDoor.Rf
end
section
namespace Go.Proofs.YtkofimhnehkdoaaGreatDoor.Rf
section
variable {hp:List HObj} {lo:Nat}
set_option maxHeartbeats 2000000 in
theorem printP_D (p:List St7) (hw:∀ s,s ∈ p → s.wf ∧ s.refs.length ≤ 65536 ∧ s.subs.length ≤ 65536 ∧ kindE s.kind ≠ []) (hl:p.length ≤ 65536) (hb:(allText (p.map lineW)).length ≤ 140737488355328) (o:Own) (hp:List HObj) (lo:Nat) (q:Bool) :
   callD G0 IP n_pt_Print [.list (St7.avs p) o] hp lo q = some (.ret (.str (allText (p.map lineW))) hp) := by
 rw [callD_eq]
 have hte : (p.map lineW).take p.length = p.map lineW := List.take_of_length_le (by simp)
 have hloop := loop_iter (G := G0) (IP := IP) (lo := hp.length) (b := l_pt_Print_0)
   (fun i => ⟨[(3,.ptr hp.length 0),(6,.list (St7.avs p) o),(7,.int .i64 p.length),(8,.int .i64 i)],BH hp (allText ((p.map lineW).take i))⟩) p.length
   (r := (.exit 0,⟨[(3,.ptr hp.length 0),(6,.list (St7.avs p) o),(7,.int .i64 p.length),(8,.int .i64 p.length),(9,.bool false)],BH hp (allText (p.map lineW))⟩)) (fun i hi => by
     have hiI : (i:Int) < (p.length : Int) := by omega
     have hw1 := wrap_succ hi (n := p.length) (by omega)
     have hiW : i < (p.map lineW).length := by simpa using hi
     have hle := allText_le (p.map lineW) (i + 1)
     rw [allText_take hiW] at hle ⊢
     obtain ⟨g1,g2,g3,g4⟩ := hw p[i] (List.getElem_mem hi)
     have hgi : (p.map lineW)[i] = lineW p[i] := by simp
     rw [hgi] at hle ⊢
     simp only [List.length_append,List.length_cons,List.length_nil] at hle
     have hT : lineT p[i] = (lineW p[i]).text := by unfold lineT; rw [if_neg g4]
     have e1 := lineP_D p[i] g1 g2 g3 (by rw [hT]; omega) (BH hp (allText ((p.map lineW).take i))) hp.length false
     rw [hT,st_av,St7.cells] at e1
     have hne := S.text_ne (lineW p[i])
     have e2 := wstr_D (hp := hp) (lo := hp.length) (Nat.le_refl _) (allText ((p.map lineW).take i)) (lineW p[i]).text hne (by omega)
     have e3 := wbyte_D (hp := hp) (lo := hp.length) (Nat.le_refl _) (allText ((p.map lineW).take i) ++ (lineW p[i]).text) 10 (by simp; omega)
     have h10 : ((10:UInt8).toNat : Int) = 10 := rfl
     rw [h10,List.append_assoc] at e3
     rw [← hw1]
     generalize (lineW p[i]).text = tx at *
     generalize allText ((p.map lineW).take i) = bs at *
     simp [l_pt_Print_0,hi,hiI,st_av,e1,e2,e3])
   (by simp [l_pt_Print_0,hte]) (by simp)
 have e2 := bstr_D (hp := hp) (lo := hp.length) (Nat.le_refl _) (allText (p.map lineW)) hb
 simp only [List.take_zero,allText,Int.natCast_zero] at hloop
 generalize allText (p.map lineW) = tx at *
 simp [IP_pt_Print,i_pt_Print,B0_fold,hloop,e2]
end
theorem kindE_ne {k:Int} (h:1 ≤ k ∧ k ≤ 12) : kindE k ≠ [] := by
 rcases kind_cases (k := k) (by omega) with rfl | rfl | rfl | rfl | rfl | rfl | rfl | rfl | rfl | rfl | rfl | rfl
 all_goals decide
end Go.Proofs.YtkofimhnehkdoaaGreatDoor.Rf
end
