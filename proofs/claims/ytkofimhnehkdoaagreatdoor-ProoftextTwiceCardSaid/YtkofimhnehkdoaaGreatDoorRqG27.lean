/- A part of the proof: see the last text. -/
import Derived.Test.YtkofimhnehkdoaaGreatDoorRqG25
import Derived.Test.YtkofimhnehkdoaaGreatDoorRqG26
import Derived.Test.YtkofimhnehkdoaaGreatDoorRqG24
set_option linter.unusedVariables false
set_option linter.unusedSimpArgs false
section
namespace Go.Proofs.YtkofimhnehkdoaaGreatDoor.Rf
theorem aS_wf {a:List UInt8} (h:a.length ≤ 9223372036854775807) : (aS a).wf := by simp only [aS,S.wf,S.wfs]; exact ⟨h,by simp,by simp,trivial⟩
theorem decZ_len {n:Int} (h:i64B n) : (decZ n).length ≤ 21 := by
 unfold decZ decI
 obtain ⟨h0,h1⟩ := h
 split
 · have := dec_len20 (n := n.toNat) (by omega); omega
 · have := dec_len20 (n := (-n).toNat) (by omega); simp; omega
theorem kindE_len (k:Int) : (kindE k).length ≤ 6 := by
 unfold kindE
 split
 · simp
 · rename_i h
   rcases kind_cases h with rfl | rfl | rfl | rfl | rfl | rfl | rfl | rfl | rfl | rfl | rfl | rfl
   all_goals decide
theorem refsW_wf {l:List Int} (hl:l.length ≤ 9223372036854775807) (h:∀ x,x ∈ l → i64B x) : (refsW l).wf := by
 rw [S.wf_eq]
 refine ⟨by simp [refsW,S.atom],by simpa [refsW,S.list] using hl,by simp [refsW,S.o,S.list],fun u hu => ?_⟩
 simp only [refsW,S.list,List.mem_map] at hu
 obtain ⟨n,hn,rfl⟩ := hu
 exact aS_wf (by have := decZ_len (h n hn); omega)
theorem subsW_wf {l:List Sb} (hl:l.length ≤ 9223372036854775807) (h:∀ x,x ∈ l → x.wf) : (subsW l).wf := by
 rw [S.wf_eq]
 refine ⟨by simp [subsW,S.atom],by simpa [subsW,S.list] using hl,by simp [subsW,S.o,S.list],fun u hu => ?_⟩
 simp only [subsW,S.list,List.mem_map] at hu
 obtain ⟨x,hx,rfl⟩ := hu
 rw [S.wf_eq]
 refine ⟨by simp [pairW,S.atom],by simp [pairW,S.list],by simp [pairW,S.o],fun u hu => ?_⟩
 simp only [pairW,S.list,List.mem_cons,List.mem_nil_iff,or_false] at hu
 rcases hu with rfl | rfl
 · exact aS_wf (h x hx).1
 · exact write_wf _ (h x hx).2
theorem lineW_wf {s:St7} (hw:s.wf) : (lineW s).wf := by
 obtain ⟨w1,w2,w3,w4,w5,w6,w7,w8⟩ := hw
 have hr : ∀ u,u ∈ restW s → u.wf := by
   intro u hu
   unfold restW at hu
   have hd := decZ_len (i64B_of w4)
   split at hu
   · simp only [List.mem_cons,List.mem_nil_iff,or_false] at hu
     rcases hu with rfl | rfl
     · exact aS_wf (by omega)
     · exact subsW_wf w6 w5
   · split at hu
     · simp only [List.mem_cons,List.mem_nil_iff,or_false] at hu
       subst hu; exact aS_wf (by omega)
     · split at hu
       · simp only [List.mem_cons,List.mem_nil_iff,or_false] at hu
         subst hu; exact write_wf _ w7
       · split at hu
         · simp only [List.mem_cons,List.mem_nil_iff,or_false] at hu
           rcases hu with rfl | rfl
           · exact write_wf _ w7
           · exact write_wf _ w8
         · simp at hu
 have hl : (restW s).length ≤ 2 := by
   unfold restW
   split
   · simp
   · split
     · simp
     · split
       · simp
       · split <;> simp
 rw [S.wf_eq]
 refine ⟨by simp [lineW,S.atom],by simp [lineW,S.list]; omega,by simp [lineW,S.o],fun u hu => ?_⟩
 simp only [lineW,S.list,List.mem_cons] at hu
 rcases hu with rfl | rfl | hu
 · exact aS_wf (by have := kindE_len s.kind; omega)
 · exact refsW_wf w3 fun x hx => i64B_of (w2 x hx)
 · exact hr u hu
theorem refsW_av (l:List Int) : (refsW l).av = .agg [.str [],.list (S.avs (l.map fun n => aS (decZ n))) (ownB l.isEmpty)] := rfl
theorem subsW_av (l:List Sb) : (subsW l).av = .agg [.str [],.list (S.avs (l.map pairW)) (ownB l.isEmpty)] := rfl
section
variable {hp:List HObj} {lo:Nat}
set_option maxHeartbeats 8000000 in
theorem lineP_D (s:St7) (hw:s.wf) (hr:s.refs.length ≤ 65536) (hsb:s.subs.length ≤ 65536) (hb:(lineT s).length ≤ 140737488355328) (hp:List HObj) (lo:Nat) (q:Bool) : callD G0 IP n_pt_Line [s.av] hp lo q = some (.ret (.str (lineT s)) hp) := by
 have hwf := lineW_wf hw
 obtain ⟨w1,w2,w3,w4,w5,w6,w7,w8⟩ := hw
 rw [callD_eq,st_av,St7.cells]
 have ek := fun hp lo q => kind_D s.kind hp lo q
 by_cases hk : kindE s.kind = []
 · rw [hk] at ek
   simp [IP_pt_Line,i_pt_Line,ek,lineT,hk]
 · have hkb : 1 ≤ s.kind ∧ s.kind ≤ 12 := by
     unfold kindE at hk; split at hk
     · exact absurd rfl hk
     · omega
   have hL : lineT s = (lineW s).text := by unfold lineT; rw [if_neg hk]
   rw [hL] at hb ⊢
   have e5 := fun hp lo q => print2_D (t := lineW s) (hp := hp) (lo := lo) hwf hb q
   rw [show (lineW s).av = .agg [.str [],.list ((aS (kindE s.kind)).av :: (refsW s.refs).av :: S.avs (restW s)) .no] from rfl,aS_av,refsW_av] at e5
   generalize (lineW s).text = txt at *
   have hloop := fun (B:List AV) (hp:List HObj) (lo:Nat) => lineT_L0 B (kindE s.kind) s.refs (ownB s.ro) hr hp lo s.refs [] [] rfl rfl (fun x hx => i64B_of (w2 x hx))
   simp only [List.nil_append,S.avs_nil,show ownA [] = .nil from rfl,List.length_nil,Int.natCast_zero] at hloop
   have el := fun hp lo q => listP_D [aS (kindE s.kind),refsW s.refs] hp lo q
   simp only [S.avs,aS_av,refsW_av] at el
   have en := fun hp lo q => numberP_D s.rule (i64B_of w4) hp lo q
   have ew1 := fun hp lo q => writeT_D s.a w7 hp lo q
   have ew2 := fun hp lo q => writeT_D s.b w8 hp lo q
   simp only [T.av_eq,S.av_eq] at ew1 ew2
   have hie : (s.refs.map fun n => aS (decZ n)).isEmpty = s.refs.isEmpty := by cases s.refs <;> rfl
   have hrest : s.kind ≠ 5 → s.kind ≠ 12 → ¬ (s.kind = 1 ∨ s.kind = 6 ∨ s.kind = 7 ∨ s.kind = 8) → s.kind ≠ 4 → restW s = [] := fun a b c d => by unfold restW; rw [if_neg a,if_neg b,if_neg c,if_neg d]
   have hrest1 : (s.kind = 1 ∨ s.kind = 6 ∨ s.kind = 7 ∨ s.kind = 8) → restW s = [writeT s.a] := fun c => by unfold restW; rw [if_neg (by omega),if_neg (by omega),if_pos c]
   have hrest4 : s.kind = 4 → restW s = [writeT s.a,writeT s.b] := fun c => by unfold restW; rw [if_neg (by omega),if_neg (by omega),if_neg (by omega),if_pos c]
   have hrest12 : s.kind = 12 → restW s = [aS (decZ s.rule)] := fun c => by unfold restW; rw [if_neg (by omega),if_pos c]
   have hrest5 : s.kind = 5 → restW s = [aS (decZ s.rule),subsW s.subs] := fun c => by unfold restW; rw [if_pos c]
   generalize restW s = R at *
   generalize kindE s.kind = nm at *
   generalize hR2 : (s.refs.map fun n => aS (decZ n)) = RL at *
   by_cases h5 : s.kind = 5
   · have hloop1 := fun (B C:List AV) (hp:List HObj) (lo:Nat) => lineT_L1 B C s.subs (ownB s.so) hsb hp lo s.subs [] [] rfl rfl (fun x hx => (w5 x hx).2)
     simp only [List.nil_append,S.avs_nil,show ownA [] = .nil from rfl,List.length_nil,Int.natCast_zero] at hloop1
     have hie2 : (s.subs.map pairW).isEmpty = s.subs.isEmpty := by cases s.subs <;> rfl
     rw [h5] at ek
     rw [hrest5 h5] at e5
     simp only [S.avs,aS_av,subsW_av] at e5
     generalize (s.subs.map pairW) = PL at *
     simp [IP_pt_Line,i_pt_Line,ek,hk,hloop,atomP_D,el,en,hie,hie2,h5,hloop1,e5]
   · by_cases h12 : s.kind = 12
     · rw [h12] at ek
       rw [hrest12 h12] at e5
       simp only [S.avs,aS_av] at e5
       simp [IP_pt_Line,i_pt_Line,ek,hk,hloop,atomP_D,el,en,hie,h12,e5]
     · by_cases h4 : s.kind = 4
       · rw [h4] at ek
         rw [hrest4 h4] at e5
         simp only [S.avs,S.av_eq] at e5
         simp [IP_pt_Line,i_pt_Line,ek,hk,hloop,atomP_D,el,ew1,ew2,hie,h4,e5]
       · by_cases h1 : s.kind = 1 ∨ s.kind = 6 ∨ s.kind = 7 ∨ s.kind = 8
         · rw [hrest1 h1] at e5
           simp only [S.avs,S.av_eq] at e5
           rcases h1 with h1 | h1 | h1 | h1
           all_goals
             rw [h1] at ek
             simp [IP_pt_Line,i_pt_Line,ek,hk,hloop,atomP_D,el,ew1,hie,h1,e5]
         · rw [hrest h5 h12 h1 h4] at e5
           simp only [S.avs] at e5
           have n1 : ¬ s.kind = 1 := fun h => h1 (.inl h)
           have n6 : ¬ s.kind = 6 := fun h => h1 (.inr (.inl h))
           have n7 : ¬ s.kind = 7 := fun h => h1 (.inr (.inr (.inl h)))
           have n8 : ¬ s.kind = 8 := fun h => h1 (.inr (.inr (.inr h)))
           simp [IP_pt_Line,i_pt_Line,ek,hk,hloop,atomP_D,el,hie,h5,h12,h4,n1,n6,n7,n8,e5]
end
end Go.Proofs.YtkofimhnehkdoaaGreatDoor.Rf
end
section
namespace Go.Proofs.YtkofimhnehkdoaaGreatDoor.Rf
theorem atomK_plain (s:List UInt8) : ∀ (k i m:Nat),i ≤ m → m < atomK s k i → plainC (byt s m) = true
 | 0,i,m,h1,h2 => by simp [atomK] at h2; omega
 | k + 1,i,m,h1,h2 => by
   simp only [atomK] at h2
   split at h2
   · rename_i hc
     by_cases e : i = m
     · subst e; exact hc
     · exact atomK_plain s k (i + 1) m (by omega) h2
   · omega
theorem atom_plain {s:List UInt8} {i:Nat} (h:atomN s i ≤ s.length) : allPlain ((s.take (atomN s i)).drop i) = true := by
 simp only [allPlain,List.all_eq_true]
 intro c hc
 obtain ⟨m,hm,rfl⟩ := List.getElem_of_mem hc
 simp only [List.length_drop,List.length_take] at hm
 have := atomK_plain s (s.length - i) i (i + m) (by omega) (by unfold atomN at hm; omega)
 have hl : i + m < s.length := by omega
 simpa [byt,hl] using this
theorem S.rights_appH (a b:List S) : S.rights (a ++ b) = (S.rights a && S.rights b) := by
 induction a with
 | nil => rfl
 | cons x r ih => simp only [List.cons_append,S.rights,ih,Bool.and_assoc]
theorem p_ok (s : List UInt8) (hs:s.length ≤ 65536) : ∀ n,(∀ i d x j,i < s.length → pOne s n i d = .ok x j → x.right = true ∧ x.depth + d ≤ 64 ∧ x.text.length + 1 ≤ 2 * (j - i)) ∧
   (∀ i d acc j acc' i0,i ≤ s.length → i0 ≤ i → d < 64 → S.rights acc = true → S.depths acc + d + 1 ≤ 64 → (S.texts true acc).length ≤ 2 * (i - i0) → pLoop s n i d acc = .stop j acc' → i0 ≤ j ∧ S.rights acc' = true ∧ S.depths acc' + d + 1 ≤ 64 ∧ (S.texts true acc').length ≤ 2 * (j - i0))
 | 0 => ⟨fun i d x j hi h => by simp [pOne] at h,fun i d acc j acc' i0 hi h0 hd h1 h2 h3 h => by simp [pLoop] at h; obtain ⟨rfl,rfl⟩ := h; exact ⟨h0,h1,h2,h3⟩⟩
 | n + 1 => by
   obtain ⟨ih1,ih2⟩ := p_ok s hs n
   refine ⟨fun i d x j hi h => ?_,fun i d acc j acc' i0 hi h0 hd h1 h2 h3 h => ?_⟩
   · simp only [pOne] at h
     have hk := skipN_le (s := s) (i := i + 1) (by omega)
     split at h
     · split at h
       · cases h
       · rename_i hd
         split at h
         · cases h
         · rename_i j' acc' hl
           obtain ⟨q0,q1,q2,q3⟩ := ih2 _ _ _ _ _ (i + 1) hk.2 hk.1 (by omega) rfl (by simp [S.depths]; omega) (by simp [S.texts]) hl
           split at h
           · cases h
           · cases h
             refine ⟨by simp [S.right,q1],by simp [S.depth]; omega,?_⟩
             simp [S.text]; omega
     · split at h
       · rename_i hp
         split at h
         · cases h
         · cases h
           have ha := atomN_gt hi hp
           have hne : ¬ (s.take (atomN s i)).drop i = [] := by
             intro e
             have := congrArg List.length e
             simp at this; omega
           refine ⟨?_,?_,?_⟩
           · simp only [S.right,if_neg hne,atom_plain ha.2,List.isEmpty_nil,Bool.and_self]
           · simp only [S.depth,if_neg hne]; omega
           · simp only [S.text,if_neg hne,List.length_drop,List.length_take]; omega
       · cases h
   · simp only [pLoop] at h
     split at h
     · rename_i hlt
       split at h
       · cases h; exact ⟨h0,h1,h2,h3⟩
       · split at h
         · cases h
         · rename_i x k ho
           obtain ⟨q1,q2,q3⟩ := ih1 _ _ _ _ hlt ho
           have hj := (p_le s n).1 _ _ _ _ hlt ho
           have hk := skipN_le (s := s) (i := k) (by omega)
           refine ih2 _ _ _ _ _ i0 hk.2 (by omega) hd (by rw [S.rights_appH,h1]; simp [S.rights,q1]) (by rw [S.depths_app]; omega) ?_ h
           rw [S.texts_app,List.length_append,List.length_append]
           have : (if (true && acc.isEmpty) = true then ([] : List UInt8) else [32]).length ≤ 1 := by split <;> simp
           omega
     · cases h; exact ⟨h0,h1,h2,h3⟩
theorem top_ok (s:List UInt8) (hs:s.length ≤ 65536) : ∀ n i acc st l st',i ≤ s.length → (∀ t,t ∈ acc → t.okB = true) → (allText acc).length ≤ 2 * i → pTop s n i acc st = .ok l st' → (∀ t,t ∈ l → t.okB = true) ∧ (allText l).length ≤ 2 * s.length
 | 0,i,acc,st,l,st',hi,h1,h2,h => by simp [pTop] at h; obtain ⟨rfl,rfl⟩ := h; exact ⟨h1,by omega⟩
 | n + 1,i,acc,st,l,st',hi,h1,h2,h => by
   simp only [pTop] at h
   split at h
   · rename_i hlt
     split at h
     · cases h
     · rename_i x j hx
       have hj := (p_le s _).1 _ _ _ _ hlt hx
       have hk := skipN_le (s := s) (i := j) (by omega)
       obtain ⟨q1,q2,q3⟩ := (p_ok s hs _).1 _ _ _ _ hlt hx
       refine top_ok s hs n _ _ _ _ _ hk.2 (fun t ht => ?_) (by rw [allText_app]; simp; omega) h
       rcases List.mem_append.1 ht with ht | ht
       · exact h1 t ht
       · simp at ht; subst ht; simp only [S.okB,q1,Bool.true_and,decide_eq_true_eq]; omega
   · cases h; exact ⟨h1,by omega⟩
theorem pAll_ok {s:List UInt8} {l:List S} {st:List Nat} (h:pAll s = .ok l st) : (∀ t,t ∈ l → t.okB = true) ∧ (allText l).length ≤ 2 * s.length := by
 unfold pAll at h
 split at h
 · cases h
 · have hk := skipN_le (s := s) (i := 0) (by omega)
   exact top_ok s (by omega) _ _ _ _ _ _ hk.2 (by simp) (by simp [allText]) h
end Go.Proofs.YtkofimhnehkdoaaGreatDoor.Rf
end
section
namespace Go.Proofs.YtkofimhnehkdoaaGreatDoor.Rf
theorem leafR_three {s:List UInt8} {t:T} (h:leafR s = .ok t) : 3 ≤ s.length ∧ t.size = 1 ∧ t.dep = 1 := by
 have hg := idxB_ge s 58
 unfold leafR at h
 split at h
 · cases h
 · rename_i h1
   have hc : (cutB s 58).2.2 = true := by cases hh : (cutB s 58).2.2 with | true => rfl | false => exact absurd (.inl hh) h1
   have hi : 0 ≤ idxB s 58 := by
     by_cases hi : 0 ≤ idxB s 58
     · exact hi
     · unfold cutB at hc; rw [if_neg hi] at hc; cases hc
   have hcut : cutB s 58 = (s.take (idxB s 58).toNat,s.drop ((idxB s 58).toNat + 1),true) := by unfold cutB; rw [if_pos hi]
   have hr : s.drop ((idxB s 58).toNat + 1) ≠ [] := fun e => by
     apply h1; right; rw [hcut]; simp only; rw [e]; rfl
   have hrl : (idxB s 58).toNat + 1 < s.length := by
     by_cases hh : (idxB s 58).toNat + 1 < s.length
     · exact hh
     · exact absurd (List.drop_eq_nil_of_le (by omega)) hr
   have hlen : ∀ l : List UInt8,l = s.take (idxB s 58).toNat → l ≠ [] → 3 ≤ s.length := by
     intro l hl hne
     have : l.length = (idxB s 58).toNat := by rw [hl,List.length_take]; omega
     have : l.length ≠ 0 := fun e => hne (List.length_eq_zero_iff.1 e)
     omega
   rw [hcut] at h
   simp only at h
   generalize hL : s.take (idxB s 58).toNat = L at h
   have h3 := hlen L hL.symm
   split at h
   · unfold constR at h
     split at h
     · cases h
     · rename_i h6
       have hne : L ≠ [] := fun e => h6 (by rw [e]; rfl)
       split at h
       · cases h
       · split at h
         · cases h
         · cases h
           exact ⟨h3 hne,rfl,rfl⟩
   · split at h
     · cases h
     · rename_i h6
       have hne : L ≠ [] := fun e => by
         apply h6; rw [e]; rfl
       split at h
       · cases h
       · cases h
         exact ⟨h3 hne,rfl,rfl⟩
mutual
theorem readS_dep : ∀ (e:S) (t:T),readS e = .ok t → t.dep ≤ e.depth ∧ 4 * t.size ≤ e.text.length + 1
 | .mk a o l, t,h => by
   rw [readS] at h
   by_cases ha : a = []
   · subst ha
     rw [if_neg (by simp)] at h
     split at h
     · cases h
     · rename_i hh
       split at h
       · cases h
       · cases hs : readsS l (1 + numsN (ofE (l.getD 0 S.z).atom).1) with
         | err e => rw [hs] at h; simp [nodeR] at h
         | ok ts =>
           rw [hs] at h
           have hR : headR l = true := by cases hx : headR l <;> simp_all
           simp only [headR,Bool.and_eq_true,decide_eq_true_eq] at hR
           simp only [nodeR] at h
           split at h
           · cases h
           · cases h
             match l,hR.1 with
             | x :: r,_ =>
               rw [Nat.add_comm 1,readsS] at hs
               have ih := readsS_dep r _ ts hs
               have hx : x.text.length ≠ 0 := fun e => S.text_ne x (List.length_eq_zero_iff.1 e)
               simp only [T.dep,T.size,S.depth,S.text,S.depths,S.texts,if_true,List.length_cons,List.length_append,List.length_nil]
               omega
   · rw [if_pos ha] at h
     obtain ⟨h1,h2,h3⟩ := leafR_three h
     simp only [S.depth,S.text,if_neg ha]
     omega
theorem readsS_dep : ∀ (l:List S) (k:Nat) (ts:List T),readsS l k = .ok ts → T.deps ts ≤ S.depths l ∧ 4 * T.sizes ts ≤ (S.texts false l).length
 | [],k,ts,h => by simp [readsS] at h; subst h; simp [T.deps,T.sizes]
 | x :: r,k + 1,ts,h => by
   rw [readsS] at h
   have ih := readsS_dep r k ts h
   simp only [S.depths,S.texts,List.length_append]
   omega
 | x :: r,0,ts,h => by
   rw [readsS] at h
   cases hx : readS x with
   | err e => rw [hx] at h; simp [TRs.cons] at h
   | ok t =>
     cases hr : readsS r 0 with
     | err e => rw [hx,hr] at h; simp [TRs.cons] at h
     | ok us =>
       rw [hx,hr] at h; simp [TRs.cons] at h; subst h
       have a := readS_dep x t hx
       have b := readsS_dep r 0 us hr
       simp only [S.depths,S.texts,List.length_append,T.deps,T.sizes]
       simp
       omega
end
def Sh (x y:S) : Prop := x.right = true ∧ x.depth ≤ y.depth ∧ x.text.length + 1 ≤ 16 * (y.text.length + 1)
def shs : List S → List S → Prop
 | [],[] => True
 | x :: r,y :: s => Sh x y ∧ shs r s
 | _,_ => False
theorem Sh.list {o o' : Bool} {l l' : List S} (h:shs l l') : Sh (.mk [] o l) (.mk [] o' l') := by
 have key : ∀ (l l' : List S),shs l l' → S.rights l = true ∧ S.depths l ≤ S.depths l' ∧ (S.texts false l).length ≤ 16 * (S.texts false l').length := by
   intro l
   induction l with
   | nil => intro l' h; cases l' <;> simp [shs,S.rights,S.depths,S.texts] at h ⊢
   | cons x r ih =>
     intro l' h
     cases l' with
     | nil => simp [shs] at h
     | cons y s =>
       obtain ⟨⟨h1,h2,h3⟩,h4⟩ := h
       obtain ⟨g1,g2,g3⟩ := ih s h4
       refine ⟨by simp [S.rights,h1,g1],?_,?_⟩
       · simp only [S.depths]; omega
       · simp only [S.texts,List.length_append]; simp; omega
 obtain ⟨h1,h2,h3⟩ := key l l' h
 refine ⟨by simp [S.right,h1],by simp [S.depth]; omega,?_⟩
 cases l with
 | nil => simp [S.text,S.texts]; omega
 | cons x r =>
   cases l' with
   | nil => simp [shs] at h
   | cons y s =>
     simp only [S.text,S.texts,List.length_append,List.length_cons,List.length_nil,if_true] at h3 ⊢
     simp at h3 ⊢
     omega
theorem same_looks (x:S) : ∀ y : S,x.same y = true → x.right = y.right ∧ x.depth = y.depth ∧ x.text = y.text := by
 induction x using S.ind with | h x ih =>
 intro y h
 obtain ⟨h1,h2⟩ := same_parts h
 have key : ∀ (l l' : List S),(∀ u,u ∈ l → ∀ y : S,u.same y = true → u.right = y.right ∧ u.depth = y.depth ∧ u.text = y.text) → S.sames l l' = true → S.rights l = S.rights l' ∧ S.depths l = S.depths l' ∧ (∀ b,S.texts b l = S.texts b l') ∧ l.isEmpty = l'.isEmpty := by
   intro l
   induction l with
   | nil => intro l' _ h; cases l' <;> simp [S.sames] at h ⊢
   | cons u r ihr =>
     intro l' hu h
     cases l' with
     | nil => simp [S.sames] at h
     | cons v s =>
       simp only [S.sames,Bool.and_eq_true] at h
       obtain ⟨g1,g2,g3⟩ := hu u (by simp) v h.1
       obtain ⟨k1,k2,k3,k4⟩ := ihr s (fun z hz => hu z (by simp [hz])) h.2
       exact ⟨by simp only [S.rights,g1,k1],by simp only [S.depths,g2,k2],fun b => by simp only [S.texts,g3,k3],rfl⟩
 obtain ⟨k1,k2,k3,k4⟩ := key x.list y.list ih h2
 refine ⟨?_,?_,?_⟩
 · rw [S.right_eq,S.right_eq,h1,k1,k4]
 · rw [S.depth_eq,S.depth_eq,h1,k2]
 · rw [S.text_eq,S.text_eq,h1,k3]
theorem Sh.of_same {x y:S} (h:x.same y = true) (hr:y.right = true) : Sh x y := by
 obtain ⟨h1,h2,h3⟩ := same_looks x y h
 exact ⟨by rw [h1,hr],by omega,by rw [h3]; omega⟩
theorem Sh.term {e:S} {t:T} (h:readS e = .ok t) : Sh (writeT t) e := by
 have hv := readS_valid e t h
 have hd := readS_dep e t h
 have h1 := write_len t hv.2
 have h2 := write_depth t
 exact ⟨write_right t,by omega,by omega⟩
theorem Sh.atom {x:S} {a:List UInt8} (ha:a = x.atom) (hne:x.atom ≠ []) (hr:x.right = true) : Sh (aS a) x := by
 refine Sh.of_same ?_ hr
 have hl := (right_atom hr hne).1
 cases x with | mk xa xo xl =>
 simp only [S.atom,S.list] at ha hl
 subst ha; subst hl
 simp [S.same,S.sames,aS]
theorem refsS_sh : ∀ (l:List S) (r:List Int),S.rights l = true → refsS l = some r → shs (r.map fun n => aS (decZ n)) l ∧ (∀ n,n ∈ r → i64B n)
 | [],r,_,h => by simp [refsS] at h; subst h; exact ⟨trivial,by simp⟩
 | x :: l,r,hr,h => by
   simp only [S.rights,Bool.and_eq_true] at hr
   rw [refsS] at h
   split at h
   · rename_i hx
     split at h
     · rename_i r' hr'
       cases h
       obtain ⟨g1,g2⟩ := refsS_sh l r' hr.2 hr'
       obtain ⟨d1,d2,d3⟩ := decZ_intE hx
       have hne : x.atom ≠ [] := fun e => by rw [e] at d1; exact decZ_ne _ d1
       refine ⟨⟨Sh.atom d1 hne hr.1,g1⟩,fun n hn => ?_⟩
       rcases List.mem_cons.1 hn with rfl | hn
       · exact ⟨d2,d3⟩
       · exact g2 n hn
     · cases h
   · cases h
theorem subsS_sh : ∀ (l:List S) (r:List Sb),S.rights l = true → l.all pairB = true → subsS l = .ok r → shs (r.map pairW) l ∧ ∀ x,x ∈ r → x.name ≠ [] ∧ x.t.wf ∧ x.t.valid = true
 | [],r,_,_,h => by simp [subsS] at h; subst h; exact ⟨trivial,by simp⟩
 | x :: l,r,hr,hp,h => by
   simp only [S.rights,Bool.and_eq_true] at hr
   simp only [List.all_cons,Bool.and_eq_true] at hp
   rw [subsS] at h
   split at h
   · cases h
   · rename_i t ht
     split at h
     · cases h
     · rename_i r' hr'
       cases h
       obtain ⟨g1,g2⟩ := subsS_sh l r' hr.2 hp.2 hr'
       obtain ⟨n,u,hxl⟩ := pairB_two hp.1
       have hn : n.atom ≠ [] := by have := hp.1; simpa [pairB,hxl] using this
       rw [hxl] at ht
       have ht : readS u = .ok t := ht
       have hv := readS_valid u t ht
       have hxr := hr.1
       have hxa : x.atom = [] := by
         by_cases ha : x.atom = []
         · exact ha
         · have := (right_atom hxr ha).1; rw [hxl] at this; cases this
       rw [S.right_eq,if_pos hxa,hxl] at hxr
       simp only [S.rights,Bool.and_eq_true] at hxr
       have e1 : (x.list.getD 0 zS).atom = n.atom := by rw [hxl]; rfl
       refine ⟨⟨?_,g1⟩,fun y hy => ?_⟩
       · cases x with | mk a o xl =>
         simp only [S.atom,S.list] at hxa hxl
         subst hxa; subst hxl
         exact Sh.list ⟨Sh.atom rfl hn hxr.1,Sh.term ht,trivial⟩
       · rcases List.mem_cons.1 hy with rfl | hy
         · exact ⟨by rw [e1]; exact hn,hv.2,hv.1⟩
         · exact g2 y hy
theorem S.mk_eq {x:S} {l:List S} (ha:x.atom = []) (hl:x.list = l) : x = .mk [] x.o l := by
 cases x; simp only [S.atom,S.list] at ha hl; subst ha; subst hl; rfl
theorem kindE_kindOf {s:List UInt8} (h:kindOf s ≠ 0) : kindE (kindOf s) = s ∧ s ≠ [] := by
 by_cases h0 : s = []
 · exact absurd (by unfold kindOf; rw [if_pos h0]) h
 · cases hf : (List.range 12).find? (fun i:Nat => decide (kindE ((i:Int) + 1) = s)) with
   | none => exact absurd (by unfold kindOf; rw [if_neg h0,hf]) h
   | some i =>
     have hk : kindOf s = (i:Int) + 1 := by unfold kindOf; rw [if_neg h0,hf]
     have := List.find?_some hf
     rw [hk]; exact ⟨by simpa using this,h0⟩
theorem shapeB_all {e:S} (h:shapeB e = true) : 2 ≤ e.list.length ∧ ¬ lineK e.list = 0 ∧ (∃ r,refsE (e.list.getD 1 zS) = some r) ∧ (e.list.length : Int) = partsE (lineK e.list) ∧
   (lineK e.list = 5 ∨ lineK e.list = 12 → (intE (e.list.getD 2 zS).atom).2 = 0) ∧ (lineK e.list = 5 → namedB (e.list.getD 3 zS) = true) := by
 simp only [shapeB,Bool.and_eq_true,decide_eq_true_eq,Bool.not_eq_true',decide_eq_false_iff_not,Bool.or_eq_true,Option.isSome_iff_exists] at h
 obtain ⟨h1,⟨h2,h3,h4⟩,h5,h6⟩ := h
 refine ⟨h1,h2,h3,h4,fun hk => ?_,fun hk => ?_⟩
 · rw [if_pos hk] at h5; simpa using h5
 · rcases h6 with h6 | h6
   · exact absurd hk h6
   · exact h6
theorem T.z_ok : T.z.same T.z = true := rfl
set_option maxHeartbeats 2000000 in
theorem step_ok {e : S} {s:St7} (hr:e.right = true) (h:stepR e = .ok s) : s.ok ∧ Sh (lineW s) e := by
 have hB : shapeB e = true := by
   unfold stepR at h
   split at h
   · cases h
   · rename_i hh; simpa using hh
 obtain ⟨b1,b2,⟨rl,b3⟩,b4,b5,b6⟩ := shapeB_all hB
 have ha : e.atom = [] := by
   by_cases ha : e.atom = []
   · exact ha
   · have := (right_atom hr ha).1; rw [this] at b1; simp at b1
 match hl : e.list,b1 with
 | x :: y :: r, _ =>
   rw [hl] at b2 b3 b4 b5 b6
   have hrr := hr
   rw [S.right_eq,if_pos ha,hl] at hrr
   simp only [S.rights,Bool.and_eq_true] at hrr
   obtain ⟨xr,yr,rr⟩ := hrr
   have hkx : lineK (x :: y :: r) = kindOf x.atom := rfl
   rw [hkx] at b2 b4 b5 b6
   obtain ⟨k1,k2⟩ := kindE_kindOf b2
   have kb := kindOf_bd x.atom
   have hK : lineK e.list = kindOf x.atom := by rw [hl]; rfl
   have hy : refsE y = some rl := b3
   have hya : y.atom = [] ∧ refsS y.list = some rl := by
     unfold refsE at hy
     split at hy
     · cases hy
     · rename_i hh; exact ⟨by simpa using hh,hy⟩
   obtain ⟨hya,hyl⟩ := hya
   have hyr := yr
   rw [S.right_eq,if_pos hya] at hyr
   obtain ⟨r1,r2⟩ := refsS_sh _ _ hyr hyl
   have shx : Sh (aS (kindE (kindOf x.atom))) x := Sh.atom k1 k2 xr
   have shy : Sh (refsW rl) y := by
     rw [S.mk_eq hya rfl]; exact Sh.list r1
   have hS : shapeS e = ⟨kindOf x.atom,rl.isEmpty,rl,if kindOf x.atom = 5 ∨ kindOf x.atom = 12 then (intE (e.list.getD 2 zS).atom).1 else 0,true,[],T.z,T.z⟩ := by
     unfold shapeS
     rw [hK]
     have : refsE (e.list.getD 1 zS) = some rl := by rw [hl]; exact hy
     rw [this]; rfl
   have he : ∀ l,shs (aS (kindE (kindOf x.atom)) :: refsW rl :: l) e.list → Sh (.mk [] false (aS (kindE (kindOf x.atom)) :: refsW rl :: l)) e := by
     intro l hsh
     rw [S.mk_eq ha rfl]; exact Sh.list hsh
   have i0 : i64B 0 := ⟨by omega,by omega⟩
   unfold stepR at h
   rw [hB,if_neg (by simp),hK,hS] at h
   have hl2 : e.list.getD 2 zS = r.getD 0 zS := by rw [hl]; rfl
   have hl3 : e.list.getD 3 zS = r.getD 1 zS := by rw [hl]; rfl
   rw [hl2,hl3] at h
   have b5' : kindOf x.atom = 5 ∨ kindOf x.atom = 12 → (intE (r.getD 0 zS).atom).2 = 0 := b5
   have b6' : kindOf x.atom = 5 → namedB (r.getD 1 zS) = true := b6
   generalize hk : kindOf x.atom = k at *
   by_cases h5 : k = 5
   · subst h5
     rw [if_pos rfl] at h
     have hrl : r.length = 2 := by have : partsE 5 = 4 := rfl; simp at b4; omega
     match r,hrl with
     | [z, w],_ =>
       have hz : (intE z.atom).2 = 0 := b5' (.inl rfl)
       have hw : namedB w = true := b6' rfl
       have e1 : [z,w].getD 1 zS = w := rfl
       have e0 : [z,w].getD 0 zS = z := rfl
       rw [e0,e1] at h
       simp only [S.rights,Bool.and_eq_true] at rr
       split at h
       · cases h
       · rename_i sb hsb
         cases h
         simp only [namedB,Bool.and_eq_true,decide_eq_true_eq] at hw
         have hwr := rr.2.1
         rw [S.right_eq,if_pos hw.2] at hwr
         obtain ⟨s1,s2⟩ := subsS_sh w.list sb hwr hw.1 hsb
         obtain ⟨d1,d2,d3⟩ := decZ_intE hz
         have hne : z.atom ≠ [] := fun e => by rw [e] at d1; exact decZ_ne _ d1
         refine ⟨⟨⟨by show (1:Int) ≤ 5; omega,by show (5:Int) ≤ 12; omega⟩,r2,?_,fun h => absurd rfl h,fun h => absurd rfl h,s2,fun _ => T.z_ok,fun h => ?_,fun _ => T.z_ok,fun h => ?_⟩,?_⟩
         · simp only [true_or,if_true]; exact ⟨d2,d3⟩
         · simp only at h; omega
         · simp only at h; omega
         · have : restW ⟨5,rl.isEmpty,rl,if (5:Int) = 5 ∨ (5:Int) = 12 then (intE z.atom).1 else 0,sb.isEmpty,sb,T.z,T.z⟩ = [aS (decZ (intE z.atom).1),subsW sb] := by
             simp [restW]
           unfold lineW
           rw [this]
           apply he
           rw [hl]
           refine ⟨shx,shy,Sh.atom d1 hne rr.1,?_,trivial⟩
           rw [S.mk_eq hw.2 rfl]; exact Sh.list s1
   · rw [if_neg h5] at h
     by_cases h1 : k = 1 ∨ k = 6 ∨ k = 7 ∨ k = 8
     · rw [if_pos h1] at h
       have hrl : r.length = 1 := by
         have : partsE k = 3 := by rcases h1 with rfl | rfl | rfl | rfl <;> rfl
         simp at b4; omega
       match r,hrl with
       | [z], _ =>
         have e0 : [z].getD 0 zS = z := rfl
         rw [e0] at h
         split at h
         · cases h
         · rename_i t ht
           cases h
           have hv := readS_valid z t ht
           have hrule : (if k = 5 ∨ k = 12 then (intE z.atom).1 else 0) = 0 := if_neg (by omega)
           rw [hrule]
           refine ⟨⟨⟨by simp only; omega,by simp only; omega⟩,r2,i0,fun _ _ => rfl,fun _ => rfl,by simp,fun h => ?_,fun _ => ⟨hv.2,hv.1⟩,fun _ => T.z_ok,fun h => ?_⟩,?_⟩
           · simp only at h; omega
           · simp only at h; omega
           · have : restW ⟨k,rl.isEmpty,rl,0,true,[],t,T.z⟩ = [writeT t] := by
               unfold restW; simp only; rw [if_neg h5,if_neg (by omega),if_pos h1]
             unfold lineW
             rw [this]
             apply he
             rw [hl]
             exact ⟨shx,shy,Sh.term ht,trivial⟩
     · rw [if_neg h1] at h
       by_cases h4 : k = 4
       · subst h4
         rw [if_pos rfl] at h
         have hrl : r.length = 2 := by have : partsE 4 = 4 := rfl; simp at b4; omega
         match r,hrl with
         | [z, w],_ =>
           have e1 : [z,w].getD 1 zS = w := rfl
           have e0 : [z,w].getD 0 zS = z := rfl
           rw [e0,e1] at h
           split at h
           · cases h
           · rename_i t ht
             split at h
             · cases h
             · rename_i u hu
               cases h
               have hv := readS_valid z t ht
               have hv2 := readS_valid w u hu
               have hrule : (if (4:Int) = 5 ∨ (4:Int) = 12 then (intE z.atom).1 else 0) = 0 := rfl
               rw [hrule]
               refine ⟨⟨⟨by simp only; omega,by simp only; omega⟩,r2,i0,fun _ _ => rfl,fun _ => rfl,by simp,fun h => ?_,fun _ => ⟨hv.2,hv.1⟩,fun h => ?_,fun _ => ⟨hv2.2,hv2.1⟩⟩,?_⟩
               · exact absurd (.inr (.inr (.inr (.inr rfl)))) h
               · exact absurd rfl h
               · have : restW ⟨4,rl.isEmpty,rl,0,true,[],t,u⟩ = [writeT t,writeT u] := by simp [restW]
                 unfold lineW
                 rw [this]
                 apply he
                 rw [hl]
                 exact ⟨shx,shy,Sh.term ht,Sh.term hu,trivial⟩
       · rw [if_neg h4] at h
         cases h
         by_cases h12 : k = 12
         · subst h12
           have hrl : r.length = 1 := by have : partsE 12 = 3 := rfl; simp at b4; omega
           match r,hrl with
           | [z],_ =>
             have hz : (intE z.atom).2 = 0 := b5' (.inr rfl)
             obtain ⟨d1,d2,d3⟩ := decZ_intE hz
             have hne : z.atom ≠ [] := fun e => by rw [e] at d1; exact decZ_ne _ d1
             simp only [S.rights,Bool.and_eq_true] at rr
             have e0 : [z].getD 0 zS = z := rfl
             rw [e0]
             have hrule : (if (12:Int) = 5 ∨ (12:Int) = 12 then (intE z.atom).1 else 0) = (intE z.atom).1 := rfl
             rw [hrule]
             refine ⟨⟨⟨by simp only; omega,by simp only; omega⟩,r2,⟨d2,d3⟩,fun _ h => absurd rfl h,fun _ => rfl,by simp,fun _ => T.z_ok,fun h => ?_,fun _ => T.z_ok,fun h => ?_⟩,?_⟩
             · simp only at h; omega
             · simp only at h; omega
             · have : restW ⟨12,rl.isEmpty,rl,(intE z.atom).1,true,[],T.z,T.z⟩ = [aS (decZ (intE z.atom).1)] := by simp [restW]
               unfold lineW
               rw [this]
               apply he
               rw [hl]
               exact ⟨shx,shy,Sh.atom d1 hne rr.1,trivial⟩
         · have hrl : r.length = 0 := by
             have : partsE k = 2 := by unfold partsE; rw [if_neg (by omega),if_neg (by omega)]
             simp at b4; omega
           match r,hrl with
           | [], _ =>
             have hrule : ∀ v : Int,(if k = 5 ∨ k = 12 then v else 0) = 0 := fun v => if_neg (by omega)
             rw [hrule]
             refine ⟨⟨⟨by simp only; omega,by simp only; omega⟩,r2,i0,fun _ _ => rfl,fun _ => rfl,by simp,fun _ => T.z_ok,fun h => ?_,fun _ => T.z_ok,fun h => ?_⟩,?_⟩
             · simp only at h; omega
             · simp only at h; omega
             · have : restW ⟨k,rl.isEmpty,rl,0,true,[],T.z,T.z⟩ = [] := by
                 unfold restW; simp only; rw [if_neg h5,if_neg h12,if_neg h1,if_neg h4]
               unfold lineW
               rw [this]
               apply he
               rw [hl]
               exact ⟨shx,shy,trivial⟩
end Go.Proofs.YtkofimhnehkdoaaGreatDoor.Rf
end
section
namespace Go.Proofs.YtkofimhnehkdoaaGreatDoor.Rf
theorem find_congr' : ∀ (l:List Nat) (p q:Nat → Bool),(∀ x,x ∈ l → p x = q x) → l.find? p = l.find? q
 | [],_,_,_ => rfl
 | x :: r,p,q,h => by
   rw [List.find?_cons,List.find?_cons,h x (by simp),find_congr' r p q fun y hy => h y (by simp [hy])]
theorem rightB_norm (s:St7) (i:Int) : rightB s.norm i = rightB s i := by
 have hk : s.norm.kind = s.kind := rfl
 have hr : s.norm.refs = s.refs := rfl
 unfold rightB
 rw [hk,hr]
 by_cases h : s.kind = 4 ∨ s.kind = 8
 · rw [if_pos h,if_pos h]
   have ha : s.norm.a = s.a.norm := by unfold St7.norm; simp only; rw [if_pos (by omega)]
   rw [ha]
   have : s.a.norm.args.length = s.a.args.length := by
     cases s.a with | mk op w v n o as => simp only [T.norm,T.args]; exact T.norms_len as
   rw [this]
 · rw [if_neg h,if_neg h]
theorem check_norm (p:List St7) : checkE (p.map St7.norm) = checkE p := by
 by_cases h : p = []
 · subst h; rfl
 · have h' : ¬ p.map St7.norm = [] := by simpa using h
   unfold checkE
   rw [List.length_map,if_neg h,if_neg h',find_congr' (List.range p.length) _ (fun i => !rightB (p.getD i St7.z) (i:Int)) (fun i hi => by
     have hi : i < p.length := by simpa using hi
     have e : (p.map St7.norm).getD i St7.z = (p.getD i St7.z).norm := by simp [hi]
     rw [e,rightB_norm])]
theorem parse_lines {p:List St7} (hok:∀ s,s ∈ p → s.ok) (hr:∀ s,s ∈ p → (lineW s).right = true ∧ (lineW s).depth ≤ 64) (hl:(allText (p.map lineW)).length ≤ 65536) (hc:(checkE p).2 = 0) :
   proofR (allText (p.map lineW)) = .ok (p.map St7.norm) := by
 have he : EncL (p.map lineW) ([] ++ allText (p.map lineW)) := enc_all _ [] Gp.nil fun t ht => by
   obtain ⟨s,hs,rfl⟩ := List.mem_map.1 ht
   exact (hr s hs).1
 rw [List.nil_append] at he
 obtain ⟨l',st',p1,p2⟩ := pAll_enc he (fun t ht => by
   obtain ⟨s,hs,rfl⟩ := List.mem_map.1 ht
   exact (hr s hs).2) hl
 unfold proofR
 rw [p1]
 simp only
 rw [stepsR_same _ _ 0 p2,steps_lines p 0 hok]
 simp only
 rw [check_norm,hc]
 simp
theorem steps_shs : ∀ (l:List S) (i:Int) (p:List St7),(∀ t,t ∈ l → t.right = true) → stepsR i l = .ok p → (∀ s,s ∈ p → s.ok) ∧ shs (p.map lineW) l
 | [],i,p,_,h => by simp [stepsR] at h; subst h; exact ⟨by simp,trivial⟩
 | x :: r,i,p,hr,h => by
   rw [stepsR] at h
   split at h
   · cases h
   · rename_i s hs
     split at h
     · cases h
     · rename_i l' hl
       cases h
       obtain ⟨g1,g2⟩ := steps_shs r _ l' (fun t ht => hr t (by simp [ht])) hl
       obtain ⟨k1,k2⟩ := step_ok (hr x (by simp)) hs
       refine ⟨fun y hy => ?_,k2,g2⟩
       rcases List.mem_cons.1 hy with rfl | hy
       · exact k1
       · exact g1 y hy
theorem shs_all : ∀ (l l' : List S),shs l l' → (∀ t,t ∈ l' → t.depth ≤ 64) → (∀ t,t ∈ l → t.right = true ∧ t.depth ≤ 64) ∧ (allText l).length ≤ 16 * (allText l').length
 | [],[],_,_ => ⟨by simp,by simp [allText]⟩
 | [],_ :: _,h,_ => by simp [shs] at h
 | _ :: _,[],h,_ => by simp [shs] at h
 | x :: r,y :: s,h,hd => by
   obtain ⟨⟨h1,h2,h3⟩,h4⟩ := h
   obtain ⟨g1,g2⟩ := shs_all r s h4 fun t ht => hd t (by simp [ht])
   refine ⟨fun t ht => ?_,?_⟩
   · rcases List.mem_cons.1 ht with rfl | ht
     · exact ⟨h1,by have := hd y (by simp); omega⟩
     · exact g1 t ht
   · simp only [allText,List.length_append,List.length_cons]; omega
theorem parse_again {s:List UInt8} {p:List St7} (hs:s.length ≤ 2000) (h:proofR s = .ok p) :
   (∀ x,x ∈ p → x.ok) ∧ (∀ x,x ∈ p → (lineW x).right = true ∧ (lineW x).depth ≤ 64) ∧ (allText (p.map lineW)).length ≤ 65536 ∧ proofR (allText (p.map lineW)) = .ok (p.map St7.norm) := by
 unfold proofR at h
 split at h
 · cases h
 · rename_i l st hx
   obtain ⟨hok,htl⟩ := pAll_ok hx
   split at h
   · cases h
   · rename_i p' hp
     split at h
     · rename_i hc
       cases h
       have hk : ∀ t,t ∈ l → t.right = true ∧ t.depth ≤ 64 := fun t ht => by
         have := hok t ht; simpa [S.okB] using this
       obtain ⟨g1,g2⟩ := steps_shs l 0 p (fun t ht => (hk t ht).1) hp
       obtain ⟨k1,k2⟩ := shs_all _ _ g2 fun t ht => (hk t ht).2
       have k3 : ∀ x,x ∈ p → (lineW x).right = true ∧ (lineW x).depth ≤ 64 := fun x hx => k1 _ (List.mem_map_of_mem hx)
       have k4 : (allText (p.map lineW)).length ≤ 65536 := by omega
       exact ⟨g1,k3,k4,parse_lines g1 k3 k4 hc⟩
     · cases h
end Go.Proofs.YtkofimhnehkdoaaGreatDoor.Rf
end
section
namespace Go.Proofs.YtkofimhnehkdoaaGreatDoor.Rf
section
variable {hp:List HObj} {lo:Nat}
set_option maxHeartbeats 2000000 in
theorem printP_D (p:List St7) (hw:∀ s,s ∈ p → s.wf ∧ s.refs.length ≤ 65536 ∧ s.subs.length ≤ 65536 ∧ kindE s.kind ≠ []) (hl:p.length ≤ 65536) (hb:(allText (p.map lineW)).length ≤ 140737488355328) (o:Own) (hp:List HObj) (lo:Nat) (q:Bool) :
   callD G0 IP n_pt_Print [.list (St7.avs p) o] hp lo q = some (.ret (.str (allText (p.map lineW))) hp) := by
 rw [callD_eq]
 have hte : (p.map lineW).take p.length = p.map lineW := List.take_of_length_le (by simp)
 have hloop := loop_iter (G := G0) (IP := IP) (lo := hp.length) (b := l_pt_Print_0)
   (fun i => ⟨[(3,.ptr hp.length 0),(6,.list (St7.avs p) o),(7,.int .i64 p.length),(8,.int .i64 i)],BH hp (allText ((p.map lineW).take i))⟩) p.length
   (r := (.exit 0,⟨[(3,.ptr hp.length 0),(6,.list (St7.avs p) o),(7,.int .i64 p.length),(8,.int .i64 p.length),(9,.bool false)],BH hp (allText (p.map lineW))⟩)) (fun i hi => by
     have hiI : (i:Int) < (p.length : Int) := by omega
     have hw1 := wrap_succ hi (n := p.length) (by omega)
     have hiW : i < (p.map lineW).length := by simpa using hi
     have hle := allText_le (p.map lineW) (i + 1)
     rw [allText_take hiW] at hle ⊢
     obtain ⟨g1,g2,g3,g4⟩ := hw p[i] (List.getElem_mem hi)
     have hgi : (p.map lineW)[i] = lineW p[i] := by simp
     rw [hgi] at hle ⊢
     simp only [List.length_append,List.length_cons,List.length_nil] at hle
     have hT : lineT p[i] = (lineW p[i]).text := by unfold lineT; rw [if_neg g4]
     have e1 := lineP_D p[i] g1 g2 g3 (by rw [hT]; omega) (BH hp (allText ((p.map lineW).take i))) hp.length false
     rw [hT,st_av,St7.cells] at e1
     have hne := S.text_ne (lineW p[i])
     have e2 := wstr_D (hp := hp) (lo := hp.length) (Nat.le_refl _) (allText ((p.map lineW).take i)) (lineW p[i]).text hne (by omega)
     have e3 := wbyte_D (hp := hp) (lo := hp.length) (Nat.le_refl _) (allText ((p.map lineW).take i) ++ (lineW p[i]).text) 10 (by simp; omega)
     have h10 : ((10:UInt8).toNat : Int) = 10 := rfl
     rw [h10,List.append_assoc] at e3
     rw [← hw1]
     generalize (lineW p[i]).text = tx at *
     generalize allText ((p.map lineW).take i) = bs at *
     simp [l_pt_Print_0,hi,hiI,st_av,e1,e2,e3])
   (by simp [l_pt_Print_0,hte]) (by simp)
 have e2 := bstr_D (hp := hp) (lo := hp.length) (Nat.le_refl _) (allText (p.map lineW)) hb
 simp only [List.take_zero,allText,Int.natCast_zero] at hloop
 generalize allText (p.map lineW) = tx at *
 simp [IP_pt_Print,i_pt_Print,B0_fold,hloop,e2]
end
theorem kindE_ne {k:Int} (h:1 ≤ k ∧ k ≤ 12) : kindE k ≠ [] := by
 rcases kind_cases (k := k) (by omega) with rfl | rfl | rfl | rfl | rfl | rfl | rfl | rfl | rfl | rfl | rfl | rfl
 all_goals decide
theorem proofR_more {s:List UInt8} {p:List St7} (h:proofR s = .ok p) : ∀ x,x ∈ p → x.refs.length ≤ 65536 ∧ x.subs.length ≤ 65536 := by
 unfold proofR at h
 split at h
 · cases h
 · rename_i l st hx
   have hfit := pAll_fit hx
   split at h
   · cases h
   · rename_i p' hp
     split at h
     · cases h
       intro x hx
       obtain ⟨e,he,h2⟩ := stepsR_mem l 0 p hp x hx
       refine ⟨stepR_len (hfit e he) h2,?_⟩
       unfold stepR at h2
       split at h2
       · cases h2
       · split at h2
         · split at h2
           · cases h2
           · rename_i sb hsb
             cases h2
             have hf := (S.fit_eq _).1 (getD_fit (hfit e he) 3)
             have := (subsS_wf _ _ hf.2.2.2 hsb).1
             simp only; omega
         · split at h2
           · split at h2
             · cases h2
             · cases h2; simp
           · split at h2
             · split at h2
               · cases h2
               · split at h2
                 · cases h2
                 · cases h2; simp
             · cases h2; simp [shapeS]
     · cases h
set_option maxHeartbeats 2000000 in
theorem prooftextTwice_D (s:List UInt8) (q:Bool) : callD G0 IP n_sl36_ProoftextTwice [.str s] [] 0 q = some (.ret (.bool true) []) := by
 rw [callD_eq]
 by_cases h : 2000 < (s.length : Int)
 · simp [IP_sl36_ProoftextTwice,i_sl36_ProoftextTwice,h,live36_D]
 · have e1 := parseP_D s [] 0 false
   cases hp : proofR s with
   | err i c =>
     rw [hp] at e1
     have hc : ¬ c = 0 := by
       unfold proofR at hp
       split at hp
       · rename_i hx; cases hp; exact pAll_err hx
       · split at hp
         · rename_i hs
           cases hp
           have : ∀ (l:List S) (j:Int),stepsR j l = .err i c → ¬ c = 0 := by
             intro l
             induction l with
             | nil => intro j h; simp [stepsR] at h
             | cons x r ih =>
               intro j h
               rw [stepsR] at h
               split at h
               · rename_i hx; cases h; exact stepR_ne _ _ hx
               · split at h
                 · rename_i hr; cases h; exact ih _ hr
                 · cases h
           exact this _ _ hs
         · split at hp
           · cases hp
           · rename_i hc; cases hp; exact hc
     simp only [outQ] at e1
     simp [IP_sl36_ProoftextTwice,i_sl36_ProoftextTwice,h,live36_D,e1,hc]
   | ok p =>
     rw [hp] at e1
     simp only [outQ] at e1
     obtain ⟨g1,g2,g3,g4⟩ := parse_again (by omega) hp
     obtain ⟨k1,k2⟩ := proofR_wf hp
     have k3 := proofR_more hp
     have e2 := fun (o:Own) => printP_D p (fun x hx => ⟨k2 x hx,(k3 x hx).1,(k3 x hx).2,kindE_ne (g1 x hx).kind⟩) k1 (by omega) o [] 0 false
     have e3 := parseP_D (allText (p.map lineW)) [] 0 false
     rw [g4] at e3
     simp only [outQ] at e3
     have e4 := fun (o1 o2:Own) => same34_D p (p.map St7.norm) (by omega) k2 o1 o2 [] 0 false
     rw [(norms_same p g1).2] at e4
     generalize allText (p.map lineW) = tx at *
     generalize St7.avs (p.map St7.norm) = L2 at *
     generalize ownSt (p.map St7.norm) = o2 at *
     simp [IP_sl36_ProoftextTwice,i_sl36_ProoftextTwice,h,live36_D,e1,e2,e3,e4]
end Go.Proofs.YtkofimhnehkdoaaGreatDoor.Rf
end
