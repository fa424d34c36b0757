/- A part. -/
import Derived.Test.YtkofimhnehkdoaaGreatDoorRbG34
import Derived.Test.YtkofimhnehkdoaaGreatDoorRbG35
set_option linter.unusedVariables false
set_option linter.unusedSimpArgs false
section
namespace Go.Proofs.YtkofimhnehkdoaaGreatDoor.Rf
theorem leafR_three {s:List UInt8} {t:T} (h:leafR s = .ok t) : 3 ≤ s.length ∧ t.size = 1 ∧ t.dep = 1 := by
 have hg := idxB_ge s 58
 unfold leafR at h
 split at h
 · cases h
 · rename_i h1
   have hc : (cutB s 58).2.2 = true := by cases hh : (cutB s 58).2.2 with | true => rfl | false => exact absurd (.inl hh) h1
   have hi : 0 ≤ idxB s 58 := by
     by_cases hi : 0 ≤ idxB s 58
     · exact hi
     · unfold cutB at hc; rw [if_neg hi] at hc; cases hc
   have hcut : cutB s 58 = (s.take (idxB s 58).toNat,s.drop ((idxB s 58).toNat + 1),true) := by unfold cutB; rw [if_pos hi]
   have hr : s.drop ((idxB s 58).toNat + 1) ≠ [] := fun e => by
     apply h1; right; rw [hcut]; simp only; rw [e]; rfl
   have hrl : (idxB s 58).toNat + 1 < s.length := by
     by_cases hh : (idxB s 58).toNat + 1 < s.length
     · exact hh
     · exact absurd (List.drop_eq_nil_of_le (by omega)) hr
   have hlen : ∀ l : List UInt8,l = s.take (idxB s 58).toNat → l ≠ [] → 3 ≤ s.length := by
     intro l hl hne
     have : l.length = (idxB s 58).toNat := by rw [hl,List.length_take]; omega
     have : l.length ≠ 0 := fun e => hne (List.length_eq_zero_iff.1 e)
     omega
   rw [hcut] at h
   simp only at h
   generalize hL : s.take (idxB s 58).toNat = L at h
   have h3 := hlen L hL.symm
   split at h
   · unfold constR at h
     split at h
     · cases h
     · rename_i h6
       have hne : L ≠ [] := fun e => h6 (by rw [e]; rfl)
       split at h
       · cases h
       · split at h
         · cases h
         · cases h
           exact ⟨h3 hne,rfl,rfl⟩
   · split at h
     · cases h
     · rename_i h6
       have hne : L ≠ [] := fun e => by
         apply h6; rw [e]; rfl
       split at h
       · cases h
       · cases h
         exact ⟨h3 hne,rfl,rfl⟩
mutual
theorem readS_dep : ∀ (e:S) (t:T),readS e = .ok t → t.dep ≤ e.depth ∧ 4 * t.size ≤ e.text.length + 1
 | .mk a o l, t,h => by
   rw [readS] at h
   by_cases ha : a = []
   · subst ha
     rw [if_neg (by simp)] at h
     split at h
     · cases h
     · rename_i hh
       split at h
       · cases h
       · cases hs : readsS l (1 + numsN (ofE (l.getD 0 S.z).atom).1) with
         | err e => rw [hs] at h; simp [nodeR] at h
         | ok ts =>
           rw [hs] at h
           have hR : headR l = true := by cases hx : headR l <;> simp_all
           simp only [headR,Bool.and_eq_true,decide_eq_true_eq] at hR
           simp only [nodeR] at h
           split at h
           · cases h
           · cases h
             match l,hR.1 with
             | x :: r,_ =>
               rw [Nat.add_comm 1,readsS] at hs
               have ih := readsS_dep r _ ts hs
               have hx : x.text.length ≠ 0 := fun e => S.text_ne x (List.length_eq_zero_iff.1 e)
               simp only [T.dep,T.size,S.depth,S.text,S.depths,S.texts,if_true,List.length_cons,List.length_append,List.length_nil]
               omega
   · rw [if_pos ha] at h
     obtain ⟨h1,h2,h3⟩ := leafR_three h
     simp only [S.depth,S.text,if_neg ha]
     omega
theorem readsS_dep : ∀ (l:List S) (k:Nat) (ts:List T),readsS l k = .ok ts → T.deps ts ≤ S.depths l ∧ 4 * T.sizes ts ≤ (S.texts false l).length
 | [],k,ts,h => by simp [readsS] at h; subst h; simp [T.deps,T.sizes]
 | x :: r,k + 1,ts,h => by
   rw [readsS] at h
   have ih := readsS_dep r k ts h
   simp only [S.depths,S.texts,List.length_append]
   omega
 | x :: r,0,ts,h => by
   rw [readsS] at h
   cases hx : readS x with
   | err e => rw [hx] at h; simp [TRs.cons] at h
   | ok t =>
     cases hr : readsS r 0 with
     | err e => rw [hx,hr] at h; simp [TRs.cons] at h
     | ok us =>
       rw [hx,hr] at h; simp [TRs.cons] at h; subst h
       have a := readS_dep x t hx
       have b := readsS_dep r 0 us hr
       simp only [S.depths,S.texts,List.length_append,T.deps,T.sizes]
       simp
       omega
end
def Sh (x y:S) : Prop := x.right = true ∧ x.depth ≤ y.depth ∧ x.text.length + 1 ≤ 16 * (y.text.length + 1)
def shs : List S → List S → Prop
 | [],[] => True
 | x :: r,y :: s => Sh x y ∧ shs r s
 | _,_ => False
theorem Sh.list {o o' : Bool} {l l' : List S} (h:shs l l') : Sh (.mk [] o l) (.mk [] o' l') := by
 have key : ∀ (l l' : List S),shs l l' → S.rights l = true ∧ S.depths l ≤ S.depths l' ∧ (S.texts false l).length ≤ 16 * (S.texts false l').length := by
   intro l
   induction l with
   | nil => intro l' h; cases l' <;> simp [shs,S.rights,S.depths,S.texts] at h ⊢
   | cons x r ih =>
     intro l' h
     cases l' with
     | nil => simp [shs] at h
     | cons y s =>
       obtain ⟨⟨h1,h2,h3⟩,h4⟩ := h
       obtain ⟨g1,g2,g3⟩ := ih s h4
       refine ⟨by simp [S.rights,h1,g1],?_,?_⟩
       · simp only [S.depths]; omega
       · simp only [S.texts,List.length_append]; simp; omega
 obtain ⟨h1,h2,h3⟩ := key l l' h
 refine ⟨by simp [S.right,h1],by simp [S.depth]; omega,?_⟩
 cases l with
 | nil => simp [S.text,S.texts]; omega
 | cons x r =>
   cases l' with
   | nil => simp [shs] at h
   | cons y s =>
     simp only [S.text,S.texts,List.length_append,List.length_cons,List.length_nil,if_true] at h3 ⊢
     simp at h3 ⊢
     omega
theorem same_looks (x:S) : ∀ y : S,x.same y = true → x.right = y.right ∧ x.depth = y.depth ∧ x.text = y.text := by
 induction x using S.ind with | h x ih =>
 intro y h
 obtain ⟨h1,h2⟩ := same_parts h
 have key : ∀ (l l' : List S),(∀ u,u ∈ l → ∀ y : S,u.same y = true → u.right = y.right ∧ u.depth = y.depth ∧ u.text = y.text) → S.sames l l' = true → S.rights l = S.rights l' ∧ S.depths l = S.depths l' ∧ (∀ b,S.texts b l = S.texts b l') ∧ l.isEmpty = l'.isEmpty := by
   intro l
   induction l with
   | nil => intro l' _ h; cases l' <;> simp [S.sames] at h ⊢
   | cons u r ihr =>
     intro l' hu h
     cases l' with
     | nil => simp [S.sames] at h
     | cons v s =>
       simp only [S.sames,Bool.and_eq_true] at h
       obtain ⟨g1,g2,g3⟩ := hu u (by simp) v h.1
       obtain ⟨k1,k2,k3,k4⟩ := ihr s (fun z hz => hu z (by simp [hz])) h.2
       exact ⟨by simp only [S.rights,g1,k1],by simp only [S.depths,g2,k2],fun b => by simp only [S.texts,g3,k3],rfl⟩
 obtain ⟨k1,k2,k3,k4⟩ := key x.list y.list ih h2
 refine ⟨?_,?_,?_⟩
 · rw [S.right_eq,S.right_eq,h1,k1,k4]
 · rw [S.depth_eq,S.depth_eq,h1,k2]
 · rw [S.text_eq,S.text_eq,h1,k3]
theorem Sh.of_same {x y:S} (h:x.same y = true) (hr:y.right = true) : Sh x y := by
 obtain ⟨h1,h2,h3⟩ := same_looks x y h
 exact ⟨by rw [h1,hr],by omega,by rw [h3]; omega⟩
theorem Sh.term {e:S} {t:T} (h:readS e = .ok t) : Sh (writeT t) e := by
 have hv := readS_valid e t h
 have hd := readS_dep e t h
 have h1 := write_len t hv.2
 have h2 := write_depth t
 exact ⟨write_right t,by omega,by omega⟩
theorem Sh.atom {x:S} {a:List UInt8} (ha:a = x.atom) (hne:x.atom ≠ []) (hr:x.right = true) : Sh (aS a) x := by
 refine Sh.of_same ?_ hr
 have hl := (right_atom hr hne).1
 cases x with | mk xa xo xl =>
 simp only [S.atom,S.list] at ha hl
 subst ha; subst hl
 simp [S.same,S.sames,aS]
end Go.Proofs.YtkofimhnehkdoaaGreatDoor.Rf
end
section
namespace Go.Proofs.YtkofimhnehkdoaaGreatDoor.Rf
theorem find_congr' : ∀ (l:List Nat) (p q:Nat → Bool),(∀ x,x ∈ l → p x = q x) → l.find? p = l.find? q
 | [],_,_,_ => rfl
 | x :: r,p,q,h => by
   rw [List.find?_cons,List.find?_cons,h x (by simp),find_congr' r p q fun y hy => h y (by simp [hy])]
theorem rightB_norm (s:St7) (i:Int) : rightB s.norm i = rightB s i := by
 have hk : s.norm.kind = s.kind := rfl
 have hr : s.norm.refs = s.refs := rfl
 unfold rightB
 rw [hk,hr]
 by_cases h : s.kind = 4 ∨ s.kind = 8
 · rw [if_pos h,if_pos h]
   have ha : s.norm.a = s.a.norm := by unfold St7.norm; simp only; rw [if_pos (by omega)]
   rw [ha]
   have : s.a.norm.args.length = s.a.args.length := by
     cases s.a with | mk op w v n o as => simp only [T.norm,T.args]; exact T.norms_len as
   rw [this]
 · rw [if_neg h,if_neg h]
theorem check_norm (p:List St7) : checkE (p.map St7.norm) = checkE p := by
 by_cases h : p = []
 · subst h; rfl
 · have h' : ¬ p.map St7.norm = [] := by simpa using h
   unfold checkE
   rw [List.length_map,if_neg h,if_neg h',find_congr' (List.range p.length) _ (fun i => !rightB (p.getD i St7.z) (i:Int)) (fun i hi => by
     have hi : i < p.length := by simpa using hi
     have e : (p.map St7.norm).getD i St7.z = (p.getD i St7.z).norm := by simp [hi]
     rw [e,rightB_norm])]
theorem parse_lines {p:List St7} (hok:∀ s,s ∈ p → s.ok) (hr:∀ s,s ∈ p → (lineW s).right = true ∧ (lineW s).depth ≤ 64) (hl:(allText (p.map lineW)).length ≤ 65536) (hc:(checkE p).2 = 0) :
   proofR (allText (p.map lineW)) = .ok (p.map St7.norm) := by
 have he : EncL (p.map lineW) ([] ++ allText (p.map lineW)) := enc_all _ [] Gp.nil fun t ht => by
   obtain ⟨s,hs,rfl⟩ := List.mem_map.1 ht
   exact (hr s hs).1
 rw [List.nil_append] at he
 obtain ⟨l',st',p1,p2⟩ := pAll_enc he (fun t ht => by
   obtain ⟨s,hs,rfl⟩ := List.mem_map.1 ht
   exact (hr s hs).2) hl
 unfold proofR
 rw [p1]
 simp only
 rw [stepsR_same _ _ 0 p2,steps_lines p 0 hok]
 simp only
 rw [check_norm,hc]
 simp
end Go.Proofs.YtkofimhnehkdoaaGreatDoor.Rf
end
