/- A part. -/
import Derived.Test.YtkofimhnehkdoaaGreatDoorRbG26
set_option linter.unusedVariables false
set_option linter.unusedSimpArgs false
section
namespace Go.Proofs.YtkofimhnehkdoaaGreatDoor.Rf
section
variable {hp:List HObj} {lo:Nat}
theorem stepR_bad {e:S} (h:shapeB e = false) : stepR e = .err 6 := by unfold stepR; rw [if_pos h]
set_option maxHeartbeats 2000000 in
theorem readP_D (e : S) (he:e.fit) (hp:List HObj) (lo:Nat) (q:Bool) : callD G0 IP n_pt_read [e.av] hp lo q = some ((stepR e).tup hp) := by
 have hf := (S.fit_eq e).1 he
 by_cases hb : e.atom ≠ [] ∨ e.list.length < 2
 · have hB : shapeB e = false := by
     have hl : ¬ 2 ≤ e.list.length := by
       rcases hb with h | h
       · rw [hf.2.2.1 h]; simp
       · omega
     unfold shapeB
     simp [hl]
   rw [stepR_bad hB]
   exact read_bad e (fun hp lo _ => stepT_bad1 e he hb hp lo) hp lo q
 have ha : e.atom = [] := by
   by_cases ha : e.atom = []
   · exact ha
   · exact absurd (.inl ha) hb
 have hl2 : ¬ e.list.length < 2 := fun h => hb (.inr h)
 cases e with | mk a o l =>
 simp only [S.atom,S.list] at ha hl2 hf
 subst ha
 have hex : ∃ x y r,l = x :: y :: r := by
   match l,hl2 with
   | x :: y :: r,_ => exact ⟨x,y,r,rfl⟩
   | [x],h => exact absurd (by simp) h
   | [],h => exact absurd (by simp) h
 obtain ⟨x,y,r,rfl⟩ := hex
 · have hyf : y.fit := hf.2.2.2 y (by simp)
   have hrf : ∀ z,z ∈ r → z.fit := fun z hz => hf.2.2.2 z (by simp [hz])
   have hr9 : r.length ≤ 65536 := by have := hf.2.1; simp at this; omega
   have kb := kindOf_bd x.atom
   have k0 : lineK (S.mk [] o (x :: y :: r)).list = kindOf x.atom := rfl
   have k1 : (S.mk [] o (x :: y :: r)).list.getD 1 zS = y := rfl
   have k2 : (S.mk [] o (x :: y :: r)).list.getD 2 zS = r.getD 0 zS := rfl
   have k3 : (S.mk [] o (x :: y :: r)).list.getD 3 zS = r.getD 1 zS := rfl
   have kl : (S.mk [] o (x :: y :: r)).list.length = r.length + 2 := rfl
   have hB : shapeB (S.mk [] o (x :: y :: r)) = ((!decide (kindOf x.atom = 0) && ((refsE y).isSome && decide (((r.length + 2 : Nat) : Int) = partsE (kindOf x.atom)))) &&
     ((if kindOf x.atom = 5 ∨ kindOf x.atom = 12 then decide ((intE (r.getD 0 zS).atom).2 = 0) else true) && (!decide (kindOf x.atom = 5) || namedB (r.getD 1 zS)))) := by
     unfold shapeB
     rw [k0,k1,k2,k3,kl]
     simp
   have hS : shapeS (S.mk [] o (x :: y :: r)) = ⟨kindOf x.atom,((refsE y).getD []).isEmpty,(refsE y).getD [],if kindOf x.atom = 5 ∨ kindOf x.atom = 12 then (intE (r.getD 0 zS).atom).1 else 0,true,[],T.z,T.z⟩ := by
     unfold shapeS
     rw [k0,k1,k2]
   by_cases hy : y.atom = []
   · have hrE : refsE y = refsS y.list := by unfold refsE; rw [if_neg (by simp [hy])]
     rw [hrE] at hB hS
     by_cases hk0 : kindOf x.atom = 0
     · have hB' : shapeB (S.mk [] o (x :: y :: r)) = false := by rw [hB,hk0]; simp
       rw [stepR_bad hB']
       exact read_bad _ (fun hp lo _ => stepT_bad3 x y r o hy hk0 hp lo) hp lo q
     cases hrS : refsS y.list with
     | none =>
       have hB' : shapeB (S.mk [] o (x :: y :: r)) = false := by rw [hB,hrS]; simp
       rw [stepR_bad hB']
       exact read_bad _ (fun hp lo _ => stepT_bad4 x y r o hy hyf hk0 hrS hp lo) hp lo q
     | some rl =>
       rw [hrS] at hB hS
       simp only [Option.isSome_some,Option.getD_some,Bool.true_and] at hB hS
       by_cases hln : (r.length : Int) + 1 + 1 = partsE (kindOf x.atom)
       · have hd1 : decide (kindOf x.atom = 0) = false := by simp [hk0]
         have hd2 : decide (((r.length + 2 : Nat) : Int) = partsE (kindOf x.atom)) = true := by simp; omega
         rw [hd1,hd2] at hB
         simp only [Bool.not_false,Bool.true_and] at hB
         by_cases h5 : kindOf x.atom = 5
         · have hr2 : r.length = 2 := by rw [h5] at hln; have : partsE 5 = 4 := rfl; omega
           match r,hr2 with
           | [z, w],_ =>
             have hzf := hrf z (by simp)
             have hwf := hrf w (by simp)
             have c0 : [z,w].getD 0 zS = z := rfl
             have c1 : [z,w].getD 1 zS = w := rfl
             rw [c0,c1,h5] at hB
             rw [c0,h5] at hS
             simp only [true_or,if_true,decide_true,Bool.not_true,Bool.false_or] at hB hS
             by_cases hz : (intE z.atom).2 = 0
             · cases hn : namedB w with
               | false =>
                 have hB' : shapeB (S.mk [] o [x,y,z,w]) = false := by rw [hB,hn]; simp
                 rw [stepR_bad hB']
                 exact read_bad _ (fun hp lo hlo => stepT_5bad x y z w o hy hyf hzf hwf h5 hrS (.inr hn) hp lo hlo) hp lo q
               | true =>
                 have hB' : shapeB (S.mk [] o [x,y,z,w]) = true := by rw [hB,hn]; simp [hz]
                 have := read_subs (S.mk [] o [x,y,z,w]) w hwf hn rl (intE z.atom).1 (fun hp lo hlo => stepT_5 x y z w o hy hyf hzf hwf h5 hrS hz hn hp lo hlo) hp lo q
                 rw [this]
                 unfold stepR
                 rw [hB',if_neg (by simp),k0,if_pos h5,k3,c1,hS]
                 try rfl
             · have hB' : shapeB (S.mk [] o [x,y,z,w]) = false := by rw [hB]; simp [hz]
               rw [stepR_bad hB']
               exact read_bad _ (fun hp lo hlo => stepT_5bad x y z w o hy hyf hzf hwf h5 hrS (.inl hz) hp lo hlo) hp lo q
         · by_cases h12 : kindOf x.atom = 12
           · have hr2 : r.length = 1 := by rw [h12] at hln; have : partsE 12 = 3 := rfl; omega
             match r,hr2 with
             | [z],_ =>
               have hzf := hrf z (by simp)
               have c0 : [z].getD 0 zS = z := rfl
               rw [c0,h12] at hB
               rw [c0,h12] at hS
               simp only [or_true,if_true] at hB hS
               have hstep := fun hp lo => stepT_12 x y z o hy hyf hzf h12 hrS hp lo
               by_cases hz : (intE z.atom).2 = 0
               · have hB' : shapeB (S.mk [] o [x,y,z]) = true := by rw [hB]; simp [hz]
                 have := read_none (S.mk [] o [x,y,z]) 12 rl (intE z.atom).1 .nil (fun hp lo hlo => by rw [hstep hp lo,hz]; rfl) hp lo q
                 rw [this]
                 unfold stepR
                 rw [hB',if_neg (by simp),k0,if_neg h5,if_neg (by omega),if_neg (by omega),hS]
                 try rfl
               · have hB' : shapeB (S.mk [] o [x,y,z]) = false := by rw [hB]; simp [hz]
                 rw [stepR_bad hB']
                 refine read_bad _ (fun hp lo hlo => ⟨12,rl,(intE z.atom).1,hp,?_⟩) hp lo q
                 rw [hstep hp lo]; simp [hz]
           · have hB' : shapeB (S.mk [] o (x :: y :: r)) = true := by rw [hB]; simp [h5,h12]
             have hstep := fun hp lo => stepT_else x y r o hr9 hy hyf hk0 hrS hln h5 h12 hp lo
             rw [if_neg (by omega)] at hS
             by_cases h4 : kindOf x.atom = 4
             · have hr2 : r.length = 2 := by rw [h4] at hln; have : partsE 4 = 4 := rfl; omega
               match r,hr2 with
               | [z,w],_ =>
                 have c0 : [z,w].getD 0 zS = z := rfl
                 have c1 : [z,w].getD 1 zS = w := rfl
                 have := read_two (S.mk [] o [x,y,z,w]) z w (kindOf x.atom) h5 rl (S.sm_of_fit z (hrf z (by simp))) (S.sm_of_fit w (hrf w (by simp))) (fun hp lo hlo => hstep hp lo) hp lo q
                 rw [this]
                 unfold stepR
                 rw [hB',if_neg (by simp),k0,if_neg h5,if_neg (by omega),if_pos h4,k2,k3,c0,c1,hS]
                 try rfl
             · by_cases h1 : kindOf x.atom = 1 ∨ kindOf x.atom = 6 ∨ kindOf x.atom = 7 ∨ kindOf x.atom = 8
               · have hr2 : r.length = 1 := by
                   have : partsE (kindOf x.atom) = 3 := by rcases h1 with h | h | h | h <;> rw [h] <;> rfl
                   omega
                 match r,hr2 with
                 | [z],_ =>
                   have c0 : [z].getD 0 zS = z := rfl
                   have := read_one (S.mk [] o [x,y,z]) z (kindOf x.atom) h5 rl (S.sm_of_fit z (hrf z (by simp))) (fun hp lo hlo => hstep hp lo) hp lo q
                   rw [this]
                   unfold stepR
                   rw [hB',if_neg (by simp),k0,if_neg h5,if_pos h1,k2,c0,hS]
                   try rfl
               · have hr2 : r.length = 0 := by
                   have : partsE (kindOf x.atom) = 2 := by unfold partsE; rw [if_neg (by omega),if_neg (by omega)]
                   omega
                 match r,hr2 with
                 | [],_ =>
                   have := read_none (S.mk [] o [x,y]) (kindOf x.atom) rl 0 .no (fun hp lo hlo => hstep hp lo) hp lo q
                   rw [this]
                   unfold stepR
                   rw [hB',if_neg (by simp),k0,if_neg h5,if_neg h1,if_neg h4,hS]
                   try rfl
       · have hB' : shapeB (S.mk [] o (x :: y :: r)) = false := by
           have hd2 : decide (((r.length + 2 : Nat) : Int) = partsE (kindOf x.atom)) = false := by simp; omega
           rw [hB,hd2]; simp
         rw [stepR_bad hB']
         exact read_bad _ (fun hp lo _ => stepT_bad5 x y r o hr9 hy hyf hk0 hrS hln hp lo) hp lo q
   · have hB' : shapeB (S.mk [] o (x :: y :: r)) = false := by
       have hrE : refsE y = none := by unfold refsE; rw [if_pos hy]
       rw [hB,hrE]; simp
     rw [stepR_bad hB']
     exact read_bad _ (fun hp lo _ => stepT_bad2 x y r o hy hp lo) hp lo q
end
end Go.Proofs.YtkofimhnehkdoaaGreatDoor.Rf
end
section
namespace Go.Proofs.YtkofimhnehkdoaaGreatDoor.Rf
def rfE (k:Int) : Int × Int := if k < 1 ∨ 12 < k then (-1,-1) else if k = 1 ∨ k = 6 ∨ k = 7 ∨ k = 12 then (0,0) else if k = 2 ∨ k = 11 then (1,1) else if k = 3 ∨ k = 9 ∨ k = 10 then (2,2) else if k = 4 ∨ k = 8 then (0,3) else (0,12)
def refB (i:Int) (x:Int) : Bool := decide (0 ≤ x) && decide (x < i)
def rightB (s:St7) (i:Int) : Bool := (if s.kind = 4 ∨ s.kind = 8 then decide (s.refs.length = s.a.args.length) && decide (s.refs.length ≤ 3) else
 decide (0 ≤ (rfE s.kind).1) && (decide ((rfE s.kind).1 ≤ s.refs.length) && decide ((s.refs.length : Int) ≤ (rfE s.kind).2))) && s.refs.all (refB i)
theorem all_range {α:Type} (l:List α) (d:α) (p:α → Bool) : ((List.range l.length).any fun i => !p (l.getD i d)) = !(l.all p) := by
 induction l with
 | nil => rfl
 | cons x r ih => rw [List.length_cons,List.range_succ_eq_map]; simp only [List.any_cons,List.any_map,Function.comp_def,List.all_cons]; simp only [List.getD_cons_zero,List.getD_cons_succ]; rw [ih]; cases p x <;> simp
section
variable {hp:List HObj} {lo:Nat}
theorem prefs_D (k:Int) (hp:List HObj) (lo:Nat) (q:Bool) : callD G0 IP n_proof_Refs [.int .i64 k] hp lo q = some (.ret (.tup [.int .i64 (rfE k).1,.int .i64 (rfE k).2]) hp) := by
 rw [callD_eq]
 by_cases h1 : k < 1
 · simp [IP_proof_Refs,i_proof_Refs,h1,rfE]
 · by_cases h2 : 12 < k
   · simp [IP_proof_Refs,i_proof_Refs,h1,h2,rfE]
   · rcases kind_cases (k := k) (by omega) with rfl | rfl | rfl | rfl | rfl | rfl | rfl | rfl | rfl | rfl | rfl | rfl
     all_goals simp [IP_proof_Refs,i_proof_Refs,rfE,G0_1,g_1]
theorem refs34_D (k:Int) (hp:List HObj) (lo:Nat) (q:Bool) : callD G0 IP n_sr34_Refs [.int .i64 k] hp lo q = some (.ret (.tup [.int .i64 (rfE k).1,.int .i64 (rfE k).2]) hp) := by
 rw [callD_eq]
 by_cases h : k < 1 ∨ 12 < k
 · have hk : ∀ j : Int,1 ≤ j → j ≤ 12 → ¬ k = j := fun j h1 h2 e => by omega
   have n1 := hk 1 (by omega) (by omega)
   have n2 := hk 2 (by omega) (by omega)
   have n3 := hk 3 (by omega) (by omega)
   have n4 := hk 4 (by omega) (by omega)
   have n5 := hk 5 (by omega) (by omega)
   have n6 := hk 6 (by omega) (by omega)
   have n7 := hk 7 (by omega) (by omega)
   have n8 := hk 8 (by omega) (by omega)
   have n9 := hk 9 (by omega) (by omega)
   have n10 := hk 10 (by omega) (by omega)
   have n11 := hk 11 (by omega) (by omega)
   have n12 := hk 12 (by omega) (by omega)
   simp [IP_sr34_Refs,i_sr34_Refs,n1,n2,n3,n4,n5,n6,n7,n8,n9,n10,n11,n12,rfE,h]
 · rcases kind_cases h with rfl | rfl | rfl | rfl | rfl | rfl | rfl | rfl | rfl | rfl | rfl | rfl
   all_goals simp [IP_sr34_Refs,i_sr34_Refs,rfE]
theorem right_L (l:List Int) (hl:l.length ≤ 9223372036854775807) (o:Own) (i:Int) (hp:List HObj) (lo:Nat) : loopD G0 IP lo l_proof_right_0 ⟨[(1,.int .i64 i),(47,.list (i64s l) o),(48,.int .i64 l.length),(49,.int .i64 0)],hp⟩ =
   some (if l.all (refB i) then (.exit 0,⟨[(1,.int .i64 i),(47,.list (i64s l) o),(48,.int .i64 l.length),(49,.int .i64 l.length),(50,.bool false)],hp⟩) else (.ret,⟨[(4,.bool false)],hp⟩)) := by
 have hloop := loop_find (G := G0) (IP := IP) (lo := lo) (b := l_proof_right_0)
   (fun j => ⟨[(1,.int .i64 i),(47,.list (i64s l) o),(48,.int .i64 l.length),(49,.int .i64 j)],hp⟩) l.length (fun j => !refB i (l.getD j 0))
   (.ret,⟨[(4,.bool false)],hp⟩) (.exit 0,⟨[(1,.int .i64 i),(47,.list (i64s l) o),(48,.int .i64 l.length),(49,.int .i64 l.length),(50,.bool false)],hp⟩)
   (fun j hj hp1 => by
     have hI : (j:Int) < (l.length : Int) := by omega
     have hw : IntKind.wrap .i64 ((j:Int) + 1) = (j:Int) + 1 := wrap_small (by omega) (by omega)
     have hb : refB i l[j] = true := by simpa [hj] using hp1
     simp only [refB,Bool.and_eq_true,decide_eq_true_eq] at hb
     have c1 : ¬ l[j] < 0 := by omega
     have c2 : ¬ i ≤ l[j] := by omega
     simp [l_proof_right_0,hj,hI,c1,c2,hw])
   (fun j hj hp1 => by
     have hI : (j:Int) < (l.length : Int) := by omega
     have hb : refB i l[j] = false := by simpa [hj] using hp1
     by_cases c1 : l[j] < 0
     · simp [l_proof_right_0,hj,hI,c1]
     · have c2 : i ≤ l[j] := by
         simp only [refB,Bool.and_eq_false_iff,decide_eq_false_iff_not] at hb
         omega
       simp [l_proof_right_0,hj,hI,c1,c2])
   (fun s => by simp) (by simp [l_proof_right_0]) (fun s => by simp)
 rw [all_range l 0 (refB i)] at hloop
 simp only [Int.natCast_zero] at hloop
 rw [hloop]
 cases l.all (refB i) <;> simp
theorem well_L (s:St7) (hl:s.refs.length ≤ 9223372036854775807) (i:Int) (hp:List HObj) (lo:Nat) : loopD G0 IP lo l_sr34_well_0 ⟨[(1,.int .i64 i),(2,.box s.cells),(7,.int .i64 0)],hp⟩ =
   some (if s.refs.all (refB i) then (.exit 0,⟨[(1,.int .i64 i),(2,.box s.cells),(7,.int .i64 s.refs.length),(52,.bool false)],hp⟩) else (.ret,⟨[(4,.bool false)],hp⟩)) := by
 have hloop := loop_find (G := G0) (IP := IP) (lo := lo) (b := l_sr34_well_0)
   (fun j => ⟨[(1,.int .i64 i),(2,.box s.cells),(7,.int .i64 j)],hp⟩) s.refs.length (fun j => !refB i (s.refs.getD j 0))
   (.ret,⟨[(4,.bool false)],hp⟩) (.exit 0,⟨[(1,.int .i64 i),(2,.box s.cells),(7,.int .i64 s.refs.length),(52,.bool false)],hp⟩)
   (fun j hj hp1 => by
     have hI : (j:Int) < (s.refs.length : Int) := by omega
     have hw : IntKind.wrap .i64 ((j:Int) + 1) = (j:Int) + 1 := wrap_small (by omega) (by omega)
     have hb : refB i s.refs[j] = true := by simpa [hj] using hp1
     simp only [refB,Bool.and_eq_true,decide_eq_true_eq] at hb
     have c1 : ¬ s.refs[j] < 0 := by omega
     have c2 : ¬ i ≤ s.refs[j] := by omega
     simp [l_sr34_well_0,hj,hI,c1,c2,hw])
   (fun j hj hp1 => by
     have hI : (j:Int) < (s.refs.length : Int) := by omega
     have hb : refB i s.refs[j] = false := by simpa [hj] using hp1
     by_cases c1 : s.refs[j] < 0
     · simp [l_sr34_well_0,hj,hI,c1]
     · have c2 : i ≤ s.refs[j] := by
         simp only [refB,Bool.and_eq_false_iff,decide_eq_false_iff_not] at hb
         omega
       simp [l_sr34_well_0,hj,hI,c1,c2])
   (fun s => by simp) (by simp [l_sr34_well_0]) (fun s => by simp)
 rw [all_range s.refs 0 (refB i)] at hloop
 simp only [Int.natCast_zero] at hloop
 rw [hloop]
 cases s.refs.all (refB i) <;> simp
end
end Go.Proofs.YtkofimhnehkdoaaGreatDoor.Rf
end
