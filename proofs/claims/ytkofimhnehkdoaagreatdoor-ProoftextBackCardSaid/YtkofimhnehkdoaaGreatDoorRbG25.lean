/- A part. -/
import Derived.Test.YtkofimhnehkdoaaGreatDoorRbG24
set_option linter.unusedVariables false
set_option linter.unusedSimpArgs false
section
namespace Go.Proofs.YtkofimhnehkdoaaGreatDoor.Rf
theorem S.mk_av (a:List UInt8) (o:Bool) (l:List S) : (S.mk a o l).av = .agg [.str a,.list (S.avs l) (ownB o)] := rfl
theorem ownB_true : ownB true = .nil := rfl
def badT (c:Option COut) : Prop := ∃ k a ru hp',c = some (.ret (.tup [.agg (cellsF k a ru),.list [] .nil,.bool false]) hp')
section
variable {hp:List HObj} {lo:Nat}
theorem stepT_bad1 (e:S) (he:e.fit) (hb:e.atom ≠ [] ∨ e.list.length < 2) (hp:List HObj) (lo:Nat) : badT (callD G0 IP n_pt_step [e.av] hp lo false) := by
 have hf := (S.fit_eq e).1 he
 rw [callD_eq,S.av_eq]
 by_cases ha : e.atom = []
 · have hl : e.list.length < 2 := by
     rcases hb with h | h
     · exact absurd ha h
     · exact h
   have hI : (e.list.length : Int) < 2 := by omega
   exact ⟨0,[],0,hp,by simp [IP_pt_step,i_pt_step,ha,hI,ownN,ownB_true]⟩
 · have ha2 : e.atom.isEmpty = false := by simpa using ha
   exact ⟨0,[],0,hp,by simp [IP_pt_step,i_pt_step,ha,ha2,ownN,ownB_true]⟩
theorem stepT_bad2 (x y:S) (r:List S) (o:Bool) (hb:y.atom ≠ []) (hp:List HObj) (lo:Nat) : badT (callD G0 IP n_pt_step [(S.mk [] o (x :: y :: r)).av] hp lo false) := by
 rw [callD_eq,S.mk_av]
 have g2 : ¬ (r.length : Int) + 1 + 1 < 2 := by omega
 have g4 : (1:Int) < (r.length : Int) + 1 + 1 := by omega
 have ha2 : y.atom.isEmpty = false := by simpa using hb
 exact ⟨0,[],0,hp,by simp [IP_pt_step,i_pt_step,S.avs,S.av_eq x,S.av_eq y,g2,g4,hb,ha2,ownN,ownB_true]⟩
theorem stepT_bad3 (x y:S) (r:List S) (o:Bool) (hy:y.atom = []) (hk:kindOf x.atom = 0) (hp:List HObj) (lo:Nat) : badT (callD G0 IP n_pt_step [(S.mk [] o (x :: y :: r)).av] hp lo false) := by
 rw [callD_eq,S.mk_av]
 have g2 : ¬ (r.length : Int) + 1 + 1 < 2 := by omega
 have g3 : (0:Int) < (r.length : Int) + 1 + 1 := by omega
 have g4 : (1:Int) < (r.length : Int) + 1 + 1 := by omega
 have e1 := fun hp lo q => kindT_D x.atom hp lo q
 rw [hk] at e1
 exact ⟨0,[],0,hp,by simp [IP_pt_step,i_pt_step,S.avs,S.av_eq x,S.av_eq y,g2,g3,g4,hy,e1,ownN,ownB_true]⟩
theorem stepT_bad4 (x y:S) (r:List S) (o:Bool) (hy:y.atom = []) (hyf:y.fit) (hk:kindOf x.atom ≠ 0) (hr:refsS y.list = none) (hp:List HObj) (lo:Nat) : badT (callD G0 IP n_pt_step [(S.mk [] o (x :: y :: r)).av] hp lo false) := by
 rw [callD_eq,S.mk_av]
 have g2 : ¬ (r.length : Int) + 1 + 1 < 2 := by omega
 have g3 : (0:Int) < (r.length : Int) + 1 + 1 := by omega
 have g4 : (1:Int) < (r.length : Int) + 1 + 1 := by omega
 have e1 := fun hp lo q => kindT_D x.atom hp lo q
 have hf := (S.fit_eq y).1 hyf
 generalize kindOf x.atom = k at *
 have hloop := fun (B:List AV) (hp:List HObj) (lo:Nat) => stepT_L B y.list (ownB y.o) hf.2.1 hp lo k y.list [] [] rfl (by simp) hf.2.2.2
 simp only [cellsT,hr,outTr,i64s_nil,show ownN [] = .nil from rfl,List.length_nil,Int.natCast_zero] at hloop
 obtain ⟨st,hs1,a,rfl⟩ := hloop [.str [],.list (x.av :: y.av :: S.avs r) (ownB o)] hp lo
 rw [S.av_eq x,S.av_eq y,hy] at hs1
 exact ⟨k,a,0,hp,by simp [IP_pt_step,i_pt_step,S.avs,S.av_eq x,S.av_eq y,g2,g3,g4,hy,e1,hk,hs1]⟩
end
end Go.Proofs.YtkofimhnehkdoaaGreatDoor.Rf
end
section
namespace Go.Proofs.YtkofimhnehkdoaaGreatDoor.Rf
section
variable {hp:List HObj} {lo:Nat}
theorem refsL_some {y:S} (hyf:y.fit) {rl:List Int} (hr:refsS y.list = some rl) (k:Int) (B:List AV) (hp:List HObj) (lo:Nat) :
   loopD G0 IP lo l_pt_step_0 ⟨[(1,.box B),(2,boxZ14),(5,.box (cellsT k [])),(47,.list (S.avs y.list) (ownB y.o)),(48,.int .i64 y.list.length),(49,.int .i64 0)],hp⟩ =
     some (.exit 0,⟨[(1,.box B),(2,boxZ14),(5,.box (cellsT k rl)),(47,.list (S.avs y.list) (ownB y.o)),(48,.int .i64 y.list.length),(49,.int .i64 y.list.length),(50,.bool false)],hp⟩) := by
 have hf := (S.fit_eq y).1 hyf
 have hloop := stepT_L B y.list (ownB y.o) hf.2.1 hp lo k y.list [] [] rfl (by simp) hf.2.2.2
 simp only [hr,outTr,List.length_nil,Int.natCast_zero,List.nil_append,S.avs_len] at hloop
 obtain ⟨st,hs1,rfl⟩ := hloop
 exact hs1
set_option maxHeartbeats 4000000 in
theorem stepT_bad5 (x y:S) (r:List S) (o:Bool) (hr9:r.length ≤ 65536) (hy:y.atom = []) (hyf:y.fit) (hk:kindOf x.atom ≠ 0) {rl:List Int} (hr:refsS y.list = some rl) (hl:¬ (r.length : Int) + 1 + 1 = partsE (kindOf x.atom)) (hp:List HObj) (lo:Nat) : badT (callD G0 IP n_pt_step [(S.mk [] o (x :: y :: r)).av] hp lo false) := by
 rw [callD_eq,S.mk_av]
 have g2 : ¬ (r.length : Int) + 1 + 1 < 2 := by omega
 have g3 : (0:Int) < (r.length : Int) + 1 + 1 := by omega
 have g4 : (1:Int) < (r.length : Int) + 1 + 1 := by omega
 have g5 : (2:Int) ≤ (r.length : Int) + 1 + 1 := by omega
 have e1 := fun hp lo q => kindT_D x.atom hp lo q
 have hb := kindOf_bd x.atom
 generalize kindOf x.atom = k at *
 have hloop := fun (B:List AV) (hp:List HObj) (lo:Nat) => refsL_some hyf hr k B hp lo
 simp only [cellsT,i64s_nil,show ownN [] = .nil from rfl] at hloop
 refine ⟨k,rl,0,hp,?_⟩
 by_cases h2 : k = 5 ∨ k = 4
 · have c2 : ¬ (r.length : Int) = 2 := by unfold partsE at hl; rw [if_pos h2] at hl; omega
   rcases h2 with rfl | rfl
   all_goals simp [IP_pt_step,i_pt_step,S.avs,S.av_eq x,S.av_eq y,g2,g3,g4,g5,hy,e1,hloop,c2]
 · by_cases h1 : k = 12 ∨ k = 1 ∨ k = 6 ∨ k = 7 ∨ k = 8
   · have c1 : ¬ (r.length : Int) = 1 := by unfold partsE at hl; rw [if_neg h2,if_pos h1] at hl; omega
     rcases h1 with rfl | rfl | rfl | rfl | rfl
     all_goals simp [IP_pt_step,i_pt_step,S.avs,S.av_eq x,S.av_eq y,g2,g3,g4,g5,hy,e1,hloop,c1]
   · have c0 : ¬ (r.length : Int) = 0 := by unfold partsE at hl; rw [if_neg h2,if_neg h1] at hl; omega
     have c0' : ¬ r = [] := fun e => c0 (by rw [e]; rfl)
     have n5 : ¬ k = 5 := fun h => h2 (.inl h)
     have n4 : ¬ k = 4 := fun h => h2 (.inr h)
     have n12 : ¬ k = 12 := fun h => h1 (.inl h)
     have n1 : ¬ k = 1 := fun h => h1 (.inr (.inl h))
     have n6 : ¬ k = 6 := fun h => h1 (.inr (.inr (.inl h)))
     have n7 : ¬ k = 7 := fun h => h1 (.inr (.inr (.inr (.inl h))))
     have n8 : ¬ k = 8 := fun h => h1 (.inr (.inr (.inr (.inr h))))
     simp [IP_pt_step,i_pt_step,S.avs,S.av_eq x,S.av_eq y,g2,g3,g4,g5,hy,e1,hloop,c0,c0',hk,n5,n4,n12,n1,n6,n7,n8]
set_option maxHeartbeats 4000000 in
theorem stepT_else (x y:S) (r:List S) (o:Bool) (hr9:r.length ≤ 65536) (hy:y.atom = []) (hyf:y.fit) (hk:kindOf x.atom ≠ 0) {rl:List Int} (hr:refsS y.list = some rl) (hl:(r.length : Int) + 1 + 1 = partsE (kindOf x.atom)) (h5:kindOf x.atom ≠ 5) (h12:kindOf x.atom ≠ 12) (hp:List HObj) (lo:Nat) :
   callD G0 IP n_pt_step [(S.mk [] o (x :: y :: r)).av] hp lo false = some (.ret (.tup [.agg (cellsF (kindOf x.atom) rl 0),.list (S.avs r) .no,.bool true]) hp) := by
 rw [callD_eq,S.mk_av]
 have g2 : ¬ (r.length : Int) + 1 + 1 < 2 := by omega
 have g3 : (0:Int) < (r.length : Int) + 1 + 1 := by omega
 have g4 : (1:Int) < (r.length : Int) + 1 + 1 := by omega
 have g5 : (2:Int) ≤ (r.length : Int) + 1 + 1 := by omega
 have hT : List.take r.length (S.avs r) = S.avs r := List.take_of_length_le (by simp)
 have e1 := fun hp lo q => kindT_D x.atom hp lo q
 generalize kindOf x.atom = k at *
 have hloop := fun (B:List AV) (hp:List HObj) (lo:Nat) => refsL_some hyf hr k B hp lo
 simp only [cellsT,i64s_nil,show ownN [] = .nil from rfl] at hloop
 by_cases h2 : k = 4
 · have c2 : (r.length : Int) = 2 := by unfold partsE at hl; rw [if_pos (.inr h2)] at hl; omega
   subst h2
   simp [IP_pt_step,i_pt_step,S.avs,S.av_eq x,S.av_eq y,g2,g3,g4,g5,hy,e1,hloop,c2,hT]
 · by_cases h1 : k = 1 ∨ k = 6 ∨ k = 7 ∨ k = 8
   · have c1 : (r.length : Int) = 1 := by unfold partsE at hl; rw [if_neg (by omega),if_pos (by omega)] at hl; omega
     rcases h1 with rfl | rfl | rfl | rfl
     all_goals simp [IP_pt_step,i_pt_step,S.avs,S.av_eq x,S.av_eq y,g2,g3,g4,g5,hy,e1,hloop,c1,hT]
   · have c0 : (r.length : Int) = 0 := by unfold partsE at hl; rw [if_neg (by omega),if_neg (by omega)] at hl; omega
     have c0' : r = [] := List.length_eq_zero_iff.1 (by omega)
     subst c0'
     have n1 : ¬ k = 1 := fun h => h1 (.inl h)
     have n6 : ¬ k = 6 := fun h => h1 (.inr (.inl h))
     have n7 : ¬ k = 7 := fun h => h1 (.inr (.inr (.inl h)))
     have n8 : ¬ k = 8 := fun h => h1 (.inr (.inr (.inr h)))
     simp [IP_pt_step,i_pt_step,S.avs,S.av_eq x,S.av_eq y,hy,e1,hloop,hk,h5,h2,h12,n1,n6,n7,n8]
end
end Go.Proofs.YtkofimhnehkdoaaGreatDoor.Rf
end
section
namespace Go.Proofs.YtkofimhnehkdoaaGreatDoor.Rf
section
variable {hp:List HObj} {lo:Nat}
set_option maxHeartbeats 4000000 in
theorem stepT_12 (x y z:S) (o:Bool) (hy:y.atom = []) (hyf:y.fit) (hzf:z.fit) (hk:kindOf x.atom = 12) {rl:List Int} (hr:refsS y.list = some rl) (hp:List HObj) (lo:Nat) :
   callD G0 IP n_pt_step [(S.mk [] o [x,y,z]).av] hp lo false = some (.ret (.tup [.agg (cellsF 12 rl (intE z.atom).1),.list [] .nil,.bool (decide ((intE z.atom).2 = 0))]) hp) := by
 rw [callD_eq,S.mk_av]
 have e1 := fun hp lo q => kindT_D x.atom hp lo q
 rw [hk] at e1
 have hf := (S.fit_eq z).1 hzf
 have e2 := fun (l:List AV) (oo:Own) (hp:List HObj) (lo:Nat) (q:Bool) => integer_D z.atom (by omega) l oo hp lo q
 have hloop := fun (B:List AV) (hp:List HObj) (lo:Nat) => refsL_some hyf hr 12 B hp lo
 simp only [cellsT,i64s_nil,show ownN [] = .nil from rfl] at hloop
 simp [IP_pt_step,i_pt_step,S.avs,S.av_eq x,S.av_eq y,S.av_eq z,hy,e1,hloop,e2]
set_option maxHeartbeats 4000000 in
theorem stepT_5bad (x y z w:S) (o:Bool) (hy:y.atom = []) (hyf:y.fit) (hzf:z.fit) (hwf:w.fit) (hk:kindOf x.atom = 5) {rl:List Int} (hr:refsS y.list = some rl) (hb:¬ (intE z.atom).2 = 0 ∨ namedB w = false) (hp:List HObj) (lo:Nat) (hlo:lo ≤ hp.length) :
   badT (callD G0 IP n_pt_step [(S.mk [] o [x,y,z,w]).av] hp lo false) := by
 rw [callD_eq,S.mk_av]
 have e1 := fun hp lo q => kindT_D x.atom hp lo q
 rw [hk] at e1
 have hf := (S.fit_eq z).1 hzf
 have e2 := fun (l:List AV) (oo:Own) (hp:List HObj) (lo:Nat) (q:Bool) => integer_D z.atom (by omega) l oo hp lo q
 have hloop := fun (B:List AV) (hp:List HObj) (lo:Nat) => refsL_some hyf hr 5 B hp lo
 simp only [cellsT,i64s_nil,show ownN [] = .nil from rfl] at hloop
 by_cases hz : (intE z.atom).2 = 0
 · have hn : namedB w = false := by
     rcases hb with h | h
     · exact absurd hz h
     · exact h
   obtain ⟨hp',hp1,_⟩ := pairs_D w hwf hp lo hlo
   rw [hn,S.av_eq] at hp1
   simp only [Bool.false_eq_true,if_false] at hp1
   exact ⟨5,rl,(intE z.atom).1,hp',by simp [IP_pt_step,i_pt_step,S.avs,S.av_eq x,S.av_eq y,S.av_eq z,S.av_eq w,hy,e1,hloop,e2,hz,hp1]⟩
 · exact ⟨5,rl,(intE z.atom).1,hp,by simp [IP_pt_step,i_pt_step,S.avs,S.av_eq x,S.av_eq y,S.av_eq z,S.av_eq w,hy,e1,hloop,e2,hz]⟩
set_option maxHeartbeats 4000000 in
theorem stepT_5 (x y z w:S) (o:Bool) (hy:y.atom = []) (hyf:y.fit) (hzf:z.fit) (hwf:w.fit) (hk:kindOf x.atom = 5) {rl:List Int} (hr:refsS y.list = some rl) (hz:(intE z.atom).2 = 0) (hn:namedB w = true) (hp:List HObj) (lo:Nat) (hlo:lo ≤ hp.length) :
   ∃ ow,callD G0 IP n_pt_step [(S.mk [] o [x,y,z,w]).av] hp lo false = some (.ret (.tup [.agg (cellsP 5 rl (intE z.atom).1 (prV hp.length w.list)),.list (S.avs (w.list.map trS)) ow,.bool true]) (prH hp w.list)) := by
 rw [callD_eq,S.mk_av]
 have e1 := fun hp lo q => kindT_D x.atom hp lo q
 rw [hk] at e1
 have hf := (S.fit_eq z).1 hzf
 have e2 := fun (l:List AV) (oo:Own) (hp:List HObj) (lo:Nat) (q:Bool) => integer_D z.atom (by omega) l oo hp lo q
 have hloop := fun (B:List AV) (hp:List HObj) (lo:Nat) => refsL_some hyf hr 5 B hp lo
 simp only [cellsT,i64s_nil,show ownN [] = .nil from rfl] at hloop
 obtain ⟨hp',hp1,hp2⟩ := pairs_D w hwf hp lo hlo
 rw [hp2 hn,hn,S.av_eq] at hp1
 simp only [if_true] at hp1
 have hcl := fun n => S.avs_closed n (w.list.map trS)
 generalize hX : S.avs (w.list.map trS) = X at *
 generalize ownA (w.list.map trS) = ox at *
 cases hl : w.list with
 | nil =>
   rw [hl] at hp1
   simp only [prV,prH,S.avs_nil] at hp1 ⊢
   exact ⟨ox.cp,by simp [IP_pt_step,i_pt_step,S.avs,S.av_eq x,S.av_eq y,S.av_eq z,S.av_eq w,hy,e1,hloop,e2,hz,hl,hp1,hcl]⟩
 | cons u r =>
   rw [hl] at hp1
   simp only [prV_cons] at hp1 ⊢
   generalize hH : prH hp (u :: r) = H at *
   generalize hid : hp.length + r.length = id at *
   generalize r.length + 1 = n at *
   generalize hW : S.avs (u :: r) = W at *
   exact ⟨ox.cp,by simp [IP_pt_step,i_pt_step,S.avs,S.av_eq x,S.av_eq y,S.av_eq z,S.av_eq w,hy,e1,hloop,e2,hz,hl,hW,hp1,hcl]⟩
end
end Go.Proofs.YtkofimhnehkdoaaGreatDoor.Rf
end
section
namespace Go.Proofs.YtkofimhnehkdoaaGreatDoor.Rf
def sbC (l:List Sb) : List AV := (l.map fun x => x.cells).flatten
theorem sbC_cons (x:Sb) (l:List Sb) : sbC (x :: l) = x.cells ++ sbC l := rfl
theorem sbC_app (l:List Sb) (x:Sb) : sbC (l ++ [x]) = sbC l ++ x.cells := by simp [sbC]
theorem sbC_len (l:List Sb) : (sbC l).length = l.length * 6 := by
 induction l with
 | nil => rfl
 | cons x r ih => rw [sbC_cons,List.length_append,ih]; simp; omega
theorem sbc_cp (x:Sb) : x.cells.map AV.cp1 = x.cells := by simp
theorem chunks_sbC : ∀ l : List Sb,chunks 6 true l.length (sbC l) = sbs l
 | [] => rfl
 | x :: r => by
   have h1 : (x.cells ++ sbC r).take 6 = x.cells := List.take_left' rfl
   have h2 : (x.cells ++ sbC r).drop 6 = sbC r := List.drop_left' rfl
   rw [List.length_cons,chunks,sbC_cons,h1,h2,chunks_sbC r,sbc_cp]
   rfl
theorem put_sbC (dn:List Sb) (x:S) (r:List S) (t:T) : put (sbC dn ++ sbZs (x :: r)) (dn.length * 6 + 1) t.cells = sbC (dn ++ [⟨nmS x,t⟩]) ++ sbZs r := by
 have h1 : sbZs (x :: r) = sbZ (nmS x) ++ sbZs r := by simp [sbZs]
 have h2 : t.cells.length = 5 := rfl
 rw [put,h2,← sbC_len,Nat.add_assoc,List.take_length_add_append,List.drop_length_add_append,h1,sbC_app]
 simp
noncomputable def evR (lo:Nat) (st:St) : Option (Ex × St) := evalC G0 (callD G0 IP) (loopD G0 IP lo) lo l_pt_read_0 st
section
variable {lo:Nat} (TL:List AV) (ow:Own) (j:Nat) (H:List HObj)
theorem readP_err (hj:j < TL.length) (u:S) (hu:u.sm) (hx:TL[j] = u.av) (c:Int) (hr:readS u = .err c) (CB:List AV) :
   evR lo ⟨[(2,boxZ14),(4,.box CB),(20,.list TL ow),(21,.int .i64 TL.length),(22,.int .i64 j)],H⟩ = some (.ret,⟨[(2,boxZ14),(3,.int .i64 c)],H⟩) := by
 have hI : (j:Int) < (TL.length : Int) := by omega
 have hc := readS_ne u c hr
 have e1 := fun hp lo q => read_D u hu hp lo q
 simp only [hr,tup_err,S.av_eq u] at e1
 simp [evR,l_pt_read_0,hj,hI,hx,S.av_eq u,e1,hc]
theorem readP_5 (hj:j < TL.length) (hTL:TL.length ≤ 65536) (u:S) (hu:u.sm) (hx:TL[j] = u.av) (t:T) (hr:readS u = .ok t) (rl:List Int) (ru:Int) (id n:Nat) (C:List AV) (hg:H[id]? = some (.cells 0 C)) (hid:lo ≤ id) (hn:j < n) (hn2:n ≤ 65536) (hC:j * 6 + 6 ≤ C.length) :
   evR lo ⟨[(2,boxZ14),(4,.box (cellsP 5 rl ru (.sref id 0 n 6))),(20,.list TL ow),(21,.int .i64 TL.length),(22,.int .i64 j)],H⟩ =
     some (.normal,⟨[(2,boxZ14),(4,.box (cellsP 5 rl ru (.sref id 0 n 6))),(20,.list TL ow),(21,.int .i64 TL.length),(22,.int .i64 ((j:Int) + 1))],H.set id (.cells 0 (put C (j * 6 + 1) t.cells))⟩) := by
 have hI : (j:Int) < (TL.length : Int) := by omega
 have hI2 : (j:Int) < (n:Int) := by omega
 have hw : IntKind.wrap .i64 ((j:Int) + 1) = (j:Int) + 1 := wrap_small (by omega) (by omega)
 have e1 := fun hp lo q => read_D u hu hp lo q
 simp only [hr,tup_ok,S.av_eq u,T.av_eq] at e1
 have hC2 : j * 6 + 1 + 5 ≤ C.length := by omega
 simp [evR,l_pt_read_0,hj,hI,hI2,hn,hx,S.av_eq u,e1,hw,hg,hid,hC2]
end
end Go.Proofs.YtkofimhnehkdoaaGreatDoor.Rf
end
