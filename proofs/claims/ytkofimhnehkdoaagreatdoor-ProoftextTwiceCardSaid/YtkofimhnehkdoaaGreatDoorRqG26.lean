/- A part of the proof: see the last text. -/
import Derived.Test.YtkofimhnehkdoaaGreatDoorRqG25
import Derived.Test.YtkofimhnehkdoaaGreatDoorRqG24
import Derived.Test.YtkofimhnehkdoaaGreatDoorRqG21
import Derived.Test.YtkofimhnehkdoaaGreatDoorRqG15
import Derived.Test.YtkofimhnehkdoaaGreatDoorRqG16
import Derived.Test.YtkofimhnehkdoaaGreatDoorRqG17
set_option linter.unusedVariables false
set_option linter.unusedSimpArgs false
section
namespace Go.Proofs.YtkofimhnehkdoaaGreatDoor.Rf
abbrev cellsT (k:Int) (acc:List Int) : List AV := [.int .i64 k,.list (i64s acc) (ownN acc),.int .i64 0,.list [] .nil,
 .int .i64 0,.int .i64 0,.int .u64 0,.str [],.list [] .nil,.int .i64 0,.int .i64 0,.int .u64 0,.str [],.list [] .nil]
abbrev cellsP (k:Int) (acc:List Int) (ru:Int) (v:AV) : List AV := [.int .i64 k,.list (i64s acc) (ownB acc.isEmpty),.int .i64 ru,v,
 .int .i64 0,.int .i64 0,.int .u64 0,.str [],.list [] .nil,.int .i64 0,.int .i64 0,.int .u64 0,.str [],.list [] .nil]
abbrev cellsF (k:Int) (acc:List Int) (ru:Int) : List AV := cellsP k acc ru (.list [] .nil)
def outTr (B L:List AV) (o:Own) (hp:List HObj) (k:Int) (acc:List Int) : Option (List Int) → Ex × St → Prop
 | none,st => ∃ a,st = (.ret,⟨[(2,.box (cellsF k a 0)),(3,.list [] .nil),(4,.bool false)],hp⟩)
 | some l,st => st = (.exit 0,⟨[(1,.box B),(2,boxZ14),(5,.box (cellsT k (acc ++ l))),(47,.list L o),(48,.int .i64 L.length),(49,.int .i64 L.length),(50,.bool false)],hp⟩)
section
variable {hp:List HObj} {lo:Nat}
set_option maxHeartbeats 1000000 in
theorem stepT_L (B:List AV) (L:List S) (o:Own) (hL:L.length ≤ 65536) (hp:List HObj) (lo:Nat) (k:Int) : ∀ (r p:List S) (acc:List Int),L = p ++ r → acc.length ≤ p.length → (∀ x,x ∈ r → x.fit) →
   ∃ st,loopD G0 IP lo l_pt_step_0 ⟨[(1,.box B),(2,boxZ14),(5,.box (cellsT k acc)),(47,.list (S.avs L) o),(48,.int .i64 L.length),(49,.int .i64 p.length)],hp⟩ = some st ∧ outTr B (S.avs L) o hp k acc (refsS r) st
 | [],p,acc,h,ha,_ => by
   simp at h
   subst h
   refine ⟨(.exit 0,⟨[(1,.box B),(2,boxZ14),(5,.box (cellsT k acc)),(47,.list (S.avs L) o),(48,.int .i64 (S.avs L).length),(49,.int .i64 (S.avs L).length),(50,.bool false)],hp⟩),?_,?_⟩
   · rw [loopD_eq,loopBody]
     simp [l_pt_step_0]
   · simp [refsS,outTr]
 | x :: r,p,acc,h,ha,hx => by
   rw [loopD_eq,loopBody]
   have xf := hx x (by simp)
   have hlen : L.length = p.length + (r.length + 1) := by rw [h]; simp
   have h1 : (p.length : Int) < (L.length : Int) := by omega
   have hl : p.length < L.length := by omega
   have h2 : L[p.length] = x := by simp [h]
   have hw : IntKind.wrap .i64 ((p.length : Int) + 1) = (p.length : Int) + 1 := wrap_small (by omega) (by omega)
   have hxf := (S.fit_eq x).1 xf
   have e1 := fun (l:List AV) (oo:Own) (hp:List HObj) (lo:Nat) (q:Bool) => integer_D x.atom (by omega) l oo hp lo q
   have hb1 : (acc.length + 1) * 8 ≤ 140737488355328 := by omega
   have hb2 : acc.length + 1 ≤ 9223372036854775807 := by omega
   rw [refsS]
   by_cases hz : (intE x.atom).2 = 0
   · obtain ⟨st,hs1,hs2⟩ := stepT_L B L o hL hp lo k r (p ++ [x]) (acc ++ [(intE x.atom).1]) (by rw [h]; simp) (by simp; omega) (fun y hy => hx y (by simp [hy]))
     refine ⟨st,?_,?_⟩
     · simp only [List.length_append,List.length_cons,List.length_nil,Nat.zero_add,Int.natCast_add,Int.natCast_one] at hs1
       unfold cellsT at hs1
       rw [i64s_app,i64s_one,ownN_app] at hs1
       simp [l_pt_step_0,hl,h1,h2,S.av_eq x,e1,hz,hw,hb1,hb2,ownN_ok]
       exact hs1
     · rw [if_pos hz]
       cases hr : refsS r with
       | none => rw [hr] at hs2; simpa [outTr] using hs2
       | some l => rw [hr] at hs2; simpa [outTr] using hs2
   · rw [if_neg hz]
     refine ⟨(.ret,⟨[(2,.box (cellsF k acc 0)),(3,.list [] .nil),(4,.bool false)],hp⟩),?_,?_⟩
     · simp [l_pt_step_0,hl,h1,h2,S.av_eq x,e1,hz]
     · exact ⟨acc,rfl⟩
end
end Go.Proofs.YtkofimhnehkdoaaGreatDoor.Rf
end
section
namespace Go.Proofs.YtkofimhnehkdoaaGreatDoor.Rf
theorem S.mk_av (a:List UInt8) (o:Bool) (l:List S) : (S.mk a o l).av = .agg [.str a,.list (S.avs l) (ownB o)] := rfl
theorem ownB_true : ownB true = .nil := rfl
def badT (c:Option COut) : Prop := ∃ k a ru hp',c = some (.ret (.tup [.agg (cellsF k a ru),.list [] .nil,.bool false]) hp')
section
variable {hp:List HObj} {lo:Nat}
theorem stepT_bad1 (e:S) (he:e.fit) (hb:e.atom ≠ [] ∨ e.list.length < 2) (hp:List HObj) (lo:Nat) : badT (callD G0 IP n_pt_step [e.av] hp lo false) := by
 have hf := (S.fit_eq e).1 he
 rw [callD_eq,S.av_eq]
 by_cases ha : e.atom = []
 · have hl : e.list.length < 2 := by
     rcases hb with h | h
     · exact absurd ha h
     · exact h
   have hI : (e.list.length : Int) < 2 := by omega
   exact ⟨0,[],0,hp,by simp [IP_pt_step,i_pt_step,ha,hI,ownN,ownB_true]⟩
 · have ha2 : e.atom.isEmpty = false := by simpa using ha
   exact ⟨0,[],0,hp,by simp [IP_pt_step,i_pt_step,ha,ha2,ownN,ownB_true]⟩
theorem stepT_bad2 (x y:S) (r:List S) (o:Bool) (hb:y.atom ≠ []) (hp:List HObj) (lo:Nat) : badT (callD G0 IP n_pt_step [(S.mk [] o (x :: y :: r)).av] hp lo false) := by
 rw [callD_eq,S.mk_av]
 have g2 : ¬ (r.length : Int) + 1 + 1 < 2 := by omega
 have g4 : (1:Int) < (r.length : Int) + 1 + 1 := by omega
 have ha2 : y.atom.isEmpty = false := by simpa using hb
 exact ⟨0,[],0,hp,by simp [IP_pt_step,i_pt_step,S.avs,S.av_eq x,S.av_eq y,g2,g4,hb,ha2,ownN,ownB_true]⟩
theorem stepT_bad3 (x y:S) (r:List S) (o:Bool) (hy:y.atom = []) (hk:kindOf x.atom = 0) (hp:List HObj) (lo:Nat) : badT (callD G0 IP n_pt_step [(S.mk [] o (x :: y :: r)).av] hp lo false) := by
 rw [callD_eq,S.mk_av]
 have g2 : ¬ (r.length : Int) + 1 + 1 < 2 := by omega
 have g3 : (0:Int) < (r.length : Int) + 1 + 1 := by omega
 have g4 : (1:Int) < (r.length : Int) + 1 + 1 := by omega
 have e1 := fun hp lo q => kindT_D x.atom hp lo q
 rw [hk] at e1
 exact ⟨0,[],0,hp,by simp [IP_pt_step,i_pt_step,S.avs,S.av_eq x,S.av_eq y,g2,g3,g4,hy,e1,ownN,ownB_true]⟩
theorem stepT_bad4 (x y:S) (r:List S) (o:Bool) (hy:y.atom = []) (hyf:y.fit) (hk:kindOf x.atom ≠ 0) (hr:refsS y.list = none) (hp:List HObj) (lo:Nat) : badT (callD G0 IP n_pt_step [(S.mk [] o (x :: y :: r)).av] hp lo false) := by
 rw [callD_eq,S.mk_av]
 have g2 : ¬ (r.length : Int) + 1 + 1 < 2 := by omega
 have g3 : (0:Int) < (r.length : Int) + 1 + 1 := by omega
 have g4 : (1:Int) < (r.length : Int) + 1 + 1 := by omega
 have e1 := fun hp lo q => kindT_D x.atom hp lo q
 have hf := (S.fit_eq y).1 hyf
 generalize kindOf x.atom = k at *
 have hloop := fun (B:List AV) (hp:List HObj) (lo:Nat) => stepT_L B y.list (ownB y.o) hf.2.1 hp lo k y.list [] [] rfl (by simp) hf.2.2.2
 simp only [cellsT,hr,outTr,i64s_nil,show ownN [] = .nil from rfl,List.length_nil,Int.natCast_zero] at hloop
 obtain ⟨st,hs1,a,rfl⟩ := hloop [.str [],.list (x.av :: y.av :: S.avs r) (ownB o)] hp lo
 rw [S.av_eq x,S.av_eq y,hy] at hs1
 exact ⟨k,a,0,hp,by simp [IP_pt_step,i_pt_step,S.avs,S.av_eq x,S.av_eq y,g2,g3,g4,hy,e1,hk,hs1]⟩
end
end Go.Proofs.YtkofimhnehkdoaaGreatDoor.Rf
end
section
namespace Go.Proofs.YtkofimhnehkdoaaGreatDoor.Rf
section
variable {hp:List HObj} {lo:Nat}
theorem refsL_some {y:S} (hyf:y.fit) {rl:List Int} (hr:refsS y.list = some rl) (k:Int) (B:List AV) (hp:List HObj) (lo:Nat) :
   loopD G0 IP lo l_pt_step_0 ⟨[(1,.box B),(2,boxZ14),(5,.box (cellsT k [])),(47,.list (S.avs y.list) (ownB y.o)),(48,.int .i64 y.list.length),(49,.int .i64 0)],hp⟩ =
     some (.exit 0,⟨[(1,.box B),(2,boxZ14),(5,.box (cellsT k rl)),(47,.list (S.avs y.list) (ownB y.o)),(48,.int .i64 y.list.length),(49,.int .i64 y.list.length),(50,.bool false)],hp⟩) := by
 have hf := (S.fit_eq y).1 hyf
 have hloop := stepT_L B y.list (ownB y.o) hf.2.1 hp lo k y.list [] [] rfl (by simp) hf.2.2.2
 simp only [hr,outTr,List.length_nil,Int.natCast_zero,List.nil_append,S.avs_len] at hloop
 obtain ⟨st,hs1,rfl⟩ := hloop
 exact hs1
set_option maxHeartbeats 4000000 in
theorem stepT_bad5 (x y:S) (r:List S) (o:Bool) (hr9:r.length ≤ 65536) (hy:y.atom = []) (hyf:y.fit) (hk:kindOf x.atom ≠ 0) {rl:List Int} (hr:refsS y.list = some rl) (hl:¬ (r.length : Int) + 1 + 1 = partsE (kindOf x.atom)) (hp:List HObj) (lo:Nat) : badT (callD G0 IP n_pt_step [(S.mk [] o (x :: y :: r)).av] hp lo false) := by
 rw [callD_eq,S.mk_av]
 have g2 : ¬ (r.length : Int) + 1 + 1 < 2 := by omega
 have g3 : (0:Int) < (r.length : Int) + 1 + 1 := by omega
 have g4 : (1:Int) < (r.length : Int) + 1 + 1 := by omega
 have g5 : (2:Int) ≤ (r.length : Int) + 1 + 1 := by omega
 have e1 := fun hp lo q => kindT_D x.atom hp lo q
 have hb := kindOf_bd x.atom
 generalize kindOf x.atom = k at *
 have hloop := fun (B:List AV) (hp:List HObj) (lo:Nat) => refsL_some hyf hr k B hp lo
 simp only [cellsT,i64s_nil,show ownN [] = .nil from rfl] at hloop
 refine ⟨k,rl,0,hp,?_⟩
 by_cases h2 : k = 5 ∨ k = 4
 · have c2 : ¬ (r.length : Int) = 2 := by unfold partsE at hl; rw [if_pos h2] at hl; omega
   rcases h2 with rfl | rfl
   all_goals simp [IP_pt_step,i_pt_step,S.avs,S.av_eq x,S.av_eq y,g2,g3,g4,g5,hy,e1,hloop,c2]
 · by_cases h1 : k = 12 ∨ k = 1 ∨ k = 6 ∨ k = 7 ∨ k = 8
   · have c1 : ¬ (r.length : Int) = 1 := by unfold partsE at hl; rw [if_neg h2,if_pos h1] at hl; omega
     rcases h1 with rfl | rfl | rfl | rfl | rfl
     all_goals simp [IP_pt_step,i_pt_step,S.avs,S.av_eq x,S.av_eq y,g2,g3,g4,g5,hy,e1,hloop,c1]
   · have c0 : ¬ (r.length : Int) = 0 := by unfold partsE at hl; rw [if_neg h2,if_neg h1] at hl; omega
     have c0' : ¬ r = [] := fun e => c0 (by rw [e]; rfl)
     have n5 : ¬ k = 5 := fun h => h2 (.inl h)
     have n4 : ¬ k = 4 := fun h => h2 (.inr h)
     have n12 : ¬ k = 12 := fun h => h1 (.inl h)
     have n1 : ¬ k = 1 := fun h => h1 (.inr (.inl h))
     have n6 : ¬ k = 6 := fun h => h1 (.inr (.inr (.inl h)))
     have n7 : ¬ k = 7 := fun h => h1 (.inr (.inr (.inr (.inl h))))
     have n8 : ¬ k = 8 := fun h => h1 (.inr (.inr (.inr (.inr h))))
     simp [IP_pt_step,i_pt_step,S.avs,S.av_eq x,S.av_eq y,g2,g3,g4,g5,hy,e1,hloop,c0,c0',hk,n5,n4,n12,n1,n6,n7,n8]
set_option maxHeartbeats 4000000 in
theorem stepT_else (x y:S) (r:List S) (o:Bool) (hr9:r.length ≤ 65536) (hy:y.atom = []) (hyf:y.fit) (hk:kindOf x.atom ≠ 0) {rl:List Int} (hr:refsS y.list = some rl) (hl:(r.length : Int) + 1 + 1 = partsE (kindOf x.atom)) (h5:kindOf x.atom ≠ 5) (h12:kindOf x.atom ≠ 12) (hp:List HObj) (lo:Nat) :
   callD G0 IP n_pt_step [(S.mk [] o (x :: y :: r)).av] hp lo false = some (.ret (.tup [.agg (cellsF (kindOf x.atom) rl 0),.list (S.avs r) .no,.bool true]) hp) := by
 rw [callD_eq,S.mk_av]
 have g2 : ¬ (r.length : Int) + 1 + 1 < 2 := by omega
 have g3 : (0:Int) < (r.length : Int) + 1 + 1 := by omega
 have g4 : (1:Int) < (r.length : Int) + 1 + 1 := by omega
 have g5 : (2:Int) ≤ (r.length : Int) + 1 + 1 := by omega
 have hT : List.take r.length (S.avs r) = S.avs r := List.take_of_length_le (by simp)
 have e1 := fun hp lo q => kindT_D x.atom hp lo q
 generalize kindOf x.atom = k at *
 have hloop := fun (B:List AV) (hp:List HObj) (lo:Nat) => refsL_some hyf hr k B hp lo
 simp only [cellsT,i64s_nil,show ownN [] = .nil from rfl] at hloop
 by_cases h2 : k = 4
 · have c2 : (r.length : Int) = 2 := by unfold partsE at hl; rw [if_pos (.inr h2)] at hl; omega
   subst h2
   simp [IP_pt_step,i_pt_step,S.avs,S.av_eq x,S.av_eq y,g2,g3,g4,g5,hy,e1,hloop,c2,hT]
 · by_cases h1 : k = 1 ∨ k = 6 ∨ k = 7 ∨ k = 8
   · have c1 : (r.length : Int) = 1 := by unfold partsE at hl; rw [if_neg (by omega),if_pos (by omega)] at hl; omega
     rcases h1 with rfl | rfl | rfl | rfl
     all_goals simp [IP_pt_step,i_pt_step,S.avs,S.av_eq x,S.av_eq y,g2,g3,g4,g5,hy,e1,hloop,c1,hT]
   · have c0 : (r.length : Int) = 0 := by unfold partsE at hl; rw [if_neg (by omega),if_neg (by omega)] at hl; omega
     have c0' : r = [] := List.length_eq_zero_iff.1 (by omega)
     subst c0'
     have n1 : ¬ k = 1 := fun h => h1 (.inl h)
     have n6 : ¬ k = 6 := fun h => h1 (.inr (.inl h))
     have n7 : ¬ k = 7 := fun h => h1 (.inr (.inr (.inl h)))
     have n8 : ¬ k = 8 := fun h => h1 (.inr (.inr (.inr h)))
     simp [IP_pt_step,i_pt_step,S.avs,S.av_eq x,S.av_eq y,hy,e1,hloop,hk,h5,h2,h12,n1,n6,n7,n8]
end
end Go.Proofs.YtkofimhnehkdoaaGreatDoor.Rf
end
section
namespace Go.Proofs.YtkofimhnehkdoaaGreatDoor.Rf
section
variable {hp:List HObj} {lo:Nat}
set_option maxHeartbeats 4000000 in
theorem stepT_12 (x y z:S) (o:Bool) (hy:y.atom = []) (hyf:y.fit) (hzf:z.fit) (hk:kindOf x.atom = 12) {rl:List Int} (hr:refsS y.list = some rl) (hp:List HObj) (lo:Nat) :
   callD G0 IP n_pt_step [(S.mk [] o [x,y,z]).av] hp lo false = some (.ret (.tup [.agg (cellsF 12 rl (intE z.atom).1),.list [] .nil,.bool (decide ((intE z.atom).2 = 0))]) hp) := by
 rw [callD_eq,S.mk_av]
 have e1 := fun hp lo q => kindT_D x.atom hp lo q
 rw [hk] at e1
 have hf := (S.fit_eq z).1 hzf
 have e2 := fun (l:List AV) (oo:Own) (hp:List HObj) (lo:Nat) (q:Bool) => integer_D z.atom (by omega) l oo hp lo q
 have hloop := fun (B:List AV) (hp:List HObj) (lo:Nat) => refsL_some hyf hr 12 B hp lo
 simp only [cellsT,i64s_nil,show ownN [] = .nil from rfl] at hloop
 simp [IP_pt_step,i_pt_step,S.avs,S.av_eq x,S.av_eq y,S.av_eq z,hy,e1,hloop,e2]
set_option maxHeartbeats 4000000 in
theorem stepT_5bad (x y z w:S) (o:Bool) (hy:y.atom = []) (hyf:y.fit) (hzf:z.fit) (hwf:w.fit) (hk:kindOf x.atom = 5) {rl:List Int} (hr:refsS y.list = some rl) (hb:¬ (intE z.atom).2 = 0 ∨ namedB w = false) (hp:List HObj) (lo:Nat) (hlo:lo ≤ hp.length) :
   badT (callD G0 IP n_pt_step [(S.mk [] o [x,y,z,w]).av] hp lo false) := by
 rw [callD_eq,S.mk_av]
 have e1 := fun hp lo q => kindT_D x.atom hp lo q
 rw [hk] at e1
 have hf := (S.fit_eq z).1 hzf
 have e2 := fun (l:List AV) (oo:Own) (hp:List HObj) (lo:Nat) (q:Bool) => integer_D z.atom (by omega) l oo hp lo q
 have hloop := fun (B:List AV) (hp:List HObj) (lo:Nat) => refsL_some hyf hr 5 B hp lo
 simp only [cellsT,i64s_nil,show ownN [] = .nil from rfl] at hloop
 by_cases hz : (intE z.atom).2 = 0
 · have hn : namedB w = false := by
     rcases hb with h | h
     · exact absurd hz h
     · exact h
   obtain ⟨hp',hp1,_⟩ := pairs_D w hwf hp lo hlo
   rw [hn,S.av_eq] at hp1
   simp only [Bool.false_eq_true,if_false] at hp1
   exact ⟨5,rl,(intE z.atom).1,hp',by simp [IP_pt_step,i_pt_step,S.avs,S.av_eq x,S.av_eq y,S.av_eq z,S.av_eq w,hy,e1,hloop,e2,hz,hp1]⟩
 · exact ⟨5,rl,(intE z.atom).1,hp,by simp [IP_pt_step,i_pt_step,S.avs,S.av_eq x,S.av_eq y,S.av_eq z,S.av_eq w,hy,e1,hloop,e2,hz]⟩
set_option maxHeartbeats 4000000 in
theorem stepT_5 (x y z w:S) (o:Bool) (hy:y.atom = []) (hyf:y.fit) (hzf:z.fit) (hwf:w.fit) (hk:kindOf x.atom = 5) {rl:List Int} (hr:refsS y.list = some rl) (hz:(intE z.atom).2 = 0) (hn:namedB w = true) (hp:List HObj) (lo:Nat) (hlo:lo ≤ hp.length) :
   ∃ ow,callD G0 IP n_pt_step [(S.mk [] o [x,y,z,w]).av] hp lo false = some (.ret (.tup [.agg (cellsP 5 rl (intE z.atom).1 (prV hp.length w.list)),.list (S.avs (w.list.map trS)) ow,.bool true]) (prH hp w.list)) := by
 rw [callD_eq,S.mk_av]
 have e1 := fun hp lo q => kindT_D x.atom hp lo q
 rw [hk] at e1
 have hf := (S.fit_eq z).1 hzf
 have e2 := fun (l:List AV) (oo:Own) (hp:List HObj) (lo:Nat) (q:Bool) => integer_D z.atom (by omega) l oo hp lo q
 have hloop := fun (B:List AV) (hp:List HObj) (lo:Nat) => refsL_some hyf hr 5 B hp lo
 simp only [cellsT,i64s_nil,show ownN [] = .nil from rfl] at hloop
 obtain ⟨hp',hp1,hp2⟩ := pairs_D w hwf hp lo hlo
 rw [hp2 hn,hn,S.av_eq] at hp1
 simp only [if_true] at hp1
 have hcl := fun n => S.avs_closed n (w.list.map trS)
 generalize hX : S.avs (w.list.map trS) = X at *
 generalize ownA (w.list.map trS) = ox at *
 cases hl : w.list with
 | nil =>
   rw [hl] at hp1
   simp only [prV,prH,S.avs_nil] at hp1 ⊢
   exact ⟨ox.cp,by simp [IP_pt_step,i_pt_step,S.avs,S.av_eq x,S.av_eq y,S.av_eq z,S.av_eq w,hy,e1,hloop,e2,hz,hl,hp1,hcl]⟩
 | cons u r =>
   rw [hl] at hp1
   simp only [prV_cons] at hp1 ⊢
   generalize hH : prH hp (u :: r) = H at *
   generalize hid : hp.length + r.length = id at *
   generalize r.length + 1 = n at *
   generalize hW : S.avs (u :: r) = W at *
   exact ⟨ox.cp,by simp [IP_pt_step,i_pt_step,S.avs,S.av_eq x,S.av_eq y,S.av_eq z,S.av_eq w,hy,e1,hloop,e2,hz,hl,hW,hp1,hcl]⟩
end
end Go.Proofs.YtkofimhnehkdoaaGreatDoor.Rf
end
section
namespace Go.Proofs.YtkofimhnehkdoaaGreatDoor.Rf
def sbC (l:List Sb) : List AV := (l.map fun x => x.cells).flatten
theorem sbC_cons (x:Sb) (l:List Sb) : sbC (x :: l) = x.cells ++ sbC l := rfl
theorem sbC_app (l:List Sb) (x:Sb) : sbC (l ++ [x]) = sbC l ++ x.cells := by simp [sbC]
theorem sbC_len (l:List Sb) : (sbC l).length = l.length * 6 := by
 induction l with
 | nil => rfl
 | cons x r ih => rw [sbC_cons,List.length_append,ih]; simp; omega
theorem sbc_cp (x:Sb) : x.cells.map AV.cp1 = x.cells := by simp
theorem chunks_sbC : ∀ l : List Sb,chunks 6 true l.length (sbC l) = sbs l
 | [] => rfl
 | x :: r => by
   have h1 : (x.cells ++ sbC r).take 6 = x.cells := List.take_left' rfl
   have h2 : (x.cells ++ sbC r).drop 6 = sbC r := List.drop_left' rfl
   rw [List.length_cons,chunks,sbC_cons,h1,h2,chunks_sbC r,sbc_cp]
   rfl
theorem put_sbC (dn:List Sb) (x:S) (r:List S) (t:T) : put (sbC dn ++ sbZs (x :: r)) (dn.length * 6 + 1) t.cells = sbC (dn ++ [⟨nmS x,t⟩]) ++ sbZs r := by
 have h1 : sbZs (x :: r) = sbZ (nmS x) ++ sbZs r := by simp [sbZs]
 have h2 : t.cells.length = 5 := rfl
 rw [put,h2,← sbC_len,Nat.add_assoc,List.take_length_add_append,List.drop_length_add_append,h1,sbC_app]
 simp
noncomputable def evR (lo:Nat) (st:St) : Option (Ex × St) := evalC G0 (callD G0 IP) (loopD G0 IP lo) lo l_pt_read_0 st
section
variable {lo:Nat} (TL:List AV) (ow:Own) (j:Nat) (H:List HObj)
theorem readP_err (hj:j < TL.length) (u:S) (hu:u.sm) (hx:TL[j] = u.av) (c:Int) (hr:readS u = .err c) (CB:List AV) :
   evR lo ⟨[(2,boxZ14),(4,.box CB),(20,.list TL ow),(21,.int .i64 TL.length),(22,.int .i64 j)],H⟩ = some (.ret,⟨[(2,boxZ14),(3,.int .i64 c)],H⟩) := by
 have hI : (j:Int) < (TL.length : Int) := by omega
 have hc := readS_ne u c hr
 have e1 := fun hp lo q => read_D u hu hp lo q
 simp only [hr,tup_err,S.av_eq u] at e1
 simp [evR,l_pt_read_0,hj,hI,hx,S.av_eq u,e1,hc]
theorem readP_5 (hj:j < TL.length) (hTL:TL.length ≤ 65536) (u:S) (hu:u.sm) (hx:TL[j] = u.av) (t:T) (hr:readS u = .ok t) (rl:List Int) (ru:Int) (id n:Nat) (C:List AV) (hg:H[id]? = some (.cells 0 C)) (hid:lo ≤ id) (hn:j < n) (hn2:n ≤ 65536) (hC:j * 6 + 6 ≤ C.length) :
   evR lo ⟨[(2,boxZ14),(4,.box (cellsP 5 rl ru (.sref id 0 n 6))),(20,.list TL ow),(21,.int .i64 TL.length),(22,.int .i64 j)],H⟩ =
     some (.normal,⟨[(2,boxZ14),(4,.box (cellsP 5 rl ru (.sref id 0 n 6))),(20,.list TL ow),(21,.int .i64 TL.length),(22,.int .i64 ((j:Int) + 1))],H.set id (.cells 0 (put C (j * 6 + 1) t.cells))⟩) := by
 have hI : (j:Int) < (TL.length : Int) := by omega
 have hI2 : (j:Int) < (n:Int) := by omega
 have hw : IntKind.wrap .i64 ((j:Int) + 1) = (j:Int) + 1 := wrap_small (by omega) (by omega)
 have e1 := fun hp lo q => read_D u hu hp lo q
 simp only [hr,tup_ok,S.av_eq u,T.av_eq] at e1
 have hC2 : j * 6 + 1 + 5 ≤ C.length := by omega
 simp [evR,l_pt_read_0,hj,hI,hI2,hn,hx,S.av_eq u,e1,hw,hg,hid,hC2]
end
end Go.Proofs.YtkofimhnehkdoaaGreatDoor.Rf
end
section
namespace Go.Proofs.YtkofimhnehkdoaaGreatDoor.Rf
abbrev hpC (hp:List HObj) (m:Nat) (C:List AV) : List HObj := hp ++ List.replicate m .dead ++ [.cells 0 C]
theorem hpC_get (hp:List HObj) (m:Nat) (C:List AV) : (hpC hp m C)[hp.length + m]? = some (.cells 0 C) := by
 unfold hpC
 rw [List.getElem?_append_right (by simp)]
 simp
theorem hpC_set (hp:List HObj) (m:Nat) (C D:List AV) : (hpC hp m C).set (hp.length + m) (.cells 0 D) = hpC hp m D := by
 unfold hpC
 rw [List.set_append_right _ _ (by simp)]
 simp
theorem prH_hpC (hp:List HObj) (x:S) (r:List S) : prH hp (x :: r) = hpC hp r.length (sbZs (x :: r)) := rfl
def outSb5 (TL:List AV) (ow:Own) (hp:List HObj) (m id n:Nat) (rl:List Int) (ru:Int) (dn:List Sb) : SbR → Ex × St → Prop
 | .err c,st => ∃ hp',st = (.ret,⟨[(2,boxZ14),(3,.int .i64 c)],hp'⟩)
 | .ok l,st => st = (.exit 0,⟨[(2,boxZ14),(4,.box (cellsP 5 rl ru (.sref id 0 n 6))),(20,.list TL ow),(21,.int .i64 TL.length),(22,.int .i64 TL.length),(23,.bool false)],hpC hp m (sbC (dn ++ l))⟩)
section
variable {lo:Nat}
theorem readP_L (L:List S) (ow:Own) (hL:L.length ≤ 65536) (hp:List HObj) (lo:Nat) (hlo:lo ≤ hp.length) (m n:Nat) (hn:L.length = n) (rl:List Int) (ru:Int) : ∀ (r p:List S) (dn:List Sb),L = p ++ r → dn.length = p.length → (∀ x,x ∈ r → x.fit ∧ pairB x = true) →
   ∃ st,loopD G0 IP lo l_pt_read_0 ⟨[(2,boxZ14),(4,.box (cellsP 5 rl ru (.sref (hp.length + m) 0 n 6))),(20,.list (S.avs (L.map trS)) ow),(21,.int .i64 (S.avs (L.map trS)).length),(22,.int .i64 p.length)],hpC hp m (sbC dn ++ sbZs r)⟩ = some st ∧
     outSb5 (S.avs (L.map trS)) ow hp m (hp.length + m) n rl ru dn (subsS r) st
 | [],p,dn,h,hd,_ => by
   simp at h
   subst h
   refine ⟨(.exit 0,⟨[(2,boxZ14),(4,.box (cellsP 5 rl ru (.sref (hp.length + m) 0 n 6))),(20,.list (S.avs (L.map trS)) ow),(21,.int .i64 (S.avs (L.map trS)).length),(22,.int .i64 (S.avs (L.map trS)).length),(23,.bool false)],hpC hp m (sbC dn)⟩),?_,?_⟩
   · have : sbC dn ++ sbZs [] = sbC dn := by simp [sbZs]
     rw [this,loopD_eq,loopBody]
     have hl : (S.avs (L.map trS)).length = L.length := by simp
     generalize hpC hp m (sbC dn) = H
     simp [l_pt_read_0]
   · simp [subsS,outSb5]
 | x :: r,p,dn,h,hd,hx => by
   obtain ⟨xf,xp⟩ := hx x (by simp)
   obtain ⟨a,u,hxl⟩ := pairB_two xp
   have hf := (S.fit_eq x).1 xf
   have hu : u.sm := S.sm_of_fit u (hf.2.2.2 u (by rw [hxl]; simp))
   have hlen : L.length = p.length + (r.length + 1) := by rw [h]; simp
   have hTL : (S.avs (L.map trS)).length = L.length := by simp
   have hj : p.length < (S.avs (L.map trS)).length := by omega
   have ht : trS x = u := by unfold trS; rw [hxl]; rfl
   have h2 : (S.avs (L.map trS))[p.length] = u.av := by simp [h,ht]
   have g1 : x.list.getD 1 zS = u := ht
   have hid : lo ≤ hp.length + m := by omega
   have hC : p.length * 6 + 6 ≤ (sbC dn ++ sbZs (x :: r)).length := by rw [List.length_append,sbC_len,sbZs_len,hd]; simp; omega
   rw [loopD_eq,loopBody,subsS,g1]
   cases hr : readS u with
   | err c =>
     have e1 := readP_err (lo := lo) (S.avs (L.map trS)) ow p.length (hpC hp m (sbC dn ++ sbZs (x :: r))) hj u hu h2 c hr (cellsP 5 rl ru (.sref (hp.length + m) 0 n 6))
     rw [evR] at e1
     exact ⟨_,by rw [e1],_,rfl⟩
   | ok t =>
     have e1 := readP_5 (lo := lo) (S.avs (L.map trS)) ow p.length (hpC hp m (sbC dn ++ sbZs (x :: r))) hj (by omega) u hu h2 t hr rl ru (hp.length + m) n _ (hpC_get hp m _) hid (by omega) (by omega) hC
     rw [evR,hpC_set,← hd,put_sbC,hd] at e1
     obtain ⟨st,hs1,hs2⟩ := readP_L L ow hL hp lo hlo m n hn rl ru r (p ++ [x]) (dn ++ [⟨nmS x,t⟩]) (by rw [h]; simp) (by simp [hd]) (fun y hy => hx y (by simp [hy]))
     simp only [List.length_append,List.length_cons,List.length_nil,Nat.zero_add,Int.natCast_add,Int.natCast_one] at hs1
     refine ⟨st,by rw [e1]; exact hs1,?_⟩
     cases hsb : subsS r with
     | err c => rw [hsb] at hs2; exact hs2
     | ok l => rw [hsb] at hs2; simpa [outSb5,nmS] using hs2
end
end Go.Proofs.YtkofimhnehkdoaaGreatDoor.Rf
end
section
namespace Go.Proofs.YtkofimhnehkdoaaGreatDoor.Rf
section
variable {hp:List HObj} {lo:Nat}
theorem read_bad (e:S) (hb:∀ hp lo,lo ≤ hp.length → badT (callD G0 IP n_pt_step [e.av] hp lo false)) (hp:List HObj) (lo:Nat) (q:Bool) : callD G0 IP n_pt_read [e.av] hp lo q = some ((StR.err 6).tup hp) := by
 obtain ⟨k,a,ru,hp',h1⟩ := hb hp hp.length (Nat.le_refl _)
 rw [callD_eq]
 rw [S.av_eq] at h1 ⊢
 simp [IP_pt_read,i_pt_read,h1,StR.tup,stz_av]
theorem read_none (e:S) (k:Int) (rl:List Int) (ru:Int) (o:Own) (hs:∀ hp lo,lo ≤ hp.length → callD G0 IP n_pt_step [e.av] hp lo false = some (.ret (.tup [.agg (cellsF k rl ru),.list [] o,.bool true]) hp)) (hp:List HObj) (lo:Nat) (q:Bool) :
   callD G0 IP n_pt_read [e.av] hp lo q = some ((StR.ok ⟨k,rl.isEmpty,rl,ru,true,[],T.z,T.z⟩).tup hp) := by
 have h1 := hs hp hp.length (Nat.le_refl _)
 have hl : ∀ (B:List AV) (o:Own) (hp:List HObj) (lo:Nat),loopD G0 IP lo l_pt_read_0 ⟨[(2,boxZ14),(4,.box B),(20,.list [] o),(21,.int .i64 0),(22,.int .i64 0)],hp⟩ = some (.exit 0,⟨[(2,boxZ14),(4,.box B),(20,.list [] o),(21,.int .i64 0),(22,.int .i64 0),(23,.bool false)],hp⟩) := fun B o hp lo => by
   rw [loopD_eq,loopBody]; simp [l_pt_read_0]
 rw [callD_eq]
 rw [S.av_eq] at h1 ⊢
 simp [IP_pt_read,i_pt_read,h1,hl,StR.tup,st_av]
 first | exact i64s_closed _ _ | exact ⟨i64s_closed _ _,rfl,rfl,rfl,rfl,rfl,⟨rfl,rfl⟩,rfl,rfl,rfl,rfl,rfl,rfl⟩
set_option maxHeartbeats 2000000 in
theorem read_one (e z:S) (k:Int) (hk:¬ k = 5) (rl:List Int) (hz:z.sm) (hs:∀ hp lo,lo ≤ hp.length → callD G0 IP n_pt_step [e.av] hp lo false = some (.ret (.tup [.agg (cellsF k rl 0),.list [z.av] .no,.bool true]) hp)) (hp:List HObj) (lo:Nat) (q:Bool) :
   callD G0 IP n_pt_read [e.av] hp lo q = some ((match readS z with | .err c => StR.err c | .ok t => .ok ⟨k,rl.isEmpty,rl,0,true,[],t,T.z⟩).tup hp) := by
 have h1 := hs hp hp.length (Nat.le_refl _)
 have e1 := fun hp lo q => read_D z hz hp lo q
 rw [callD_eq]
 rw [S.av_eq] at h1 ⊢
 rw [S.av_eq z] at h1 e1
 cases hr : readS z with
 | err c =>
   have hc := readS_ne z c hr
   simp only [hr,tup_err] at e1
   have hl : ∀ (B:List AV) (hp:List HObj) (lo:Nat),loopD G0 IP lo l_pt_read_0 ⟨[(2,boxZ14),(4,.box B),(20,.list [.agg [.str z.atom,.list (S.avs z.list) (ownB z.o)]] .no),(21,.int .i64 1),(22,.int .i64 0)],hp⟩ = some (.ret,⟨[(2,boxZ14),(3,.int .i64 c)],hp⟩) := fun B hp lo => by
     rw [loopD_eq,loopBody]; simp [l_pt_read_0,e1,hc]
   simp [IP_pt_read,i_pt_read,h1,hl,StR.tup,stz_av]
 | ok t =>
   simp only [hr,tup_ok,T.av_eq] at e1
   have hl : ∀ (hp:List HObj) (lo:Nat),loopD G0 IP lo l_pt_read_0 ⟨[(2,boxZ14),(4,.box (cellsF k rl 0)),(20,.list [.agg [.str z.atom,.list (S.avs z.list) (ownB z.o)]] .no),(21,.int .i64 1),(22,.int .i64 0)],hp⟩ =
       some (.exit 0,⟨[(2,boxZ14),(4,.box (St7.mk k rl.isEmpty rl 0 true [] t T.z).cells),(20,.list [.agg [.str z.atom,.list (S.avs z.list) (ownB z.o)]] .no),(21,.int .i64 1),(22,.int .i64 1),(23,.bool false)],hp⟩) := fun hp lo => by
     rw [loopD_eq,loopBody]
     have hw : IntKind.wrap .i64 (0 + 1) = 1 := rfl
     simp [l_pt_read_0,e1,hk]
     rw [loopD_eq,loopBody]
     simp [l_pt_read_0]
     rfl
   simp [IP_pt_read,i_pt_read,h1,hl,StR.tup,st_av]
   first | exact i64s_closed _ _ | exact ⟨i64s_closed _ _,rfl,rfl,rfl,rfl,rfl,⟨rfl,rfl⟩,rfl,rfl,rfl,rfl,rfl,rfl⟩
set_option maxHeartbeats 2000000 in
theorem read_two (e z w:S) (k:Int) (hk:¬ k = 5) (rl:List Int) (hz:z.sm) (hw:w.sm) (hs:∀ hp lo,lo ≤ hp.length → callD G0 IP n_pt_step [e.av] hp lo false = some (.ret (.tup [.agg (cellsF k rl 0),.list [z.av,w.av] .no,.bool true]) hp)) (hp:List HObj) (lo:Nat) (q:Bool) :
   callD G0 IP n_pt_read [e.av] hp lo q = some ((match readS z with | .err c => StR.err c | .ok t => match readS w with | .err c => .err c | .ok u => .ok ⟨k,rl.isEmpty,rl,0,true,[],t,u⟩).tup hp) := by
 have h1 := hs hp hp.length (Nat.le_refl _)
 have e1 := fun hp lo q => read_D z hz hp lo q
 have e2 := fun hp lo q => read_D w hw hp lo q
 have hw1 : IntKind.wrap .i64 1 = 1 := rfl
 rw [callD_eq]
 rw [S.av_eq] at h1 ⊢
 rw [S.av_eq z] at h1 e1
 rw [S.av_eq w] at h1 e2
 cases hr : readS z with
 | err c =>
   have hc := readS_ne z c hr
   simp only [hr,tup_err] at e1
   have hl : ∀ (B:List AV) (hp:List HObj) (lo:Nat),loopD G0 IP lo l_pt_read_0 ⟨[(2,boxZ14),(4,.box B),(20,.list [.agg [.str z.atom,.list (S.avs z.list) (ownB z.o)],.agg [.str w.atom,.list (S.avs w.list) (ownB w.o)]] .no),(21,.int .i64 2),(22,.int .i64 0)],hp⟩ = some (.ret,⟨[(2,boxZ14),(3,.int .i64 c)],hp⟩) := fun B hp lo => by
     rw [loopD_eq,loopBody]; simp [l_pt_read_0,e1,hc]
   simp [IP_pt_read,i_pt_read,h1,hl,StR.tup,stz_av]
 | ok t =>
   simp only [hr,tup_ok,T.av_eq] at e1
   cases hr2 : readS w with
   | err c =>
     have hc := readS_ne w c hr2
     simp only [hr2,tup_err] at e2
     have hl : ∀ (hp:List HObj) (lo:Nat),loopD G0 IP lo l_pt_read_0 ⟨[(2,boxZ14),(4,.box (cellsF k rl 0)),(20,.list [.agg [.str z.atom,.list (S.avs z.list) (ownB z.o)],.agg [.str w.atom,.list (S.avs w.list) (ownB w.o)]] .no),(21,.int .i64 2),(22,.int .i64 0)],hp⟩ = some (.ret,⟨[(2,boxZ14),(3,.int .i64 c)],hp⟩) := fun hp lo => by
       rw [loopD_eq,loopBody]
       simp [l_pt_read_0,e1,hk,hw1]
       rw [loopD_eq,loopBody]
       simp [l_pt_read_0,e2,hc]
     simp [IP_pt_read,i_pt_read,h1,hl,StR.tup,stz_av]
   | ok u =>
     simp only [hr2,tup_ok,T.av_eq] at e2
     have hl : ∀ (hp:List HObj) (lo:Nat),loopD G0 IP lo l_pt_read_0 ⟨[(2,boxZ14),(4,.box (cellsF k rl 0)),(20,.list [.agg [.str z.atom,.list (S.avs z.list) (ownB z.o)],.agg [.str w.atom,.list (S.avs w.list) (ownB w.o)]] .no),(21,.int .i64 2),(22,.int .i64 0)],hp⟩ =
         some (.exit 0,⟨[(2,boxZ14),(4,.box (St7.mk k rl.isEmpty rl 0 true [] t u).cells),(20,.list [.agg [.str z.atom,.list (S.avs z.list) (ownB z.o)],.agg [.str w.atom,.list (S.avs w.list) (ownB w.o)]] .no),(21,.int .i64 2),(22,.int .i64 2),(23,.bool false)],hp⟩) := fun hp lo => by
       rw [loopD_eq,loopBody]
       simp [l_pt_read_0,e1,hk,hw1]
       rw [loopD_eq,loopBody]
       simp [l_pt_read_0,e2,hk]
       rw [loopD_eq,loopBody]
       simp [l_pt_read_0]
       rfl
     simp [IP_pt_read,i_pt_read,h1,hl,StR.tup,st_av]
     first | exact i64s_closed _ _ | exact ⟨i64s_closed _ _,rfl,rfl,rfl,rfl,rfl,⟨rfl,rfl⟩,rfl,rfl,rfl,rfl,rfl,rfl⟩
set_option maxHeartbeats 2000000 in
theorem read_subs (e w:S) (hwf:w.fit) (hn:namedB w = true) (rl:List Int) (ru:Int) (hs:∀ hp lo,lo ≤ hp.length → ∃ ow,callD G0 IP n_pt_step [e.av] hp lo false = some (.ret (.tup [.agg (cellsP 5 rl ru (prV hp.length w.list)),.list (S.avs (w.list.map trS)) ow,.bool true]) (prH hp w.list))) (hp:List HObj) (lo:Nat) (q:Bool) :
   callD G0 IP n_pt_read [e.av] hp lo q = some ((match subsS w.list with | .err c => StR.err c | .ok sb => .ok ⟨5,rl.isEmpty,rl,ru,sb.isEmpty,sb,T.z,T.z⟩).tup hp) := by
 obtain ⟨ow,h1⟩ := hs hp hp.length (Nat.le_refl _)
 have hwl := (S.fit_eq w).1 hwf
 cases hl : w.list with
 | nil =>
   rw [hl] at h1
   simp only [prV,prH,List.map_nil,S.avs_nil] at h1
   have hl : ∀ (B:List AV) (ow:Own) (hp:List HObj) (lo:Nat),loopD G0 IP lo l_pt_read_0 ⟨[(2,boxZ14),(4,.box B),(20,.list [] ow),(21,.int .i64 0),(22,.int .i64 0)],hp⟩ = some (.exit 0,⟨[(2,boxZ14),(4,.box B),(20,.list [] ow),(21,.int .i64 0),(22,.int .i64 0),(23,.bool false)],hp⟩) := fun B ow hp lo => by
     rw [loopD_eq,loopBody]; simp [l_pt_read_0]
   rw [callD_eq]
   rw [S.av_eq] at h1 ⊢
   simp [IP_pt_read,i_pt_read,h1,hl,StR.tup,st_av,subsS]
   first | exact i64s_closed _ _ | exact ⟨i64s_closed _ _,rfl,rfl,rfl,rfl,rfl,⟨rfl,rfl⟩,rfl,rfl,rfl,rfl,rfl,rfl⟩
 | cons x r =>
   rw [hl] at h1
   simp only [namedB,Bool.and_eq_true,List.all_eq_true] at hn
   have hloop := readP_L (x :: r) ow.cp (by rw [← hl]; exact hwl.2.1) hp hp.length (Nat.le_refl _) r.length (r.length + 1) rfl rl ru (x :: r) [] [] rfl rfl (fun y hy => ⟨hwl.2.2.2 y (by rw [hl]; exact hy),hn.1 y (by rw [hl]; exact hy)⟩)
   obtain ⟨st,hs1,hs2⟩ := hloop
   rw [prV_cons,prH_hpC] at h1
   have e0 : sbC [] ++ sbZs (x :: r) = sbZs (x :: r) := rfl
   rw [e0] at hs1
   simp only [List.length_nil,Int.natCast_zero] at hs1
   have hget : ∀ C,(hpC hp r.length C)[hp.length + r.length]? = some (.cells 0 C) := fun C => hpC_get hp r.length C
   have hlen : ∀ sb : List Sb,subsS (x :: r) = .ok sb → sb.length = r.length + 1 := by
     have : ∀ (l:List S) (sb:List Sb),subsS l = .ok sb → sb.length = l.length := by
       intro l
       induction l with
       | nil => intro sb h; simp [subsS] at h; subst h; rfl
       | cons y s ih =>
         intro sb h
         rw [subsS] at h
         split at h
         · cases h
         · split at h
           · cases h
           · rename_i l' hl'
             cases h
             simp [ih _ hl']
     exact fun sb h => this _ sb h
   rw [callD_eq]
   rw [S.av_eq] at h1 ⊢
   have hsr : ∀ C,(hpC hp r.length C).take hp.length = hp := fun C => by simp [hpC]
   have hid : hp.length ≤ hp.length + r.length := by omega
   cases hsub : subsS (x :: r) with
   | err c =>
     rw [hsub] at hs2
     obtain ⟨hp',rfl⟩ := hs2
     generalize hpC hp r.length (sbZs (x :: r)) = H at *
     generalize S.avs ((x :: r).map trS) = X at *
     simp [IP_pt_read,i_pt_read,h1,hs1,StR.tup,stz_av]
   | ok sb =>
     have hsl := hlen sb hsub
     rw [hsub] at hs2
     simp only [outSb5,List.nil_append] at hs2
     subst hs2
     have hch := chunks_sbC sb
     rw [hsl] at hch
     have hcl := sbC_len sb
     rw [hsl] at hcl
     have hg := hget (sbC sb)
     generalize hpC hp r.length (sbZs (x :: r)) = H at *
     generalize hpC hp r.length (sbC sb) = H2 at *
     generalize S.avs ((x :: r).map trS) = X at *
     generalize hp.length + r.length = id at *
     have hne : sb.isEmpty = false := by cases sb <;> simp at hsl ⊢
     simp [IP_pt_read,i_pt_read,h1,hs1,StR.tup,st_av,hg,hid,hcl,hch,hne]
     first | exact ⟨i64s_closed _ _,sbs_closed _ _⟩ | exact ⟨⟨i64s_closed _ _,sbs_closed _ _⟩,rfl,rfl,rfl,rfl,rfl,⟨rfl,rfl⟩,rfl,rfl,rfl,rfl,rfl,rfl⟩
end
end Go.Proofs.YtkofimhnehkdoaaGreatDoor.Rf
end
section
namespace Go.Proofs.YtkofimhnehkdoaaGreatDoor.Rf
section
variable {hp:List HObj} {lo:Nat}
theorem stepR_bad {e:S} (h:shapeB e = false) : stepR e = .err 6 := by unfold stepR; rw [if_pos h]
set_option maxHeartbeats 2000000 in
theorem readP_D (e : S) (he:e.fit) (hp:List HObj) (lo:Nat) (q:Bool) : callD G0 IP n_pt_read [e.av] hp lo q = some ((stepR e).tup hp) := by
 have hf := (S.fit_eq e).1 he
 by_cases hb : e.atom ≠ [] ∨ e.list.length < 2
 · have hB : shapeB e = false := by
     have hl : ¬ 2 ≤ e.list.length := by
       rcases hb with h | h
       · rw [hf.2.2.1 h]; simp
       · omega
     unfold shapeB
     simp [hl]
   rw [stepR_bad hB]
   exact read_bad e (fun hp lo _ => stepT_bad1 e he hb hp lo) hp lo q
 have ha : e.atom = [] := by
   by_cases ha : e.atom = []
   · exact ha
   · exact absurd (.inl ha) hb
 have hl2 : ¬ e.list.length < 2 := fun h => hb (.inr h)
 cases e with | mk a o l =>
 simp only [S.atom,S.list] at ha hl2 hf
 subst ha
 have hex : ∃ x y r,l = x :: y :: r := by
   match l,hl2 with
   | x :: y :: r,_ => exact ⟨x,y,r,rfl⟩
   | [x],h => exact absurd (by simp) h
   | [],h => exact absurd (by simp) h
 obtain ⟨x,y,r,rfl⟩ := hex
 · have hyf : y.fit := hf.2.2.2 y (by simp)
   have hrf : ∀ z,z ∈ r → z.fit := fun z hz => hf.2.2.2 z (by simp [hz])
   have hr9 : r.length ≤ 65536 := by have := hf.2.1; simp at this; omega
   have kb := kindOf_bd x.atom
   have k0 : lineK (S.mk [] o (x :: y :: r)).list = kindOf x.atom := rfl
   have k1 : (S.mk [] o (x :: y :: r)).list.getD 1 zS = y := rfl
   have k2 : (S.mk [] o (x :: y :: r)).list.getD 2 zS = r.getD 0 zS := rfl
   have k3 : (S.mk [] o (x :: y :: r)).list.getD 3 zS = r.getD 1 zS := rfl
   have kl : (S.mk [] o (x :: y :: r)).list.length = r.length + 2 := rfl
   have hB : shapeB (S.mk [] o (x :: y :: r)) = ((!decide (kindOf x.atom = 0) && ((refsE y).isSome && decide (((r.length + 2 : Nat) : Int) = partsE (kindOf x.atom)))) &&
     ((if kindOf x.atom = 5 ∨ kindOf x.atom = 12 then decide ((intE (r.getD 0 zS).atom).2 = 0) else true) && (!decide (kindOf x.atom = 5) || namedB (r.getD 1 zS)))) := by
     unfold shapeB
     rw [k0,k1,k2,k3,kl]
     simp
   have hS : shapeS (S.mk [] o (x :: y :: r)) = ⟨kindOf x.atom,((refsE y).getD []).isEmpty,(refsE y).getD [],if kindOf x.atom = 5 ∨ kindOf x.atom = 12 then (intE (r.getD 0 zS).atom).1 else 0,true,[],T.z,T.z⟩ := by
     unfold shapeS
     rw [k0,k1,k2]
   by_cases hy : y.atom = []
   · have hrE : refsE y = refsS y.list := by unfold refsE; rw [if_neg (by simp [hy])]
     rw [hrE] at hB hS
     by_cases hk0 : kindOf x.atom = 0
     · have hB' : shapeB (S.mk [] o (x :: y :: r)) = false := by rw [hB,hk0]; simp
       rw [stepR_bad hB']
       exact read_bad _ (fun hp lo _ => stepT_bad3 x y r o hy hk0 hp lo) hp lo q
     cases hrS : refsS y.list with
     | none =>
       have hB' : shapeB (S.mk [] o (x :: y :: r)) = false := by rw [hB,hrS]; simp
       rw [stepR_bad hB']
       exact read_bad _ (fun hp lo _ => stepT_bad4 x y r o hy hyf hk0 hrS hp lo) hp lo q
     | some rl =>
       rw [hrS] at hB hS
       simp only [Option.isSome_some,Option.getD_some,Bool.true_and] at hB hS
       by_cases hln : (r.length : Int) + 1 + 1 = partsE (kindOf x.atom)
       · have hd1 : decide (kindOf x.atom = 0) = false := by simp [hk0]
         have hd2 : decide (((r.length + 2 : Nat) : Int) = partsE (kindOf x.atom)) = true := by simp; omega
         rw [hd1,hd2] at hB
         simp only [Bool.not_false,Bool.true_and] at hB
         by_cases h5 : kindOf x.atom = 5
         · have hr2 : r.length = 2 := by rw [h5] at hln; have : partsE 5 = 4 := rfl; omega
           match r,hr2 with
           | [z, w],_ =>
             have hzf := hrf z (by simp)
             have hwf := hrf w (by simp)
             have c0 : [z,w].getD 0 zS = z := rfl
             have c1 : [z,w].getD 1 zS = w := rfl
             rw [c0,c1,h5] at hB
             rw [c0,h5] at hS
             simp only [true_or,if_true,decide_true,Bool.not_true,Bool.false_or] at hB hS
             by_cases hz : (intE z.atom).2 = 0
             · cases hn : namedB w with
               | false =>
                 have hB' : shapeB (S.mk [] o [x,y,z,w]) = false := by rw [hB,hn]; simp
                 rw [stepR_bad hB']
                 exact read_bad _ (fun hp lo hlo => stepT_5bad x y z w o hy hyf hzf hwf h5 hrS (.inr hn) hp lo hlo) hp lo q
               | true =>
                 have hB' : shapeB (S.mk [] o [x,y,z,w]) = true := by rw [hB,hn]; simp [hz]
                 have := read_subs (S.mk [] o [x,y,z,w]) w hwf hn rl (intE z.atom).1 (fun hp lo hlo => stepT_5 x y z w o hy hyf hzf hwf h5 hrS hz hn hp lo hlo) hp lo q
                 rw [this]
                 unfold stepR
                 rw [hB',if_neg (by simp),k0,if_pos h5,k3,c1,hS]
                 try rfl
             · have hB' : shapeB (S.mk [] o [x,y,z,w]) = false := by rw [hB]; simp [hz]
               rw [stepR_bad hB']
               exact read_bad _ (fun hp lo hlo => stepT_5bad x y z w o hy hyf hzf hwf h5 hrS (.inl hz) hp lo hlo) hp lo q
         · by_cases h12 : kindOf x.atom = 12
           · have hr2 : r.length = 1 := by rw [h12] at hln; have : partsE 12 = 3 := rfl; omega
             match r,hr2 with
             | [z],_ =>
               have hzf := hrf z (by simp)
               have c0 : [z].getD 0 zS = z := rfl
               rw [c0,h12] at hB
               rw [c0,h12] at hS
               simp only [or_true,if_true] at hB hS
               have hstep := fun hp lo => stepT_12 x y z o hy hyf hzf h12 hrS hp lo
               by_cases hz : (intE z.atom).2 = 0
               · have hB' : shapeB (S.mk [] o [x,y,z]) = true := by rw [hB]; simp [hz]
                 have := read_none (S.mk [] o [x,y,z]) 12 rl (intE z.atom).1 .nil (fun hp lo hlo => by rw [hstep hp lo,hz]; rfl) hp lo q
                 rw [this]
                 unfold stepR
                 rw [hB',if_neg (by simp),k0,if_neg h5,if_neg (by omega),if_neg (by omega),hS]
                 try rfl
               · have hB' : shapeB (S.mk [] o [x,y,z]) = false := by rw [hB]; simp [hz]
                 rw [stepR_bad hB']
                 refine read_bad _ (fun hp lo hlo => ⟨12,rl,(intE z.atom).1,hp,?_⟩) hp lo q
                 rw [hstep hp lo]; simp [hz]
           · have hB' : shapeB (S.mk [] o (x :: y :: r)) = true := by rw [hB]; simp [h5,h12]
             have hstep := fun hp lo => stepT_else x y r o hr9 hy hyf hk0 hrS hln h5 h12 hp lo
             rw [if_neg (by omega)] at hS
             by_cases h4 : kindOf x.atom = 4
             · have hr2 : r.length = 2 := by rw [h4] at hln; have : partsE 4 = 4 := rfl; omega
               match r,hr2 with
               | [z,w],_ =>
                 have c0 : [z,w].getD 0 zS = z := rfl
                 have c1 : [z,w].getD 1 zS = w := rfl
                 have := read_two (S.mk [] o [x,y,z,w]) z w (kindOf x.atom) h5 rl (S.sm_of_fit z (hrf z (by simp))) (S.sm_of_fit w (hrf w (by simp))) (fun hp lo hlo => hstep hp lo) hp lo q
                 rw [this]
                 unfold stepR
                 rw [hB',if_neg (by simp),k0,if_neg h5,if_neg (by omega),if_pos h4,k2,k3,c0,c1,hS]
                 try rfl
             · by_cases h1 : kindOf x.atom = 1 ∨ kindOf x.atom = 6 ∨ kindOf x.atom = 7 ∨ kindOf x.atom = 8
               · have hr2 : r.length = 1 := by
                   have : partsE (kindOf x.atom) = 3 := by rcases h1 with h | h | h | h <;> rw [h] <;> rfl
                   omega
                 match r,hr2 with
                 | [z],_ =>
                   have c0 : [z].getD 0 zS = z := rfl
                   have := read_one (S.mk [] o [x,y,z]) z (kindOf x.atom) h5 rl (S.sm_of_fit z (hrf z (by simp))) (fun hp lo hlo => hstep hp lo) hp lo q
                   rw [this]
                   unfold stepR
                   rw [hB',if_neg (by simp),k0,if_neg h5,if_pos h1,k2,c0,hS]
                   try rfl
               · have hr2 : r.length = 0 := by
                   have : partsE (kindOf x.atom) = 2 := by unfold partsE; rw [if_neg (by omega),if_neg (by omega)]
                   omega
                 match r,hr2 with
                 | [],_ =>
                   have := read_none (S.mk [] o [x,y]) (kindOf x.atom) rl 0 .no (fun hp lo hlo => hstep hp lo) hp lo q
                   rw [this]
                   unfold stepR
                   rw [hB',if_neg (by simp),k0,if_neg h5,if_neg h1,if_neg h4,hS]
                   try rfl
       · have hB' : shapeB (S.mk [] o (x :: y :: r)) = false := by
           have hd2 : decide (((r.length + 2 : Nat) : Int) = partsE (kindOf x.atom)) = false := by simp; omega
           rw [hB,hd2]; simp
         rw [stepR_bad hB']
         exact read_bad _ (fun hp lo _ => stepT_bad5 x y r o hr9 hy hyf hk0 hrS hln hp lo) hp lo q
   · have hB' : shapeB (S.mk [] o (x :: y :: r)) = false := by
       have hrE : refsE y = none := by unfold refsE; rw [if_pos hy]
       rw [hB,hrE]; simp
     rw [stepR_bad hB']
     exact read_bad _ (fun hp lo _ => stepT_bad2 x y r o hy hp lo) hp lo q
end
end Go.Proofs.YtkofimhnehkdoaaGreatDoor.Rf
end
section
namespace Go.Proofs.YtkofimhnehkdoaaGreatDoor.Rf
def outLT (L:List S) (o:Own) (hp:List HObj) (acc:List St7) : PrR → Ex × St
 | .err i c => (.ret,⟨[(2,.list [] .nil),(3,.int .i64 i),(4,.int .i64 c)],hp⟩)
 | .ok l => (.exit 0,⟨[(8,.list (St7.avs (acc ++ l)) (ownSt (acc ++ l))),(25,.list (S.avs L) o),(26,.int .i64 L.length),(27,.int .i64 L.length),(28,.bool false)],hp⟩)
theorem outLT_ok (L:List S) (o:Own) (hp:List HObj) (acc:List St7) (i:Int) (x:S) (r:List S) (s:St7) (h:stepR x = .ok s) : outLT L o hp acc (stepsR i (x :: r)) = outLT L o hp (acc ++ [s]) (stepsR (i + 1) r) := by
 rw [stepsR,h]
 cases stepsR (i + 1) r <;> simp [outLT]
section
variable {hp:List HObj} {lo:Nat}
set_option maxHeartbeats 2000000 in
theorem parseP_L (L:List S) (o:Own) (hL:L.length ≤ 65536) : ∀ (r p:List S) (acc:List St7),L = p ++ r → acc.length ≤ p.length → (∀ x,x ∈ r → x.fit) →
   loopD G0 IP lo l_pt_Parse_0 ⟨[(8,.list (St7.avs acc) (ownSt acc)),(25,.list (S.avs L) o),(26,.int .i64 L.length),(27,.int .i64 p.length)],hp⟩ = some (outLT L o hp acc (stepsR p.length r))
 | [],p,acc,h,ha,_ => by
   rw [loopD_eq,loopBody]
   simp at h
   subst h
   simp [l_pt_Parse_0,stepsR,outLT]
 | x :: r,p,acc,h,ha,hx => by
   rw [loopD_eq,loopBody]
   have xf := hx x (by simp)
   have hlen : L.length = p.length + (r.length + 1) := by rw [h]; simp
   have h1 : (p.length : Int) < (L.length : Int) := by omega
   have hl : p.length < L.length := by omega
   have h2 : L[p.length] = x := by simp [h]
   have hw : IntKind.wrap .i64 ((p.length : Int) + 1) = (p.length : Int) + 1 := wrap_small (by omega) (by omega)
   have e1 := readP_D x xf hp lo false
   cases hr : stepR x with
   | err c =>
     have hc := stepR_ne x c hr
     rw [stepsR,hr]
     rw [hr,StR.tup,stz_av,S.av_eq] at e1
     simp [l_pt_Parse_0,hl,h1,h2,S.av_eq x,e1,hc,outLT]
   | ok s =>
     rw [hr,StR.tup,st_av,St7.cells,S.av_eq] at e1
     have ih := parseP_L L o hL r (p ++ [x]) (acc ++ [s]) (by rw [h]; simp) (by simp; omega) (fun y hy => hx y (by simp [hy]))
     simp only [List.length_append,List.length_cons,List.length_nil,Nat.zero_add,Int.natCast_add,Int.natCast_one] at ih
     have hb1 : (acc.length + 1) * 192 ≤ 140737488355328 := by omega
     have hb2 : acc.length + 1 ≤ 9223372036854775807 := by omega
     rw [outLT_ok L o hp acc _ x r s hr]
     rw [avs7_app,ownSt_app,show St7.avs [s] = [.agg s.cells] from rfl,St7.cells] at ih
     simp [l_pt_Parse_0,hl,h1,h2,S.av_eq x,e1,hb1,hb2,ownSt_ok,hw]
     exact ih
set_option maxHeartbeats 2000000 in
theorem parseP_D (s:List UInt8) (hp:List HObj) (lo:Nat) (q:Bool) : callD G0 IP n_pt_Parse [.str s] hp lo q = some (.ret (outQ ownSt (proofR s)) hp) := by
 rw [callD_eq]
 have e1 := fun hp lo q => parseAll2_D (s := s) (hp := hp) (lo := lo) q
 unfold proofR
 cases hx : pAll s with
 | err j e =>
   have he := pAll_err hx
   simp only [hx,outA] at e1
   simp [IP_pt_Parse,i_pt_Parse,e1,outQ,he]
 | ok l st =>
   simp only [hx,outA] at e1
   have hfit := pAll_fit hx
   have hlen : l.length ≤ 65536 := (pAll_wf hx).2
   have e2 := fun (o:Own) => parseP_L (hp := hp) (lo := hp.length) l o hlen l [] [] rfl (by simp) hfit
   simp only [List.length_nil,Int.natCast_zero,show ownSt [] = .nil from rfl,avs7_nil] at e2
   cases hs : stepsR 0 l with
   | err i c =>
     rw [hs] at e2
     simp only [outLT] at e2
     simp [IP_pt_Parse,i_pt_Parse,e1,outQ,hs,e2]
   | ok p =>
     rw [hs] at e2
     simp only [outLT,List.nil_append] at e2
     have hrl : ∀ t,t ∈ p → t.refs.length ≤ 9223372036854775807 := by
       intro t ht
       obtain ⟨e,he,h2⟩ := stepsR_mem l 0 p hs t ht
       have := stepR_len (hfit e he) h2
       omega
     have e4 := fun (o:Bool) (hp:List HObj) (lo:Nat) (q:Bool) => check_D p hrl o hp lo q
     by_cases hc : (checkE p).2 = 0
     · rw [hc] at e4
       simp [IP_pt_Parse,i_pt_Parse,e1,outQ,e2,e4,avs7_closed,hs,hc]
     · simp [IP_pt_Parse,i_pt_Parse,e1,outQ,e2,e4,hs,hc]
end
end Go.Proofs.YtkofimhnehkdoaaGreatDoor.Rf
end
section
namespace Go.Proofs.YtkofimhnehkdoaaGreatDoor.Rf
set_option maxRecDepth 100000 in
theorem live36_ok : (run G0 IP 100).1 n_sl36_live [] [] 0 false = some (.ret (.bool true) []) := by kernel_rfl
end Go.Proofs.YtkofimhnehkdoaaGreatDoor.Rf
end
section
namespace Go.Proofs.YtkofimhnehkdoaaGreatDoor.Rf
theorem z_wf : T.z.wf := by simp [T.z,T.wf,T.wfs,Lit.wf]; decide
mutual
theorem T.same_refl : ∀ t : T,t.same t = true
 | .mk _ _ _ _ _ as => by simp [T.same,T.sames_refl as]
theorem T.sames_refl : ∀ as : List T,T.sames as as = true
 | [] => rfl
 | t :: r => by simp [T.sames,T.same_refl t,T.sames_refl r]
end
theorem i64_wf2 {n:Int} (h0:-9223372036854775808 ≤ n) (h1:n ≤ 9223372036854775807) : (Lit.int .i64 n).wf = true := by
 simp [Lit.wf,IntKind.min,IntKind.max,IntKind.signed,IntKind.bits]; omega
theorem intE_bd (s:List UInt8) : -9223372036854775808 ≤ (intE s).1 ∧ (intE s).1 ≤ 9223372036854775807 := by
 unfold intE
 split
 · split
   · simp
   · split
     · simp
     · simp only; omega
 · split
   · simp
   · split
     · simp
     · simp only; omega
theorem refsS_wf : ∀ (l:List S) (r:List Int),refsS l = some r → ∀ x,x ∈ r → (Lit.int .i64 x).wf = true
 | [],r,h => by simp [refsS] at h; subst h; simp
 | x :: l,r,h => by
   rw [refsS] at h
   split at h
   · split at h
     · rename_i r' hr
       cases h
       intro y hy
       rcases List.mem_cons.1 hy with rfl | hy
       · exact i64_wf2 (intE_bd _).1 (intE_bd _).2
       · exact refsS_wf l r' hr y hy
     · cases h
   · cases h
theorem subsS_wf : ∀ (l:List S) (r:List Sb),(∀ x,x ∈ l → x.fit) → subsS l = .ok r → r.length = l.length ∧ ∀ x,x ∈ r → x.wf
 | [],r,_,h => by simp [subsS] at h; subst h; simp
 | x :: l, r,hx,h => by
   rw [subsS] at h
   split at h
   · cases h
   · rename_i t ht
     split at h
     · cases h
     · rename_i r' hr
       cases h
       obtain ⟨h1,h2⟩ := subsS_wf l r' (fun y hy => hx y (by simp [hy])) hr
       refine ⟨by simp [h1],fun y hy => ?_⟩
       rcases List.mem_cons.1 hy with rfl | hy
       · refine ⟨?_,(readS_valid _ _ ht).2⟩
         have hf := (S.fit_eq x).1 (hx x (by simp))
         have : (x.list.getD 0 zS).fit := by
           rw [List.getD_eq_getElem?_getD]
           cases hg : x.list[0]? with
           | none => simp [S.fit,S.fits]
           | some u => exact hf.2.2.2 u (List.mem_of_getElem? hg)
         have := (S.fit_eq _).1 this
         simp only; omega
       · exact h2 y hy
theorem getD_fit {e:S} (he:e.fit) (i:Nat) : (e.list.getD i zS).fit := by
 have hf := (S.fit_eq e).1 he
 rw [List.getD_eq_getElem?_getD]
 cases hg : e.list[i]? with
 | none => simp [S.fit,S.fits]
 | some u => exact hf.2.2.2 u (List.mem_of_getElem? hg)
theorem shapeS_wf {e:S} (he:e.fit) : (shapeS e).wf := by
 have hk := kindOf_bd (e.list.getD 0 zS).atom
 refine ⟨i64_wf2 (by show _ ≤ kindOf _; omega) (by show kindOf _ ≤ _; omega),?_,by have := shapeS_len e he; omega,?_,by simp [shapeS],by simp [shapeS],z_wf,z_wf⟩
 · show ∀ x,x ∈ (refsE (e.list.getD 1 zS)).getD [] → _
   unfold refsE
   split
   · simp
   · cases hr : refsS (e.list.getD 1 zS).list with
     | none => simp
     | some r => exact refsS_wf _ r hr
 · show (Lit.int .i64 (if lineK e.list = 5 ∨ lineK e.list = 12 then (intE (e.list.getD 2 zS).atom).1 else 0)).wf = true
   split
   · exact i64_wf2 (intE_bd _).1 (intE_bd _).2
   · decide
theorem stepR_wf {e:S} (he:e.fit) {s:St7} (h:stepR e = .ok s) : s.wf := by
 obtain ⟨w1,w2,w3,w4,w5,w6,w7,w8⟩ := shapeS_wf he
 unfold stepR at h
 split at h
 · cases h
 · split at h
   · split at h
     · cases h
     · rename_i sb hsb
       cases h
       have hf := (S.fit_eq _).1 (getD_fit he 3)
       obtain ⟨g1,g2⟩ := subsS_wf _ _ hf.2.2.2 hsb
       exact ⟨w1,w2,w3,w4,g2,by simp only; omega,z_wf,z_wf⟩
   · split at h
     · split at h
       · cases h
       · rename_i t ht
         cases h
         exact ⟨w1,w2,w3,w4,by simp,by simp,(readS_valid _ _ ht).2,z_wf⟩
     · split at h
       · split at h
         · cases h
         · rename_i t ht
           split at h
           · cases h
           · rename_i u hu
             cases h
             exact ⟨w1,w2,w3,w4,by simp,by simp,(readS_valid _ _ ht).2,(readS_valid _ _ hu).2⟩
       · cases h
         exact ⟨w1,w2,w3,w4,w5,w6,w7,w8⟩
theorem proofR_wf {s:List UInt8} {p:List St7} (h:proofR s = .ok p) : p.length ≤ 65536 ∧ ∀ x,x ∈ p → x.wf := by
 unfold proofR at h
 split at h
 · cases h
 · rename_i l st hx
   have hfit := pAll_fit hx
   have hlen : l.length ≤ 65536 := (pAll_wf hx).2
   split at h
   · cases h
   · rename_i p' hp
     split at h
     · cases h
       refine ⟨by rw [stepsR_len _ _ _ hp]; exact hlen,fun x hx => ?_⟩
       obtain ⟨e,he,h2⟩ := stepsR_mem l 0 p hp x hx
       exact stepR_wf (hfit e he) h2
     · cases h
theorem St7.same_refl (s:St7) : s.same s = true := by
 have h1 : same2 eqI s.refs s.refs = true := same2_refl _ fun x _ => by simp [eqI]
 have h2 : same2 Sb.same s.subs s.subs = true := same2_refl _ fun x _ => by simp [Sb.same,T.same_refl]
 simp only [St7.same,h1,h2,T.same_refl,decide_true,Bool.and_self]
theorem live36_D : callD G0 IP n_sl36_live [] [] 0 false = some (.ret (.bool true) []) := callD_iff.2 ⟨100,live36_ok⟩
end Go.Proofs.YtkofimhnehkdoaaGreatDoor.Rf
end
