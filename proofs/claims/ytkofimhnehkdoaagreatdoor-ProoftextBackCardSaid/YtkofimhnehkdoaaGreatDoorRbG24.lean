/- A part. -/
import Derived.Test.YtkofimhnehkdoaaGreatDoorRbG23
set_option linter.unusedVariables false
set_option linter.unusedSimpArgs false
section
namespace Go.Proofs.YtkofimhnehkdoaaGreatDoor.Rf
inductive SbR where
 | ok (l:List Sb) | err (e:Int)
def subsS : List S → SbR
 | [] => .ok []
 | x :: r => match readS (x.list.getD 1 zS) with
   | .err e => .err e
   | .ok t => match subsS r with
     | .err e => .err e
     | .ok l => .ok (⟨(x.list.getD 0 zS).atom,t⟩ :: l)
inductive StR where
 | ok (s:St7) | err (e:Int)
def ownSb (acc:List Sb) : Own := if acc.isEmpty then .nil else .own 6 0
@[simp] theorem ownSb_cp (acc:List Sb) : (ownSb acc).cp = ownB acc.isEmpty := by cases acc <;> rfl
@[simp] theorem ownSb_app (acc:List Sb) (x:Sb) : ownSb (acc ++ [x]) = .own 6 0 := by cases acc <;> rfl
@[simp] theorem sbs_nil : sbs [] = [] := rfl
@[simp] theorem okSize_sbs (l:List Sb) : okSize 6 (sbs l) = true := by cases l <;> simp [sbs,Sb.av_eq]
abbrev boxZ14 : AV := .box [.int .i64 0,.list [] .nil,.int .i64 0,.list [] .nil,.int .i64 0,.int .i64 0,.int .u64 0,.str [],.list [] .nil,.int .i64 0,.int .i64 0,.int .u64 0,.str [],.list [] .nil]
theorem pairB_two {x:S} (h:pairB x = true) : ∃ n u,x.list = [n,u] := by
 simp only [pairB,Bool.and_eq_true,decide_eq_true_eq] at h
 match hl : x.list,h.1 with
 | [n,u],_ => exact ⟨n,u,rfl⟩
theorem S.sm_of_fit (t:S) : t.fit → t.sm := by
 induction t using S.ind with | h t ih =>
 intro h
 have := (S.fit_eq t).1 h
 rw [S.sm_eq]
 exact ⟨by omega,fun u hu => ih u hu (this.2.2.2 u hu)⟩
section
variable {hp:List HObj} {lo:Nat}
end
end Go.Proofs.YtkofimhnehkdoaaGreatDoor.Rf
end
section
namespace Go.Proofs.YtkofimhnehkdoaaGreatDoor.Rf
def stepR (e:S) : StR :=
 if shapeB e = false then .err 6 else
 if lineK e.list = 5 then (match subsS (e.list.getD 3 zS).list with | .err c => .err c | .ok sb => .ok ⟨(shapeS e).kind,(shapeS e).ro,(shapeS e).refs,(shapeS e).rule,sb.isEmpty,sb,T.z,T.z⟩) else
 if lineK e.list = 1 ∨ lineK e.list = 6 ∨ lineK e.list = 7 ∨ lineK e.list = 8 then (match readS (e.list.getD 2 zS) with | .err c => .err c | .ok t => .ok ⟨(shapeS e).kind,(shapeS e).ro,(shapeS e).refs,(shapeS e).rule,true,[],t,T.z⟩) else
 if lineK e.list = 4 then (match readS (e.list.getD 2 zS) with | .err c => .err c | .ok t => (match readS (e.list.getD 3 zS) with | .err c => .err c | .ok u => .ok ⟨(shapeS e).kind,(shapeS e).ro,(shapeS e).refs,(shapeS e).rule,true,[],t,u⟩)) else
 .ok (shapeS e)
def St7.z : St7 := ⟨0,true,[],0,true,[],T.z,T.z⟩
def StR.tup (hp:List HObj) : StR → COut
 | .ok s => .ret (.tup [s.av,.int .i64 0]) hp
 | .err c => .ret (.tup [St7.z.av,.int .i64 c]) hp
theorem stz_av : St7.z.av = .agg [.int .i64 0,.list [] .nil,.int .i64 0,.list [] .nil,.int .i64 0,.int .i64 0,.int .u64 0,.str [],.list [] .nil,.int .i64 0,.int .i64 0,.int .u64 0,.str [],.list [] .nil] := rfl
theorem st_av (s:St7) : s.av = .agg s.cells := rfl
theorem sbs_closed (n:Nat) : ∀ l : List Sb,AV.closedL n (sbs l) = true
 | [] => rfl
 | x :: r => by have := sbs_closed n r; simp only [sbs] at this; simp [sbs,AV.closedL,AV.closed,this,Sb.av_eq,T.avs_closed]
section
variable {hp:List HObj} {lo:Nat}
end
end Go.Proofs.YtkofimhnehkdoaaGreatDoor.Rf
end
section
namespace Go.Proofs.YtkofimhnehkdoaaGreatDoor.Rf
def nmS (x:S) : List UInt8 := (x.list.getD 0 zS).atom
def trS (x:S) : S := x.list.getD 1 zS
abbrev sbZ (n:List UInt8) : List AV := [.str n,.int .i64 0,.int .i64 0,.int .u64 0,.str [],.list [] .nil]
def sbZs (l:List S) : List AV := (l.map fun x => sbZ (nmS x)).flatten
theorem sbZs_len (l:List S) : (sbZs l).length = l.length * 6 := by
 induction l with
 | nil => rfl
 | cons x r ih => simp [sbZs] at ih ⊢; omega
theorem sbZs_take (l:List S) : (sbZs l).take (l.length * 6) = sbZs l := by rw [← sbZs_len,List.take_length]
theorem sbZs_app (l:List S) (x:S) : sbZs (l ++ [x]) = sbZs l ++ sbZ (nmS x) := by simp [sbZs]
theorem sbZs_cp (l:List S) : (sbZs l).map AV.cp1 = sbZs l := by
 induction l with
 | nil => rfl
 | cons x r ih =>
   have : sbZs (x :: r) = sbZ (nmS x) ++ sbZs r := by simp [sbZs]
   rw [this,List.map_append,ih]; rfl
def prH (hp:List HObj) : List S → List HObj
 | [] => hp
 | x :: r => hp ++ List.replicate r.length .dead ++ [.cells 0 (sbZs (x :: r))]
def prV (n:Nat) : List S → AV
 | [] => .list [] .nil
 | x :: r => .sref (n + r.length) 0 (r.length + 1) 6
theorem prH_len (hp:List HObj) (x:S) (r:List S) : (prH hp (x :: r)).length = hp.length + r.length + 1 := by simp [prH]; omega
theorem prH_get (hp:List HObj) (x:S) (r:List S) : (prH hp (x :: r))[hp.length + r.length]? = some (.cells 0 (sbZs (x :: r))) := by
 unfold prH
 rw [List.getElem?_append_right (by simp)]
 simp
theorem prH_cons (hp:List HObj) (x:S) (r:List S) : prH hp (x :: r) = hp ++ List.replicate r.length .dead ++ [.cells 0 (sbZs (x :: r))] := rfl
theorem prH_set (hp:List HObj) (x y:S) (r:List S) : (prH hp (x :: r)).set (hp.length + r.length) .dead ++ [.cells 0 (sbZs (x :: r) ++ sbZ (nmS y))] = prH hp (x :: (r ++ [y])) := by
 rw [prH_cons,prH_cons,List.set_append_right _ _ (by simp)]
 have : (hp.length + r.length - (hp ++ List.replicate r.length HObj.dead).length) = 0 := by simp
 rw [this,← List.cons_append,sbZs_app]
 simp [List.replicate_succ']
theorem prV_cons (n:Nat) (x:S) (r:List S) : prV n (x :: r) = .sref (n + r.length) 0 (r.length + 1) 6 := rfl
noncomputable def evB (lo:Nat) (st:St) : Option (Ex × St) := evalC G0 (callD G0 IP) (loopD G0 IP lo) lo l_pt_pairs_0 st
section
variable {lo:Nat} (L TL:List AV) (o to:Own) (j:Nat) (H:List HObj)
theorem pairs_bad (V:AV) (hV:V = .list [] .nil ∨ ∃ id n,V = .sref id 0 n 6) (x:S) (hj:j < L.length) (hx:L[j] = x.av) (hf:x.fit) (hb:pairB x = false) :
   evB lo ⟨[(5,V),(6,.list TL to),(13,.list L o),(14,.int .i64 L.length),(15,.int .i64 j)],H⟩ = some (.ret,⟨[(2,.list [] .nil),(3,.list [] .nil),(4,.bool false)],H⟩) := by
 have hI : (j:Int) < (L.length : Int) := by omega
 by_cases ha : x.atom = []
 · by_cases hx2 : x.list.length = 2
   · match hxl : x.list,hx2 with
     | [a,b],_ =>
       have hab : a.atom = [] := by simpa [pairB,hxl] using hb
       rcases hV with rfl | ⟨id,n,rfl⟩
       · simp [evB,l_pt_pairs_0,hj,hI,hx,S.av_eq x,ha,hxl,S.avs,S.av_eq a,S.av_eq b,hab]
       · simp [evB,l_pt_pairs_0,hj,hI,hx,S.av_eq x,ha,hxl,S.avs,S.av_eq a,S.av_eq b,hab]
   · have hx3 : ¬ (x.list.length : Int) = 2 := by omega
     rcases hV with rfl | ⟨id,n,rfl⟩
     · simp [evB,l_pt_pairs_0,hj,hI,hx,S.av_eq x,ha,hx3]
     · simp [evB,l_pt_pairs_0,hj,hI,hx,S.av_eq x,ha,hx3]
 · have ha2 : x.atom.isEmpty = false := by simpa using ha
   rcases hV with rfl | ⟨id,n,rfl⟩
   · simp [evB,l_pt_pairs_0,hj,hI,hx,S.av_eq x,ha,ha2]
   · simp [evB,l_pt_pairs_0,hj,hI,hx,S.av_eq x,ha,ha2]
theorem pairs_nil (hto:to = .nil ∨ to = .own 2 0) (hsz:okSize 2 TL = true) (x a b:S) (hj:j < L.length) (hx:L[j] = x.av) (hL:L.length ≤ 65536) (hTL:TL.length ≤ 65536) (ha:x.atom = []) (hxl:x.list = [a,b]) (hab:¬ a.atom = []) :
   evB lo ⟨[(5,.list [] .nil),(6,.list TL to),(13,.list L o),(14,.int .i64 L.length),(15,.int .i64 j)],H⟩ =
     some (.normal,⟨[(5,.sref H.length 0 1 6),(6,.list (TL ++ [b.av]) (.own 2 0)),(13,.list L o),(14,.int .i64 L.length),(15,.int .i64 ((j:Int) + 1))],H ++ [.cells 0 (sbZ a.atom)]⟩) := by
 have hI : (j:Int) < (L.length : Int) := by omega
 have hw : IntKind.wrap .i64 ((j:Int) + 1) = (j:Int) + 1 := wrap_small (by omega) (by omega)
 have hb1 : (TL.length + 1) * 40 ≤ 140737488355328 := by omega
 have hb2 : TL.length + 1 ≤ 9223372036854775807 := by omega
 simp [evB,l_pt_pairs_0,hj,hI,hx,S.av_eq x,ha,hxl,S.avs,S.av_eq a,S.av_eq b,hab,hw,hb1,hb2,hto,hsz]
theorem pairs_more (hto:to = .nil ∨ to = .own 2 0) (hsz:okSize 2 TL = true) (x a b:S) (hj:j < L.length) (hx:L[j] = x.av) (hL:L.length ≤ 65536) (hTL:TL.length ≤ 65536) (ha:x.atom = []) (hxl:x.list = [a,b]) (hab:¬ a.atom = [])
   (id n:Nat) (C:List AV) (hg:H[id]? = some (.cells 0 C)) (hn:n ≤ 65536) (hid:lo ≤ id) (hc:n * 6 ≤ C.length) (htk:C.take (n * 6) = C) (hcp:C.map AV.cp1 = C) :
   evB lo ⟨[(5,.sref id 0 n 6),(6,.list TL to),(13,.list L o),(14,.int .i64 L.length),(15,.int .i64 j)],H⟩ =
     some (.normal,⟨[(5,.sref H.length 0 (n + 1) 6),(6,.list (TL ++ [b.av]) (.own 2 0)),(13,.list L o),(14,.int .i64 L.length),(15,.int .i64 ((j:Int) + 1))],H.set id .dead ++ [.cells 0 (C ++ sbZ a.atom)]⟩) := by
 have hI : (j:Int) < (L.length : Int) := by omega
 have hw : IntKind.wrap .i64 ((j:Int) + 1) = (j:Int) + 1 := wrap_small (by omega) (by omega)
 have hb1 : (TL.length + 1) * 40 ≤ 140737488355328 := by omega
 have hb2 : TL.length + 1 ≤ 9223372036854775807 := by omega
 have hb3 : (n + 1) * 80 ≤ 140737488355328 := by omega
 have hb4 : n + 1 ≤ 9223372036854775807 := by omega
 simp [evB,l_pt_pairs_0,hj,hI,hx,S.av_eq x,ha,hxl,S.avs,S.av_eq a,S.av_eq b,hab,hw,hb1,hb2,hto,hsz,hg,hid,hc,htk,hcp,hb3,hb4]
end
def outPairs (hp:List HObj) (L p r:List S) (o:Own) (st:Ex × St) : Prop :=
 if r.all pairB = true then st = (.exit 0,⟨[(5,prV hp.length (p ++ r)),(6,.list (S.avs ((p ++ r).map trS)) (ownA ((p ++ r).map trS))),(13,.list (S.avs L) o),(14,.int .i64 L.length),(15,.int .i64 L.length),(16,.bool false)],prH hp (p ++ r)⟩)
 else ∃ hp',st = (.ret,⟨[(2,.list [] .nil),(3,.list [] .nil),(4,.bool false)],hp'⟩)
section
variable {hp:List HObj} {lo:Nat}
theorem prV_or (n:Nat) (l:List S) : prV n l = .list [] .nil ∨ ∃ id k,prV n l = .sref id 0 k 6 := by
 cases l with
 | nil => exact .inl rfl
 | cons x r => exact .inr ⟨_,_,rfl⟩
theorem pairs_L (L:List S) (o:Own) (hL:L.length ≤ 65536) (hlo:lo ≤ hp.length) : ∀ (r p:List S),L = p ++ r → (∀ x,x ∈ r → x.fit) →
   ∃ st,loopD G0 IP lo l_pt_pairs_0 ⟨[(5,prV hp.length p),(6,.list (S.avs (p.map trS)) (ownA (p.map trS))),(13,.list (S.avs L) o),(14,.int .i64 L.length),(15,.int .i64 p.length)],prH hp p⟩ = some st ∧ outPairs hp L p r o st
 | [],p,h,_ => by
   simp at h
   subst h
   refine ⟨(.exit 0,⟨[(5,prV hp.length L),(6,.list (S.avs (L.map trS)) (ownA (L.map trS))),(13,.list (S.avs L) o),(14,.int .i64 L.length),(15,.int .i64 L.length),(16,.bool false)],prH hp L⟩),?_,?_⟩
   · rw [loopD_eq,loopBody]
     cases L with
     | nil => simp [l_pt_pairs_0,prV]
     | cons y p' => simp [l_pt_pairs_0,prV_cons]
   · rw [outPairs,if_pos (by rfl)]; simp
 | x :: r,p,h,hx => by
   have xf := hx x (by simp)
   have hlen : L.length = p.length + (r.length + 1) := by rw [h]; simp
   have hj : p.length < (S.avs L).length := by simp; omega
   have h2 : (S.avs L)[p.length] = x.av := by simp [h]
   have hL2 : (S.avs L).length ≤ 65536 := by simpa using hL
   rw [loopD_eq,loopBody]
   cases hb : pairB x with
   | false =>
     have e1 := pairs_bad (lo := lo) (S.avs L) (S.avs (p.map trS)) o (ownA (p.map trS)) p.length (prH hp p) (prV hp.length p) (prV_or _ _) x hj h2 xf hb
     rw [S.avs_len,evB] at e1
     refine ⟨(.ret,⟨[(2,.list [] .nil),(3,.list [] .nil),(4,.bool false)],prH hp p⟩),?_,?_⟩
     · rw [e1]
     · rw [outPairs,if_neg (by simp [hb])]; exact ⟨_,rfl⟩
   | true =>
     obtain ⟨a,b,hxl⟩ := pairB_two hb
     have ha : x.atom = [] := by
       by_cases ha : x.atom = []
       · exact ha
       · have := ((S.fit_eq x).1 xf).2.2.1 ha; rw [hxl] at this; cases this
     have hab : ¬ a.atom = [] := by simpa [pairB,hxl] using hb
     have hn : nmS x = a.atom := by unfold nmS; rw [hxl]; rfl
     have ht : trS x = b := by unfold trS; rw [hxl]; rfl
     obtain ⟨st,hs1,hs2⟩ := pairs_L L o hL hlo r (p ++ [x]) (by rw [h]; simp) (fun y hy => hx y (by simp [hy]))
     refine ⟨st,?_,?_⟩
     rotate_left
     · unfold outPairs at hs2 ⊢
       simp only [List.append_assoc,List.singleton_append] at hs2
       rw [List.all_cons,hb,Bool.true_and]
       exact hs2
     simp only [List.map_append,List.map_cons,List.map_nil,S.avs_app,ownA_app,ht,show S.avs [b] = [b.av] from rfl,List.length_append,List.length_cons,List.length_nil,Nat.zero_add,Int.natCast_add,Int.natCast_one] at hs1
     cases p with
     | nil =>
       have e1 := pairs_nil (lo := lo) (S.avs L) [] o .nil 0 hp (.inl rfl) rfl x a b hj h2 hL2 (by simp) ha hxl hab
       rw [S.avs_len,evB] at e1
       simp only [List.map_nil,S.avs_nil,prH,prV,List.length_nil,show ownA [] = .nil from rfl] at hs1 ⊢
       rw [e1]
       simp only [List.nil_append,prH,prV,List.length_nil,Nat.add_zero,sbZs,hn,List.map_cons,List.map_nil,List.flatten_cons,List.flatten_nil,List.append_nil,List.replicate_zero,Nat.zero_add,S.avs_nil] at hs1
       exact hs1
     | cons y p' =>
       have e1 := pairs_more (lo := lo) (S.avs L) (S.avs ((y :: p').map trS)) o (ownA ((y :: p').map trS)) (y :: p').length (prH hp (y :: p')) (ownA_ok _) (by simp) x a b hj h2 hL2 (by simp at hlen ⊢; omega) ha hxl hab
         (hp.length + p'.length) (p'.length + 1) (sbZs (y :: p')) (prH_get hp y p') (by simp at hlen; omega) (by omega) (by rw [sbZs_len]; simp) (sbZs_take (y :: p')) (sbZs_cp _)
       have hset := prH_set hp y x p'
       rw [hn] at hset
       rw [S.avs_len,evB,hset,prH_len] at e1
       rw [prV_cons,e1]
       simp only [List.cons_append,prV_cons,List.length_append,List.length_cons,List.length_nil,Nat.zero_add,List.map_cons] at hs1 ⊢
       exact hs1
theorem pairs_D (e:S) (he:e.fit) (hp:List HObj) (lo:Nat) (hlo:lo ≤ hp.length) : ∃ hp',callD G0 IP n_pt_pairs [e.av] hp lo false =
   some (.ret (if namedB e = true then .tup [prV hp.length e.list,.list (S.avs (e.list.map trS)) (ownA (e.list.map trS)),.bool true] else .tup [.list [] .nil,.list [] .nil,.bool false]) hp') ∧ (namedB e = true → hp' = prH hp e.list) := by
 have hf := (S.fit_eq e).1 he
 rw [callD_eq,S.av_eq]
 by_cases ha : e.atom = []
 · obtain ⟨st,hs1,hs2⟩ := pairs_L (hp := hp) (lo := lo) e.list (ownB e.o) hf.2.1 hlo e.list [] rfl hf.2.2.2
   simp only [List.map_nil,S.avs_nil,prH,prV,List.length_nil,show ownA [] = .nil from rfl,Int.natCast_zero] at hs1
   unfold outPairs at hs2
   by_cases hb : e.list.all pairB = true
   · rw [if_pos hb] at hs2
     subst hs2
     have hn : namedB e = true := by simp only [namedB,hb,ha]; rfl
     refine ⟨prH hp e.list,?_,fun _ => rfl⟩
     rw [if_pos hn]
     simp only [List.nil_append] at hs1
     cases hl : e.list with
     | nil => rw [hl] at hs1; simp [IP_pt_pairs,i_pt_pairs,ha,hl,prV,prH] at hs1 ⊢; simp [hs1]
     | cons y r =>
       rw [hl] at hs1
       rw [← S.avs_len (y :: r)] at hs1
       simp only [prV_cons] at hs1 ⊢
       generalize prH hp (y :: r) = H at *
       generalize hp.length + r.length = id at *
       generalize r.length + 1 = n at *
       generalize S.avs ((y :: r).map trS) = X at *
       generalize (ownA ((y :: r).map trS)) = ox at *
       generalize S.avs (y :: r) = Y at *
       simp [IP_pt_pairs,i_pt_pairs,ha,hl,hs1]
   · rw [if_neg hb] at hs2
     obtain ⟨hp',rfl⟩ := hs2
     have hn : ¬ namedB e = true := by simp only [namedB]; intro h; simp only [Bool.and_eq_true] at h; exact hb h.1
     refine ⟨hp',?_,fun h => absurd h hn⟩
     rw [if_neg hn]
     simp [IP_pt_pairs,i_pt_pairs,ha,hs1]
 · have ha2 : e.atom.isEmpty = false := by simpa using ha
   have hn : ¬ namedB e = true := by simp only [namedB]; intro h; simp only [Bool.and_eq_true] at h; simp [ha,ha2] at h
   refine ⟨hp,?_,fun h => absurd h hn⟩
   rw [if_neg hn]
   simp [IP_pt_pairs,i_pt_pairs,ha,ha2]
end
end Go.Proofs.YtkofimhnehkdoaaGreatDoor.Rf
end
section
namespace Go.Proofs.YtkofimhnehkdoaaGreatDoor.Rf
abbrev cellsT (k:Int) (acc:List Int) : List AV := [.int .i64 k,.list (i64s acc) (ownN acc),.int .i64 0,.list [] .nil,
 .int .i64 0,.int .i64 0,.int .u64 0,.str [],.list [] .nil,.int .i64 0,.int .i64 0,.int .u64 0,.str [],.list [] .nil]
abbrev cellsP (k:Int) (acc:List Int) (ru:Int) (v:AV) : List AV := [.int .i64 k,.list (i64s acc) (ownB acc.isEmpty),.int .i64 ru,v,
 .int .i64 0,.int .i64 0,.int .u64 0,.str [],.list [] .nil,.int .i64 0,.int .i64 0,.int .u64 0,.str [],.list [] .nil]
abbrev cellsF (k:Int) (acc:List Int) (ru:Int) : List AV := cellsP k acc ru (.list [] .nil)
def outTr (B L:List AV) (o:Own) (hp:List HObj) (k:Int) (acc:List Int) : Option (List Int) → Ex × St → Prop
 | none,st => ∃ a,st = (.ret,⟨[(2,.box (cellsF k a 0)),(3,.list [] .nil),(4,.bool false)],hp⟩)
 | some l,st => st = (.exit 0,⟨[(1,.box B),(2,boxZ14),(5,.box (cellsT k (acc ++ l))),(47,.list L o),(48,.int .i64 L.length),(49,.int .i64 L.length),(50,.bool false)],hp⟩)
section
variable {hp:List HObj} {lo:Nat}
set_option maxHeartbeats 1000000 in
theorem stepT_L (B:List AV) (L:List S) (o:Own) (hL:L.length ≤ 65536) (hp:List HObj) (lo:Nat) (k:Int) : ∀ (r p:List S) (acc:List Int),L = p ++ r → acc.length ≤ p.length → (∀ x,x ∈ r → x.fit) →
   ∃ st,loopD G0 IP lo l_pt_step_0 ⟨[(1,.box B),(2,boxZ14),(5,.box (cellsT k acc)),(47,.list (S.avs L) o),(48,.int .i64 L.length),(49,.int .i64 p.length)],hp⟩ = some st ∧ outTr B (S.avs L) o hp k acc (refsS r) st
 | [],p,acc,h,ha,_ => by
   simp at h
   subst h
   refine ⟨(.exit 0,⟨[(1,.box B),(2,boxZ14),(5,.box (cellsT k acc)),(47,.list (S.avs L) o),(48,.int .i64 (S.avs L).length),(49,.int .i64 (S.avs L).length),(50,.bool false)],hp⟩),?_,?_⟩
   · rw [loopD_eq,loopBody]
     simp [l_pt_step_0]
   · simp [refsS,outTr]
 | x :: r,p,acc,h,ha,hx => by
   rw [loopD_eq,loopBody]
   have xf := hx x (by simp)
   have hlen : L.length = p.length + (r.length + 1) := by rw [h]; simp
   have h1 : (p.length : Int) < (L.length : Int) := by omega
   have hl : p.length < L.length := by omega
   have h2 : L[p.length] = x := by simp [h]
   have hw : IntKind.wrap .i64 ((p.length : Int) + 1) = (p.length : Int) + 1 := wrap_small (by omega) (by omega)
   have hxf := (S.fit_eq x).1 xf
   have e1 := fun (l:List AV) (oo:Own) (hp:List HObj) (lo:Nat) (q:Bool) => integer_D x.atom (by omega) l oo hp lo q
   have hb1 : (acc.length + 1) * 8 ≤ 140737488355328 := by omega
   have hb2 : acc.length + 1 ≤ 9223372036854775807 := by omega
   rw [refsS]
   by_cases hz : (intE x.atom).2 = 0
   · obtain ⟨st,hs1,hs2⟩ := stepT_L B L o hL hp lo k r (p ++ [x]) (acc ++ [(intE x.atom).1]) (by rw [h]; simp) (by simp; omega) (fun y hy => hx y (by simp [hy]))
     refine ⟨st,?_,?_⟩
     · simp only [List.length_append,List.length_cons,List.length_nil,Nat.zero_add,Int.natCast_add,Int.natCast_one] at hs1
       unfold cellsT at hs1
       rw [i64s_app,i64s_one,ownN_app] at hs1
       simp [l_pt_step_0,hl,h1,h2,S.av_eq x,e1,hz,hw,hb1,hb2,ownN_ok]
       exact hs1
     · rw [if_pos hz]
       cases hr : refsS r with
       | none => rw [hr] at hs2; simpa [outTr] using hs2
       | some l => rw [hr] at hs2; simpa [outTr] using hs2
   · rw [if_neg hz]
     refine ⟨(.ret,⟨[(2,.box (cellsF k acc 0)),(3,.list [] .nil),(4,.bool false)],hp⟩),?_,?_⟩
     · simp [l_pt_step_0,hl,h1,h2,S.av_eq x,e1,hz]
     · exact ⟨acc,rfl⟩
end
end Go.Proofs.YtkofimhnehkdoaaGreatDoor.Rf
end
