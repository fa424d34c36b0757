/- A part. -/
import Derived.Test.YtkofimhnehkdoaaGreatDoorRbG27
set_option linter.unusedVariables false
set_option linter.unusedSimpArgs false
section
namespace Go.Proofs.YtkofimhnehkdoaaGreatDoor.Rf
section
variable {hp:List HObj} {lo:Nat}
set_option maxHeartbeats 2000000 in
theorem right_D (s:St7) (hl:s.refs.length ≤ 9223372036854775807) (i:Int) (hp:List HObj) (lo:Nat) (q:Bool) : callD G0 IP n_proof_right [s.av,.int .i64 i] hp lo q = some (.ret (.bool (rightB s i)) hp) := by
 have e1 := fun hp lo q => prefs_D s.kind hp lo q
 have e2 := fun (o:Own) => right_L (lo := hp.length) s.refs hl o i hp
 rw [callD_eq,st_av,St7.cells]
 by_cases h48 : s.kind = 4 ∨ s.kind = 8
 · have hR : rightB s i = (decide (s.refs.length = s.a.args.length) && decide (s.refs.length ≤ 3) && s.refs.all (refB i)) := by
     unfold rightB; rw [if_pos h48]
   have hrf : rfE s.kind = (0,3) := by rcases h48 with h | h <;> rw [h] <;> rfl
   rw [hR]
   rw [hrf] at e1
   have hn : ¬ (s.a.args.length : Int) < 0 := by omega
   by_cases c1 : (s.refs.length : Int) < (s.a.args.length : Int)
   · have hx : ¬ s.refs.length = s.a.args.length := by omega
     rcases h48 with h | h <;> rw [h] at e1 <;> simp [IP_proof_right,i_proof_right,e1,h,hn,c1,hx]
   · by_cases c3 : (s.a.args.length : Int) < 3
     · by_cases c2 : (s.a.args.length : Int) < (s.refs.length : Int)
       · have hx : ¬ s.refs.length = s.a.args.length := by omega
         rcases h48 with h | h <;> rw [h] at e1 <;> simp [IP_proof_right,i_proof_right,e1,h,hn,c1,c2,c3,hx]
       · have hx : s.refs.length = s.a.args.length := by omega
         have hx3 : s.a.args.length ≤ 3 := by omega
         rw [show decide (s.refs.length = s.a.args.length) = true by simp [hx],show decide (s.refs.length ≤ 3) = true by rw [hx]; simp [hx3]]
         cases ha : s.refs.all (refB i) with
         | false =>
           rw [ha] at e2
           simp only [Bool.false_eq_true,if_false] at e2
           rcases h48 with h | h <;> rw [h] at e1 <;> simp [IP_proof_right,i_proof_right,e1,h,hn,c1,c2,c3,e2]
         | true =>
           rw [ha] at e2
           simp only [if_true] at e2
           rcases h48 with h | h <;> rw [h] at e1 <;> simp [IP_proof_right,i_proof_right,e1,h,hn,c1,c2,c3,e2]
     · by_cases c2 : (3:Int) < (s.refs.length : Int)
       · have hx : ¬ s.refs.length ≤ 3 := by omega
         rcases h48 with h | h <;> rw [h] at e1 <;> simp [IP_proof_right,i_proof_right,e1,h,hn,c1,c2,c3,hx]
       · have hx : s.refs.length = s.a.args.length := by omega
         have hx3 : s.a.args.length ≤ 3 := by omega
         rw [show decide (s.refs.length = s.a.args.length) = true by simp [hx],show decide (s.refs.length ≤ 3) = true by rw [hx]; simp [hx3]]
         cases ha : s.refs.all (refB i) with
         | false =>
           rw [ha] at e2
           simp only [Bool.false_eq_true,if_false] at e2
           rcases h48 with h | h <;> rw [h] at e1 <;> simp [IP_proof_right,i_proof_right,e1,h,hn,c1,c2,c3,e2]
         | true =>
           rw [ha] at e2
           simp only [if_true] at e2
           rcases h48 with h | h <;> rw [h] at e1 <;> simp [IP_proof_right,i_proof_right,e1,h,hn,c1,c2,c3,e2]
 · have n4 : ¬ s.kind = 4 := fun h => h48 (.inl h)
   have n8 : ¬ s.kind = 8 := fun h => h48 (.inr h)
   have hR : rightB s i = (decide (0 ≤ (rfE s.kind).1) && (decide ((rfE s.kind).1 ≤ s.refs.length) && decide ((s.refs.length : Int) ≤ (rfE s.kind).2)) && s.refs.all (refB i)) := by
     unfold rightB; rw [if_neg h48]
   rw [hR]
   generalize (rfE s.kind).1 = a at *
   generalize (rfE s.kind).2 = b at *
   by_cases c0 : a < 0
   · have hx : ¬ 0 ≤ a := by omega
     simp [IP_proof_right,i_proof_right,e1,n4,n8,c0,hx]
   · have hx : 0 ≤ a := by omega
     by_cases c1 : (s.refs.length : Int) < a
     · have hx1 : ¬ a ≤ (s.refs.length : Int) := by omega
       simp [IP_proof_right,i_proof_right,e1,n4,n8,c0,c1,hx,hx1]
     · have hx1 : a ≤ (s.refs.length : Int) := by omega
       by_cases c2 : b < (s.refs.length : Int)
       · have hx2 : ¬ (s.refs.length : Int) ≤ b := by omega
         simp [IP_proof_right,i_proof_right,e1,n4,n8,c0,c1,c2,hx,hx1,hx2]
       · have hx2 : (s.refs.length : Int) ≤ b := by omega
         cases ha : s.refs.all (refB i) with
         | false =>
           rw [ha] at e2
           simp only [Bool.false_eq_true,if_false] at e2
           simp [IP_proof_right,i_proof_right,e1,n4,n8,c0,c1,c2,hx,hx1,hx2,e2]
         | true =>
           rw [ha] at e2
           simp only [if_true] at e2
           simp [IP_proof_right,i_proof_right,e1,n4,n8,c0,c1,c2,hx,hx1,hx2,e2]
set_option maxHeartbeats 2000000 in
theorem well_D (s:St7) (hl:s.refs.length ≤ 9223372036854775807) (i:Int) (hp:List HObj) (lo:Nat) (q:Bool) : callD G0 IP n_sr34_well [s.av,.int .i64 i] hp lo q = some (.ret (.bool (rightB s i)) hp) := by
 have e1 := fun hp lo q => refs34_D s.kind hp lo q
 have e2 := well_L (lo := hp.length) s hl i hp
 rw [St7.cells] at e2
 rw [callD_eq,st_av,St7.cells]
 by_cases h48 : s.kind = 4 ∨ s.kind = 8
 · have hR : rightB s i = (decide (s.refs.length = s.a.args.length) && decide (s.refs.length ≤ 3) && s.refs.all (refB i)) := by
     unfold rightB; rw [if_pos h48]
   have hrf : rfE s.kind = (0,3) := by rcases h48 with h | h <;> rw [h] <;> rfl
   rw [hR]
   rw [hrf] at e1
   have hn : ¬ (s.refs.length : Int) < 0 := by omega
   by_cases c1 : (3:Int) < (s.refs.length : Int)
   · have hx : ¬ s.refs.length ≤ 3 := by omega
     rcases h48 with h | h <;> rw [h] at e1 <;> simp [IP_sr34_well,i_sr34_well,e1,h,hn,c1,hx]
   · have hx : s.refs.length ≤ 3 := by omega
     by_cases c2 : s.refs.length = s.a.args.length
     · have c2' : (s.refs.length : Int) = (s.a.args.length : Int) := by omega
       have c3 : ¬ (3:Int) < (s.a.args.length : Int) := by omega
       have hxx : s.a.args.length ≤ 3 := by omega
       have hnn : ¬ (s.a.args.length : Int) < 0 := by omega
       rw [c2'] at e2
       cases ha : s.refs.all (refB i) with
       | false =>
         rw [ha] at e2
         simp only [Bool.false_eq_true,if_false] at e2
         rcases h48 with h | h <;> rw [h] at e1 e2 <;> simp [IP_sr34_well,i_sr34_well,e1,h,hnn,c3,hxx,c2,e2]
       | true =>
         rw [ha] at e2
         simp only [if_true] at e2
         rcases h48 with h | h <;> rw [h] at e1 e2 <;> simp [IP_sr34_well,i_sr34_well,e1,h,hnn,c3,hxx,c2,e2]
     · have c2' : ¬ (s.refs.length : Int) = (s.a.args.length : Int) := by omega
       rcases h48 with h | h <;> rw [h] at e1 <;> simp [IP_sr34_well,i_sr34_well,e1,h,hn,c1,hx,c2,c2']
 · have n4 : ¬ s.kind = 4 := fun h => h48 (.inl h)
   have n8 : ¬ s.kind = 8 := fun h => h48 (.inr h)
   have hR : rightB s i = (decide (0 ≤ (rfE s.kind).1) && (decide ((rfE s.kind).1 ≤ s.refs.length) && decide ((s.refs.length : Int) ≤ (rfE s.kind).2)) && s.refs.all (refB i)) := by
     unfold rightB; rw [if_neg h48]
   rw [hR]
   generalize (rfE s.kind).1 = a at *
   generalize (rfE s.kind).2 = b at *
   by_cases c0 : a < 0
   · have hx : ¬ 0 ≤ a := by omega
     simp [IP_sr34_well,i_sr34_well,e1,n4,n8,c0,hx]
   · have hx : 0 ≤ a := by omega
     by_cases c1 : (s.refs.length : Int) < a
     · have hx1 : ¬ a ≤ (s.refs.length : Int) := by omega
       simp [IP_sr34_well,i_sr34_well,e1,n4,n8,c0,c1,hx,hx1]
     · have hx1 : a ≤ (s.refs.length : Int) := by omega
       by_cases c2 : b < (s.refs.length : Int)
       · have hx2 : ¬ (s.refs.length : Int) ≤ b := by omega
         simp [IP_sr34_well,i_sr34_well,e1,n4,n8,c0,c1,c2,hx,hx1,hx2]
       · have hx2 : (s.refs.length : Int) ≤ b := by omega
         cases ha : s.refs.all (refB i) with
         | false =>
           rw [ha] at e2
           simp only [Bool.false_eq_true,if_false] at e2
           simp [IP_sr34_well,i_sr34_well,e1,n4,n8,c0,c1,c2,hx,hx1,hx2,e2]
         | true =>
           rw [ha] at e2
           simp only [if_true] at e2
           simp [IP_sr34_well,i_sr34_well,e1,n4,n8,c0,c1,c2,hx,hx1,hx2,e2]
end
end Go.Proofs.YtkofimhnehkdoaaGreatDoor.Rf
end
section
namespace Go.Proofs.YtkofimhnehkdoaaGreatDoor.Rf
def checkE (l:List St7) : Int × Int := if 65536 < l.length then (0,7) else if l = [] then (0,8) else
 match (List.range l.length).find? (fun i => !rightB (l.getD i St7.z) (i:Int)) with | some i => ((i:Int),14) | none => (0,0)
section
variable {hp:List HObj} {lo:Nat}
set_option maxHeartbeats 2000000 in
theorem check_D (l:List St7) (hl:∀ s,s ∈ l → s.refs.length ≤ 9223372036854775807) (o:Bool) (hp:List HObj) (lo:Nat) (q:Bool) : callD G0 IP n_proof_Check [.list (St7.avs l) (ownB o)] hp lo q = some (.ret (.tup [.int .i64 (checkE l).1,.int .i64 (checkE l).2]) hp) := by
 rw [callD_eq]
 by_cases h1 : 65536 < l.length
 · have hI : (65536:Int) < (l.length : Int) := by omega
   simp [IP_proof_Check,i_proof_Check,hI,checkE,h1]
 by_cases h2 : l = []
 · subst h2
   simp [IP_proof_Check,i_proof_Check,checkE]
 have hI : ¬ (65536:Int) < (l.length : Int) := by omega
 have hl0 : ¬ l.length = 0 := by simpa using h2
 have hI0 : ¬ (l.length : Int) = 0 := by omega
 have hr := fun (s:St7) (hs:s ∈ l) (i:Int) (hp:List HObj) (lo:Nat) (q:Bool) => right_D s (hl s hs) i hp lo q
 have hloop := loop_some (G := G0) (IP := IP) (lo := hp.length) (b := l_proof_Check_0)
   (fun i => ⟨[(14,.list (St7.avs l) (ownB o)),(15,.int .i64 l.length),(16,.int .i64 i)],hp⟩) l.length (fun i => !rightB (l.getD i St7.z) (i:Int)) (fun i => (.ret,⟨[(2,.int .i64 i),(3,.int .i64 14)],hp⟩))
   (.exit 1,⟨[(14,.list (St7.avs l) (ownB o)),(15,.int .i64 l.length),(16,.int .i64 l.length),(17,.bool false)],hp⟩)
   (fun i hi hp1 => by
     have e1 : (i:Int) < (l.length : Int) := by omega
     have e5 : IntKind.wrap .i64 ((i:Int) + 1) = (i:Int) + 1 := wrap_small (by omega) (by omega)
     have hb : rightB l[i] i = true := by simpa [hi] using hp1
     have hc := fun hp lo q => hr l[i] (List.getElem_mem hi) i hp lo q
     rw [hb,st_av,St7.cells] at hc
     simp [l_proof_Check_0,e1,e5,hi,st_av,hc])
   (fun i hi hp1 => by
     have e1 : (i:Int) < (l.length : Int) := by omega
     have hb : rightB l[i] i = false := by simpa [hi] using hp1
     have hc := fun hp lo q => hr l[i] (List.getElem_mem hi) i hp lo q
     rw [hb,st_av,St7.cells] at hc
     simp [l_proof_Check_0,e1,hi,st_av,hc])
   (fun i s => by simp) (by simp [l_proof_Check_0]) (by simp)
 simp only [Int.natCast_zero] at hloop
 rcases hloop with ⟨m,hm,hp1,hp2,hlp⟩ | ⟨hno,hlp⟩
 · have hf : (List.range l.length).find? (fun i => !rightB (l.getD i St7.z) (i:Int)) = some m := by
     rw [List.find?_range_eq_some]
     exact ⟨hp1,by simpa using hm,fun j hj => by simpa using hp2 j hj⟩
   have he : checkE l = ((m:Int),14) := by unfold checkE; rw [if_neg h1,if_neg h2,hf]
   rw [he]
   simp [IP_proof_Check,i_proof_Check,hlp,hI,hI0,h2]
 · have hf : (List.range l.length).find? (fun i => !rightB (l.getD i St7.z) (i:Int)) = none := by
     rw [List.find?_eq_none]
     intro i hi; simp at hi; have := hno i hi; simpa using this
   have he : checkE l = (0,0) := by unfold checkE; rw [if_neg h1,if_neg h2,hf]
   rw [he]
   simp [IP_proof_Check,i_proof_Check,hlp,hI,hI0,h2]
set_option maxHeartbeats 2000000 in
theorem check34_D (l:List St7) (hl:∀ s,s ∈ l → s.refs.length ≤ 9223372036854775807) (o:Bool) (hp:List HObj) (lo:Nat) (q:Bool) : callD G0 IP n_sr34_Check [.list (St7.avs l) (ownB o)] hp lo q = some (.ret (.tup [.int .i64 (checkE l).1,.int .i64 (checkE l).2]) hp) := by
 rw [callD_eq]
 by_cases h1 : 65536 < l.length
 · have hI : (65536:Int) < (l.length : Int) := by omega
   simp [IP_sr34_Check,i_sr34_Check,hI,checkE,h1]
 by_cases h2 : l = []
 · subst h2
   simp [IP_sr34_Check,i_sr34_Check,checkE]
 have hI : ¬ (65536:Int) < (l.length : Int) := by omega
 have hl0 : ¬ l.length = 0 := by simpa using h2
 have hI0 : ¬ (l.length : Int) = 0 := by omega
 have hr := fun (s:St7) (hs:s ∈ l) (i:Int) (hp:List HObj) (lo:Nat) (q:Bool) => well_D s (hl s hs) i hp lo q
 have hloop := loop_some (G := G0) (IP := IP) (lo := hp.length) (b := l_sr34_Check_0)
   (fun i => ⟨[(0,.list (St7.avs l) (ownB o)),(4,.int .i64 i)],hp⟩) l.length (fun i => !rightB (l.getD i St7.z) (i:Int)) (fun i => (.ret,⟨[(2,.int .i64 i),(3,.int .i64 14)],hp⟩))
   (.exit 1,⟨[(0,.list (St7.avs l) (ownB o)),(4,.int .i64 l.length),(16,.bool false)],hp⟩)
   (fun i hi hp1 => by
     have e1 : (i:Int) < (l.length : Int) := by omega
     have e5 : IntKind.wrap .i64 ((i:Int) + 1) = (i:Int) + 1 := wrap_small (by omega) (by omega)
     have hb : rightB l[i] i = true := by simpa [hi] using hp1
     have hc := fun hp lo q => hr l[i] (List.getElem_mem hi) i hp lo q
     rw [hb,st_av,St7.cells] at hc
     simp [l_sr34_Check_0,e1,e5,hi,st_av,hc])
   (fun i hi hp1 => by
     have e1 : (i:Int) < (l.length : Int) := by omega
     have hb : rightB l[i] i = false := by simpa [hi] using hp1
     have hc := fun hp lo q => hr l[i] (List.getElem_mem hi) i hp lo q
     rw [hb,st_av,St7.cells] at hc
     simp [l_sr34_Check_0,e1,hi,st_av,hc])
   (fun i s => by simp) (by simp [l_sr34_Check_0]) (by simp)
 simp only [Int.natCast_zero] at hloop
 rcases hloop with ⟨m,hm,hp1,hp2,hlp⟩ | ⟨hno,hlp⟩
 · have hf : (List.range l.length).find? (fun i => !rightB (l.getD i St7.z) (i:Int)) = some m := by
     rw [List.find?_range_eq_some]
     exact ⟨hp1,by simpa using hm,fun j hj => by simpa using hp2 j hj⟩
   have he : checkE l = ((m:Int),14) := by unfold checkE; rw [if_neg h1,if_neg h2,hf]
   rw [he]
   simp [IP_sr34_Check,i_sr34_Check,hlp,hI,hI0,h2]
 · have hf : (List.range l.length).find? (fun i => !rightB (l.getD i St7.z) (i:Int)) = none := by
     rw [List.find?_eq_none]
     intro i hi; simp at hi; have := hno i hi; simpa using this
   have he : checkE l = (0,0) := by unfold checkE; rw [if_neg h1,if_neg h2,hf]
   rw [he]
   simp [IP_sr34_Check,i_sr34_Check,hlp,hI,hI0,h2]
end
end Go.Proofs.YtkofimhnehkdoaaGreatDoor.Rf
end
section
namespace Go.Proofs.YtkofimhnehkdoaaGreatDoor.Rf
inductive PrR where
 | ok (l:List St7) | err (i:Int) (e:Int)
def stepsR : Int → List S → PrR
 | _,[] => .ok []
 | i, x :: r => match stepR x with
   | .err c => .err i c
   | .ok s => match stepsR (i + 1) r with
     | .err j c => .err j c
     | .ok l => .ok (s :: l)
def proofR (s:List UInt8) : PrR := match pAll s with
 | .err at' e => .err at' e
 | .ok l _ => match stepsR 0 l with
   | .err i c => .err i c
   | .ok p => if (checkE p).2 = 0 then .ok p else .err (checkE p).1 (checkE p).2
def ownSt (acc:List St7) : Own := if acc.isEmpty then .nil else .own 14 0
@[simp] theorem ownSt_cp (acc:List St7) : (ownSt acc).cp = ownB acc.isEmpty := by cases acc <;> rfl
@[simp] theorem ownSt_app (acc:List St7) (x:St7) : ownSt (acc ++ [x]) = .own 14 0 := by cases acc <;> rfl
theorem ownSt_ok (acc:List St7) : ownSt acc = .nil ∨ ownSt acc = .own 14 0 := by cases acc <;> simp [ownSt]
theorem avs7_app (a b:List St7) : St7.avs (a ++ b) = St7.avs a ++ St7.avs b := by simp [St7.avs]
@[simp] theorem avs7_nil : St7.avs [] = [] := rfl
@[simp] theorem okSize_avs7 (l:List St7) : okSize 14 (St7.avs l) = true := by cases l <;> simp [St7.avs,st_av]
theorem avs7_closed (n:Nat) : ∀ l : List St7,AV.closedL n (St7.avs l) = true
 | [] => rfl
 | x :: r => by
   have := avs7_closed n r
   simp only [St7.avs] at this
   simp [St7.avs,AV.closedL,AV.closed,this,st_av,T.avs_closed,i64s_closed,sbs_closed]
theorem refsS_len : ∀ (l:List S) (r:List Int),refsS l = some r → r.length = l.length
 | [],r,h => by simp [refsS] at h; subst h; rfl
 | x :: l,r,h => by
   rw [refsS] at h
   split at h
   · split at h
     · rename_i r' hr
       cases h
       simp [refsS_len l r' hr]
     · cases h
   · cases h
theorem shapeS_len (e:S) (he:e.fit) : (shapeS e).refs.length ≤ 65536 := by
 have hf := (S.fit_eq e).1 he
 have : ((refsE (e.list.getD 1 zS)).getD []).length ≤ 65536 := by
   have hx : (e.list.getD 1 zS).fit := by
     rw [List.getD_eq_getElem?_getD]
     cases hg : e.list[1]? with
     | none => simp [S.fit,S.fits]
     | some x => exact hf.2.2.2 x (List.mem_of_getElem? hg)
   have hxf := (S.fit_eq _).1 hx
   unfold refsE
   split
   · simp
   · cases hr : refsS (e.list.getD 1 zS).list with
     | none => simp
     | some r => have := refsS_len _ _ hr; simp; omega
 exact this
theorem stepR_refs (e:S) (s:St7) (h:stepR e = .ok s) : s.refs = (shapeS e).refs := by
 unfold stepR at h
 split at h
 · cases h
 · split at h
   · split at h
     · cases h
     · cases h; rfl
   · split at h
     · split at h
       · cases h
       · cases h; rfl
     · split at h
       · split at h
         · cases h
         · split at h
           · cases h
           · cases h; rfl
       · cases h; rfl
theorem stepR_len {e:S} (he:e.fit) {s:St7} (h:stepR e = .ok s) : s.refs.length ≤ 65536 := by rw [stepR_refs e s h]; exact shapeS_len e he
theorem subsS_ne : ∀ (l:List S) (c:Int),subsS l = .err c → ¬ c = 0
 | [],c,h => by cases h
 | x :: r,c,h => by
   rw [subsS] at h
   split at h
   · rename_i hr
     cases h; exact readS_ne _ _ hr
   · split at h
     · rename_i hr
       cases h; exact subsS_ne r _ hr
     · cases h
theorem stepR_ne (e:S) (c:Int) (h:stepR e = .err c) : ¬ c = 0 := by
 unfold stepR at h
 split at h
 · cases h; decide
 · split at h
   · split at h
     · rename_i hr
       cases h; exact subsS_ne _ _ hr
     · cases h
   · split at h
     · split at h
       · rename_i hr
         cases h; exact readS_ne _ _ hr
       · cases h
     · split at h
       · split at h
         · rename_i hr
           cases h; exact readS_ne _ _ hr
         · split at h
           · rename_i hr
             cases h; exact readS_ne _ _ hr
           · cases h
       · cases h
theorem stepsR_mem : ∀ (l:List S) (i:Int) (p:List St7),stepsR i l = .ok p → ∀ s,s ∈ p → ∃ e,e ∈ l ∧ stepR e = .ok s
 | [],i,p,h,s,hs => by simp [stepsR] at h; subst h; simp at hs
 | x :: r,i,p,h,s,hs => by
   rw [stepsR] at h
   split at h
   · cases h
   · rename_i s' hs'
     split at h
     · cases h
     · rename_i l' hl
       cases h
       rcases List.mem_cons.1 hs with rfl | hs
       · exact ⟨x,by simp,hs'⟩
       · obtain ⟨e,he,h2⟩ := stepsR_mem r _ _ hl s hs
         exact ⟨e,by simp [he],h2⟩
def outQ (own:List St7 → Own) : PrR → AV
 | .ok l => .tup [.list (St7.avs l) (own l),.int .i64 0,.int .i64 0]
 | .err i e => .tup [.list [] .nil,.int .i64 i,.int .i64 e]
section
variable {hp:List HObj} {lo:Nat}
end
end Go.Proofs.YtkofimhnehkdoaaGreatDoor.Rf
end
