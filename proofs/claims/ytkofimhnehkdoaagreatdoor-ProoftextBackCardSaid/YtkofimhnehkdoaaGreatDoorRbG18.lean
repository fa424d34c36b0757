/- A part of the proof: see the last text. -/
import Derived.Test.YtkofimhnehkdoaaGreatDoorRbG17
set_option linter.unusedVariables false
set_option linter.unusedSimpArgs false
section
namespace Go.Proofs.YtkofimhnehkdoaaGreatDoor.Rf
theorem wrapU (n:Int) : IntKind.wrap .u64 n = n % 18446744073709551616 := by
 simp [IntKind.wrap,IntKind.signed,IntKind.bits]
theorem wrapU_small {n:Int} (h0:0 ≤ n) (h1:n < 18446744073709551616) : IntKind.wrap .u64 n = n := by rw [wrapU]; omega
theorem wrap8_small {n:Int} (h0:0 ≤ n) (h1:n < 256) : IntKind.wrap .u8 n = n := by
 simp [IntKind.wrap,IntKind.signed,IntKind.bits]; omega
theorem idxB_decs (c:UInt8) : (idxB [48,49,50,51,52,53,54,55,56,57] c < 0) ↔ isDig c = false := by
 have h := idxB_mem [48,49,50,51,52,53,54,55,56,57] c
 have h2 : c ∈ ([48,49,50,51,52,53,54,55,56,57] : List UInt8) ↔ isDig c = true := by
   simp only [List.mem_cons,List.not_mem_nil,or_false,isDig,Bool.and_eq_true,decide_eq_true_eq,← UInt8.toNat_inj]
   have := c.toNat_lt
   simp
   omega
 rw [h2] at h
 cases hd : isDig c with
 | true => rw [hd] at h; simp at h ⊢; omega
 | false => rw [hd] at h; simp at h ⊢; omega
theorem any_range_isDig (s:List UInt8) : ((List.range s.length).any fun i => !isDig (s.getD i 0)) = !s.all isDig := by
 induction s with
 | nil => rfl
 | cons c r ih =>
   rw [List.length_cons,List.range_succ_eq_map]
   simp [List.any_map,Function.comp_def] at ih ⊢
   rw [ih]
section
variable {hp:List HObj} {lo:Nat} (q:Bool)
theorem numeral_D (s:List UInt8) (hs:s.length ≤ 9223372036854775807) : callD G0 IP n_digits_numeral [.str s,.str [48,49,50,51,52,53,54,55,56,57]] hp lo q = some (.ret (.bool (numOk s)) hp) := by
 rw [callD_eq]
 cases s with
 | nil => simp [IP_digits_numeral,i_digits_numeral,numOk]
 | cons a r =>
   generalize hse : a :: r = s at *
   have hne : s ≠ [] := by rw [← hse]; simp
   have h0 : s[0]? = some a := by rw [← hse]; rfl
   have hloop := loop_find (G := G0) (IP := IP) (lo := hp.length) (b := l_digits_numeral_0)
     (fun i => ⟨[(0,.str s),(1,.str [48,49,50,51,52,53,54,55,56,57]),(19,.int .i64 s.length),(20,.int .i64 i)],hp⟩) s.length (fun i => !isDig (s.getD i 0))
     (.ret,⟨[(4,.bool false)],hp⟩) (.exit 0,⟨[(0,.str s),(1,.str [48,49,50,51,52,53,54,55,56,57]),(19,.int .i64 s.length),(20,.int .i64 s.length),(21,.bool false)],hp⟩)
     (fun i hi hp => by
       have hw := wrap_succ hi hs
       have hd : ¬ idxB [48,49,50,51,52,53,54,55,56,57] s[i] < 0 := by rw [idxB_decs]; simp [List.getD,hi] at hp; simp [hp]
       rw [← hw]
       simp [l_digits_numeral_0,hi,idxB_D,hd])
     (fun i hi hp => by
       have hd : idxB [48,49,50,51,52,53,54,55,56,57] s[i] < 0 := by rw [idxB_decs]; simp [List.getD,hi] at hp; simp [hp]
       simp [l_digits_numeral_0,hi,idxB_D,hd])
     (by simp) (by simp [l_digits_numeral_0]) (by simp)
   rw [any_range_isDig] at hloop
   simp only [Int.natCast_zero] at hloop
   have hh : s.head? = some a := by rw [← hse]; rfl
   have hemp : s.isEmpty = false := by rw [← hse]; rfl
   by_cases hl : (1:Int) < (s.length : Int)
   · have hl' : 1 < s.length := by omega
     by_cases ha : a = 48
     · subst ha
       simp [IP_digits_numeral,i_digits_numeral,numOk,hne,h0,hl,hl',hh,hemp]
     · have ha' : ¬ (a.toNat : Int) = 48 := by intro e; apply ha; apply UInt8.toNat_inj.1; simp; omega
       cases hd : s.all isDig with
       | true => simp [IP_digits_numeral,i_digits_numeral,numOk,hne,h0,hl,hl',hh,ha,ha',hloop,hd,hemp]
       | false => simp [IP_digits_numeral,i_digits_numeral,numOk,hne,h0,hl,hl',hh,ha,ha',hloop,hd,hemp]
   · have hl' : ¬ 1 < s.length := by omega
     cases hd : s.all isDig with
     | true => simp [IP_digits_numeral,i_digits_numeral,numOk,hne,h0,hl,hl',hh,hloop,hd,hemp]
     | false => simp [IP_digits_numeral,i_digits_numeral,numOk,hne,h0,hl,hl',hh,hloop,hd,hemp]
theorem digVal_take {s:List UInt8} {i:Nat} (h:i < s.length) : digVal (s.take (i + 1)) = 10 * digVal (s.take i) + (s[i].toNat - 48) := by
 rw [List.take_succ_eq_append_getElem h,digVal_snoc]
def pU (s:List UInt8) : AV := if 18446744073709551616 ≤ digVal s then .tup [.int .u64 18446744073709551615,.iface 211 (.int .i64 1)] else .tup [.int .u64 (digVal s),.nili]
theorem digVal_le {s:List UInt8} {i:Nat} (h:i ≤ s.length) : digVal (s.take i) ≤ digVal s := by
 have key : ∀ (k:Nat),i + k ≤ s.length → digVal (s.take i) ≤ digVal (s.take (i + k)) := by
   intro k
   induction k with
   | zero => intro _; exact Nat.le_refl _
   | succ k ih =>
     intro hk
     have := ih (by omega)
     rw [← Nat.add_assoc,digVal_take (by omega)]; omega
 have := key (s.length - i) (by omega)
 rwa [show i + (s.length - i) = s.length by omega,List.take_length] at this
theorem any_over (s:List UInt8) : ((List.range s.length).any fun i => decide (18446744073709551616 ≤ digVal (s.take (i + 1)))) = decide (18446744073709551616 ≤ digVal s) := by
 rw [Bool.eq_iff_iff]
 simp only [List.any_eq_true,List.mem_range,decide_eq_true_eq]
 constructor
 · rintro ⟨i,hi,h⟩; exact Nat.le_trans h (digVal_le (by omega))
 · intro h
   have hl : s.length ≠ 0 := by
     intro e
     have : s = [] := List.length_eq_zero_iff.1 e
     have h2 : digVal s = 0 := by subst this; rfl
     omega
   exact ⟨s.length - 1,by omega,by rwa [show s.length - 1 + 1 = s.length by omega,List.take_length]⟩
theorem parseUintI_D (s:List UInt8) (hs:s.length ≤ 140737488355328) (h0:s ≠ []) (hd:s.all isDig = true) : callD G0 IP n_isc_ParseUint [.str s,.int .i64 10,.int .i64 64] hp lo false = some (.ret (pU s) hp) := by
 rw [callD_eq]
 have hc : ∀ i (h:i < s.length),48 ≤ s[i].toNat ∧ s[i].toNat ≤ 57 := fun i h => by
   have := List.all_eq_true.1 hd s[i] (List.getElem_mem h)
   simpa [isDig] using this
 have hloop := loop_find (G := G0) (IP := IP) (lo := lo) (b := l_isc_ParseUint_0)
   (fun i => ⟨[(1,.int .i64 10),(8,.bool false),(9,.str s),(10,.int .u64 1844674407370955162),(11,.int .u64 18446744073709551615),(12,.bool false),(13,.int .u64 (digVal (s.take i))),(99,.list (s.map fun b => .int .u8 b.toNat) .no),(100,.int .i64 s.length),(101,.int .i64 i)],hp⟩)
   s.length (fun i => decide (18446744073709551616 ≤ digVal (s.take (i + 1))))
   (.ret,⟨[(6,.int .u64 18446744073709551615),(7,.iface 211 (.int .i64 1))],hp⟩)
   (.exit 3,⟨[(1,.int .i64 10),(8,.bool false),(9,.str s),(10,.int .u64 1844674407370955162),(11,.int .u64 18446744073709551615),(12,.bool false),(13,.int .u64 (digVal s)),(99,.list (s.map fun b => .int .u8 b.toNat) .no),(100,.int .i64 s.length),(101,.int .i64 s.length),(102,.bool false)],hp⟩)
   (fun i hi hp => by
     have hw := wrap_succ hi (by omega)
     obtain ⟨c1,c2⟩ := hc i hi
     simp only [decide_eq_false_iff_not] at hp
     have ht := digVal_take hi
     rw [ht] at hp
     have e1 : ¬ ((s[i].toNat : Int) = 95) := by omega
     have e2 : (48:Int) ≤ (s[i].toNat : Int) := by omega
     have e3 : (s[i].toNat : Int) ≤ 57 := by omega
     have e4 : IntKind.wrap .u8 ((s[i].toNat : Int) - 48) = ((s[i].toNat - 48 : Nat) : Int) := by rw [wrap8_small (by omega) (by omega)]; omega
     have e5 : ¬ (10:Int) ≤ ((s[i].toNat - 48 : Nat) : Int) := by omega
     have e6 : ¬ (1844674407370955162:Int) ≤ (digVal (s.take i) : Int) := by omega
     have e7 : IntKind.wrap .u64 ((digVal (s.take i) : Int) * 10) = ((10 * digVal (s.take i) : Nat) : Int) := by rw [wrapU_small (by omega) (by omega)]; omega
     have e8 : IntKind.wrap .u64 ((s[i].toNat - 48 : Nat) : Int) = ((s[i].toNat - 48 : Nat) : Int) := wrapU_small (by omega) (by omega)
     have e9 : IntKind.wrap .u64 (((10 * digVal (s.take i) : Nat) : Int) + ((s[i].toNat - 48 : Nat) : Int)) = ((10 * digVal (s.take i) + (s[i].toNat - 48) : Nat) : Int) := by rw [wrapU_small (by omega) (by omega)]; omega
     have e10 : ¬ ((10 * digVal (s.take i) + (s[i].toNat - 48) : Nat) : Int) < ((10 * digVal (s.take i) : Nat) : Int) := by omega
     have e11 : ¬ ((10 * digVal (s.take i) + (s[i].toNat - 48) : Nat) : Int) > 18446744073709551615 := by omega
     rw [← hw,ht]
     generalize ((10 * digVal (s.take i) + (s[i].toNat - 48) : Nat) : Int) = N at *
     generalize ((10 * digVal (s.take i) : Nat) : Int) = M at *
     generalize ((s[i].toNat - 48 : Nat) : Int) = D at *
     generalize (digVal (s.take i) : Int) = V at *
     simp [l_isc_ParseUint_0,hi,e1,e2,e3,e4,e5,e6,e7,e8,e9,e10,e11,show IntKind.wrap .u8 10 = 10 from rfl,show IntKind.wrap .u64 10 = 10 from rfl])
   (fun i hi hp => by
     obtain ⟨c1,c2⟩ := hc i hi
     simp only [decide_eq_true_eq] at hp
     have ht := digVal_take hi
     rw [ht] at hp
     have e1 : ¬ ((s[i].toNat : Int) = 95) := by omega
     have e2 : (48:Int) ≤ (s[i].toNat : Int) := by omega
     have e3 : (s[i].toNat : Int) ≤ 57 := by omega
     have e4 : IntKind.wrap .u8 ((s[i].toNat : Int) - 48) = ((s[i].toNat - 48 : Nat) : Int) := by rw [wrap8_small (by omega) (by omega)]; omega
     have e5 : ¬ (10:Int) ≤ ((s[i].toNat - 48 : Nat) : Int) := by omega
     by_cases e6 : (1844674407370955162:Int) ≤ (digVal (s.take i) : Int)
     · generalize ((s[i].toNat - 48 : Nat) : Int) = D at *
       generalize (digVal (s.take i) : Int) = V at *
       simp [l_isc_ParseUint_0,hi,e1,e2,e3,e4,e5,e6,show IntKind.wrap .u8 10 = 10 from rfl,show IntKind.wrap .u64 10 = 10 from rfl]
     · have e7 : IntKind.wrap .u64 ((digVal (s.take i) : Int) * 10) = ((10 * digVal (s.take i) : Nat) : Int) := by rw [wrapU_small (by omega) (by omega)]; omega
       have e8 : IntKind.wrap .u64 ((s[i].toNat - 48 : Nat) : Int) = ((s[i].toNat - 48 : Nat) : Int) := wrapU_small (by omega) (by omega)
       have e9 : IntKind.wrap .u64 (((10 * digVal (s.take i) : Nat) : Int) + ((s[i].toNat - 48 : Nat) : Int)) = (((10 * digVal (s.take i) + (s[i].toNat - 48) : Nat) : Int) - 18446744073709551616) := by rw [wrapU]; omega
       have e10 : (((10 * digVal (s.take i) + (s[i].toNat - 48) : Nat) : Int) - 18446744073709551616) < ((10 * digVal (s.take i) : Nat) : Int) := by omega
       generalize (((10 * digVal (s.take i) + (s[i].toNat - 48) : Nat) : Int) - 18446744073709551616) = N at *
       generalize ((10 * digVal (s.take i) : Nat) : Int) = M at *
       generalize ((s[i].toNat - 48 : Nat) : Int) = D at *
       generalize (digVal (s.take i) : Int) = V at *
       simp [l_isc_ParseUint_0,hi,e1,e2,e3,e4,e5,e6,e7,e8,e9,e10,show IntKind.wrap .u8 10 = 10 from rfl,show IntKind.wrap .u64 10 = 10 from rfl])
   (by simp) (by simp [l_isc_ParseUint_0]) (by simp)
 rw [any_over] at hloop
 simp only [List.take_zero,show digVal [] = 0 from rfl,Int.natCast_zero] at hloop
 by_cases hv : 18446744073709551616 ≤ digVal s
 · simp [IP_isc_ParseUint,i_isc_ParseUint,h0,hs,hloop,hv,pU,show IntKind.wrap .u64 64 = 64 from rfl,show IntKind.wrap .u64 18446744073709551616 = 0 from rfl,show IntKind.wrap .u64 (-1) = 18446744073709551615 from rfl,IntKind.bits]
 · simp [IP_isc_ParseUint,i_isc_ParseUint,h0,hs,hloop,hv,pU,show IntKind.wrap .u64 64 = 64 from rfl,show IntKind.wrap .u64 18446744073709551616 = 0 from rfl,show IntKind.wrap .u64 (-1) = 18446744073709551615 from rfl,IntKind.bits]
theorem numE_nonempty {s:List UInt8} (h:numOk s = true) : s ≠ [] ∧ s.all isDig = true := by
 simp only [numOk,Bool.and_eq_true] at h
 refine ⟨?_,h.2.2⟩
 intro e; subst e; simp at h
end
end Go.Proofs.YtkofimhnehkdoaaGreatDoor.Rf
end
section
namespace Go.Proofs.YtkofimhnehkdoaaGreatDoor.Rf
def opN : List (List UInt8) := [[],[118,97,114],[99,111,110,115,116],[110,111,116],[110,101,103],[97,110,100],[111,114],[120,111,114],[97,100,100],[115,117,98],[109,117,108],[117,100,105,118],[117,114,101,109],[115,104,108],[108,115,104,114],[97,115,104,114],[101,113],[117,108,116],[115,108,116],[105,116,101],[99,111,110,99,97,116],[101,120,116,114,97,99,116],[122,101,120,116],[115,101,120,116],[104,111,108,101],[110,117,109],[101,118,97,108]]
theorem g_0_eq : g_0 = opN.map AV.str := rfl
theorem g_0_len : g_0.length = 27 := rfl
def nm (n:Nat) : List UInt8 := opN.getD n []
theorem g_0_at {n:Nat} (h:n < 27) : (g_0.drop n).take 1 = [AV.str (nm n)] := by
 rw [g_0_eq,List.drop_eq_getElem_cons (by simpa [opN] using h)]
 simp [nm,List.getD,show n < opN.length by simpa [opN] using h]
def opOk (op:Int) : Bool := decide (1 ≤ op) && decide (op ≤ 26)
theorem opOk_cases {op:Int} (h:opOk op = true) : op = 1 ∨ op = 2 ∨ op = 3 ∨ op = 4 ∨ op = 5 ∨ op = 6 ∨ op = 7 ∨ op = 8 ∨ op = 9 ∨ op = 10 ∨ op = 11 ∨ op = 12 ∨ op = 13 ∨ op = 14 ∨ op = 15 ∨ op = 16 ∨ op = 17 ∨ op = 18 ∨ op = 19 ∨ op = 20 ∨ op = 21 ∨ op = 22 ∨ op = 23 ∨ op = 24 ∨ op = 25 ∨ op = 26 := by
 simp [opOk] at h; omega
theorem opOk_nat {op:Int} (h:opOk op = true) : ∃ n : Nat,op = n ∧ 1 ≤ n ∧ n ≤ 26 := by
 simp [opOk] at h; exact ⟨op.toNat,by omega,by omega,by omega⟩
def nameE (op:Int) : List UInt8 := if opOk op then nm op.toNat else []
def ofE (s:List UInt8) : Int × Bool := match (List.range 26).find? fun i => decide (nm (i + 1) = s) with | some i => (((i + 1 : Nat) : Int),true) | none => (0,false)
def arE (op:Int) : Int := if opOk op = false then -1 else if op = 1 ∨ op = 2 ∨ op = 24 ∨ op = 25 then 0 else if op = 3 ∨ op = 4 ∨ op = 21 ∨ op = 22 ∨ op = 23 ∨ op = 26 then 1 else if op = 19 then 3 else 2
def insE (w:Int) : Bool := decide (0 ≤ w) && decide (w ≤ 64)
def leafE (op w v:Int) : Int × Int := if insE w = false ∨ (op = 2 ∧ 0 < w ∧ 2 ^ w.toNat ≤ v) then (0,3) else (w,0)
def resE (op w v f:Int) : Int × Int := if w < 1 ∨ 64 < w ∨ f < 1 then (0,3) else if (op ≠ 21 ∧ w < f) ∨ (op = 21 ∧ (f < w ∨ f - w < v)) then (0,3) else (w,0)
def widE (op w v:Int) (as:List Int) : Int × Int :=
 if opOk op = false ∨ (as.length : Int) ≠ arE op then (0,4) else
 if as.all insE = false then (0,3) else
 if op = 1 ∨ op = 2 ∨ op = 24 ∨ op = 25 then leafE op w v else
 if op = 3 ∨ op = 4 ∨ op = 26 then (as.getD 0 0,0) else
 if op = 21 ∨ op = 22 ∨ op = 23 then resE op w v (as.getD 0 0) else
 if op = 19 then (if as.getD 0 0 = 1 ∧ as.getD 1 0 = as.getD 2 0 then (as.getD 1 0,0) else (0,3)) else
 if op = 20 then (if 1 ≤ as.getD 0 0 ∧ 1 ≤ as.getD 1 0 ∧ as.getD 0 0 + as.getD 1 0 ≤ 64 then (as.getD 0 0 + as.getD 1 0,0) else (0,3)) else
 if op = 16 ∨ op = 17 ∨ op = 18 then (if as.getD 0 0 = as.getD 1 0 then (1,0) else (0,3)) else
 if as.getD 0 0 = as.getD 1 0 then (as.getD 0 0,0) else (0,3)
section
variable {hp:List HObj} {lo:Nat} (q:Bool)
theorem known_D (op:Int) : callD G0 IP n_oi_known [.int .i64 op] hp lo q = some (.ret (.bool (opOk op)) hp) := by
 rw [callD_eq]
 by_cases h : 1 ≤ op
 · by_cases h2 : op ≤ 26 <;> simp [IP_oi_known,i_oi_known,opOk,h,h2]
 · simp [IP_oi_known,i_oi_known,opOk,h]
theorem opName_D (op:Int) : callD G0 IP n_oi_Name [.int .i64 op] hp lo q = some (.ret (.str (nameE op)) hp) := by
 rw [callD_eq]
 cases h : opOk op with
 | false => simp [IP_oi_Name,i_oi_Name,known_D,h,nameE]
 | true =>
   obtain ⟨n,rfl,h1,h2⟩ := opOk_nat h
   have e1 : (n:Int) < 27 := by omega
   have e2 : n + 1 ≤ 27 := by omega
   simp [IP_oi_Name,i_oi_Name,known_D,h,nameE,G0_0,e1,e2,g_0_at (show n < 27 by omega),g_0_len]
theorem opOf_D (s:List UInt8) : callD G0 IP n_oi_Of [.str s] hp lo q = some (.ret (.tup [.int .i64 (ofE s).1,.bool (ofE s).2]) hp) := by
 rw [callD_eq]
 have hloop := loop_some (G := G0) (IP := IP) (lo := hp.length) (b := l_oi_Of_0)
   (fun i => ⟨[(0,.str s),(4,.int .i64 ((i:Int) + 1))],hp⟩) 26 (fun i => decide (nm (i + 1) = s)) (fun i => (.ret,⟨[(2,.int .i64 ((i:Int) + 1)),(3,.bool true)],hp⟩))
   (.exit 0,⟨[(0,.str s),(4,.int .i64 27),(6,.bool false)],hp⟩)
   (fun i hi hp => by
     have e1 : (i:Int) + 1 ≤ 26 := by omega
     have e2 : (0:Int) ≤ (i:Int) + 1 := by omega
     have e3 : (i:Int) + 1 < 27 := by omega
     have e4 : i + 1 + 1 ≤ 27 := by omega
     have e5 : IntKind.wrap .i64 ((i:Int) + 1 + 1) = (i:Int) + 1 + 1 := wrap_small (by omega) (by omega)
     have e6 : ((i:Int) + 1).toNat = i + 1 := by omega
     simp only [decide_eq_false_iff_not] at hp
     simp [l_oi_Of_0,G0_0,e1,e2,e3,e4,e5,e6,g_0_at (show i + 1 < 27 by omega),g_0_len,hp])
   (fun i hi hp => by
     have e1 : (i:Int) + 1 ≤ 26 := by omega
     have e2 : (0:Int) ≤ (i:Int) + 1 := by omega
     have e3 : (i:Int) + 1 < 27 := by omega
     have e4 : i + 1 + 1 ≤ 27 := by omega
     have e6 : ((i:Int) + 1).toNat = i + 1 := by omega
     simp only [decide_eq_true_eq] at hp
     simp [l_oi_Of_0,G0_0,e1,e2,e3,e4,e6,g_0_at (show i + 1 < 27 by omega),g_0_len,hp])
   (fun i s => by simp) (by simp [l_oi_Of_0]) (by simp)
 simp only [Int.natCast_zero,Int.zero_add] at hloop
 rcases hloop with ⟨m,hm,hp1,hp2,hl⟩ | ⟨hno,hl⟩
 · have hf : (List.range 26).find? (fun i => decide (nm (i + 1) = s)) = some m := by
     rw [List.find?_range_eq_some]
     exact ⟨hp1,by simpa using hm,fun j hj => by simpa using hp2 j hj⟩
   have he : ofE s = (((m + 1 : Nat) : Int),true) := by simp [ofE,hf]
   simp [IP_oi_Of,i_oi_Of,hl,he]
 · have hf : (List.range 26).find? (fun i => decide (nm (i + 1) = s)) = none := by
     rw [List.find?_eq_none]
     intro i hi; simp at hi; have := hno i hi; simpa using this
   have he : ofE s = (0,false) := by simp [ofE,hf]
   simp [IP_oi_Of,i_oi_Of,hl,he]
theorem arity_D (op:Int) : callD G0 IP n_oi_Arity [.int .i64 op] hp lo q = some (.ret (.int .i64 (arE op)) hp) := by
 rw [callD_eq]
 cases h : opOk op with
 | true =>
   rcases opOk_cases h with rfl | rfl | rfl | rfl | rfl | rfl | rfl | rfl | rfl | rfl | rfl | rfl | rfl | rfl | rfl | rfl | rfl | rfl | rfl | rfl | rfl | rfl | rfl | rfl | rfl | rfl
   all_goals simp [IP_oi_Arity,i_oi_Arity,arE,opOk,show IntKind.wrap .i64 1 = 1 from rfl,show IntKind.wrap .i64 2 = 2 from rfl,show IntKind.wrap .i64 3 = 3 from rfl]
 | false =>
   have hk : ∀ k : Int,1 ≤ k → k ≤ 26 → (op = k) = False := fun k h1 h2 => by
     simp only [eq_iff_iff,iff_false]; intro e; subst e; simp [opOk] at h; omega
   simp [IP_oi_Arity,i_oi_Arity,arE,h,hk]
theorem opLeaf_D (op:Int) : callD G0 IP n_oi_Leaf [.int .i64 op] hp lo q = some (.ret (.bool (decide (arE op = 0))) hp) := by
 rw [callD_eq]
 simp [IP_oi_Leaf,i_oi_Leaf,arity_D]
theorem inside_D (w:Int) : callD G0 IP n_oi_inside [.int .i64 w] hp lo q = some (.ret (.bool (insE w)) hp) := by
 rw [callD_eq]
 by_cases h : 0 ≤ w
 · by_cases h2 : w ≤ 64 <;> simp [IP_oi_inside,i_oi_inside,insE,h,h2]
 · simp [IP_oi_inside,i_oi_inside,insE,h]
theorem agreed_D (ok:Bool) (r:Int) : callD G0 IP n_oi_agreed [.bool ok,.int .i64 r] hp lo q = some (.ret (.tup [.int .i64 (if ok then r else 0),.int .i64 (if ok then 0 else 3)]) hp) := by
 rw [callD_eq]
 cases ok <;> simp [IP_oi_agreed,i_oi_agreed]
end
end Go.Proofs.YtkofimhnehkdoaaGreatDoor.Rf
end
section
namespace Go.Proofs.YtkofimhnehkdoaaGreatDoor.Rf
theorem fdiv_pow {v:Int} (h0:0 ≤ v) {w:Nat} : (v.fdiv (2 ^ w) = 0) ↔ v < 2 ^ w := by
 have hp : (0:Int) < 2 ^ w := Int.pow_pos (by omega)
 rw [Int.fdiv_eq_ediv_of_nonneg _ (by omega)]
 constructor
 · intro h
   have := Int.lt_ediv_add_one_mul_self v hp
   rw [h] at this; simpa using this
 · intro h; exact Int.ediv_eq_zero_of_lt h0 h
section
variable {hp:List HObj} {lo:Nat} (q:Bool)
theorem opLeafW_D (op w v:Int) (hv:0 ≤ v) : callD G0 IP n_oi_leaf [.int .i64 op,.int .i64 w,.int .u64 v] hp lo q = some (.ret (.tup [.int .i64 (leafE op w v).1,.int .i64 (leafE op w v).2]) hp) := by
 rw [callD_eq]
 cases hi : insE w with
 | false => simp [IP_oi_leaf,i_oi_leaf,inside_D,hi,leafE]
 | true =>
   by_cases h1 : op = 2
   · by_cases h2 : 0 < w
     · have hw : w ≤ 64 := by simp [insE] at hi; exact hi.2
       have h3 : ¬ w < 0 := by omega
       have hm : min w.toNat 64 = w.toNat := by omega
       have hd := fdiv_pow hv (w := w.toNat)
       by_cases h4 : v < 2 ^ w.toNat
       · have h5 : ¬ (2:Int) ^ w.toNat ≤ v := by omega
         simp [IP_oi_leaf,i_oi_leaf,inside_D,hi,leafE,h1,h2,h3,IntKind.bits,hm,hd.2 h4,h5]
       · have h5 : (2:Int) ^ w.toNat ≤ v := by omega
         have h6 : ¬ v.fdiv (2 ^ w.toNat) = 0 := fun e => h4 (hd.1 e)
         simp [IP_oi_leaf,i_oi_leaf,inside_D,hi,leafE,h1,h2,h3,IntKind.bits,hm,h6,h5]
     · simp [IP_oi_leaf,i_oi_leaf,inside_D,hi,leafE,h1,h2]
   · simp [IP_oi_leaf,i_oi_leaf,inside_D,hi,leafE,h1]
theorem resized_D (op w v f:Int) (hf:f ≤ 64) (hv:0 ≤ v) : callD G0 IP n_oi_resized [.int .i64 op,.int .i64 w,.int .u64 v,.int .i64 f] hp lo q = some (.ret (.tup [.int .i64 (resE op w v f).1,.int .i64 (resE op w v f).2]) hp) := by
 rw [callD_eq]
 by_cases h1 : w < 1
 · simp [IP_oi_resized,i_oi_resized,resE,h1]
 · by_cases h2 : 64 < w
   · simp [IP_oi_resized,i_oi_resized,resE,h1,h2]
   · by_cases h3 : f < 1
     · simp [IP_oi_resized,i_oi_resized,resE,h1,h2,h3]
     · by_cases h4 : op = 21
       · by_cases h5 : f < w
         · simp [IP_oi_resized,i_oi_resized,resE,h1,h2,h3,h4,h5]
         · have e1 : IntKind.wrap .i64 (f - w) = f - w := wrap_small (by omega) (by omega)
           have e2 : IntKind.wrap .u64 (f - w) = f - w := wrapU_small (by omega) (by omega)
           by_cases h6 : f - w < v
           · simp [IP_oi_resized,i_oi_resized,resE,h1,h2,h3,h4,h5,h6,e1,e2]
           · simp [IP_oi_resized,i_oi_resized,resE,h1,h2,h3,h4,h5,h6,e1,e2]
       · by_cases h5 : w < f
         · simp [IP_oi_resized,i_oi_resized,resE,h1,h2,h3,h4,h5]
         · simp [IP_oi_resized,i_oi_resized,resE,h1,h2,h3,h4,h5]
theorem any_ins (as:List Int) : ((List.range as.length).any fun i => !insE (as.getD i 0)) = !as.all insE := by
 induction as with
 | nil => rfl
 | cons c r ih =>
   rw [List.length_cons,List.range_succ_eq_map]
   simp [List.any_map,Function.comp_def] at ih ⊢
   rw [ih]
end
end Go.Proofs.YtkofimhnehkdoaaGreatDoor.Rf
end
section
namespace Go.Proofs.YtkofimhnehkdoaaGreatDoor.Rf
section
variable {hp:List HObj} {lo:Nat} (q:Bool)
def wfr (op w v:Int) (as:List Int) (o:Own) (i:Nat) : Fr := [(0,.int .i64 op),(1,.int .i64 w),(2,.int .u64 v),(3,.list (as.map (AV.int .i64)) o),(22,.list (as.map (AV.int .i64)) o.cp),(23,.int .i64 as.length),(24,.int .i64 i)]
theorem width_loop (op w v:Int) (as:List Int) (o:Own) (ha:as.length ≤ 9223372036854775807) (hp:List HObj) (lo:Nat) : loopD G0 IP lo l_oi_Width_0 ⟨wfr op w v as o 0,hp⟩ =
   some (if as.all insE = false then (.ret,⟨[(8,.int .i64 0),(9,.int .i64 3)],hp⟩) else (.exit 0,⟨wfr op w v as o as.length ++ [(25,.bool false)],hp⟩)) := by
 have hloop := loop_find (G := G0) (IP := IP) (lo := lo) (b := l_oi_Width_0)
   (fun i => ⟨wfr op w v as o i,hp⟩) as.length (fun i => !insE (as.getD i 0))
   (.ret,⟨[(8,.int .i64 0),(9,.int .i64 3)],hp⟩)
   (.exit 0,⟨wfr op w v as o as.length ++ [(25,.bool false)],hp⟩)
   (fun i hi hp => by
     have hw := wrap_succ hi ha
     simp [List.getD,hi] at hp
     simp only [wfr]
     rw [← hw]
     simp [l_oi_Width_0,hi,inside_D,hp])
   (fun i hi hp => by
     simp [List.getD,hi] at hp
     simp [l_oi_Width_0,wfr,hi,inside_D,hp])
   (by simp) (by simp [l_oi_Width_0,wfr]) (by simp)
 rw [any_ins] at hloop
 rw [hloop]
 cases as.all insE <;> rfl
theorem width_bad (op w v:Int) (as:List Int) (o:Own) (h:opOk op = false ∨ (as.length : Int) ≠ arE op) : callD G0 IP n_oi_Width [.int .i64 op,.int .i64 w,.int .u64 v,.list (as.map (AV.int .i64)) o] hp lo q = some (.ret (.tup [.int .i64 0,.int .i64 4]) hp) := by
 rw [callD_eq]
 cases hk : opOk op with
 | false => simp [IP_oi_Width,i_oi_Width,known_D,hk]
 | true =>
   have hl : ¬ (as.length : Int) = arE op := by rcases h with h | h; rw [h] at hk; cases hk; exact h
   simp [IP_oi_Width,i_oi_Width,known_D,arity_D,hk,hl]
theorem width_out (op w v:Int) (as:List Int) (o:Own) (ha:as.length ≤ 9223372036854775807) (hk:opOk op = true) (hl:(as.length : Int) = arE op) (hall:as.all insE = false) : callD G0 IP n_oi_Width [.int .i64 op,.int .i64 w,.int .u64 v,.list (as.map (AV.int .i64)) o] hp lo q = some (.ret (.tup [.int .i64 0,.int .i64 3]) hp) := by
 rw [callD_eq]
 have hloop := width_loop op w v as o ha hp hp.length
 rw [if_pos hall] at hloop
 simp only [wfr,Int.natCast_zero,hl] at hloop
 simp [IP_oi_Width,i_oi_Width,known_D,arity_D,hk,hl,hloop]
theorem width_1 (w v:Int) (hv:0 ≤ v)  (o:Own) (hall:List.all [] insE = true) : callD G0 IP n_oi_Width [.int .i64 1,.int .i64 w,.int .u64 v,.list (([] : List Int).map (AV.int .i64)) o] hp lo q =
   some (.ret (.tup [.int .i64 (leafE 1 w v).1,.int .i64 (leafE 1 w v).2]) hp) := by
 rw [callD_eq]
 have hloop := width_loop 1 w v [] o (by simp) hp hp.length
 rw [if_neg (by simp [hall])] at hloop
 simp [wfr] at hloop
 have hk : opOk 1 = true := rfl
 have hb : arE 1 = 0 := rfl
 have e := fun hp lo q => opLeafW_D (hp := hp) (lo := lo) q 1 w v hv
 simp [IP_oi_Width,i_oi_Width,known_D,arity_D,hk,hb,hloop,e]
theorem width_2 (w v:Int) (hv:0 ≤ v)  (o:Own) (hall:List.all [] insE = true) : callD G0 IP n_oi_Width [.int .i64 2,.int .i64 w,.int .u64 v,.list (([] : List Int).map (AV.int .i64)) o] hp lo q =
   some (.ret (.tup [.int .i64 (leafE 2 w v).1,.int .i64 (leafE 2 w v).2]) hp) := by
 rw [callD_eq]
 have hloop := width_loop 2 w v [] o (by simp) hp hp.length
 rw [if_neg (by simp [hall])] at hloop
 simp [wfr] at hloop
 have hk : opOk 2 = true := rfl
 have hb : arE 2 = 0 := rfl
 have e := fun hp lo q => opLeafW_D (hp := hp) (lo := lo) q 2 w v hv
 simp [IP_oi_Width,i_oi_Width,known_D,arity_D,hk,hb,hloop,e]
theorem width_24 (w v:Int) (hv:0 ≤ v)  (o:Own) (hall:List.all [] insE = true) : callD G0 IP n_oi_Width [.int .i64 24,.int .i64 w,.int .u64 v,.list (([] : List Int).map (AV.int .i64)) o] hp lo q =
   some (.ret (.tup [.int .i64 (leafE 24 w v).1,.int .i64 (leafE 24 w v).2]) hp) := by
 rw [callD_eq]
 have hloop := width_loop 24 w v [] o (by simp) hp hp.length
 rw [if_neg (by simp [hall])] at hloop
 simp [wfr] at hloop
 have hk : opOk 24 = true := rfl
 have hb : arE 24 = 0 := rfl
 have e := fun hp lo q => opLeafW_D (hp := hp) (lo := lo) q 24 w v hv
 simp [IP_oi_Width,i_oi_Width,known_D,arity_D,hk,hb,hloop,e]
theorem width_25 (w v:Int) (hv:0 ≤ v)  (o:Own) (hall:List.all [] insE = true) : callD G0 IP n_oi_Width [.int .i64 25,.int .i64 w,.int .u64 v,.list (([] : List Int).map (AV.int .i64)) o] hp lo q =
   some (.ret (.tup [.int .i64 (leafE 25 w v).1,.int .i64 (leafE 25 w v).2]) hp) := by
 rw [callD_eq]
 have hloop := width_loop 25 w v [] o (by simp) hp hp.length
 rw [if_neg (by simp [hall])] at hloop
 simp [wfr] at hloop
 have hk : opOk 25 = true := rfl
 have hb : arE 25 = 0 := rfl
 have e := fun hp lo q => opLeafW_D (hp := hp) (lo := lo) q 25 w v hv
 simp [IP_oi_Width,i_oi_Width,known_D,arity_D,hk,hb,hloop,e]
theorem width_3 (w v:Int) (hv:0 ≤ v) (a:Int) (o:Own) (hall:List.all [a] insE = true) : callD G0 IP n_oi_Width [.int .i64 3,.int .i64 w,.int .u64 v,.list (([a] : List Int).map (AV.int .i64)) o] hp lo q =
   some (.ret (.tup [.int .i64 (((a,0) : Int × Int)).1,.int .i64 (((a,0) : Int × Int)).2]) hp) := by
 rw [callD_eq]
 have hloop := width_loop 3 w v [a] o (by simp) hp hp.length
 rw [if_neg (by simp [hall])] at hloop
 simp [wfr] at hloop
 have hk : opOk 3 = true := rfl
 have hb : arE 3 = 1 := rfl
 simp [IP_oi_Width,i_oi_Width,known_D,arity_D,hk,hb,hloop]
theorem width_4 (w v:Int) (hv:0 ≤ v) (a:Int) (o:Own) (hall:List.all [a] insE = true) : callD G0 IP n_oi_Width [.int .i64 4,.int .i64 w,.int .u64 v,.list (([a] : List Int).map (AV.int .i64)) o] hp lo q =
   some (.ret (.tup [.int .i64 (((a,0) : Int × Int)).1,.int .i64 (((a,0) : Int × Int)).2]) hp) := by
 rw [callD_eq]
 have hloop := width_loop 4 w v [a] o (by simp) hp hp.length
 rw [if_neg (by simp [hall])] at hloop
 simp [wfr] at hloop
 have hk : opOk 4 = true := rfl
 have hb : arE 4 = 1 := rfl
 simp [IP_oi_Width,i_oi_Width,known_D,arity_D,hk,hb,hloop]
theorem width_26 (w v:Int) (hv:0 ≤ v) (a:Int) (o:Own) (hall:List.all [a] insE = true) : callD G0 IP n_oi_Width [.int .i64 26,.int .i64 w,.int .u64 v,.list (([a] : List Int).map (AV.int .i64)) o] hp lo q =
   some (.ret (.tup [.int .i64 (((a,0) : Int × Int)).1,.int .i64 (((a,0) : Int × Int)).2]) hp) := by
 rw [callD_eq]
 have hloop := width_loop 26 w v [a] o (by simp) hp hp.length
 rw [if_neg (by simp [hall])] at hloop
 simp [wfr] at hloop
 have hk : opOk 26 = true := rfl
 have hb : arE 26 = 1 := rfl
 simp [IP_oi_Width,i_oi_Width,known_D,arity_D,hk,hb,hloop]
theorem width_21 (w v:Int) (hv:0 ≤ v) (a:Int) (o:Own) (hall:List.all [a] insE = true) : callD G0 IP n_oi_Width [.int .i64 21,.int .i64 w,.int .u64 v,.list (([a] : List Int).map (AV.int .i64)) o] hp lo q =
   some (.ret (.tup [.int .i64 (resE 21 w v a).1,.int .i64 (resE 21 w v a).2]) hp) := by
 rw [callD_eq]
 have hloop := width_loop 21 w v [a] o (by simp) hp hp.length
 rw [if_neg (by simp [hall])] at hloop
 simp [wfr] at hloop
 have hk : opOk 21 = true := rfl
 have hb : arE 21 = 1 := rfl
 have ha64 : a ≤ 64 := by simp [insE] at hall; exact hall.2
 have e := fun hp lo q => resized_D (hp := hp) (lo := lo) q 21 w v a ha64 hv
 simp [IP_oi_Width,i_oi_Width,known_D,arity_D,hk,hb,hloop,e]
theorem width_22 (w v:Int) (hv:0 ≤ v) (a:Int) (o:Own) (hall:List.all [a] insE = true) : callD G0 IP n_oi_Width [.int .i64 22,.int .i64 w,.int .u64 v,.list (([a] : List Int).map (AV.int .i64)) o] hp lo q =
   some (.ret (.tup [.int .i64 (resE 22 w v a).1,.int .i64 (resE 22 w v a).2]) hp) := by
 rw [callD_eq]
 have hloop := width_loop 22 w v [a] o (by simp) hp hp.length
 rw [if_neg (by simp [hall])] at hloop
 simp [wfr] at hloop
 have hk : opOk 22 = true := rfl
 have hb : arE 22 = 1 := rfl
 have ha64 : a ≤ 64 := by simp [insE] at hall; exact hall.2
 have e := fun hp lo q => resized_D (hp := hp) (lo := lo) q 22 w v a ha64 hv
 simp [IP_oi_Width,i_oi_Width,known_D,arity_D,hk,hb,hloop,e]
theorem width_23 (w v:Int) (hv:0 ≤ v) (a:Int) (o:Own) (hall:List.all [a] insE = true) : callD G0 IP n_oi_Width [.int .i64 23,.int .i64 w,.int .u64 v,.list (([a] : List Int).map (AV.int .i64)) o] hp lo q =
   some (.ret (.tup [.int .i64 (resE 23 w v a).1,.int .i64 (resE 23 w v a).2]) hp) := by
 rw [callD_eq]
 have hloop := width_loop 23 w v [a] o (by simp) hp hp.length
 rw [if_neg (by simp [hall])] at hloop
 simp [wfr] at hloop
 have hk : opOk 23 = true := rfl
 have hb : arE 23 = 1 := rfl
 have ha64 : a ≤ 64 := by simp [insE] at hall; exact hall.2
 have e := fun hp lo q => resized_D (hp := hp) (lo := lo) q 23 w v a ha64 hv
 simp [IP_oi_Width,i_oi_Width,known_D,arity_D,hk,hb,hloop,e]
theorem width_19 (w v:Int) (hv:0 ≤ v) (a:Int) (b:Int) (c:Int) (o:Own) (hall:List.all [a,b,c] insE = true) : callD G0 IP n_oi_Width [.int .i64 19,.int .i64 w,.int .u64 v,.list (([a,b,c] : List Int).map (AV.int .i64)) o] hp lo q =
   some (.ret (.tup [.int .i64 (if a = 1 ∧ b = c then ((b,0) : Int × Int) else (0,3)).1,.int .i64 (if a = 1 ∧ b = c then ((b,0) : Int × Int) else (0,3)).2]) hp) := by
 rw [callD_eq]
 have hloop := width_loop 19 w v [a,b,c] o (by simp) hp hp.length
 rw [if_neg (by simp [hall])] at hloop
 simp [wfr] at hloop
 have hk : opOk 19 = true := rfl
 have hb : arE 19 = 3 := rfl
 by_cases h1 : a = 1
 · subst h1
   by_cases h2 : b = c
   · subst h2
     simp [IP_oi_Width,i_oi_Width,known_D,arity_D,hk,hb,hloop,agreed_D]
   · simp [IP_oi_Width,i_oi_Width,known_D,arity_D,hk,hb,hloop,agreed_D,h2]
 · simp [IP_oi_Width,i_oi_Width,known_D,arity_D,hk,hb,hloop,agreed_D,h1]
theorem width_20 (w v:Int) (hv:0 ≤ v) (a:Int) (b:Int) (o:Own) (hall:List.all [a,b] insE = true) : callD G0 IP n_oi_Width [.int .i64 20,.int .i64 w,.int .u64 v,.list (([a,b] : List Int).map (AV.int .i64)) o] hp lo q =
   some (.ret (.tup [.int .i64 (if 1 ≤ a ∧ 1 ≤ b ∧ a + b ≤ 64 then ((a + b,0) : Int × Int) else (0,3)).1,.int .i64 (if 1 ≤ a ∧ 1 ≤ b ∧ a + b ≤ 64 then ((a + b,0) : Int × Int) else (0,3)).2]) hp) := by
 rw [callD_eq]
 have hloop := width_loop 20 w v [a,b] o (by simp) hp hp.length
 rw [if_neg (by simp [hall])] at hloop
 simp [wfr] at hloop
 have hk : opOk 20 = true := rfl
 have hb : arE 20 = 2 := rfl
 have ha : 0 ≤ a ∧ a ≤ 64 ∧ 0 ≤ b ∧ b ≤ 64 := by simp [insE] at hall; omega
 have e1 : IntKind.wrap .i64 (a + b) = a + b := wrap_small (by omega) (by omega)
 by_cases h1 : 1 ≤ a
 · by_cases h2 : 1 ≤ b
   · by_cases h3 : a + b ≤ 64
     · simp [IP_oi_Width,i_oi_Width,known_D,arity_D,hk,hb,hloop,agreed_D,h1,h2,h3,e1]
     · simp [IP_oi_Width,i_oi_Width,known_D,arity_D,hk,hb,hloop,agreed_D,h1,h2,h3,e1]
   · simp [IP_oi_Width,i_oi_Width,known_D,arity_D,hk,hb,hloop,agreed_D,h1,h2,e1]
 · simp [IP_oi_Width,i_oi_Width,known_D,arity_D,hk,hb,hloop,agreed_D,h1,e1]
theorem width_16 (w v:Int) (hv:0 ≤ v) (a:Int) (b:Int) (o:Own) (hall:List.all [a,b] insE = true) : callD G0 IP n_oi_Width [.int .i64 16,.int .i64 w,.int .u64 v,.list (([a,b] : List Int).map (AV.int .i64)) o] hp lo q =
   some (.ret (.tup [.int .i64 (if a = b then ((1,0) : Int × Int) else (0,3)).1,.int .i64 (if a = b then ((1,0) : Int × Int) else (0,3)).2]) hp) := by
 rw [callD_eq]
 have hloop := width_loop 16 w v [a,b] o (by simp) hp hp.length
 rw [if_neg (by simp [hall])] at hloop
 simp [wfr] at hloop
 have hk : opOk 16 = true := rfl
 have hb : arE 16 = 2 := rfl
 by_cases h1 : a = b
 · subst h1
   simp [IP_oi_Width,i_oi_Width,known_D,arity_D,hk,hb,hloop,agreed_D]
 · simp [IP_oi_Width,i_oi_Width,known_D,arity_D,hk,hb,hloop,agreed_D,h1]
theorem width_17 (w v:Int) (hv:0 ≤ v) (a:Int) (b:Int) (o:Own) (hall:List.all [a,b] insE = true) : callD G0 IP n_oi_Width [.int .i64 17,.int .i64 w,.int .u64 v,.list (([a,b] : List Int).map (AV.int .i64)) o] hp lo q =
   some (.ret (.tup [.int .i64 (if a = b then ((1,0) : Int × Int) else (0,3)).1,.int .i64 (if a = b then ((1,0) : Int × Int) else (0,3)).2]) hp) := by
 rw [callD_eq]
 have hloop := width_loop 17 w v [a,b] o (by simp) hp hp.length
 rw [if_neg (by simp [hall])] at hloop
 simp [wfr] at hloop
 have hk : opOk 17 = true := rfl
 have hb : arE 17 = 2 := rfl
 by_cases h1 : a = b
 · subst h1
   simp [IP_oi_Width,i_oi_Width,known_D,arity_D,hk,hb,hloop,agreed_D]
 · simp [IP_oi_Width,i_oi_Width,known_D,arity_D,hk,hb,hloop,agreed_D,h1]
theorem width_18 (w v:Int) (hv:0 ≤ v) (a:Int) (b:Int) (o:Own) (hall:List.all [a,b] insE = true) : callD G0 IP n_oi_Width [.int .i64 18,.int .i64 w,.int .u64 v,.list (([a,b] : List Int).map (AV.int .i64)) o] hp lo q =
   some (.ret (.tup [.int .i64 (if a = b then ((1,0) : Int × Int) else (0,3)).1,.int .i64 (if a = b then ((1,0) : Int × Int) else (0,3)).2]) hp) := by
 rw [callD_eq]
 have hloop := width_loop 18 w v [a,b] o (by simp) hp hp.length
 rw [if_neg (by simp [hall])] at hloop
 simp [wfr] at hloop
 have hk : opOk 18 = true := rfl
 have hb : arE 18 = 2 := rfl
 by_cases h1 : a = b
 · subst h1
   simp [IP_oi_Width,i_oi_Width,known_D,arity_D,hk,hb,hloop,agreed_D]
 · simp [IP_oi_Width,i_oi_Width,known_D,arity_D,hk,hb,hloop,agreed_D,h1]
theorem width_5 (w v:Int) (hv:0 ≤ v) (a:Int) (b:Int) (o:Own) (hall:List.all [a,b] insE = true) : callD G0 IP n_oi_Width [.int .i64 5,.int .i64 w,.int .u64 v,.list (([a,b] : List Int).map (AV.int .i64)) o] hp lo q =
   some (.ret (.tup [.int .i64 (if a = b then ((a,0) : Int × Int) else (0,3)).1,.int .i64 (if a = b then ((a,0) : Int × Int) else (0,3)).2]) hp) := by
 rw [callD_eq]
 have hloop := width_loop 5 w v [a,b] o (by simp) hp hp.length
 rw [if_neg (by simp [hall])] at hloop
 simp [wfr] at hloop
 have hk : opOk 5 = true := rfl
 have hb : arE 5 = 2 := rfl
 by_cases h1 : a = b
 · subst h1
   simp [IP_oi_Width,i_oi_Width,known_D,arity_D,hk,hb,hloop,agreed_D]
 · simp [IP_oi_Width,i_oi_Width,known_D,arity_D,hk,hb,hloop,agreed_D,h1]
theorem width_6 (w v:Int) (hv:0 ≤ v) (a:Int) (b:Int) (o:Own) (hall:List.all [a,b] insE = true) : callD G0 IP n_oi_Width [.int .i64 6,.int .i64 w,.int .u64 v,.list (([a,b] : List Int).map (AV.int .i64)) o] hp lo q =
   some (.ret (.tup [.int .i64 (if a = b then ((a,0) : Int × Int) else (0,3)).1,.int .i64 (if a = b then ((a,0) : Int × Int) else (0,3)).2]) hp) := by
 rw [callD_eq]
 have hloop := width_loop 6 w v [a,b] o (by simp) hp hp.length
 rw [if_neg (by simp [hall])] at hloop
 simp [wfr] at hloop
 have hk : opOk 6 = true := rfl
 have hb : arE 6 = 2 := rfl
 by_cases h1 : a = b
 · subst h1
   simp [IP_oi_Width,i_oi_Width,known_D,arity_D,hk,hb,hloop,agreed_D]
 · simp [IP_oi_Width,i_oi_Width,known_D,arity_D,hk,hb,hloop,agreed_D,h1]
theorem width_7 (w v:Int) (hv:0 ≤ v) (a:Int) (b:Int) (o:Own) (hall:List.all [a,b] insE = true) : callD G0 IP n_oi_Width [.int .i64 7,.int .i64 w,.int .u64 v,.list (([a,b] : List Int).map (AV.int .i64)) o] hp lo q =
   some (.ret (.tup [.int .i64 (if a = b then ((a,0) : Int × Int) else (0,3)).1,.int .i64 (if a = b then ((a,0) : Int × Int) else (0,3)).2]) hp) := by
 rw [callD_eq]
 have hloop := width_loop 7 w v [a,b] o (by simp) hp hp.length
 rw [if_neg (by simp [hall])] at hloop
 simp [wfr] at hloop
 have hk : opOk 7 = true := rfl
 have hb : arE 7 = 2 := rfl
 by_cases h1 : a = b
 · subst h1
   simp [IP_oi_Width,i_oi_Width,known_D,arity_D,hk,hb,hloop,agreed_D]
 · simp [IP_oi_Width,i_oi_Width,known_D,arity_D,hk,hb,hloop,agreed_D,h1]
theorem width_8 (w v:Int) (hv:0 ≤ v) (a:Int) (b:Int) (o:Own) (hall:List.all [a,b] insE = true) : callD G0 IP n_oi_Width [.int .i64 8,.int .i64 w,.int .u64 v,.list (([a,b] : List Int).map (AV.int .i64)) o] hp lo q =
   some (.ret (.tup [.int .i64 (if a = b then ((a,0) : Int × Int) else (0,3)).1,.int .i64 (if a = b then ((a,0) : Int × Int) else (0,3)).2]) hp) := by
 rw [callD_eq]
 have hloop := width_loop 8 w v [a,b] o (by simp) hp hp.length
 rw [if_neg (by simp [hall])] at hloop
 simp [wfr] at hloop
 have hk : opOk 8 = true := rfl
 have hb : arE 8 = 2 := rfl
 by_cases h1 : a = b
 · subst h1
   simp [IP_oi_Width,i_oi_Width,known_D,arity_D,hk,hb,hloop,agreed_D]
 · simp [IP_oi_Width,i_oi_Width,known_D,arity_D,hk,hb,hloop,agreed_D,h1]
theorem width_9 (w v:Int) (hv:0 ≤ v) (a:Int) (b:Int) (o:Own) (hall:List.all [a,b] insE = true) : callD G0 IP n_oi_Width [.int .i64 9,.int .i64 w,.int .u64 v,.list (([a,b] : List Int).map (AV.int .i64)) o] hp lo q =
   some (.ret (.tup [.int .i64 (if a = b then ((a,0) : Int × Int) else (0,3)).1,.int .i64 (if a = b then ((a,0) : Int × Int) else (0,3)).2]) hp) := by
 rw [callD_eq]
 have hloop := width_loop 9 w v [a,b] o (by simp) hp hp.length
 rw [if_neg (by simp [hall])] at hloop
 simp [wfr] at hloop
 have hk : opOk 9 = true := rfl
 have hb : arE 9 = 2 := rfl
 by_cases h1 : a = b
 · subst h1
   simp [IP_oi_Width,i_oi_Width,known_D,arity_D,hk,hb,hloop,agreed_D]
 · simp [IP_oi_Width,i_oi_Width,known_D,arity_D,hk,hb,hloop,agreed_D,h1]
theorem width_10 (w v:Int) (hv:0 ≤ v) (a:Int) (b:Int) (o:Own) (hall:List.all [a,b] insE = true) : callD G0 IP n_oi_Width [.int .i64 10,.int .i64 w,.int .u64 v,.list (([a,b] : List Int).map (AV.int .i64)) o] hp lo q =
   some (.ret (.tup [.int .i64 (if a = b then ((a,0) : Int × Int) else (0,3)).1,.int .i64 (if a = b then ((a,0) : Int × Int) else (0,3)).2]) hp) := by
 rw [callD_eq]
 have hloop := width_loop 10 w v [a,b] o (by simp) hp hp.length
 rw [if_neg (by simp [hall])] at hloop
 simp [wfr] at hloop
 have hk : opOk 10 = true := rfl
 have hb : arE 10 = 2 := rfl
 by_cases h1 : a = b
 · subst h1
   simp [IP_oi_Width,i_oi_Width,known_D,arity_D,hk,hb,hloop,agreed_D]
 · simp [IP_oi_Width,i_oi_Width,known_D,arity_D,hk,hb,hloop,agreed_D,h1]
theorem width_11 (w v:Int) (hv:0 ≤ v) (a:Int) (b:Int) (o:Own) (hall:List.all [a,b] insE = true) : callD G0 IP n_oi_Width [.int .i64 11,.int .i64 w,.int .u64 v,.list (([a,b] : List Int).map (AV.int .i64)) o] hp lo q =
   some (.ret (.tup [.int .i64 (if a = b then ((a,0) : Int × Int) else (0,3)).1,.int .i64 (if a = b then ((a,0) : Int × Int) else (0,3)).2]) hp) := by
 rw [callD_eq]
 have hloop := width_loop 11 w v [a,b] o (by simp) hp hp.length
 rw [if_neg (by simp [hall])] at hloop
 simp [wfr] at hloop
 have hk : opOk 11 = true := rfl
 have hb : arE 11 = 2 := rfl
 by_cases h1 : a = b
 · subst h1
   simp [IP_oi_Width,i_oi_Width,known_D,arity_D,hk,hb,hloop,agreed_D]
 · simp [IP_oi_Width,i_oi_Width,known_D,arity_D,hk,hb,hloop,agreed_D,h1]
theorem width_12 (w v:Int) (hv:0 ≤ v) (a:Int) (b:Int) (o:Own) (hall:List.all [a,b] insE = true) : callD G0 IP n_oi_Width [.int .i64 12,.int .i64 w,.int .u64 v,.list (([a,b] : List Int).map (AV.int .i64)) o] hp lo q =
   some (.ret (.tup [.int .i64 (if a = b then ((a,0) : Int × Int) else (0,3)).1,.int .i64 (if a = b then ((a,0) : Int × Int) else (0,3)).2]) hp) := by
 rw [callD_eq]
 have hloop := width_loop 12 w v [a,b] o (by simp) hp hp.length
 rw [if_neg (by simp [hall])] at hloop
 simp [wfr] at hloop
 have hk : opOk 12 = true := rfl
 have hb : arE 12 = 2 := rfl
 by_cases h1 : a = b
 · subst h1
   simp [IP_oi_Width,i_oi_Width,known_D,arity_D,hk,hb,hloop,agreed_D]
 · simp [IP_oi_Width,i_oi_Width,known_D,arity_D,hk,hb,hloop,agreed_D,h1]
theorem width_13 (w v:Int) (hv:0 ≤ v) (a:Int) (b:Int) (o:Own) (hall:List.all [a,b] insE = true) : callD G0 IP n_oi_Width [.int .i64 13,.int .i64 w,.int .u64 v,.list (([a,b] : List Int).map (AV.int .i64)) o] hp lo q =
   some (.ret (.tup [.int .i64 (if a = b then ((a,0) : Int × Int) else (0,3)).1,.int .i64 (if a = b then ((a,0) : Int × Int) else (0,3)).2]) hp) := by
 rw [callD_eq]
 have hloop := width_loop 13 w v [a,b] o (by simp) hp hp.length
 rw [if_neg (by simp [hall])] at hloop
 simp [wfr] at hloop
 have hk : opOk 13 = true := rfl
 have hb : arE 13 = 2 := rfl
 by_cases h1 : a = b
 · subst h1
   simp [IP_oi_Width,i_oi_Width,known_D,arity_D,hk,hb,hloop,agreed_D]
 · simp [IP_oi_Width,i_oi_Width,known_D,arity_D,hk,hb,hloop,agreed_D,h1]
theorem width_14 (w v:Int) (hv:0 ≤ v) (a:Int) (b:Int) (o:Own) (hall:List.all [a,b] insE = true) : callD G0 IP n_oi_Width [.int .i64 14,.int .i64 w,.int .u64 v,.list (([a,b] : List Int).map (AV.int .i64)) o] hp lo q =
   some (.ret (.tup [.int .i64 (if a = b then ((a,0) : Int × Int) else (0,3)).1,.int .i64 (if a = b then ((a,0) : Int × Int) else (0,3)).2]) hp) := by
 rw [callD_eq]
 have hloop := width_loop 14 w v [a,b] o (by simp) hp hp.length
 rw [if_neg (by simp [hall])] at hloop
 simp [wfr] at hloop
 have hk : opOk 14 = true := rfl
 have hb : arE 14 = 2 := rfl
 by_cases h1 : a = b
 · subst h1
   simp [IP_oi_Width,i_oi_Width,known_D,arity_D,hk,hb,hloop,agreed_D]
 · simp [IP_oi_Width,i_oi_Width,known_D,arity_D,hk,hb,hloop,agreed_D,h1]
theorem width_15 (w v:Int) (hv:0 ≤ v) (a:Int) (b:Int) (o:Own) (hall:List.all [a,b] insE = true) : callD G0 IP n_oi_Width [.int .i64 15,.int .i64 w,.int .u64 v,.list (([a,b] : List Int).map (AV.int .i64)) o] hp lo q =
   some (.ret (.tup [.int .i64 (if a = b then ((a,0) : Int × Int) else (0,3)).1,.int .i64 (if a = b then ((a,0) : Int × Int) else (0,3)).2]) hp) := by
 rw [callD_eq]
 have hloop := width_loop 15 w v [a,b] o (by simp) hp hp.length
 rw [if_neg (by simp [hall])] at hloop
 simp [wfr] at hloop
 have hk : opOk 15 = true := rfl
 have hb : arE 15 = 2 := rfl
 by_cases h1 : a = b
 · subst h1
   simp [IP_oi_Width,i_oi_Width,known_D,arity_D,hk,hb,hloop,agreed_D]
 · simp [IP_oi_Width,i_oi_Width,known_D,arity_D,hk,hb,hloop,agreed_D,h1]
end
end Go.Proofs.YtkofimhnehkdoaaGreatDoor.Rf
end
section
namespace Go.Proofs.YtkofimhnehkdoaaGreatDoor.Rf
def leafB (op:Int) : Bool := decide (op = 1) || (decide (op = 2) || (decide (op = 24) || decide (op = 25)))
theorem any_eq (op:Int) (l:List Int) : ((List.range l.length).any fun i => decide (l.getD i 0 = op)) = l.any fun x => decide (x = op) := by
 induction l with
 | nil => rfl
 | cons c r ih =>
   rw [List.length_cons,List.range_succ_eq_map]
   simp [List.any_map,Function.comp_def] at ih ⊢
   rw [ih]
theorem eq_comm_dec (a b:Int) : decide (a = b) = decide (b = a) := by
 by_cases h : a = b
 · simp [h]
 · rw [decide_eq_false h,decide_eq_false fun e : b = a => h e.symm]
section
variable {hp:List HObj} {lo:Nat} (q:Bool)
theorem is4_D (op:Int) (l:List Int) (o:Own) (hl:l.length ≤ 9223372036854775807) : callD G0 IP n_sr04_Is [.int .i64 op,.list (l.map (AV.int .i64)) o] hp lo q = some (.ret (.bool (l.any fun x => decide (x = op))) hp) := by
 rw [callD_eq]
 have hloop := loop_find (G := G0) (IP := IP) (lo := hp.length) (b := l_sr04_Is_0)
   (fun i => ⟨[(0,.int .i64 op),(1,.list (l.map (AV.int .i64)) o),(7,.int .i64 l.length),(8,.int .i64 i)],hp⟩) l.length (fun i => decide (l.getD i 0 = op))
   (.ret,⟨[(4,.bool true)],hp⟩) (.exit 0,⟨[(0,.int .i64 op),(1,.list (l.map (AV.int .i64)) o),(7,.int .i64 l.length),(8,.int .i64 l.length),(9,.bool false)],hp⟩)
   (fun i hi hp => by
     have hw := wrap_succ hi hl
     simp [List.getD,hi] at hp
     rw [← hw]
     simp [l_sr04_Is_0,hi,show (i:Int) < (l.length : Int) by omega,hp])
   (fun i hi hp => by
     simp [List.getD,hi] at hp
     simp [l_sr04_Is_0,hi,show (i:Int) < (l.length : Int) by omega,hp])
   (by simp) (by simp [l_sr04_Is_0]) (by simp)
 rw [any_eq] at hloop
 simp only [Int.natCast_zero] at hloop
 cases h : l.any fun x => decide (x = op) with
 | true => rw [h] at hloop; simp only [if_true] at hloop; simp [IP_sr04_Is,i_sr04_Is,hloop]
 | false => rw [h] at hloop; simp only [Bool.false_eq_true,if_false] at hloop; simp [IP_sr04_Is,i_sr04_Is,hloop]
theorem leaf4_D (op:Int) : callD G0 IP n_sr04_Leaf [.int .i64 op] hp lo q = some (.ret (.bool (leafB op)) hp) := by
 rw [callD_eq]
 have e := fun hp lo q (o:Own) => is4_D (hp := hp) (lo := lo) q op [1,2,24,25] o (by simp)
 simp only [List.map_cons,List.map_nil,List.any_cons,List.any_nil,Bool.or_false,eq_comm_dec _ op] at e
 simp [IP_sr04_Leaf,i_sr04_Leaf,e,leafB]
theorem arity4_D (op:Int) : callD G0 IP n_sr04_Arity [.int .i64 op] hp lo q = some (.ret (.int .i64 (arE op)) hp) := by
 rw [callD_eq]
 have e := fun hp lo q (o:Own) => is4_D (hp := hp) (lo := lo) q op [3,4,21,22,23,26] o (by simp)
 simp only [List.map_cons,List.map_nil,List.any_cons,List.any_nil,Bool.or_false,eq_comm_dec _ op] at e
 by_cases h1 : op < 1
 · have hk : opOk op = false := by simp [opOk]; omega
   simp [IP_sr04_Arity,i_sr04_Arity,arE,hk,h1]
 · by_cases h2 : 26 < op
   · have hk : opOk op = false := by simp [opOk]; omega
     simp [IP_sr04_Arity,i_sr04_Arity,arE,hk,h1,h2]
   · have hk : opOk op = true := by simp [opOk]; omega
     cases hL : leafB op with
     | true =>
       have h3 : op = 1 ∨ op = 2 ∨ op = 24 ∨ op = 25 := by simpa [leafB] using hL
       simp [IP_sr04_Arity,i_sr04_Arity,arE,hk,h1,h2,leaf4_D,hL,h3]
     | false =>
       have h3 : ¬ (op = 1 ∨ op = 2 ∨ op = 24 ∨ op = 25) := by simpa [leafB] using hL
       by_cases h4 : op = 3 ∨ op = 4 ∨ op = 21 ∨ op = 22 ∨ op = 23 ∨ op = 26
       · have h5 : (decide (op = 3) || (decide (op = 4) || (decide (op = 21) || (decide (op = 22) || (decide (op = 23) || decide (op = 26)))))) = true := by simpa using h4
         rw [h5] at e
         rw [arE,if_neg (by simp [hk]),if_neg h3,if_pos h4]
         simp [IP_sr04_Arity,i_sr04_Arity,h1,h2,leaf4_D,hL,e]
       · have h5 : (decide (op = 3) || (decide (op = 4) || (decide (op = 21) || (decide (op = 22) || (decide (op = 23) || decide (op = 26)))))) = false := by simpa using h4
         rw [h5] at e
         rw [arE,if_neg (by simp [hk]),if_neg h3,if_neg h4]
         by_cases h6 : op = 19
         · subst h6
           simp [IP_sr04_Arity,i_sr04_Arity,leaf4_D,hL,e]
         · simp [IP_sr04_Arity,i_sr04_Arity,h1,h2,leaf4_D,hL,e,h6]
theorem wid4_D (w:Int) : callD G0 IP n_sr04_width [.int .i64 w] hp lo q = some (.ret (.bool (insE w)) hp) := by
 rw [callD_eq]
 by_cases h : 0 ≤ w
 · by_cases h2 : w ≤ 64 <;> simp [IP_sr04_width,i_sr04_width,insE,h,h2]
 · simp [IP_sr04_width,i_sr04_width,insE,h]
theorem leafW4_D (op w v:Int) (hv:v < 18446744073709551616) : callD G0 IP n_sr04_leaf [.int .i64 op,.int .i64 w,.int .u64 v] hp lo q = some (.ret (.tup [.int .i64 (leafE op w v).1,.int .i64 (leafE op w v).2]) hp) := by
 rw [callD_eq]
 cases hi : insE w with
 | false => simp [IP_sr04_leaf,i_sr04_leaf,wid4_D,hi,leafE]
 | true =>
   have hw : 0 ≤ w ∧ w ≤ 64 := by simpa [insE] using hi
   by_cases h1 : op = 2
   · by_cases h2 : 0 < w
     · by_cases h3 : w < 64
       · have e1 : IntKind.wrap .u64 w = w := wrapU_small (by omega) (by omega)
         have h4 : ¬ w < 0 := by omega
         have hm : min w.toNat 64 = w.toNat := by omega
         have hp2 : (2:Int) ^ w.toNat < 18446744073709551616 := by
           have : (2:Nat) ^ w.toNat < 2 ^ 64 := Nat.pow_lt_pow_right (by omega) (by omega)
           have h := Int.ofNat_lt.2 this
           simpa using h
         have hp0 : (0:Int) < 2 ^ w.toNat := Int.pow_pos (by omega)
         have e2 : IntKind.wrap .u64 (1 * 2 ^ w.toNat) = 2 ^ w.toNat := by rw [Int.one_mul]; exact wrapU_small (by omega) (by omega)
         rw [Int.one_mul] at e2
         by_cases h5 : (2:Int) ^ w.toNat ≤ v
         · simp [IP_sr04_leaf,i_sr04_leaf,wid4_D,hi,leafE,h1,h2,h3,e1,h4,IntKind.bits,hm,e2,h5]
         · simp [IP_sr04_leaf,i_sr04_leaf,wid4_D,hi,leafE,h1,h2,h3,e1,h4,IntKind.bits,hm,e2,h5]
       · have hw64 : w = 64 := by omega
         subst hw64
         have h5 : ¬ (18446744073709551616:Int) ≤ v := by omega
         have h6 : ¬ (2:Int) ^ (64:Int).toNat ≤ v := h5
         simp [IP_sr04_leaf,i_sr04_leaf,wid4_D,hi,leafE,h1,h5,h6]
     · simp [IP_sr04_leaf,i_sr04_leaf,wid4_D,hi,leafE,h1,h2]
   · simp [IP_sr04_leaf,i_sr04_leaf,wid4_D,hi,leafE,h1]
theorem parts4_D (op w v f:Int) (hf:f ≤ 64) : callD G0 IP n_sr04_parts [.int .i64 op,.int .i64 w,.int .u64 v,.int .i64 f] hp lo q = some (.ret (.tup [.int .i64 (resE op w v f).1,.int .i64 (resE op w v f).2]) hp) := by
 rw [callD_eq]
 cases hi : insE w with
 | false =>
   have h1 : w < 1 ∨ 64 < w ∨ f < 1 := by simp [insE] at hi; omega
   simp [IP_sr04_parts,i_sr04_parts,wid4_D,hi,resE,h1]
 | true =>
   have hw : 0 ≤ w ∧ w ≤ 64 := by simpa [insE] using hi
   have h2 : ¬ 64 < w := by omega
   by_cases h1 : w < 1
   · simp [IP_sr04_parts,i_sr04_parts,wid4_D,hi,resE,h1]
   · by_cases h3 : f < 1
     · simp [IP_sr04_parts,i_sr04_parts,wid4_D,hi,resE,h1,h2,h3]
     · by_cases h4 : op = 21
       · by_cases h5 : f < w
         · simp [IP_sr04_parts,i_sr04_parts,wid4_D,hi,resE,h1,h2,h3,h4,h5]
         · have e1 : IntKind.wrap .i64 (f - w) = f - w := wrap_small (by omega) (by omega)
           have e2 : IntKind.wrap .u64 (f - w) = f - w := wrapU_small (by omega) (by omega)
           by_cases h6 : f - w < v
           · simp [IP_sr04_parts,i_sr04_parts,wid4_D,hi,resE,h1,h2,h3,h4,h5,h6,e1,e2]
           · simp [IP_sr04_parts,i_sr04_parts,wid4_D,hi,resE,h1,h2,h3,h4,h5,h6,e1,e2]
       · by_cases h5 : w < f
         · simp [IP_sr04_parts,i_sr04_parts,wid4_D,hi,resE,h1,h2,h3,h4,h5]
         · simp [IP_sr04_parts,i_sr04_parts,wid4_D,hi,resE,h1,h2,h3,h4,h5]
end
end Go.Proofs.YtkofimhnehkdoaaGreatDoor.Rf
end
section
namespace Go.Proofs.YtkofimhnehkdoaaGreatDoor.Rf
theorem len0 {as:List Int} (h:(as.length : Int) = 0) : as = [] := List.eq_nil_of_length_eq_zero (by omega)
theorem len1 {as:List Int} (h:(as.length : Int) = 1) : ∃ a,as = [a] := by
 rcases as with _ | ⟨a,_ | ⟨b,r⟩⟩
 · simp at h
 · exact ⟨a,rfl⟩
 · simp at h; omega
theorem len2 {as:List Int} (h:(as.length : Int) = 2) : ∃ a b,as = [a,b] := by
 rcases as with _ | ⟨a,_ | ⟨b,_ | ⟨c,r⟩⟩⟩
 · simp at h
 · simp at h
 · exact ⟨a,b,rfl⟩
 · simp at h; omega
theorem len3 {as:List Int} (h:(as.length : Int) = 3) : ∃ a b c,as = [a,b,c] := by
 rcases as with _ | ⟨a,_ | ⟨b,_ | ⟨c,_ | ⟨d,r⟩⟩⟩⟩
 · simp at h
 · simp at h
 · simp at h
 · exact ⟨a,b,c,rfl⟩
 · simp at h; omega
theorem widE_in {op w v:Int} {as:List Int} (h:¬ (opOk op = false ∨ (as.length : Int) ≠ arE op)) (hall:as.all insE = true) : widE op w v as = (if op = 1 ∨ op = 2 ∨ op = 24 ∨ op = 25 then leafE op w v else
       if op = 3 ∨ op = 4 ∨ op = 26 then (as.getD 0 0,0) else
       if op = 21 ∨ op = 22 ∨ op = 23 then resE op w v (as.getD 0 0) else
       if op = 19 then (if as.getD 0 0 = 1 ∧ as.getD 1 0 = as.getD 2 0 then (as.getD 1 0,0) else (0,3)) else
       if op = 20 then (if 1 ≤ as.getD 0 0 ∧ 1 ≤ as.getD 1 0 ∧ as.getD 0 0 + as.getD 1 0 ≤ 64 then (as.getD 0 0 + as.getD 1 0,0) else (0,3)) else
       if op = 16 ∨ op = 17 ∨ op = 18 then (if as.getD 0 0 = as.getD 1 0 then (1,0) else (0,3)) else
       if as.getD 0 0 = as.getD 1 0 then (as.getD 0 0,0) else (0,3)) := by
 rw [widE,if_neg h,if_neg (by simp [hall])]
section
variable {hp:List HObj} {lo:Nat} (q:Bool)
theorem width_D (op w v:Int) (hv:0 ≤ v) (as:List Int) (o:Own) (ha:as.length ≤ 9223372036854775807) : callD G0 IP n_oi_Width [.int .i64 op,.int .i64 w,.int .u64 v,.list (as.map (AV.int .i64)) o] hp lo q =
   some (.ret (.tup [.int .i64 (widE op w v as).1,.int .i64 (widE op w v as).2]) hp) := by
 by_cases h : opOk op = false ∨ (as.length : Int) ≠ arE op
 · rw [width_bad q op w v as o h,widE,if_pos h]
 · have hk : opOk op = true := by cases hk : opOk op <;> simp_all
   have hl : (as.length : Int) = arE op := Decidable.byContradiction fun e => h (.inr e)
   cases hall : as.all insE with
   | false => rw [width_out q op w v as o ha hk hl hall,widE,if_neg h,if_pos hall]
   | true =>
     rw [widE_in h hall]
     rcases opOk_cases hk with rfl | rfl | rfl | rfl | rfl | rfl | rfl | rfl | rfl | rfl | rfl | rfl | rfl | rfl | rfl | rfl | rfl | rfl | rfl | rfl | rfl | rfl | rfl | rfl | rfl | rfl
     · obtain rfl := len0 hl; exact width_1 q w v hv o hall
     · obtain rfl := len0 hl; exact width_2 q w v hv o hall
     · obtain ⟨a,rfl⟩ := len1 hl; exact width_3 q w v hv a o hall
     · obtain ⟨a,rfl⟩ := len1 hl; exact width_4 q w v hv a o hall
     · obtain ⟨a,b,rfl⟩ := len2 hl; exact width_5 q w v hv a b o hall
     · obtain ⟨a,b,rfl⟩ := len2 hl; exact width_6 q w v hv a b o hall
     · obtain ⟨a,b,rfl⟩ := len2 hl; exact width_7 q w v hv a b o hall
     · obtain ⟨a,b,rfl⟩ := len2 hl; exact width_8 q w v hv a b o hall
     · obtain ⟨a,b,rfl⟩ := len2 hl; exact width_9 q w v hv a b o hall
     · obtain ⟨a,b,rfl⟩ := len2 hl; exact width_10 q w v hv a b o hall
     · obtain ⟨a,b,rfl⟩ := len2 hl; exact width_11 q w v hv a b o hall
     · obtain ⟨a,b,rfl⟩ := len2 hl; exact width_12 q w v hv a b o hall
     · obtain ⟨a,b,rfl⟩ := len2 hl; exact width_13 q w v hv a b o hall
     · obtain ⟨a,b,rfl⟩ := len2 hl; exact width_14 q w v hv a b o hall
     · obtain ⟨a,b,rfl⟩ := len2 hl; exact width_15 q w v hv a b o hall
     · obtain ⟨a,b,rfl⟩ := len2 hl; exact width_16 q w v hv a b o hall
     · obtain ⟨a,b,rfl⟩ := len2 hl; exact width_17 q w v hv a b o hall
     · obtain ⟨a,b,rfl⟩ := len2 hl; exact width_18 q w v hv a b o hall
     · obtain ⟨a,b,c,rfl⟩ := len3 hl; exact width_19 q w v hv a b c o hall
     · obtain ⟨a,b,rfl⟩ := len2 hl; exact width_20 q w v hv a b o hall
     · obtain ⟨a,rfl⟩ := len1 hl; exact width_21 q w v hv a o hall
     · obtain ⟨a,rfl⟩ := len1 hl; exact width_22 q w v hv a o hall
     · obtain ⟨a,rfl⟩ := len1 hl; exact width_23 q w v hv a o hall
     · obtain rfl := len0 hl; exact width_24 q w v hv o hall
     · obtain rfl := len0 hl; exact width_25 q w v hv o hall
     · obtain ⟨a,rfl⟩ := len1 hl; exact width_26 q w v hv a o hall
end
end Go.Proofs.YtkofimhnehkdoaaGreatDoor.Rf
end
section
namespace Go.Proofs.YtkofimhnehkdoaaGreatDoor.Rf
section
variable {hp:List HObj} {lo:Nat} (q:Bool)
end
end Go.Proofs.YtkofimhnehkdoaaGreatDoor.Rf
end
