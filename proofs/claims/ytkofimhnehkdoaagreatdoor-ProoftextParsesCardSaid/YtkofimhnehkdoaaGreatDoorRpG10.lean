/- A part of the proof: see the last text. -/
import Derived.Test.YtkofimhnehkdoaaGreatDoorRpG9
import Derived.Test.YtkofimhnehkdoaaGreatDoorRpG8
set_option linter.unusedVariables false
set_option linter.unusedSimpArgs false
section
namespace Go.Proofs.YtkofimhnehkdoaaGreatDoor.Rf
theorem numE_bd (s:List UInt8) : 0 ≤ (numE s).1 ∧ (numE s).1 < 18446744073709551616 := by
 unfold numE
 split
 · omega
 · split <;> omega
theorem numE_code (s:List UInt8) : (numE s).2 = 0 ∨ (numE s).2 = 2 ∨ (numE s).2 = 6 := by
 unfold numE
 split
 · simp
 · split <;> simp
mutual
@[simp] theorem T.av_clo (n:Nat) : ∀ t : T,AV.closed n t.av = true
 | .mk _ _ _ _ o as => by simp [T.av,AV.closed,AV.closedL,T.avs_clo n as]
@[simp] theorem T.avs_clo (n:Nat) : ∀ as : List T,AV.closedL n (T.avs as) = true
 | [] => rfl
 | t :: r => by simp [T.avs,AV.closedL,T.av_clo n t,T.avs_clo n r]
end
theorem leaf_kind (l:List UInt8) : (∃ r,l = 63 :: r) ∨ (∃ r,l = 35 :: r) ∨ (hasPre l [63] = false ∧ hasPre l [35] = false ∧ leafOp l = 1 ∧ leafNm l = l) := by
 rcases l with _ | ⟨c,r⟩
 · exact .inr (.inr ⟨rfl,rfl,rfl,rfl⟩)
 · by_cases h : c = 63
   · exact .inl ⟨r,by rw [h]⟩
   · by_cases h2 : c = 35
     · exact .inr (.inl ⟨r,by rw [h2]⟩)
     · have a : ¬ (c.toNat : Int) = 63 := fun e => h (UInt8.toNat_inj.1 (by simp only [show UInt8.toNat 63 = 63 from rfl,show UInt8.toNat 35 = 35 from rfl]; omega))
       have b : ¬ (c.toNat : Int) = 35 := fun e => h2 (UInt8.toNat_inj.1 (by simp only [show UInt8.toNat 63 = 63 from rfl,show UInt8.toNat 35 = 35 from rfl]; omega))
       exact .inr (.inr ⟨by simp [hasPre,h],by simp [hasPre,h2],by simp [leafOp,bt,a,b],by simp [leafNm,bt,a,b]⟩)
section
variable {hp:List HObj} {lo:Nat} (q:Bool)
theorem constant_D (left:List UInt8) (hs:left.length ≤ 140737488355328) (w e:Int) (hw:0 ≤ w) : callD G0 IP n_tt_constant [.str left,.int .u64 w,.int .i64 e] hp lo false = some ((constR left w e).out hp) := by
 rw [callD_eq]
 have hn := fun (hp:List HObj) (lo:Nat) (q:Bool) => ttNumeral_D (hp := hp) (lo := lo) q left hs
 have hb := numE_bd left
 by_cases h1 : (numE left).2 = 6
 · simp [IP_tt_constant,i_tt_constant,hn,h1,must_D,constR,TR.out]
 · by_cases h2 : e = 0
   · by_cases h3 : (numE left).2 = 0
     · by_cases h4 : w ≤ 64
       · have e1 : IntKind.wrap .i64 w = w := wrap_small (by omega) (by omega)
         have hW := fun (hp:List HObj) (lo:Nat) (q:Bool) => width_D (hp := hp) (lo := lo) q 2 w (numE left).1 hb.1 [] .nil (by simp)
         simp only [List.map_nil] at hW
         by_cases h5 : (widE 2 w (numE left).1 []).2 = 0
         · simp [IP_tt_constant,i_tt_constant,hn,h2,h3,h4,h5,must_D,failT_D,constR,TR.out,e1,hW,T.av,T.avs,ownB]
         · simp [IP_tt_constant,i_tt_constant,hn,h2,h3,h4,h5,must_D,failT_D,constR,TR.out,e1,hW]
       · simp [IP_tt_constant,i_tt_constant,hn,h2,h3,h4,must_D,constR,TR.out]
     · simp [IP_tt_constant,i_tt_constant,hn,h1,h2,h3,must_D,constR,TR.out]
   · simp [IP_tt_constant,i_tt_constant,hn,h1,h2,must_D,constR,TR.out]
set_option maxHeartbeats 1000000 in
theorem leafT_D (s:List UInt8) (h0:s ≠ []) (hs:s.length ≤ 140737488355328) : callD G0 IP n_tt_leaf [.str s] hp lo false = some ((leafR s).out hp) := by
 rw [callD_eq]
 have hc := fun (hp:List HObj) (lo:Nat) (q:Bool) => cut1_D (hp := hp) (lo := lo) q s (by omega) 58
 have hl1 : (cutB s 58).1.length ≤ 140737488355328 := by
   unfold cutB; split
   · simp only [List.length_take]; omega
   · simp only; omega
 have hl2 : (cutB s 58).2.1.length ≤ 140737488355328 := by
   unfold cutB; split
   · simp only [List.length_drop]; omega
   · simp
 have hn := fun (hp:List HObj) (lo:Nat) (q:Bool) => ttNumeral_D (hp := hp) (lo := lo) q (cutB s 58).2.1 hl2
 have hb := numE_bd (cutB s 58).2.1
 have hk := fun (hp:List HObj) (lo:Nat) => constant_D (hp := hp) (lo := lo) (cutB s 58).1 hl1 (numE (cutB s 58).2.1).1 (numE (cutB s 58).2.1).2 hb.1
 have hL : leafR s = if (cutB s 58).2.2 = false ∨ (numE (cutB s 58).2.1).2 = 6 then .err 6 else
   if 48 ≤ bt s 0 ∧ bt s 0 ≤ 57 then constR (cutB s 58).1 (numE (cutB s 58).2.1).1 (numE (cutB s 58).2.1).2 else
   if nameOk (leafNm (cutB s 58).1) = false then .err 5 else
   if ¬ ((numE (cutB s 58).2.1).2 = 0 ∧ (numE (cutB s 58).2.1).1 ≤ 64) then .err 2 else
   .ok (.mk (leafOp (cutB s 58).1) (numE (cutB s 58).2.1).1 0 (leafNm (cutB s 58).1) true []) := rfl
 obtain ⟨c,h4,hbt⟩ := bt_some (s := s) (i := 0) (by cases s; exact absurd rfl h0; simp)
 have h4' : s.head? = some c := by rw [List.head?_eq_getElem?]; exact h4
 rw [hL,hbt]
 generalize hcl : (cutB s 58).1 = l at *
 generalize hcr : (cutB s 58).2.1 = r at *
 generalize hcf : (cutB s 58).2.2 = f at *
 cases f with
 | false => simp [IP_tt_leaf,i_tt_leaf,hc,hn,must_D,TR.out]
 | true =>
   by_cases h1 : (numE r).2 = 6
   · simp [IP_tt_leaf,i_tt_leaf,hc,hn,must_D,TR.out,h1]
   · by_cases hd : 48 ≤ (c.toNat : Int) ∧ (c.toNat : Int) ≤ 57
     · rw [if_neg (by simp [h1]),if_pos hd]
       cases hx : constR l (numE r).1 (numE r).2 with
       | ok t => rw [hx] at hk; simp [TR.out] at hk; simp [IP_tt_leaf,i_tt_leaf,hc,hn,must_D,TR.out,h1,hd.1,hd.2,h4,hk,T.av_eq]
       | err e => rw [hx] at hk; simp [TR.out] at hk; simp [IP_tt_leaf,i_tt_leaf,hc,hn,must_D,TR.out,h1,hd.1,hd.2,h4,hk]
     · rw [if_neg (by simp [h1]),if_neg hd]
       have hd' : (48 ≤ (c.toNat : Int) ∧ ¬ (c.toNat : Int) ≤ 57) ∨ ¬ 48 ≤ (c.toNat : Int) := by omega
       have hr := numE_code r
       rcases leaf_kind l with ⟨l',rfl⟩ | ⟨l',rfl⟩ | ⟨k1,k2,k3,k4⟩
       · have k1 : hasPre (63 :: l') [63] = true := by simp [hasPre]
         have k3 : leafOp (63 :: l') = 24 := rfl
         have k4 : leafNm (63 :: l') = l' := rfl
         have hm := fun (hp:List HObj) (lo:Nat) (q:Bool) => name_D (hp := hp) (lo := lo) q l' (by simp at hl1; omega)
         rw [k3,k4]
         cases hN : nameOk l' with
         | false =>
           rcases hd' with ⟨d1,d2⟩ | d1
           · simp [IP_tt_leaf,i_tt_leaf,hc,hn,must_D,hasPre_D,hm,TR.out,h1,h4,k1,d1,d2,hN]
           · simp [IP_tt_leaf,i_tt_leaf,hc,hn,must_D,hasPre_D,hm,TR.out,h1,h4,k1,d1,hN]
         | true =>
           by_cases h5 : (numE r).2 = 0
           · by_cases h6 : (numE r).1 ≤ 64
             · have e1 : IntKind.wrap .i64 (numE r).1 = (numE r).1 := wrap_small (by omega) (by omega)
               rcases hd' with ⟨d1,d2⟩ | d1
               · simp [IP_tt_leaf,i_tt_leaf,hc,hn,must_D,hasPre_D,hm,TR.out,h1,h4,k1,d1,d2,hN,h5,h6,e1,T.av,T.avs,ownB]
               · simp [IP_tt_leaf,i_tt_leaf,hc,hn,must_D,hasPre_D,hm,TR.out,h1,h4,k1,d1,hN,h5,h6,e1,T.av,T.avs,ownB]
             · rcases hd' with ⟨d1,d2⟩ | d1
               · simp [IP_tt_leaf,i_tt_leaf,hc,hn,must_D,hasPre_D,hm,TR.out,h1,h4,k1,d1,d2,hN,h5,h6]
               · simp [IP_tt_leaf,i_tt_leaf,hc,hn,must_D,hasPre_D,hm,TR.out,h1,h4,k1,d1,hN,h5,h6]
           · rcases hd' with ⟨d1,d2⟩ | d1
             · simp [IP_tt_leaf,i_tt_leaf,hc,hn,must_D,hasPre_D,hm,TR.out,h1,h4,k1,d1,d2,hN,h5]
             · simp [IP_tt_leaf,i_tt_leaf,hc,hn,must_D,hasPre_D,hm,TR.out,h1,h4,k1,d1,hN,h5]
       · have k1 : hasPre (35 :: l') [63] = false := by simp [hasPre]
         have k2 : hasPre (35 :: l') [35] = true := by simp [hasPre]
         have k3 : leafOp (35 :: l') = 25 := rfl
         have k4 : leafNm (35 :: l') = l' := rfl
         have hm := fun (hp:List HObj) (lo:Nat) (q:Bool) => name_D (hp := hp) (lo := lo) q l' (by simp at hl1; omega)
         rw [k3,k4]
         cases hN : nameOk l' with
         | false =>
           rcases hd' with ⟨d1,d2⟩ | d1
           · simp [IP_tt_leaf,i_tt_leaf,hc,hn,must_D,hasPre_D,hm,TR.out,h1,h4,k1,k2,d1,d2,hN]
           · simp [IP_tt_leaf,i_tt_leaf,hc,hn,must_D,hasPre_D,hm,TR.out,h1,h4,k1,k2,d1,hN]
         | true =>
           by_cases h5 : (numE r).2 = 0
           · by_cases h6 : (numE r).1 ≤ 64
             · have e1 : IntKind.wrap .i64 (numE r).1 = (numE r).1 := wrap_small (by omega) (by omega)
               rcases hd' with ⟨d1,d2⟩ | d1
               · simp [IP_tt_leaf,i_tt_leaf,hc,hn,must_D,hasPre_D,hm,TR.out,h1,h4,k1,k2,d1,d2,hN,h5,h6,e1,T.av,T.avs,ownB]
               · simp [IP_tt_leaf,i_tt_leaf,hc,hn,must_D,hasPre_D,hm,TR.out,h1,h4,k1,k2,d1,hN,h5,h6,e1,T.av,T.avs,ownB]
             · rcases hd' with ⟨d1,d2⟩ | d1
               · simp [IP_tt_leaf,i_tt_leaf,hc,hn,must_D,hasPre_D,hm,TR.out,h1,h4,k1,k2,d1,d2,hN,h5,h6]
               · simp [IP_tt_leaf,i_tt_leaf,hc,hn,must_D,hasPre_D,hm,TR.out,h1,h4,k1,k2,d1,hN,h5,h6]
           · rcases hd' with ⟨d1,d2⟩ | d1
             · simp [IP_tt_leaf,i_tt_leaf,hc,hn,must_D,hasPre_D,hm,TR.out,h1,h4,k1,k2,d1,d2,hN,h5]
             · simp [IP_tt_leaf,i_tt_leaf,hc,hn,must_D,hasPre_D,hm,TR.out,h1,h4,k1,k2,d1,hN,h5]
       · have hm := fun (hp:List HObj) (lo:Nat) (q:Bool) => name_D (hp := hp) (lo := lo) q l (by omega)
         rw [k3,k4]
         cases hN : nameOk l with
         | false =>
           rcases hd' with ⟨d1,d2⟩ | d1
           · simp [IP_tt_leaf,i_tt_leaf,hc,hn,must_D,hasPre_D,hm,TR.out,h1,h4,k1,k2,d1,d2,hN]
           · simp [IP_tt_leaf,i_tt_leaf,hc,hn,must_D,hasPre_D,hm,TR.out,h1,h4,k1,k2,d1,hN]
         | true =>
           by_cases h5 : (numE r).2 = 0
           · by_cases h6 : (numE r).1 ≤ 64
             · have e1 : IntKind.wrap .i64 (numE r).1 = (numE r).1 := wrap_small (by omega) (by omega)
               rcases hd' with ⟨d1,d2⟩ | d1
               · simp [IP_tt_leaf,i_tt_leaf,hc,hn,must_D,hasPre_D,hm,TR.out,h1,h4,k1,k2,d1,d2,hN,h5,h6,e1,T.av,T.avs,ownB]
               · simp [IP_tt_leaf,i_tt_leaf,hc,hn,must_D,hasPre_D,hm,TR.out,h1,h4,k1,k2,d1,hN,h5,h6,e1,T.av,T.avs,ownB]
             · rcases hd' with ⟨d1,d2⟩ | d1
               · simp [IP_tt_leaf,i_tt_leaf,hc,hn,must_D,hasPre_D,hm,TR.out,h1,h4,k1,k2,d1,d2,hN,h5,h6]
               · simp [IP_tt_leaf,i_tt_leaf,hc,hn,must_D,hasPre_D,hm,TR.out,h1,h4,k1,k2,d1,hN,h5,h6]
           · rcases hd' with ⟨d1,d2⟩ | d1
             · simp [IP_tt_leaf,i_tt_leaf,hc,hn,must_D,hasPre_D,hm,TR.out,h1,h4,k1,k2,d1,d2,hN,h5]
             · simp [IP_tt_leaf,i_tt_leaf,hc,hn,must_D,hasPre_D,hm,TR.out,h1,h4,k1,k2,d1,hN,h5]
end
end Go.Proofs.YtkofimhnehkdoaaGreatDoor.Rf
end
section
namespace Go.Proofs.YtkofimhnehkdoaaGreatDoor.Rf
def numsN (op:Int) : Nat := if op = 21 then 2 else if op = 22 ∨ op = 23 then 1 else 0
def numR (s:List UInt8) (most:Int) : Int × Int := if (numE s).2 = 6 then (0,6) else if (numE s).2 ≠ 0 ∨ most < (numE s).1 then (0,2) else ((numE s).1,0)
def S.z : S := .mk [] true []
def numsR (op:Int) (l:List S) : Int × Int × Int :=
 if op = 21 then
   (if (numR (l.getD 1 S.z).atom 18446744073709551615).2 ≠ 0 then (0,0,(numR (l.getD 1 S.z).atom 18446744073709551615).2) else
    if (numR (l.getD 2 S.z).atom 64).2 ≠ 0 then (0,0,(numR (l.getD 2 S.z).atom 64).2) else
    ((numR (l.getD 1 S.z).atom 18446744073709551615).1,(numR (l.getD 2 S.z).atom 64).1,0))
 else if op = 22 ∨ op = 23 then
   (if (numR (l.getD 1 S.z).atom 64).2 ≠ 0 then (0,0,(numR (l.getD 1 S.z).atom 64).2) else (0,(numR (l.getD 1 S.z).atom 64).1,0))
 else (0,0,0)
inductive TRs where
 | ok (t:List T) | err (e:Int)
def TRs.cons (r:TR) (s:TRs) : TRs := match r with
 | .err e => .err e
 | .ok t => match s with
   | .err e => .err e
   | .ok ts => .ok (t :: ts)
def nodeR (op v w:Int) (s:TRs) : TR := match s with
 | .err e => .err e
 | .ok ts => if (widE op w v (ts.map T.width)).2 ≠ 0 then .err (widE op w v (ts.map T.width)).2 else .ok (.mk op (widE op w v (ts.map T.width)).1 v [] ts.isEmpty ts)
def headR (l:List S) : Bool := decide (l ≠ []) && ((ofE (l.getD 0 S.z).atom).2 && (!decide (arE (ofE (l.getD 0 S.z).atom).1 = 0) && decide ((l.length : Int) = 1 + numsN (ofE (l.getD 0 S.z).atom).1 + arE (ofE (l.getD 0 S.z).atom).1)))
mutual
def readS : S → TR
 | .mk a o l => if a ≠ [] then leafR a else
   if headR l = false then .err 6 else
   if (numsR (ofE (l.getD 0 S.z).atom).1 l).2.2 ≠ 0 then .err (numsR (ofE (l.getD 0 S.z).atom).1 l).2.2 else
   nodeR (ofE (l.getD 0 S.z).atom).1 (numsR (ofE (l.getD 0 S.z).atom).1 l).1 (numsR (ofE (l.getD 0 S.z).atom).1 l).2.1 (readsS l (1 + numsN (ofE (l.getD 0 S.z).atom).1))
def readsS : List S → Nat → TRs
 | [],_ => .ok []
 | x :: r,k + 1 => readsS r k
 | x :: r,0 => TRs.cons (readS x) (readsS r 0)
end
theorem readsS_drop : ∀ (l:List S) (k:Nat),readsS l k = readsS (l.drop k) 0
 | [],k => by simp [readsS]
 | x :: r,0 => by simp
 | x :: r,k + 1 => by simp [readsS,readsS_drop r k]
theorem numR_bd (s:List UInt8) (m:Int) (hm:0 ≤ m) : 0 ≤ (numR s m).1 ∧ (numR s m).1 ≤ m := by
 have := numE_bd s
 unfold numR; split
 · simp; omega
 · split
   · simp; omega
   · rename_i h; simp only; omega
end Go.Proofs.YtkofimhnehkdoaaGreatDoor.Rf
end
section
namespace Go.Proofs.YtkofimhnehkdoaaGreatDoor.Rf
section
variable {hp:List HObj} {lo:Nat} (q:Bool)
def TR1 (hp:List HObj) (k:IntKind) (r:Int × Int) : COut := if r.2 = 0 then .ret (.int k r.1) hp else .pan (.iface 78 (.agg [.int .i64 r.2])) hp
theorem ttNumerals_D (op:Int) : callD G0 IP n_tt_numerals [.int .i64 op] hp lo q = some (.ret (.int .i64 (numsN op)) hp) := by
 rw [callD_eq]
 by_cases h1 : op = 21
 · subst h1; simp [IP_tt_numerals,i_tt_numerals,numsN]
 · by_cases h2 : op = 22
   · subst h2; simp [IP_tt_numerals,i_tt_numerals,numsN]
   · by_cases h3 : op = 23
     · subst h3; simp [IP_tt_numerals,i_tt_numerals,numsN]
     · simp [IP_tt_numerals,i_tt_numerals,numsN,h1,h2,h3]
theorem plain7_D (op:Int) : callD G0 IP n_sr07_plain [.int .i64 op] hp lo q = some (.ret (.int .i64 (numsN op)) hp) := by
 rw [callD_eq]
 by_cases h1 : op = 21
 · subst h1; simp [IP_sr07_plain,i_sr07_plain,numsN]
 · by_cases h2 : op = 22
   · subst h2; simp [IP_sr07_plain,i_sr07_plain,numsN]
   · by_cases h3 : op = 23
     · subst h3; simp [IP_sr07_plain,i_sr07_plain,numsN]
     · simp [IP_sr07_plain,i_sr07_plain,numsN,h1,h2,h3]
theorem number_D (a:List UInt8) (o:Own) (l:List AV) (hs:a.length ≤ 140737488355328) (m:Int) : callD G0 IP n_tt_number [.agg [.str a,.list l o],.int .u64 m] hp lo false = some (TR1 hp .u64 (numR a m)) := by
 rw [callD_eq]
 have hn := fun (hp:List HObj) (lo:Nat) (q:Bool) => ttNumeral_D (hp := hp) (lo := lo) q a hs
 by_cases h0 : a = []
 · subst h0
   have e : numR [] m = (0,6) := by rfl
   simp [IP_tt_number,i_tt_number,must_D,e,TR1]
 · by_cases h1 : (numE a).2 = 6
   · have e : numR a m = (0,6) := by simp [numR,h1]
     simp [IP_tt_number,i_tt_number,must_D,hn,h0,h1,e,TR1]
   · by_cases h2 : (numE a).2 = 0
     · by_cases h3 : (numE a).1 ≤ m
       · have e : numR a m = ((numE a).1,0) := by simp [numR,h2]; omega
         simp [IP_tt_number,i_tt_number,must_D,hn,h0,h2,h3,e,TR1]
       · have e : numR a m = (0,2) := by simp [numR,h2]; omega
         simp [IP_tt_number,i_tt_number,must_D,hn,h0,h2,h3,e,TR1]
     · have e : numR a m = (0,2) := by simp [numR,h1,h2]
       simp [IP_tt_number,i_tt_number,must_D,hn,h0,h1,h2,e,TR1]
end
end Go.Proofs.YtkofimhnehkdoaaGreatDoor.Rf
end
section
namespace Go.Proofs.YtkofimhnehkdoaaGreatDoor.Rf
theorem numR_max (s:List UInt8) : numR s 18446744073709551615 = if (numE s).2 ≠ 0 then (0,(numE s).2) else ((numE s).1,0) := by
 have := numE_bd s
 rcases numE_code s with h | h | h
 · have h2 : ¬ 18446744073709551615 < (numE s).1 := by omega
   simp [numR,h]; omega
 · simp [numR,h]
 · simp [numR,h]
theorem numR_64 (s:List UInt8) : numR s 64 = if (numE s).2 ≠ 0 then (0,(numE s).2) else if 64 < (numE s).1 then (0,2) else ((numE s).1,0) := by
 rcases numE_code s with h | h | h <;> simp [numR,h]
section
variable {hp:List HObj} {lo:Nat} (q:Bool)
abbrev nfr (op:Int) (l:List AV) (o:Own) (v w:Int) (i:Int) : Fr := [(0,.int .i64 op),(1,.list l o),(7,.int .u64 v),(8,.int .i64 w),(9,.int .i64 i)]
theorem num7_end (op:Int) (l:List AV) (o:Own) (v w i:Int) (h:¬ i ≤ (numsN op:Int)) : loopD G0 IP lo l_sr07_numerals_0 ⟨nfr op l o v w i,hp⟩ = some (.exit 0,⟨nfr op l o v w i ++ [(15,.bool false)],hp⟩) := by
 rw [loopD_eq,loopBody]
 simp [l_sr07_numerals_0,plain7_D,h]
theorem num7_err (op:Int) (l:List AV) (o:Own) (v w:Int) (i:Nat) (x:S) (hx:l[i]? = some x.av) (hs:x.atom.length ≤ 9223372036854775807) (h:(i:Int) ≤ (numsN op:Int)) (he:(numE x.atom).2 ≠ 0) :
   loopD G0 IP lo l_sr07_numerals_0 ⟨nfr op l o v w i,hp⟩ = some (.ret,⟨[(4,.int .u64 0),(5,.int .i64 0),(6,.int .i64 (numE x.atom).2)],hp⟩) := by
 rw [loopD_eq,loopBody]
 have hn := fun (hp:List HObj) (lo:Nat) (q:Bool) => number7_D (hp := hp) (lo := lo) q x.atom hs
 obtain ⟨hil,hxe⟩ := List.getElem?_eq_some_iff.1 hx
 rw [S.av_eq] at hxe
 simp [l_sr07_numerals_0,plain7_D,h,hil,hxe,hn,he]
theorem num7_val (l:List AV) (o:Own) (v w:Int) (x:S) (hx:l[1]? = some x.av) (hs:x.atom.length ≤ 9223372036854775807) (he:(numE x.atom).2 = 0) :
   loopD G0 IP lo l_sr07_numerals_0 ⟨nfr 21 l o v w 1,hp⟩ = loopD G0 IP lo l_sr07_numerals_0 ⟨nfr 21 l o (numE x.atom).1 w 2,hp⟩ := by
 conv => lhs; rw [loopD_eq,loopBody]
 have hn := fun (hp:List HObj) (lo:Nat) (q:Bool) => number7_D (hp := hp) (lo := lo) q x.atom hs
 obtain ⟨hil,hxe⟩ := List.getElem?_eq_some_iff.1 hx
 rw [S.av_eq] at hxe
 have h : (1:Int) ≤ (numsN 21:Int) := by decide
 have hw : IntKind.wrap .i64 (1 + 1) = 2 := rfl
 have hil2 : (1:Int) < (l.length : Int) := by omega
 simp [l_sr07_numerals_0,plain7_D,h,hil,hil2,hxe,hn,he,hw]
 rfl
theorem num7_big (op:Int) (l:List AV) (o:Own) (v w:Int) (i:Nat) (x:S) (hx:l[i]? = some x.av) (hs:x.atom.length ≤ 9223372036854775807) (h:(i:Int) ≤ (numsN op:Int)) (he:(numE x.atom).2 = 0) (hi:¬ (i = 1 ∧ op = 21)) (hb:64 < (numE x.atom).1) :
   loopD G0 IP lo l_sr07_numerals_0 ⟨nfr op l o v w i,hp⟩ = some (.ret,⟨[(4,.int .u64 0),(5,.int .i64 0),(6,.int .i64 2)],hp⟩) := by
 rw [loopD_eq,loopBody]
 have hn := fun (hp:List HObj) (lo:Nat) (q:Bool) => number7_D (hp := hp) (lo := lo) q x.atom hs
 obtain ⟨hil,hxe⟩ := List.getElem?_eq_some_iff.1 hx
 rw [S.av_eq] at hxe
 by_cases h0 : i = 1
 · have h2 : ¬ op = 21 := fun e => hi ⟨by omega,e⟩
   subst h0
   have hil2 : (1:Int) < (l.length : Int) := by omega
   simp only [Int.natCast_one] at h ⊢
   simp [l_sr07_numerals_0,plain7_D,h,hil,hxe,hil2,hn,he,h2,hb]
 · have h1 : ¬ (i:Int) = 1 := by omega
   simp [l_sr07_numerals_0,plain7_D,h,hil,hxe,hn,he,h1,hb]
theorem num7_w (op:Int) (l:List AV) (o:Own) (v w:Int) (i:Nat) (hi2:i ≤ 2) (x:S) (hx:l[i]? = some x.av) (hs:x.atom.length ≤ 9223372036854775807) (h:(i:Int) ≤ (numsN op:Int)) (he:(numE x.atom).2 = 0) (hi:¬ (i = 1 ∧ op = 21)) (hb:¬ 64 < (numE x.atom).1) :
   loopD G0 IP lo l_sr07_numerals_0 ⟨nfr op l o v w i,hp⟩ = loopD G0 IP lo l_sr07_numerals_0 ⟨nfr op l o v (numE x.atom).1 ((i:Int) + 1),hp⟩ := by
 conv => lhs; rw [loopD_eq,loopBody]
 have hn := fun (hp:List HObj) (lo:Nat) (q:Bool) => number7_D (hp := hp) (lo := lo) q x.atom hs
 have hbd := numE_bd x.atom
 have e1 : IntKind.wrap .i64 (numE x.atom).1 = (numE x.atom).1 := wrap_small (by omega) (by omega)
 have hw : IntKind.wrap .i64 ((i:Int) + 1) = (i:Int) + 1 := wrap_small (by omega) (by omega)
 obtain ⟨hil,hxe⟩ := List.getElem?_eq_some_iff.1 hx
 rw [S.av_eq] at hxe
 by_cases h0 : i = 1
 · have h2 : ¬ op = 21 := fun e => hi ⟨by omega,e⟩
   subst h0
   have hil2 : (1:Int) < (l.length : Int) := by omega
   simp only [Int.natCast_one] at h hw ⊢
   simp [l_sr07_numerals_0,plain7_D,h,hil,hxe,hil2,hn,he,h2,hb,e1,hw]
   rfl
 · have h1 : ¬ (i:Int) = 1 := by omega
   simp [l_sr07_numerals_0,plain7_D,h,hil,hxe,hn,he,h1,hb,e1,hw]
set_option maxHeartbeats 1000000 in
theorem numerals7_D (op:Int) (l:List S) (o:Own) (hl:numsN op < l.length) (hs:∀ x,x ∈ l → x.atom.length ≤ 9223372036854775807) :
   callD G0 IP n_sr07_numerals [.int .i64 op,.list (S.avs l) o] hp lo q = some (.ret (.tup [.int .u64 (numsR op l).1,.int .i64 (numsR op l).2.1,.int .i64 (numsR op l).2.2]) hp) := by
 rw [callD_eq]
 by_cases h21 : op = 21
 · subst h21
   have hl : 2 < l.length := hl
   have g1 : (S.avs l)[1]? = some l[1].av := S.avs_get (by omega)
   have g2 : (S.avs l)[2]? = some l[2].av := S.avs_get (by omega)
   have d1 : l.getD 1 S.z = l[1] := by simp [List.getD,show 1 < l.length by omega]
   have d2 : l.getD 2 S.z = l[2] := by simp [List.getD,hl]
   have m1 := hs l[1] (List.getElem_mem _)
   have m2 := hs l[2] (List.getElem_mem _)
   have n1 : ((1:Nat) : Int) ≤ (numsN 21:Int) := by decide
   have n2 : ((2:Nat) : Int) ≤ (numsN 21:Int) := by decide
   simp only [numsR,if_true,d1,d2,numR_max,numR_64]
   by_cases e1 : (numE l[1].atom).2 = 0
   · have k1 := num7_val (hp := hp) (lo := hp.length) (S.avs l) o 0 0 l[1] g1 m1 e1
     by_cases e2 : (numE l[2].atom).2 = 0
     · by_cases b : (64:Int) < (numE l[2].atom).1
       · have k2 : loopD G0 IP hp.length l_sr07_numerals_0 ⟨nfr 21 (S.avs l) o (numE l[1].atom).1 0 2,hp⟩ = _ := num7_big (hp := hp) (lo := hp.length) 21 (S.avs l) o (numE l[1].atom).1 0 2 l[2] g2 m2 n2 e2 (by omega) b
         simp [IP_sr07_numerals,i_sr07_numerals,k1,k2,e1,e2,b]
       · have k2 : loopD G0 IP hp.length l_sr07_numerals_0 ⟨nfr 21 (S.avs l) o (numE l[1].atom).1 0 2,hp⟩ = loopD G0 IP hp.length l_sr07_numerals_0 ⟨nfr 21 (S.avs l) o (numE l[1].atom).1 (numE l[2].atom).1 3,hp⟩ := num7_w (hp := hp) (lo := hp.length) 21 (S.avs l) o (numE l[1].atom).1 0 2 (by omega) l[2] g2 m2 n2 e2 (by omega) b
         have k3 := num7_end (hp := hp) (lo := hp.length) 21 (S.avs l) o (numE l[1].atom).1 (numE l[2].atom).1 3 (by decide)
         simp [IP_sr07_numerals,i_sr07_numerals,k1,k2,k3,e1,e2,b]
     · have k2 : loopD G0 IP hp.length l_sr07_numerals_0 ⟨nfr 21 (S.avs l) o (numE l[1].atom).1 0 2,hp⟩ = _ := num7_err (hp := hp) (lo := hp.length) 21 (S.avs l) o (numE l[1].atom).1 0 2 l[2] g2 m2 n2 e2
       simp [IP_sr07_numerals,i_sr07_numerals,k1,k2,e1,e2]
   · have k1 : loopD G0 IP hp.length l_sr07_numerals_0 ⟨nfr 21 (S.avs l) o 0 0 1,hp⟩ = _ := num7_err (hp := hp) (lo := hp.length) 21 (S.avs l) o 0 0 1 l[1] g1 m1 n1 e1
     simp [IP_sr07_numerals,i_sr07_numerals,k1,e1]
 · by_cases h2 : op = 22 ∨ op = 23
   · have hN : numsN op = 1 := by simp [numsN,h21,h2]
     rw [hN] at hl
     have g1 : (S.avs l)[1]? = some l[1].av := S.avs_get hl
     have d1 : l.getD 1 S.z = l[1] := by simp [List.getD,hl]
     have m1 := hs l[1] (List.getElem_mem _)
     have n1 : ((1:Nat) : Int) ≤ (numsN op:Int) := by rw [hN]; decide
     simp only [numsR,if_neg h21,if_pos h2,d1,numR_64]
     by_cases e1 : (numE l[1].atom).2 = 0
     · by_cases b : (64:Int) < (numE l[1].atom).1
       · have k1 : loopD G0 IP hp.length l_sr07_numerals_0 ⟨nfr op (S.avs l) o 0 0 1,hp⟩ = _ := num7_big (hp := hp) (lo := hp.length) op (S.avs l) o 0 0 1 l[1] g1 m1 n1 e1 (by omega) b
         simp [IP_sr07_numerals,i_sr07_numerals,k1,e1,b]
       · have k1 : loopD G0 IP hp.length l_sr07_numerals_0 ⟨nfr op (S.avs l) o 0 0 1,hp⟩ = loopD G0 IP hp.length l_sr07_numerals_0 ⟨nfr op (S.avs l) o 0 (numE l[1].atom).1 2,hp⟩ := num7_w (hp := hp) (lo := hp.length) op (S.avs l) o 0 0 1 (by omega) l[1] g1 m1 n1 e1 (by omega) b
         have k2 := num7_end (hp := hp) (lo := hp.length) op (S.avs l) o 0 (numE l[1].atom).1 2 (by rw [hN]; decide)
         simp [IP_sr07_numerals,i_sr07_numerals,k1,k2,e1,b]
     · have k1 : loopD G0 IP hp.length l_sr07_numerals_0 ⟨nfr op (S.avs l) o 0 0 1,hp⟩ = _ := num7_err (hp := hp) (lo := hp.length) op (S.avs l) o 0 0 1 l[1] g1 m1 n1 e1
       simp [IP_sr07_numerals,i_sr07_numerals,k1,e1]
   · have hN : numsN op = 0 := by simp [numsN,h21,h2]
     have k1 := num7_end (hp := hp) (lo := hp.length) op (S.avs l) o 0 0 1 (by rw [hN]; decide)
     simp only [numsR,if_neg h21,if_neg h2]
     simp [IP_sr07_numerals,i_sr07_numerals,k1]
end
end Go.Proofs.YtkofimhnehkdoaaGreatDoor.Rf
end
section
namespace Go.Proofs.YtkofimhnehkdoaaGreatDoor.Rf
section
variable {hp:List HObj} {lo:Nat} (q:Bool)
theorem of4_D (s:List UInt8) : callD G0 IP n_sr04_Of [.str s] hp lo q = some (.ret (.tup [.int .i64 (ofE s).1,.bool (ofE s).2]) hp) := by
 rw [callD_eq]
 have hname : ∀ i : Nat,i < 26 → nameE ((i:Int) + 1) = nm (i + 1) := fun i hi => by
   have : opOk ((i:Int) + 1) = true := by simp [opOk]; omega
   unfold nameE; rw [if_pos this]; congr 1
 have hloop := loop_some (G := G0) (IP := IP) (lo := hp.length) (b := l_sr04_Of_0)
   (fun i => ⟨[(0,.str s),(4,.int .i64 ((i:Int) + 1))],hp⟩) 26 (fun i => decide (nm (i + 1) = s)) (fun i => (.ret,⟨[(2,.int .i64 ((i:Int) + 1)),(3,.bool true)],hp⟩))
   (.exit 0,⟨[(0,.str s),(4,.int .i64 27),(6,.bool false)],hp⟩)
   (fun i hi hp1 => by
     have e1 : (i:Int) + 1 ≤ 26 := by omega
     have e5 : IntKind.wrap .i64 ((i:Int) + 1 + 1) = (i:Int) + 1 + 1 := wrap_small (by omega) (by omega)
     have e6 := hname i hi
     simp only [decide_eq_false_iff_not] at hp1
     simp [l_sr04_Of_0,name4_D,e1,e5,e6,hp1])
   (fun i hi hp1 => by
     have e1 : (i:Int) + 1 ≤ 26 := by omega
     have e6 := hname i hi
     simp only [decide_eq_true_eq] at hp1
     simp [l_sr04_Of_0,name4_D,e1,e6,hp1])
   (fun i s => by simp) (by simp [l_sr04_Of_0]) (by simp)
 simp only [Int.natCast_zero,Int.zero_add] at hloop
 rcases hloop with ⟨m,hm,hp1,hp2,hl⟩ | ⟨hno,hl⟩
 · have hf : (List.range 26).find? (fun i => decide (nm (i + 1) = s)) = some m := by
     rw [List.find?_range_eq_some]
     exact ⟨hp1,by simpa using hm,fun j hj => by simpa using hp2 j hj⟩
   have he : ofE s = (((m + 1 : Nat) : Int),true) := by simp [ofE,hf]
   simp [IP_sr04_Of,i_sr04_Of,hl,he]
 · have hf : (List.range 26).find? (fun i => decide (nm (i + 1) = s)) = none := by
     rw [List.find?_eq_none]
     intro i hi; simp at hi; have := hno i hi; simpa using this
   have he : ofE s = (0,false) := by simp [ofE,hf]
   simp [IP_sr04_Of,i_sr04_Of,hl,he]
end
theorem ofE_ok {s:List UInt8} (h:(ofE s).2 = true) : opOk (ofE s).1 = true := by
 unfold ofE at h ⊢
 split at h
 · rename_i i hi
   have := List.mem_of_find?_eq_some hi
   simp at this
   simp [opOk]; omega
 · simp at h
theorem leafB_ar {op:Int} (h:opOk op = true) : leafB op = decide (arE op = 0) := by
 rcases opOk_cases h with rfl | rfl | rfl | rfl | rfl | rfl | rfl | rfl | rfl | rfl | rfl | rfl | rfl | rfl | rfl | rfl | rfl | rfl | rfl | rfl | rfl | rfl | rfl | rfl | rfl | rfl
 all_goals rfl
theorem z_av : T.z.av = .agg [.int .i64 0,.int .i64 0,.int .u64 0,.str [],.list [] .nil] := rfl
theorem arE_bd (op:Int) : -1 ≤ arE op ∧ arE op ≤ 3 := by
 unfold arE; split
 · omega
 · split
   · omega
   · split
     · omega
     · split <;> omega
theorem numsN_bd (op:Int) : numsN op ≤ 2 := by
 unfold numsN; split
 · omega
 · split <;> omega
mutual
def S.sm : S → Prop
 | .mk a _ l => a.length ≤ 140737488355328 ∧ S.sms l
def S.sms : List S → Prop
 | [] => True
 | t :: r => t.sm ∧ S.sms r
end
theorem S.sms_iff : ∀ l : List S,S.sms l ↔ ∀ t,t ∈ l → t.sm
 | [] => by simp [S.sms]
 | t :: r => by simp [S.sms,S.sms_iff r]
theorem S.sm_eq (t:S) : t.sm ↔ t.atom.length ≤ 140737488355328 ∧ ∀ u,u ∈ t.list → u.sm := by
 cases t; simp only [S.sm,S.atom,S.list,S.sms_iff]
theorem constR_ne {l:List UInt8} {w e c:Int} (h:constR l w e = .err c) : c ≠ 0 := by
 unfold constR at h
 split at h
 · cases h; simp
 · split at h
   · cases h; simp
   · split at h
     · rename_i k; cases h; exact k
     · cases h
theorem leafR_ne {s:List UInt8} {c:Int} (h:leafR s = .err c) : c ≠ 0 := by
 unfold leafR at h
 split at h
 · cases h; simp
 · split at h
   · exact constR_ne h
   · split at h
     · cases h; simp
     · split at h
       · cases h; simp
       · cases h
mutual
theorem readS_ne : ∀ (e:S) (c:Int),readS e = .err c → c ≠ 0
 | .mk a o l,c,h => by
   rw [readS] at h
   split at h
   · exact leafR_ne h
   · split at h
     · cases h; simp
     · split at h
       · rename_i k; cases h; exact k
       · cases hs : readsS l (1 + numsN (ofE (l.getD 0 S.z).atom).1) with
         | err e => rw [hs] at h; simp only [nodeR] at h; cases h; exact readsS_ne l _ _ hs
         | ok ts =>
           rw [hs] at h; simp only [nodeR] at h
           split at h
           · rename_i k; cases h; exact k
           · cases h
theorem readsS_ne : ∀ (l:List S) (k:Nat) (c:Int),readsS l k = .err c → c ≠ 0
 | [],k,c,h => by simp [readsS] at h
 | x :: r,k + 1,c,h => by rw [readsS] at h; exact readsS_ne r k c h
 | x :: r,0,c,h => by
   rw [readsS] at h
   cases hx : readS x with
   | err e => rw [hx] at h; simp only [TRs.cons] at h; cases h; exact readS_ne x _ hx
   | ok t =>
     cases hr : readsS r 0 with
     | err e => rw [hx,hr] at h; simp only [TRs.cons] at h; cases h; exact readsS_ne r 0 _ hr
     | ok us => rw [hx,hr] at h; simp only [TRs.cons] at h; cases h
end
def ownT (acc:List T) : Own := if acc.isEmpty then .nil else .own 5 0
@[simp] theorem ownT_cp (acc:List T) : (ownT acc).cp = ownB acc.isEmpty := by cases acc <;> rfl
@[simp] theorem ownT_app (acc:List T) (x:T) : ownT (acc ++ [x]) = .own 5 0 := by cases acc <;> rfl
theorem ownT_ok (acc:List T) : ownT acc = .nil ∨ ownT acc = .own 5 0 := by cases acc <;> simp [ownT]
theorem T.avs_app (a b:List T) : T.avs (a ++ b) = T.avs a ++ T.avs b := by simp [T.avs_eq]
def wds (acc:List T) : List AV := (acc.map T.width).map (AV.int .i64)
@[simp] theorem wds_len (acc:List T) : (wds acc).length = acc.length := by simp [wds]
@[simp] theorem wds_nil : wds [] = [] := rfl
theorem wds_app (acc:List T) (t:T) : wds (acc ++ [t]) = wds acc ++ [.int .i64 t.width] := by simp [wds]
abbrev boxZ : AV := .box [.int .i64 0,.int .i64 0,.int .u64 0,.str [],.list [] .nil]
abbrev fr7 (e:S) (op v w:Int) (acc:List T) (i:Int) : Fr := [(1,.box [.str e.atom,.list (S.avs e.list) (ownB e.o)]),(2,boxZ),(4,.int .i64 op),(6,.int .u64 v),(7,.int .i64 w),(9,.box [.int .i64 op,.int .i64 0,.int .u64 v,.str [],.list (T.avs acc) (ownT acc)]),(10,.list (wds acc) (.own 1 0)),(11,.int .i64 i)]
@[simp] theorem T.okSize_avs (l:List T) : okSize 5 (T.avs l) = true := by
 cases l with
 | nil => rfl
 | cons t r => simp [T.avs,T.av_eq]
@[simp] theorem okSize_wds (l:List T) : okSize 1 (wds l) = true := by
 cases l with
 | nil => rfl
 | cons t r => simp [wds]
def out7 (e:S) (op v w:Int) (hp:List HObj) (acc:List T) : TRs → Ex × St
 | .err c => (.ret,⟨[(2,boxZ),(3,.int .i64 c)],hp⟩)
 | .ok ts => (.exit 0,⟨fr7 e op v w (acc ++ ts) e.list.length ++ [(80,.bool false)],hp⟩)
theorem out7_cons (e:S) (op v w:Int) (hp:List HObj) (acc:List T) (t:T) (s:TRs) : out7 e op v w hp acc (TRs.cons (.ok t) s) = out7 e op v w hp (acc ++ [t]) s := by
 cases s <;> simp [out7,TRs.cons]
section
variable {hp:List HObj} {lo:Nat} (q:Bool)
set_option maxHeartbeats 1000000 in
theorem read7_L (e:S) (he:e.list.length ≤ 10) (op v w:Int) : ∀ (r p:List S) (acc:List T),e.list = p ++ r → acc.length ≤ p.length →
   (∀ x,x ∈ r → ∀ (hp:List HObj) (lo:Nat) (q:Bool),callD G0 IP n_sr07_Read [x.av] hp lo q = some ((readS x).tup hp)) →
   loopD G0 IP lo l_sr07_Read_0 ⟨fr7 e op v w acc p.length,hp⟩ =
     some (out7 e op v w hp acc (readsS r 0))
 | [],p,acc,h,ha,_ => by
   rw [loopD_eq,loopBody]
   simp at h
   simp [l_sr07_Read_0,readsS,h,out7]
 | x :: r,p,acc,h,ha,ih => by
   rw [loopD_eq,loopBody]
   have hlen : e.list.length = p.length + (r.length + 1) := by rw [h]; simp
   have h1 : (p.length : Int) < (e.list.length : Int) := by omega
   have hl : p.length < e.list.length := by omega
   have h2 : e.list[p.length] = x := by simp [h]
   have hw : IntKind.wrap .i64 ((p.length : Int) + 1) = (p.length : Int) + 1 := wrap_small (by omega) (by omega)
   have e1 := ih x (by simp) hp lo false
   have ne := readS_ne x
   rw [readsS]
   cases hx : readS x with
   | err c =>
     have hc := ne c hx
     rw [hx] at e1
     simp only [TR.tup,TR.t,TR.e,z_av] at e1
     rw [S.av_eq] at e1
     simp [l_sr07_Read_0,hl,h1,h2,S.av_eq x,e1,hc,TRs.cons,out7]
   | ok t =>
     rw [hx] at e1
     simp only [TR.tup,TR.t,TR.e] at e1
     rw [S.av_eq,T.av_eq] at e1
     have e2 := read7_L e he op v w r (p ++ [x]) (acc ++ [t]) (by rw [h]; simp) (by simp; omega) (fun y hy => ih y (by simp [hy]))
     simp only [List.length_append,List.length_cons,List.length_nil,Nat.zero_add,Int.natCast_add,Int.natCast_one] at e2
     have hb1 : (acc.length + 1) * 64 ≤ 140737488355328 := by omega
     have hb2 : acc.length + 1 ≤ 9223372036854775807 := by omega
     have hb3 : (acc.length + 1) * 8 ≤ 140737488355328 := by omega
     rw [fr7,wds_app,T.avs_app,ownT_app,show T.avs [t] = [.agg [.int .i64 t.op,.int .i64 t.width,.int .u64 t.val,.str t.name,.list (T.avs t.args) (ownB t.o)]] by simp [T.avs,T.av_eq]] at e2
     rw [out7_cons]
     simp [l_sr07_Read_0,hl,h1,h2,S.av_eq x,e1,hb1,hb2,hb3,ownT_ok,hw]
     exact e2
end
end Go.Proofs.YtkofimhnehkdoaaGreatDoor.Rf
end
section
namespace Go.Proofs.YtkofimhnehkdoaaGreatDoor.Rf
def w7 (s:List UInt8) : Int × Int := if (numE s).2 ≠ 0 then (0,(numE s).2) else if 64 < (numE s).1 then (0,2) else ((numE s).1,0)
def colL : List UInt8 → Int → Int → Option Int
 | [],_,a => some a
 | c :: r,i,a => if c = 58 then (if 0 ≤ a then none else colL r (i + 1) i) else colL r (i + 1) a
theorem colL_pos : ∀ (r:List UInt8) (i a:Int),0 ≤ a → colL r i a = if 58 ∈ r then none else some a
 | [],i,a,h => rfl
 | c :: r,i,a,h => by
   rw [colL,colL_pos r (i + 1) a h]
   by_cases hc : c = 58
   · simp [hc,h]
   · simp [hc,show ¬ 58 = c from fun e => hc e.symm]
section
variable {hp:List HObj} {lo:Nat} (q:Bool)
theorem width7_D (s:List UInt8) (hs:s.length ≤ 9223372036854775807) : callD G0 IP n_sr07_width [.str s] hp lo q = some (.ret (.tup [.int .i64 (w7 s).1,.int .i64 (w7 s).2]) hp) := by
 rw [callD_eq]
 have hn := fun (hp:List HObj) (lo:Nat) (q:Bool) => number7_D (hp := hp) (lo := lo) q s hs
 have hb := numE_bd s
 by_cases h1 : (numE s).2 = 0
 · by_cases h2 : 64 < (numE s).1
   · simp [IP_sr07_width,i_sr07_width,hn,h1,h2,w7]
   · have e1 : IntKind.wrap .i64 (numE s).1 = (numE s).1 := wrap_small (by omega) (by omega)
     simp [IP_sr07_width,i_sr07_width,hn,h1,h2,w7,e1]
 · simp [IP_sr07_width,i_sr07_width,hn,h1,w7]
theorem digit7_D (s:List UInt8) (h0:s ≠ []) : callD G0 IP n_sr07_digit [.str s] hp lo q = some (.ret (.bool (decide (48 ≤ bt s 0) && decide (bt s 0 ≤ 57))) hp) := by
 rw [callD_eq]
 rcases s with _ | ⟨c,r⟩
 · exact absurd rfl h0
 · have hb : bt (c :: r) 0 = (c.toNat : Int) := rfl
   have hl : (0:Int) < (r.length : Int) + 1 := by omega
   rw [hb]
   by_cases h1 : 48 ≤ (c.toNat : Int)
   · simp [IP_sr07_digit,i_sr07_digit,hl,h1]
   · simp [IP_sr07_digit,i_sr07_digit,hl,h1]
theorem colon_L (s:List UInt8) (hs:s.length ≤ 9223372036854775807) (hp:List HObj) (lo:Nat) : ∀ (r p:List UInt8) (a:Int),s = p ++ r →
   loopD G0 IP lo l_sr07_colon_0 ⟨[(0,.str s),(3,.int .i64 a),(4,.int .i64 p.length)],hp⟩ =
     some (match colL r p.length a with | none => (.ret,⟨[(2,.int .i64 (-1))],hp⟩) | some b => (.exit 0,⟨[(0,.str s),(3,.int .i64 b),(4,.int .i64 s.length),(8,.bool false)],hp⟩))
 | [],p,a,h => by
   rw [loopD_eq,loopBody]
   simp at h
   subst h
   simp [l_sr07_colon_0,colL]
 | c :: r,p,a,h => by
   rw [loopD_eq,loopBody]
   have hlen : s.length = p.length + (r.length + 1) := by rw [h]; simp
   have h1 : (p.length : Int) < (s.length : Int) := by omega
   have h2 : s[p.length]? = some c := by rw [h]; simp
   have hl : p.length < s.length := by omega
   have h2' : s[p.length] = c := by simpa [hl] using h2
   have hw : IntKind.wrap .i64 ((p.length : Int) + 1) = (p.length : Int) + 1 := wrap_small (by omega) (by omega)
   have ih := fun a => colon_L s hs hp lo r (p ++ [c]) a (by rw [h]; simp)
   simp only [List.length_append,List.length_cons,List.length_nil,Nat.zero_add,Int.natCast_add,Int.natCast_one] at ih
   by_cases hc : c = 58
   · have hc' : (c.toNat : Int) = 58 := by rw [hc]; rfl
     by_cases ha : 0 ≤ a
     · simp [l_sr07_colon_0,colL,hl,h2',hc,ha]
     · simp [l_sr07_colon_0,colL,hl,h2',hc,ha,hw]
       exact ih p.length
   · have hc' : ¬ (c.toNat : Int) = 58 := fun e => hc (UInt8.toNat_inj.1 (by simp only [show UInt8.toNat 58 = 58 from rfl]; omega))
     simp [l_sr07_colon_0,colL,hl,h2',hc,hc',hw]
     exact ih a
end
end Go.Proofs.YtkofimhnehkdoaaGreatDoor.Rf
end
section
namespace Go.Proofs.YtkofimhnehkdoaaGreatDoor.Rf
def colA (s:List UInt8) : Int := if (cutB s 58).2.2 = false then -1 else if 58 ∈ (cutB s 58).2.1 then -1 else idxB s 58
theorem cutB_no {s:List UInt8} {c:UInt8} (h:idxB s c < 0) : cutB s c = (s,[],false) := if_neg (by omega)
theorem cutB_yes {s:List UInt8} {c:UInt8} (h:¬ idxB s c < 0) : cutB s c = (s.take (idxB s c).toNat,s.drop ((idxB s c).toNat + 1),true) := if_pos (by omega)
theorem colL_neg : ∀ (r:List UInt8) (i:Int),0 ≤ i → colL r i (-1) = if idxB r 58 < 0 then some (-1) else if 58 ∈ r.drop ((idxB r 58).toNat + 1) then none else some (i + idxB r 58)
 | [],i,h => rfl
 | c :: r,i,h => by
   by_cases hc : c = 58
   · rw [colL,if_pos hc,if_neg (by omega),colL_pos r (i + 1) i h]
     simp [idxB,hc]
   · have ih := colL_neg r (i + 1) (by omega)
     rw [colL,if_neg hc,ih]
     have hb := idxB_ge r 58
     by_cases hn : idxB r 58 < 0
     · have hm : idxB r 58 = -1 := by omega
       simp [idxB,hc,hm]
     · have hm : ¬ idxB r 58 = -1 := by omega
       have e1 : (idxB r 58 + 1).toNat = (idxB r 58).toNat + 1 := by omega
       have e2 : ¬ idxB r 58 + 1 < 0 := by omega
       simp [idxB,hc,hn,hm,e1,e2]
       split
       · rfl
       · congr 1; omega
section
variable {hp:List HObj} {lo:Nat} (q:Bool)
theorem colon7_D (s:List UInt8) (hs:s.length ≤ 9223372036854775807) : callD G0 IP n_sr07_colon [.str s] hp lo q = some (.ret (.int .i64 (colA s)) hp) := by
 rw [callD_eq]
 have hloop := colon_L s hs hp hp.length s [] (-1) rfl
 have hg := colL_neg s 0 (by omega)
 simp only [List.length_nil,Int.natCast_zero] at hloop
 by_cases h1 : idxB s 58 < 0
 · have e : colA s = -1 := by simp [colA,cutB_no h1]
   rw [hg,if_pos h1] at hloop
   simp [IP_sr07_colon,i_sr07_colon,hloop,e]
 · rw [hg,if_neg h1] at hloop
   by_cases h2 : 58 ∈ s.drop ((idxB s 58).toNat + 1)
   · have e : colA s = -1 := by simp only [colA,cutB_yes h1]; simp [h2]
     rw [if_pos h2] at hloop
     simp [IP_sr07_colon,i_sr07_colon,hloop,e]
   · have e : colA s = idxB s 58 := by simp only [colA,cutB_yes h1]; simp [h2]
     rw [if_neg h2] at hloop
     simp [IP_sr07_colon,i_sr07_colon,hloop,e]
theorem w7_ok {s:List UInt8} : (w7 s).2 = 0 ↔ (numE s).2 = 0 ∧ (numE s).1 ≤ 64 := by
 unfold w7
 split
 · simp_all
 · split
   · simp_all
   · simp_all
theorem w7_6 {s:List UInt8} : (w7 s).2 = 6 ↔ (numE s).2 = 6 := by
 unfold w7
 split
 · simp_all
 · split
   · simp_all
   · simp_all
theorem constant7_D (left r:List UInt8) (hs:left.length ≤ 9223372036854775807) (hr:r.length ≤ 9223372036854775807) (h6:(numE r).2 ≠ 6) : callD G0 IP n_sr07_constant [.str left,.str r] hp lo q = some ((constR left (numE r).1 (numE r).2).tup hp) := by
 rw [callD_eq]
 have hn := fun (hp:List HObj) (lo:Nat) (q:Bool) => number7_D (hp := hp) (lo := lo) q left hs
 have hw := fun (hp:List HObj) (lo:Nat) (q:Bool) => width7_D (hp := hp) (lo := lo) q r hr
 have hb := numE_bd left
 have hb2 := numE_bd r
 have h66 : ¬ (w7 r).2 = 6 := fun e => h6 (w7_6.1 e)
 by_cases h1 : (numE left).2 = 6
 · simp [IP_sr07_constant,i_sr07_constant,hn,hw,h1,constR,TR.tup,TR.t,TR.e,T.z,T.av,T.avs,ownB]
 · by_cases h3 : (numE left).2 = 0
   · by_cases h2 : (w7 r).2 = 0
     · have h5 := w7_ok.1 h2
       have h7 : (w7 r).1 = (numE r).1 := by unfold w7; rw [if_neg (by simp [h5.1]),if_neg (by omega)]
       have hW := fun (hp:List HObj) (lo:Nat) (q:Bool) => width4_D (hp := hp) (lo := lo) q 2 (numE r).1 (numE left).1 hb.2 [] .nil (by simp)
       simp only [List.map_nil] at hW
       by_cases h8 : (widE 2 (numE r).1 (numE left).1 []).2 = 0
       · simp [IP_sr07_constant,i_sr07_constant,hn,hw,h1,h2,h3,h5.1,h5.2,h7,h8,hW,constR,TR.tup,TR.t,TR.e,T.z,T.av,T.avs,ownB]
       · simp [IP_sr07_constant,i_sr07_constant,hn,hw,h1,h2,h3,h5.1,h5.2,h7,h8,hW,constR,TR.tup,TR.t,TR.e,T.z,T.av,T.avs,ownB]
     · have h5 : ¬ ((numE r).2 = 0 ∧ (numE left).2 = 0 ∧ (numE r).1 ≤ 64) := fun e => h2 (w7_ok.2 ⟨e.1,e.2.2⟩)
       have hC : constR left (numE r).1 (numE r).2 = .err 2 := by rw [constR,if_neg h1,if_pos h5]
       rw [hC]
       simp [IP_sr07_constant,i_sr07_constant,hn,hw,h1,h2,h3,h66,TR.tup,TR.t,TR.e,T.z,T.av,T.avs,ownB]
   · have h5 : ¬ ((numE r).2 = 0 ∧ (numE left).2 = 0 ∧ (numE r).1 ≤ 64) := fun e => h3 e.2.1
     have hC : constR left (numE r).1 (numE r).2 = .err 2 := by rw [constR,if_neg h1,if_pos h5]
     rw [hC]
     simp [IP_sr07_constant,i_sr07_constant,hn,hw,h1,h3,h66,TR.tup,TR.t,TR.e,T.z,T.av,T.avs,ownB]
end
end Go.Proofs.YtkofimhnehkdoaaGreatDoor.Rf
end
section
namespace Go.Proofs.YtkofimhnehkdoaaGreatDoor.Rf
theorem numE_colon {r:List UInt8} (h:58 ∈ r) : (numE r).2 = 6 := by
 have e : numOk r = false := by
   have : r.all isDig = false := by
     rw [List.all_eq_false]
     exact ⟨58,h,by decide⟩
   simp [numOk,this]
 simp [numE,e]
section
variable {hp:List HObj} {lo:Nat} (q:Bool)
theorem constant7_bad (left r:List UInt8) (hs:left.length ≤ 9223372036854775807) (hr:r.length ≤ 9223372036854775807) (h6:(numE r).2 = 6) : callD G0 IP n_sr07_constant [.str left,.str r] hp lo q = some ((TR.err 6).tup hp) := by
 rw [callD_eq]
 have hn := fun (hp:List HObj) (lo:Nat) (q:Bool) => number7_D (hp := hp) (lo := lo) q left hs
 have hw := fun (hp:List HObj) (lo:Nat) (q:Bool) => width7_D (hp := hp) (lo := lo) q r hr
 have h66 : (w7 r).2 = 6 := w7_6.2 h6
 by_cases h1 : (numE left).2 = 6
 · simp [IP_sr07_constant,i_sr07_constant,hn,hw,h1,h66,TR.tup,TR.t,TR.e,T.z,T.av,T.avs,ownB]
 · simp [IP_sr07_constant,i_sr07_constant,hn,hw,h1,h66,TR.tup,TR.t,TR.e,T.z,T.av,T.avs,ownB]
set_option maxHeartbeats 1000000 in
theorem leaf7_D (s : List UInt8) (h0:s ≠ []) (hs:s.length ≤ 140737488355328) : callD G0 IP n_sr07_Leaf [.str s] hp lo q = some ((leafR s).tup hp) := by
 rw [callD_eq]
 have hc := fun (hp:List HObj) (lo:Nat) (q:Bool) => colon7_D (hp := hp) (lo := lo) q s (by omega)
 have hdg := fun (hp:List HObj) (lo:Nat) (q:Bool) => digit7_D (hp := hp) (lo := lo) q s h0
 by_cases hn : idxB s 58 < 0
 · have hA : colA s = -1 := by simp [colA,cutB_no hn]
   have hR : leafR s = .err 6 := by simp [leafR,cutB_no hn]
   rw [hR]
   simp [IP_sr07_Leaf,i_sr07_Leaf,hc,hA,TR.tup,TR.t,TR.e,T.z,T.av,T.avs,ownB]
 · have hg := idxB_ge s 58
   obtain ⟨n,hk⟩ : ∃ n : Nat,idxB s 58 = n := ⟨(idxB s 58).toNat,by omega⟩
   have hcut : cutB s 58 = (s.take n,s.drop (n + 1),true) := by rw [cutB_yes hn,hk]; rfl
   have hnl : n < s.length := by omega
   by_cases hm : 58 ∈ s.drop (n + 1)
   · have hA : colA s = -1 := by simp [colA,hcut,hm]
     have hR : leafR s = .err 6 := by simp [leafR,hcut,numE_colon hm]
     rw [hR]
     simp [IP_sr07_Leaf,i_sr07_Leaf,hc,hA,TR.tup,TR.t,TR.e,T.z,T.av,T.avs,ownB]
   · have hA : colA s = (n:Int) := by simp [colA,hcut,hm,hk]
     have hL : leafR s = if true = false ∨ (numE (s.drop (n + 1))).2 = 6 then .err 6 else
       if 48 ≤ bt s 0 ∧ bt s 0 ≤ 57 then constR (s.take n) (numE (s.drop (n + 1))).1 (numE (s.drop (n + 1))).2 else
       if nameOk (leafNm (s.take n)) = false then .err 5 else
       if ¬ ((numE (s.drop (n + 1))).2 = 0 ∧ (numE (s.drop (n + 1))).1 ≤ 64) then .err 2 else
       .ok (.mk (leafOp (s.take n)) (numE (s.drop (n + 1))).1 0 (leafNm (s.take n)) true []) := by rw [leafR,hcut]
     rw [hL]
     have hl1 : (s.take n).length ≤ 9223372036854775807 := by simp only [List.length_take]; omega
     have hl2 : (s.drop (n + 1)).length ≤ 9223372036854775807 := by simp only [List.length_drop]; omega
     have hw := fun (hp:List HObj) (lo:Nat) (q:Bool) => width7_D (hp := hp) (lo := lo) q (s.drop (n + 1)) hl2
     have hb := numE_bd (s.drop (n + 1))
     have hkb := fun (hp:List HObj) (lo:Nat) (q:Bool) => constant7_bad (hp := hp) (lo := lo) q (s.take n) (s.drop (n + 1)) hl1 hl2
     have hkk := fun (hp:List HObj) (lo:Nat) (q:Bool) => constant7_D (hp := hp) (lo := lo) q (s.take n) (s.drop (n + 1)) hl1 hl2
     have n1 : IntKind.wrap .i64 ((n:Int) + 1) = ((n + 1 : Nat) : Int) := by rw [wrap_small (by omega) (by omega)]; rfl
     have n2 : n ≤ s.length := by omega
     have n3 : n + 1 ≤ s.length := by omega
     have n4 : ¬ (n:Int) < 0 := by omega
     have n5 : (0:Int) ≤ (n:Int) + 1 := by omega
     generalize hl : s.take n = l at *
     generalize hr : s.drop (n + 1) = r at *
     generalize hbt : bt s 0 = b at *
     by_cases h1 : (numE r).2 = 6
     · rw [if_pos (.inr h1)]
       have h66 : (w7 r).2 = 6 := w7_6.2 h1
       by_cases hd : 48 ≤ b ∧ b ≤ 57
       · simp [IP_sr07_Leaf,i_sr07_Leaf,hc,hA,hdg,hd.1,hd.2,n1,n2,n3,n4,n5,hl,hr,hkb,h1,TR.tup,TR.t,TR.e,T.z,T.av,T.avs,ownB]
       · have hd2 : (decide (48 ≤ b) && decide (b ≤ 57)) = false := by simp; omega
         simp [IP_sr07_Leaf,i_sr07_Leaf,hc,hA,hdg,hd2,n1,n2,n3,n4,n5,hl,hr,hw,h66,TR.tup,TR.t,TR.e,T.z,T.av,T.avs,ownB]
     · rw [if_neg (by simp [h1])]
       by_cases hd : 48 ≤ b ∧ b ≤ 57
       · rw [if_pos hd]
         have hkk := fun (hp:List HObj) (lo:Nat) (q:Bool) => hkk hp lo q h1
         cases hx : constR l (numE r).1 (numE r).2 with
         | ok t => rw [hx] at hkk; simp [TR.tup,TR.t,TR.e] at hkk; simp [IP_sr07_Leaf,i_sr07_Leaf,hc,hA,hdg,hd.1,hd.2,n1,n2,n3,n4,n5,hl,hr,hkk,TR.tup,TR.t,TR.e,T.av_eq]
         | err e => rw [hx] at hkk; simp [TR.tup,TR.t,TR.e,T.z,T.av,T.avs,ownB] at hkk; simp [IP_sr07_Leaf,i_sr07_Leaf,hc,hA,hdg,hd.1,hd.2,n1,n2,n3,n4,n5,hl,hr,hkk,TR.tup,TR.t,TR.e,T.z,T.av,T.avs,ownB]
       · rw [if_neg hd]
         have hd2 : (decide (48 ≤ b) && decide (b ≤ 57)) = false := by simp; omega
         have h66 : ¬ (w7 r).2 = 6 := fun e => h1 (w7_6.1 e)
         rcases leaf_kind l with ⟨l',he⟩ | ⟨l',he⟩ | ⟨k1,k2,k3,k4⟩
         · subst he
           have k3 : leafOp (63 :: l') = 24 := rfl
           have k4 : leafNm (63 :: l') = l' := rfl
           have hm2 := fun (hp:List HObj) (lo:Nat) (q:Bool) => name7_D (hp := hp) (lo := lo) q l' (by simp at hl1; omega)
           have k5 : (0:Int) < (l'.length : Int) + 1 := by omega
           rw [k3,k4]
           cases hN : nameOk l' with
           | false => simp [IP_sr07_Leaf,i_sr07_Leaf,hc,hA,hdg,hd2,n1,n2,n3,n4,n5,hl,hr,hw,h66,hm2,hN,k5,TR.tup,TR.t,TR.e,T.z,T.av,T.avs,ownB]
           | true =>
             by_cases h2 : (w7 r).2 = 0
             · have h5 := w7_ok.1 h2
               have h7 : (w7 r).1 = (numE r).1 := by unfold w7; rw [if_neg (by simp [h5.1]),if_neg (by omega)]
               rw [if_neg (by simp),if_neg (by simp [h5.1,h5.2])]
               simp [IP_sr07_Leaf,i_sr07_Leaf,hc,hA,hdg,hd2,n1,n2,n3,n4,n5,hl,hr,hw,h66,hm2,hN,h2,h7,k5,TR.tup,TR.t,TR.e,T.z,T.av,T.avs,ownB]
             · rw [if_neg (by simp),if_pos (fun e => h2 (w7_ok.2 e))]
               have h8 : (w7 r).2 = 2 := by
                 have := numE_code r
                 unfold w7 at h2 ⊢
                 split at h2
                 · rename_i g; rw [if_pos g]; simp only; omega
                 · rename_i g; rw [if_neg g]; split at h2
                   · rename_i g2; rw [if_pos g2]
                   · exact absurd rfl h2
               simp [IP_sr07_Leaf,i_sr07_Leaf,hc,hA,hdg,hd2,n1,n2,n3,n4,n5,hl,hr,hw,h66,hm2,hN,h8,k5,TR.tup,TR.t,TR.e,T.z,T.av,T.avs,ownB]
         · subst he
           have k3 : leafOp (35 :: l') = 25 := rfl
           have k4 : leafNm (35 :: l') = l' := rfl
           have hm2 := fun (hp:List HObj) (lo:Nat) (q:Bool) => name7_D (hp := hp) (lo := lo) q l' (by simp at hl1; omega)
           have k5 : (0:Int) < (l'.length : Int) + 1 := by omega
           rw [k3,k4]
           cases hN : nameOk l' with
           | false => simp [IP_sr07_Leaf,i_sr07_Leaf,hc,hA,hdg,hd2,n1,n2,n3,n4,n5,hl,hr,hw,h66,hm2,hN,k5,TR.tup,TR.t,TR.e,T.z,T.av,T.avs,ownB]
           | true =>
             by_cases h2 : (w7 r).2 = 0
             · have h5 := w7_ok.1 h2
               have h7 : (w7 r).1 = (numE r).1 := by unfold w7; rw [if_neg (by simp [h5.1]),if_neg (by omega)]
               rw [if_neg (by simp),if_neg (by simp [h5.1,h5.2])]
               simp [IP_sr07_Leaf,i_sr07_Leaf,hc,hA,hdg,hd2,n1,n2,n3,n4,n5,hl,hr,hw,h66,hm2,hN,h2,h7,k5,TR.tup,TR.t,TR.e,T.z,T.av,T.avs,ownB]
             · rw [if_neg (by simp),if_pos (fun e => h2 (w7_ok.2 e))]
               have h8 : (w7 r).2 = 2 := by
                 have := numE_code r
                 unfold w7 at h2 ⊢
                 split at h2
                 · rename_i g; rw [if_pos g]; simp only; omega
                 · rename_i g; rw [if_neg g]; split at h2
                   · rename_i g2; rw [if_pos g2]
                   · exact absurd rfl h2
               simp [IP_sr07_Leaf,i_sr07_Leaf,hc,hA,hdg,hd2,n1,n2,n3,n4,n5,hl,hr,hw,h66,hm2,hN,h8,k5,TR.tup,TR.t,TR.e,T.z,T.av,T.avs,ownB]
         · have hm2 := fun (hp:List HObj) (lo:Nat) (q:Bool) => name7_D (hp := hp) (lo := lo) q l hl1
           rw [k3,k4]
           rcases l with _ | ⟨c,l'⟩
           · have k5 : (0:Int) < 1 := by omega
             cases hN : nameOk ([] : List UInt8) with
             | false => simp [IP_sr07_Leaf,i_sr07_Leaf,hc,hA,hdg,hd2,n1,n2,n3,n4,n5,hl,hr,hw,h66,hm2,hN,k5,TR.tup,TR.t,TR.e,T.z,T.av,T.avs,ownB]
             | true =>
               by_cases h2 : (w7 r).2 = 0
               · have h5 := w7_ok.1 h2
                 have h7 : (w7 r).1 = (numE r).1 := by unfold w7; rw [if_neg (by simp [h5.1]),if_neg (by omega)]
                 rw [if_neg (by simp),if_neg (by simp [h5.1,h5.2])]
                 simp [IP_sr07_Leaf,i_sr07_Leaf,hc,hA,hdg,hd2,n1,n2,n3,n4,n5,hl,hr,hw,h66,hm2,hN,h2,h7,k5,TR.tup,TR.t,TR.e,T.z,T.av,T.avs,ownB]
               · rw [if_neg (by simp),if_pos (fun e => h2 (w7_ok.2 e))]
                 have h8 : (w7 r).2 = 2 := by
                   have := numE_code r
                   unfold w7 at h2 ⊢
                   split at h2
                   · rename_i g; rw [if_pos g]; simp only; omega
                   · rename_i g; rw [if_neg g]; split at h2
                     · rename_i g2; rw [if_pos g2]
                     · exact absurd rfl h2
                 simp [IP_sr07_Leaf,i_sr07_Leaf,hc,hA,hdg,hd2,n1,n2,n3,n4,n5,hl,hr,hw,h66,hm2,hN,h8,k5,TR.tup,TR.t,TR.e,T.z,T.av,T.avs,ownB]
           · have k5 : (0:Int) < (l'.length : Int) + 1 := by omega
             have k6 : ¬ (c.toNat : Int) = 63 := by
               intro e; have : c = 63 := UInt8.toNat_inj.1 (by simp only [show UInt8.toNat 63 = 63 from rfl]; omega)
               rw [this] at k1; simp [hasPre] at k1
             have k7 : ¬ (c.toNat : Int) = 35 := by
               intro e; have : c = 35 := UInt8.toNat_inj.1 (by simp only [show UInt8.toNat 35 = 35 from rfl]; omega)
               rw [this] at k2; simp [hasPre] at k2
             cases hN : nameOk (c :: l') with
             | false => simp [IP_sr07_Leaf,i_sr07_Leaf,hc,hA,hdg,hd2,n1,n2,n3,n4,n5,hl,hr,hw,h66,hm2,hN,k5,k6,k7,TR.tup,TR.t,TR.e,T.z,T.av,T.avs,ownB]
             | true =>
               by_cases h2 : (w7 r).2 = 0
               · have h5 := w7_ok.1 h2
                 have h7 : (w7 r).1 = (numE r).1 := by unfold w7; rw [if_neg (by simp [h5.1]),if_neg (by omega)]
                 rw [if_neg (by simp),if_neg (by simp [h5.1,h5.2])]
                 simp [IP_sr07_Leaf,i_sr07_Leaf,hc,hA,hdg,hd2,n1,n2,n3,n4,n5,hl,hr,hw,h66,hm2,hN,h2,h7,k5,k6,k7,TR.tup,TR.t,TR.e,T.z,T.av,T.avs,ownB]
               · rw [if_neg (by simp),if_pos (fun e => h2 (w7_ok.2 e))]
                 have h8 : (w7 r).2 = 2 := by
                   have := numE_code r
                   unfold w7 at h2 ⊢
                   split at h2
                   · rename_i g; rw [if_pos g]; simp only; omega
                   · rename_i g; rw [if_neg g]; split at h2
                     · rename_i g2; rw [if_pos g2]
                     · exact absurd rfl h2
                 simp [IP_sr07_Leaf,i_sr07_Leaf,hc,hA,hdg,hd2,n1,n2,n3,n4,n5,hl,hr,hw,h66,hm2,hN,h8,k5,k6,k7,TR.tup,TR.t,TR.e,T.z,T.av,T.avs,ownB]
end
end Go.Proofs.YtkofimhnehkdoaaGreatDoor.Rf
end
section
namespace Go.Proofs.YtkofimhnehkdoaaGreatDoor.Rf
def notE (t:T) : Bool := decide (0 ≤ t.width) && (decide (t.width ≤ 64) && (decide ((t.args.length : Int) = arE t.op) && (if t.op = 1 ∨ t.op = 24 ∨ t.op = 25 then nameOk t.name && decide (t.val = 0) else if t.op = 2 ∨ t.op = 21 then decide (t.name = []) else decide (t.name = []) && decide (t.val = 0))))
theorem notE_mk (op w v:Int) (n:List UInt8) (o:Bool) (as:List T) : notE (.mk op w v n o as) = (decide (0 ≤ w) && (decide (w ≤ 64) && (decide ((as.length : Int) = arE op) && (if op = 1 ∨ op = 24 ∨ op = 25 then nameOk n && decide (v = 0) else if op = 2 ∨ op = 21 then decide (n = []) else decide (n = []) && decide (v = 0))))) := rfl
mutual
def T.valid : T → Bool
 | .mk op w v n o as => T.valids as && (notE (.mk op w v n o as) && (decide ((widE op w v (as.map T.width)).2 = 0) && decide ((widE op w v (as.map T.width)).1 = w)))
def T.valids : List T → Bool
 | [] => true
 | t :: r => t.valid && T.valids r
end
theorem nameOk_mem {n:List UInt8} (h:nameOk n = true) : n ≠ [] ∧ n.length ≤ 16 ∧ 97 ≤ bt n 0 ∧ bt n 0 ≤ 122 ∧ ∀ c,c ∈ n → nameC (c.toNat : Int) = true := by
 simp only [nameOk,lowC,Bool.and_eq_true,decide_eq_true_eq,List.all_eq_true] at h
 obtain ⟨h1,h2,⟨h3,h4⟩,h5⟩ := h
 exact ⟨fun e => by subst e; simp at h1,h2,h3,h4,h5⟩
end Go.Proofs.YtkofimhnehkdoaaGreatDoor.Rf
end
section
namespace Go.Proofs.YtkofimhnehkdoaaGreatDoor.Rf
theorem insE_all {as:List Int} (h:¬ as.all insE = false) (i:Nat) : 0 ≤ as.getD i 0 ∧ as.getD i 0 ≤ 64 := by
 have h : as.all insE = true := by cases hh : as.all insE <;> simp_all
 by_cases hi : i < as.length
 · have e : as.getD i 0 = as[i] := by simp [List.getD,hi]
   have := List.all_eq_true.1 h as[i] (List.getElem_mem hi)
   simp only [insE,Bool.and_eq_true,decide_eq_true_eq] at this
   rw [e]; exact this
 · have e : as.getD i 0 = 0 := by simp [List.getD,hi]
   rw [e]; omega
theorem widE_idem {op w v:Int} {as:List Int} (h:(widE op w v as).2 = 0) : opOk op = true ∧ (as.length : Int) = arE op ∧ 0 ≤ (widE op w v as).1 ∧ (widE op w v as).1 ≤ 64 ∧ widE op (widE op w v as).1 v as = ((widE op w v as).1,0) := by
 by_cases c1 : opOk op = false ∨ (as.length : Int) ≠ arE op
 · unfold widE at h; rw [if_pos c1] at h; simp at h
 by_cases c2 : as.all insE = false
 · unfold widE at h; rw [if_neg c1,if_pos c2] at h; simp at h
 have hop : opOk op = true := by cases hh : opOk op <;> simp_all
 have hlen : (as.length : Int) = arE op := by
   by_cases e : (as.length : Int) = arE op
   · exact e
   · exact absurd (.inr e) c1
 refine ⟨hop,hlen,?_⟩
 have g := insE_all c2
 have g0 := g 0
 have g1 := g 1
 unfold widE at h ⊢
 simp only [if_neg c1,if_neg c2] at h ⊢
 by_cases k1 : op = 1 ∨ op = 2 ∨ op = 24 ∨ op = 25
 · simp only [if_pos k1] at h ⊢
   unfold leafE at h ⊢
   by_cases k : insE w = false ∨ (op = 2 ∧ 0 < w ∧ 2 ^ w.toNat ≤ v)
   · rw [if_pos k] at h; simp at h
   · simp only [if_neg k]
     have : insE w = true := by cases hh : insE w <;> simp_all
     simp only [insE,Bool.and_eq_true,decide_eq_true_eq] at this
     exact ⟨this.1,this.2,trivial⟩
 simp only [if_neg k1] at h ⊢
 by_cases k2 : op = 3 ∨ op = 4 ∨ op = 26
 · simp only [if_pos k2]; exact ⟨g0.1,g0.2,trivial⟩
 simp only [if_neg k2] at h ⊢
 by_cases k3 : op = 21 ∨ op = 22 ∨ op = 23
 · simp only [if_pos k3] at h ⊢
   unfold resE at h ⊢
   by_cases k : w < 1 ∨ 64 < w ∨ as.getD 0 0 < 1
   · rw [if_pos k] at h; simp at h
   · simp only [if_neg k] at h ⊢
     by_cases k' : (op ≠ 21 ∧ w < as.getD 0 0) ∨ (op = 21 ∧ (as.getD 0 0 < w ∨ as.getD 0 0 - w < v))
     · rw [if_pos k'] at h; simp at h
     · simp only [if_neg k']
       rw [if_neg k]
       exact ⟨by omega,by omega,rfl⟩
 simp only [if_neg k3] at h ⊢
 by_cases k4 : op = 19
 · simp only [if_pos k4] at h ⊢
   by_cases k : as.getD 0 0 = 1 ∧ as.getD 1 0 = as.getD 2 0
   · simp only [if_pos k]; exact ⟨g1.1,g1.2,trivial⟩
   · rw [if_neg k] at h; simp at h
 simp only [if_neg k4] at h ⊢
 by_cases k5 : op = 20
 · simp only [if_pos k5] at h ⊢
   by_cases k : 1 ≤ as.getD 0 0 ∧ 1 ≤ as.getD 1 0 ∧ as.getD 0 0 + as.getD 1 0 ≤ 64
   · simp only [if_pos k]; exact ⟨by omega,by omega,trivial⟩
   · rw [if_neg k] at h; simp at h
 simp only [if_neg k5] at h ⊢
 by_cases k6 : op = 16 ∨ op = 17 ∨ op = 18
 · simp only [if_pos k6] at h ⊢
   by_cases k : as.getD 0 0 = as.getD 1 0
   · simp only [if_pos k]; exact ⟨by omega,by omega,trivial⟩
   · rw [if_neg k] at h; simp at h
 simp only [if_neg k6] at h ⊢
 by_cases k : as.getD 0 0 = as.getD 1 0
 · simp only [if_pos k]; exact ⟨g0.1,g0.2,trivial⟩
 · rw [if_neg k] at h; simp at h
theorem i64_wf {n:Int} (h0:0 ≤ n) (h1:n ≤ 1000) : (Lit.int .i64 n).wf = true := by simp [Lit.wf,IntKind.min,IntKind.max,IntKind.signed,IntKind.bits]; omega
theorem u64_wf {n:Int} (h0:0 ≤ n) (h1:n < 18446744073709551616) : (Lit.int .u64 n).wf = true := by simp [Lit.wf,IntKind.min,IntKind.max,IntKind.signed,IntKind.bits]; omega
theorem constR_valid {l:List UInt8} {w e:Int} {t:T} (hw:0 ≤ w) (h:constR l w e = .ok t) : t.valid = true ∧ t.wf := by
 have hb := numE_bd l
 unfold constR at h
 split at h
 · cases h
 · split at h
   · cases h
   · rename_i k
     have k : e = 0 ∧ (numE l).2 = 0 ∧ w ≤ 64 := Decidable.not_not.1 k
     split at h
     · cases h
     · rename_i k2
       have k2 : (widE 2 w (numE l).1 []).2 = 0 := Decidable.not_not.1 k2
       cases h
       obtain ⟨i1,i2,i3,i4,i5⟩ := widE_idem k2
       have i6 : (widE 2 w (numE l).1 []).1 = w := by
         unfold widE at k2 ⊢
         rw [if_neg (by decide),if_neg (by decide),if_pos (by decide)] at k2 ⊢
         unfold leafE at k2 ⊢
         split at k2
         · simp at k2
         · rename_i k3; rw [if_neg k3]
       refine ⟨?_,?_⟩
       · simp only [T.valid,T.valids,List.map_nil,k2,i6]
         simp [notE_mk,hw,k.2.2]; rfl
       · simp only [T.wf,T.wfs]
         exact ⟨by decide,i64_wf hw (by omega),u64_wf hb.1 hb.2,by simp,by simp,by simp,trivial⟩
theorem leafOp_cases (l:List UInt8) : leafOp l = 1 ∨ leafOp l = 24 ∨ leafOp l = 25 := by
 unfold leafOp; split
 · simp
 · split <;> simp
theorem name_valid {op w:Int} {n:List UInt8} (h:op = 1 ∨ op = 24 ∨ op = 25) (h0:0 ≤ w) (h1:w ≤ 64) (hn:nameOk n = true) : (T.mk op w 0 n true []).valid = true ∧ (T.mk op w 0 n true []).wf := by
 have ins : insE w = true := by simp [insE,h0,h1]
 have hm := nameOk_mem hn
 refine ⟨?_,?_⟩
 · have hw : widE op w 0 [] = (w,0) := by
     have h2 : op ≠ 2 := by omega
     have h3 : op = 1 ∨ op = 2 ∨ op = 24 ∨ op = 25 := by omega
     have h4 : opOk op = true := by simp [opOk]; omega
     have h5 : arE op = 0 := by rcases h with rfl | rfl | rfl <;> rfl
     unfold widE
     rw [if_neg (by simp [h4,h5]),if_neg (by simp),if_pos h3]
     unfold leafE
     rw [if_neg (by simp [ins,h2])]
   have h5 : arE op = 0 := by rcases h with rfl | rfl | rfl <;> rfl
   simp only [T.valid,T.valids,List.map_nil,hw,notE_mk]
   rw [if_pos h]
   simp [h0,h1,hn,h5]
 · simp only [T.wf,T.wfs]
   exact ⟨i64_wf (by omega) (by omega),i64_wf h0 (by omega),by decide,by omega,by simp,by simp,trivial⟩
theorem leafR_valid {s:List UInt8} {t:T} (h:leafR s = .ok t) : t.valid = true ∧ t.wf := by
 unfold leafR at h
 have hb := numE_bd (cutB s 58).2.1
 split at h
 · cases h
 · split at h
   · exact constR_valid hb.1 h
   · split at h
     · cases h
     · rename_i k
       split at h
       · cases h
       · rename_i k2
         have k2 := Decidable.not_not.1 k2
         cases h
         exact name_valid (leafOp_cases _) hb.1 k2.2 (by simpa using k)
theorem nodeR_valid {op v w:Int} {ts:List T} {t:T} (h1:op ≠ 1) (h2:op ≠ 2) (h3:op ≠ 24) (h4:op ≠ 25) (hv0:op ≠ 21 → v = 0) (hvr:0 ≤ v ∧ v < 18446744073709551616) (hts:T.valids ts = true) (hwf:T.wfs ts) (h:nodeR op v w (.ok ts) = .ok t) : t.valid = true ∧ t.wf := by
 simp only [nodeR] at h
 split at h
 · cases h
 · rename_i k
   have k := Decidable.not_not.1 k
   cases h
   obtain ⟨i1,i2,i3,i4,i5⟩ := widE_idem k
   have i1' : 1 ≤ op ∧ op ≤ 26 := by simpa [opOk] using i1
   have i2' : (ts.length : Int) = arE op := by simpa using i2
   have i6 : arE op ≤ 3 := by
     unfold arE; split
     · omega
     · split
       · omega
       · split
         · omega
         · split <;> omega
   refine ⟨?_,?_⟩
   · simp only [T.valid,hts,i5,Bool.true_and]
     have : notE (.mk op (widE op w v (ts.map T.width)).1 v [] ts.isEmpty ts) = true := by
       rw [notE_mk]
       rw [if_neg (by omega)]
       by_cases h21 : op = 21
       · rw [if_pos (.inr h21)]; simp [i3,i4,i2']
       · rw [if_neg (by omega),hv0 h21]; rw [hv0 h21] at i3 i4; simp [i3,i4,i2']
     simp [this]
   · simp only [T.wf]
     exact ⟨i64_wf (by omega) (by omega),i64_wf i3 (by omega),u64_wf hvr.1 hvr.2,by simp,by omega,by simp,hwf⟩
theorem numsR_val (op:Int) (l:List S) : (op ≠ 21 → (numsR op l).1 = 0) ∧ 0 ≤ (numsR op l).1 ∧ (numsR op l).1 < 18446744073709551616 := by
 have hb := numR_bd (l.getD 1 S.z).atom 18446744073709551615 (by omega)
 unfold numsR
 by_cases h : op = 21
 · rw [if_pos h]
   refine ⟨fun e => absurd h e,?_⟩
   split
   · simp
   · split
     · simp
     · simp only; omega
 · rw [if_neg h]
   split
   · split <;> simp
   · simp
mutual
theorem readS_valid : ∀ (e:S) (t:T),readS e = .ok t → t.valid = true ∧ t.wf
 | .mk a o l,t,h => by
   rw [readS] at h
   split at h
   · exact leafR_valid h
   · split at h
     · cases h
     · rename_i hh
       split at h
       · cases h
       · cases hs : readsS l (1 + numsN (ofE (l.getD 0 S.z).atom).1) with
         | err e => rw [hs] at h; simp [nodeR] at h
         | ok ts =>
           rw [hs] at h
           have hv := readsS_valid l _ ts hs
           have hn := numsR_val (ofE (l.getD 0 S.z).atom).1 l
           have hR : headR l = true := by cases hx : headR l <;> simp_all
           simp only [headR,Bool.and_eq_true,Bool.not_eq_true',decide_eq_false_iff_not] at hR
           have ha := hR.2.2.1
           exact nodeR_valid (fun e => ha (by rw [e]; rfl)) (fun e => ha (by rw [e]; rfl)) (fun e => ha (by rw [e]; rfl)) (fun e => ha (by rw [e]; rfl)) hn.1 hn.2 hv.1 hv.2 h
theorem readsS_valid : ∀ (l:List S) (k:Nat) (ts:List T),readsS l k = .ok ts → T.valids ts = true ∧ T.wfs ts
 | [],k,ts,h => by simp [readsS] at h; subst h; exact ⟨rfl,trivial⟩
 | x :: r,k + 1,ts,h => by rw [readsS] at h; exact readsS_valid r k ts h
 | x :: r,0,ts,h => by
   rw [readsS] at h
   cases hx : readS x with
   | err e => rw [hx] at h; simp [TRs.cons] at h
   | ok t =>
     cases hr : readsS r 0 with
     | err e => rw [hx,hr] at h; simp [TRs.cons] at h
     | ok us =>
       rw [hx,hr] at h; simp [TRs.cons] at h; subst h
       have a := readS_valid x t hx
       have b := readsS_valid r 0 us hr
       exact ⟨by simp [T.valids,a.1,b.1],a.2,b.2⟩
end
end Go.Proofs.YtkofimhnehkdoaaGreatDoor.Rf
end
section
namespace Go.Proofs.YtkofimhnehkdoaaGreatDoor.Rf
theorem tup_err (hp:List HObj) (c:Int) : (TR.err c).tup hp = .ret (.tup [.agg [.int .i64 0,.int .i64 0,.int .u64 0,.str [],.list [] .nil],.int .i64 c]) hp := rfl
theorem tup_ok (hp:List HObj) (t:T) : (TR.ok t).tup hp = .ret (.tup [t.av,.int .i64 0]) hp := rfl
theorem arE_ge {op:Int} (h:opOk op = true) : 0 ≤ arE op := by
 unfold arE; rw [if_neg (by simp [h])]; split
 · omega
 · split
   · omega
   · split <;> omega
theorem readsS_len : ∀ (l:List S) (k:Nat) (ts:List T),readsS l k = .ok ts → ts.length ≤ l.length
 | [],k,ts,h => by simp [readsS] at h; subst h; simp
 | x :: r,k + 1,ts,h => by rw [readsS] at h; have := readsS_len r k ts h; simp; omega
 | x :: r,0,ts,h => by
   rw [readsS] at h
   cases hx : readS x with
   | err e => rw [hx] at h; simp [TRs.cons] at h
   | ok t =>
     cases hr : readsS r 0 with
     | err e => rw [hx,hr] at h; simp [TRs.cons] at h
     | ok us =>
       rw [hx,hr] at h; simp [TRs.cons] at h; subst h
       have := readsS_len r 0 us hr
       simp; omega
section
variable {hp:List HObj} {lo:Nat} (q:Bool)
set_option maxHeartbeats 4000000 in
theorem read7_D (e : S) : e.sm → ∀ (hp:List HObj) (lo:Nat) (q:Bool),callD G0 IP n_sr07_Read [e.av] hp lo q = some ((readS e).tup hp) := by
 induction e using S.ind with | h e ih =>
 intro hsm hp lo q
 rw [S.sm_eq] at hsm
 obtain ⟨ha,hs⟩ := hsm
 rw [callD_eq,S.av_eq]
 cases e with | mk a o l =>
 simp only [S.atom,S.list,S.o] at *
 rw [readS]
 by_cases h0 : a = []
 · subst h0
   rw [if_neg (by simp)]
   cases l with
   | nil =>
     simp [IP_sr07_Read,i_sr07_Read,headR,tup_err]
   | cons x r =>
     have hx : (x :: r).getD 0 S.z = x := rfl
     rw [hx]
     have e1 := fun (hp:List HObj) (lo:Nat) (q:Bool) => of4_D (hp := hp) (lo := lo) q x.atom
     have hgt : (0:Int) < (r.length : Int) + 1 := by omega
     have hne0 : ¬ (r.length : Int) + 1 = 0 := by omega
     cases hok : (ofE x.atom).2 with
     | false =>
       have hR : headR (x :: r) = false := by unfold headR; rw [hx,hok]; simp
       rw [if_pos hR]
       simp [IP_sr07_Read,i_sr07_Read,S.avs,S.av_eq x,e1,hok,hgt,hne0,tup_err]
     | true =>
       have hop := ofE_ok hok
       have hlf := leafB_ar hop
       have hbd := arE_bd (ofE x.atom).1
       have hnb := numsN_bd (ofE x.atom).1
       have hR : headR (x :: r) = (!decide (arE (ofE x.atom).1 = 0) && decide (((x :: r).length : Int) = 1 + numsN (ofE x.atom).1 + arE (ofE x.atom).1)) := by unfold headR; rw [hx,hok]; simp
       rw [hR]
       generalize (ofE x.atom).1 = op at *
       have hw1 : IntKind.wrap .i64 (1 + (numsN op:Int)) = 1 + (numsN op:Int) := wrap_small (by omega) (by omega)
       have hw2 : IntKind.wrap .i64 (1 + (numsN op:Int) + arE op) = 1 + (numsN op:Int) + arE op := wrap_small (by omega) (by omega)
       have hge := arE_ge hop
       by_cases k1 : arE op = 0
       · have k2 : leafB op = true := by rw [hlf]; simp [k1]
         rw [if_pos (by simp [k1])]
         simp [IP_sr07_Read,i_sr07_Read,S.avs,S.av_eq x,e1,hok,hgt,hne0,tup_err,leaf4_D,k2]
       · have k2 : leafB op = false := by rw [hlf]; simp [k1]
         by_cases k3 : (r.length : Int) + 1 = 1 + (numsN op:Int) + arE op
         · rw [if_neg (by simp [k1,k3])]
           have k3' : 1 + (numsN op:Int) + arE op = (r.length : Int) + 1 := k3.symm
           have hw3 : IntKind.wrap .i64 ((r.length : Int) + 1) = (r.length : Int) + 1 := by rw [k3]; exact hw2
           have e2 := fun (hp:List HObj) (lo:Nat) (q:Bool) (oo:Own) => numerals7_D (hp := hp) (lo := lo) q op (x :: r) oo (by rw [List.length_cons]; omega) (fun y hy => by have := (S.sm_eq y).1 (hs y hy); omega)
           simp [S.avs,S.av_eq x] at e2
           by_cases k4 : (numsR op (x :: r)).2.2 = 0
           · rw [if_neg (by simp [k4])]
             have e3 := read7_L (hp := hp) (lo := hp.length) (.mk [] o (x :: r)) (by simp [S.list]; omega) op (numsR op (x :: r)).1 (numsR op (x :: r)).2.1 ((x :: r).drop (1 + numsN op)) ((x :: r).take (1 + numsN op)) [] (by simp [S.list]) (by simp) (fun y hy => ih y (List.mem_of_mem_drop hy) (hs y (List.mem_of_mem_drop hy)))
             rw [← readsS_drop] at e3
             have htk : (((x :: r).take (1 + numsN op)).length : Int) = 1 + (numsN op:Int) := by rw [List.length_take,List.length_cons]; omega
             rw [htk] at e3
             simp only [fr7,show ∀ a o l,S.atom (.mk a o l) = a from fun _ _ _ => rfl,show ∀ a o l,S.list (.mk a o l) = l from fun _ _ _ => rfl,show ∀ a o l,S.o (.mk a o l) = o from fun _ _ _ => rfl,S.avs,S.av_eq x,show ownT [] = .nil from rfl,T.avs,wds_nil,List.length_cons] at e3
             cases hrs : readsS (x :: r) (1 + numsN op) with
             | err c =>
               rw [hrs] at e3
               simp only [out7] at e3
               simp [IP_sr07_Read,i_sr07_Read,S.avs,S.av_eq x,e1,hok,hgt,hne0,tup_err,leaf4_D,k2,plain7_D,arity4_D,hw1,hw3,k3',e2,k4,e3,nodeR,tup_err]
             | ok ts =>
               rw [hrs] at e3
               simp only [out7,List.nil_append,fr7,show ∀ a o l,S.atom (.mk a o l) = a from fun _ _ _ => rfl,show ∀ a o l,S.list (.mk a o l) = l from fun _ _ _ => rfl,show ∀ a o l,S.o (.mk a o l) = o from fun _ _ _ => rfl,S.avs,S.av_eq x] at e3
               have hnv := numsR_val op (x :: r)
               have hlen := readsS_len (x :: r) _ ts hrs
               simp only [List.length_cons] at hlen
               have e4 : ∀ (hp:List HObj) (lo:Nat) (q:Bool) (oo:Own),callD G0 IP n_sr04_Width [.int .i64 op,.int .i64 (numsR op (x :: r)).2.1,.int .u64 (numsR op (x :: r)).1,.list (wds ts) oo] hp lo q = some (.ret (.tup [.int .i64 (widE op (numsR op (x :: r)).2.1 (numsR op (x :: r)).1 (ts.map T.width)).1,.int .i64 (widE op (numsR op (x :: r)).2.1 (numsR op (x :: r)).1 (ts.map T.width)).2]) hp) :=
                 fun hp lo q oo => width4_D q op _ _ hnv.2.2 (ts.map T.width) oo (by rw [List.length_map]; omega)
               simp only [nodeR]
               by_cases k6 : (widE op (numsR op (x :: r)).2.1 (numsR op (x :: r)).1 (ts.map T.width)).2 = 0
               · rw [if_neg (by simp [k6])]
                 simp [IP_sr07_Read,i_sr07_Read,S.avs,S.av_eq x,e1,hok,hgt,hne0,tup_ok,leaf4_D,k2,plain7_D,arity4_D,hw1,hw3,k3',e2,k4,e3,e4,k6,T.av]
               · rw [if_pos k6]
                 simp [IP_sr07_Read,i_sr07_Read,S.avs,S.av_eq x,e1,hok,hgt,hne0,tup_err,leaf4_D,k2,plain7_D,arity4_D,hw1,hw3,k3',e2,k4,e3,e4,k6]
           · rw [if_pos k4]
             simp [IP_sr07_Read,i_sr07_Read,S.avs,S.av_eq x,e1,hok,hgt,hne0,tup_err,leaf4_D,k2,plain7_D,arity4_D,hw1,hw3,k3',e2,k4]
         · rw [if_pos (by simp [k1,k3])]
           simp [IP_sr07_Read,i_sr07_Read,S.avs,S.av_eq x,e1,hok,hgt,hne0,tup_err,leaf4_D,k2,plain7_D,arity4_D,hw1,hw2,k3]
 · rw [if_pos h0]
   have e1 := fun (hp:List HObj) (lo:Nat) (q:Bool) => leaf7_D (hp := hp) (lo := lo) q a h0 ha
   cases hx : leafR a with
   | err c => simp [IP_sr07_Read,i_sr07_Read,h0,e1,hx,tup_err]
   | ok t => simp [IP_sr07_Read,i_sr07_Read,h0,e1,hx,tup_ok,T.av_eq t]
end
end Go.Proofs.YtkofimhnehkdoaaGreatDoor.Rf
end
section
namespace Go.Proofs.YtkofimhnehkdoaaGreatDoor.Rf
inductive SbR where
 | ok (l:List Sb) | err (e:Int)
def subsS : List S → SbR
 | [] => .ok []
 | x :: r => match readS (x.list.getD 1 zS) with
   | .err e => .err e
   | .ok t => match subsS r with
     | .err e => .err e
     | .ok l => .ok (⟨(x.list.getD 0 zS).atom,t⟩ :: l)
inductive StR where
 | ok (s:St7) | err (e:Int)
def ownSb (acc:List Sb) : Own := if acc.isEmpty then .nil else .own 6 0
@[simp] theorem ownSb_cp (acc:List Sb) : (ownSb acc).cp = ownB acc.isEmpty := by cases acc <;> rfl
@[simp] theorem ownSb_app (acc:List Sb) (x:Sb) : ownSb (acc ++ [x]) = .own 6 0 := by cases acc <;> rfl
theorem ownSb_ok (acc:List Sb) : ownSb acc = .nil ∨ ownSb acc = .own 6 0 := by cases acc <;> simp [ownSb]
theorem sbs_app (a b:List Sb) : sbs (a ++ b) = sbs a ++ sbs b := by simp [sbs]
@[simp] theorem sbs_nil : sbs [] = [] := rfl
@[simp] theorem okSize_sbs (l:List Sb) : okSize 6 (sbs l) = true := by cases l <;> simp [sbs,Sb.av_eq]
abbrev boxZ14 : AV := .box [.int .i64 0,.list [] .nil,.int .i64 0,.list [] .nil,.int .i64 0,.int .i64 0,.int .u64 0,.str [],.list [] .nil,.int .i64 0,.int .i64 0,.int .u64 0,.str [],.list [] .nil]
abbrev cells36 (s:St7) (acc:List Sb) : List AV := [.int .i64 s.kind,.list (i64s s.refs) (ownB s.ro),.int .i64 s.rule,.list (sbs acc) (ownSb acc),
 .int .i64 0,.int .i64 0,.int .u64 0,.str [],.list [] .nil,.int .i64 0,.int .i64 0,.int .u64 0,.str [],.list [] .nil]
def outSb (s:St7) (L:List S) (o:Own) (hp:List HObj) (acc:List Sb) : SbR → Ex × St
 | .err c => (.ret,⟨[(2,boxZ14),(3,.int .i64 c)],hp⟩)
 | .ok l => (.exit 1,⟨[(2,boxZ14),(4,.box (cells36 s (acc ++ l))),(6,.int .i64 0),(7,.list (S.avs L) o),(8,.int .i64 L.length),(31,.bool false)],hp⟩)
theorem pairB_two {x:S} (h:pairB x = true) : ∃ n u,x.list = [n,u] := by
 simp only [pairB,Bool.and_eq_true,decide_eq_true_eq] at h
 match hl : x.list,h.1 with
 | [n,u],_ => exact ⟨n,u,rfl⟩
theorem S.sm_of_fit (t:S) : t.fit → t.sm := by
 induction t using S.ind with | h t ih =>
 intro h
 have := (S.fit_eq t).1 h
 rw [S.sm_eq]
 exact ⟨by omega,fun u hu => ih u hu (this.2.2.2 u hu)⟩
section
variable {hp:List HObj} {lo:Nat}
set_option maxHeartbeats 2000000 in
theorem step36_L (s:St7) (L:List S) (o:Own) (hL:L.length ≤ 65536) : ∀ (r p:List S) (acc:List Sb),L = p ++ r → acc.length ≤ p.length → (∀ x,x ∈ r → x.fit ∧ pairB x = true) →
   loopD G0 IP lo l_sr36_Step_0 ⟨[(2,boxZ14),(4,.box (cells36 s acc)),(6,.int .i64 0),(7,.list (S.avs L) o),(8,.int .i64 p.length)],hp⟩ = some (outSb s L o hp acc (subsS r))
 | [],p,acc,h,ha,_ => by
   rw [loopD_eq,loopBody]
   simp at h
   subst h
   simp [l_sr36_Step_0,subsS,outSb]
 | x :: r,p,acc,h,ha,hx => by
   rw [loopD_eq,loopBody]
   obtain ⟨xf,xp⟩ := hx x (by simp)
   obtain ⟨n,u,hxl⟩ := pairB_two xp
   have hf := (S.fit_eq x).1 xf
   have hu : u.sm := S.sm_of_fit u (hf.2.2.2 u (by rw [hxl]; simp))
   have hlen : L.length = p.length + (r.length + 1) := by rw [h]; simp
   have h1 : (p.length : Int) < (L.length : Int) := by omega
   have hl : p.length < L.length := by omega
   have h2 : L[p.length] = x := by simp [h]
   have hw : IntKind.wrap .i64 ((p.length : Int) + 1) = (p.length : Int) + 1 := wrap_small (by omega) (by omega)
   have e1 := read7_D u hu hp lo false
   have g0 : (x.list.getD 0 zS) = n := by rw [hxl]; rfl
   have g1 : (x.list.getD 1 zS) = u := by rw [hxl]; rfl
   rw [subsS,g0,g1]
   cases hr : readS u with
   | err c =>
     have hc := readS_ne u c hr
     rw [hr,tup_err,S.av_eq] at e1
     simp [l_sr36_Step_0,hl,h1,h2,S.av_eq x,hxl,S.avs,S.av_eq n,S.av_eq u,e1,hc,outSb]
   | ok t =>
     rw [hr,tup_ok,S.av_eq,T.av_eq] at e1
     have ih := step36_L s L o hL r (p ++ [x]) (acc ++ [⟨n.atom,t⟩]) (by rw [h]; simp) (by simp; omega) (fun y hy => hx y (by simp [hy]))
     simp only [List.length_append,List.length_cons,List.length_nil,Nat.zero_add,Int.natCast_add,Int.natCast_one] at ih
     have hb1 : (acc.length + 1) * 80 ≤ 140737488355328 := by omega
     have hb2 : acc.length + 1 ≤ 9223372036854775807 := by omega
     have hout : outSb s L o hp acc (match subsS r with | .err e => .err e | .ok l => .ok (⟨n.atom,t⟩ :: l)) = outSb s L o hp (acc ++ [⟨n.atom,t⟩]) (subsS r) := by
       cases subsS r <;> simp [outSb]
     simp only
     rw [hout]
     rw [cells36,sbs_app,ownSb_app,show sbs [(⟨n.atom,t⟩ : Sb)] = [.agg [.str n.atom,.int .i64 t.op,.int .i64 t.width,.int .u64 t.val,.str t.name,.list (T.avs t.args) (ownB t.o)]] from rfl] at ih
     simp [l_sr36_Step_0,hl,h1,h2,S.av_eq x,hxl,S.avs,S.av_eq n,S.av_eq u,e1,hb1,hb2,ownSb_ok,hw]
     exact ih
end
end Go.Proofs.YtkofimhnehkdoaaGreatDoor.Rf
end
section
namespace Go.Proofs.YtkofimhnehkdoaaGreatDoor.Rf
mutual
theorem T.av_closed (n:Nat) : ∀ t : T,AV.closed n t.av = true
 | .mk a b c d o l => by simp [T.av,AV.closed,AV.closedL,T.avs_closed n l]
theorem T.avs_closed (n:Nat) : ∀ l : List T,AV.closedL n (T.avs l) = true
 | [] => rfl
 | t :: r => by simp [T.avs,AV.closedL,T.av_closed n t,T.avs_closed n r]
end
end Go.Proofs.YtkofimhnehkdoaaGreatDoor.Rf
end
section
namespace Go.Proofs.YtkofimhnehkdoaaGreatDoor.Rf
def stepR (e:S) : StR :=
 if shapeB e = false then .err 6 else
 if lineK e.list = 5 then (match subsS (e.list.getD 3 zS).list with | .err c => .err c | .ok sb => .ok ⟨(shapeS e).kind,(shapeS e).ro,(shapeS e).refs,(shapeS e).rule,sb.isEmpty,sb,T.z,T.z⟩) else
 if lineK e.list = 1 ∨ lineK e.list = 6 ∨ lineK e.list = 7 ∨ lineK e.list = 8 then (match readS (e.list.getD 2 zS) with | .err c => .err c | .ok t => .ok ⟨(shapeS e).kind,(shapeS e).ro,(shapeS e).refs,(shapeS e).rule,true,[],t,T.z⟩) else
 if lineK e.list = 4 then (match readS (e.list.getD 2 zS) with | .err c => .err c | .ok t => (match readS (e.list.getD 3 zS) with | .err c => .err c | .ok u => .ok ⟨(shapeS e).kind,(shapeS e).ro,(shapeS e).refs,(shapeS e).rule,true,[],t,u⟩)) else
 .ok (shapeS e)
def St7.z : St7 := ⟨0,true,[],0,true,[],T.z,T.z⟩
def StR.tup (hp:List HObj) : StR → COut
 | .ok s => .ret (.tup [s.av,.int .i64 0]) hp
 | .err c => .ret (.tup [St7.z.av,.int .i64 c]) hp
theorem stz_av : St7.z.av = .agg [.int .i64 0,.list [] .nil,.int .i64 0,.list [] .nil,.int .i64 0,.int .i64 0,.int .u64 0,.str [],.list [] .nil,.int .i64 0,.int .i64 0,.int .u64 0,.str [],.list [] .nil] := rfl
theorem shape_av (e:S) : (shapeS e).av = .agg [.int .i64 (shapeS e).kind,.list (i64s (shapeS e).refs) (ownB (shapeS e).ro),.int .i64 (shapeS e).rule,.list [] .nil,
 .int .i64 0,.int .i64 0,.int .u64 0,.str [],.list [] .nil,.int .i64 0,.int .i64 0,.int .u64 0,.str [],.list [] .nil] := rfl
theorem st_av (s:St7) : s.av = .agg s.cells := rfl
theorem sbs_closed (n:Nat) : ∀ l : List Sb,AV.closedL n (sbs l) = true
 | [] => rfl
 | x :: r => by have := sbs_closed n r; simp only [sbs] at this; simp [sbs,AV.closedL,AV.closed,this,Sb.av_eq,T.avs_closed]
theorem shapeB_ok {e:S} (h:shapeB e = true) : ¬ lineK e.list = 0 ∧ (e.list.length : Int) = partsE (lineK e.list) ∧ (lineK e.list = 5 → namedB (e.list.getD 3 zS) = true) := by
 simp only [shapeB,Bool.and_eq_true,decide_eq_true_eq,Bool.not_eq_true',decide_eq_false_iff_not,Bool.or_eq_true] at h
 obtain ⟨h1,⟨h2,h3,h4⟩,h5,h6⟩ := h
 exact ⟨h2,h4,fun h => by
   rcases h6 with h6 | h6
   · exact absurd h h6
   · exact h6⟩
section
variable {hp:List HObj} {lo:Nat}
set_option maxHeartbeats 4000000 in
theorem step36_D (e:S) (he:e.fit) (hp:List HObj) (lo:Nat) (q:Bool) : callD G0 IP n_sr36_Step [e.av] hp lo q = some ((stepR e).tup hp) := by
 have hf := (S.fit_eq e).1 he
 obtain ⟨s,es,hs⟩ := shape_D e he hp hp.length false
 rw [callD_eq]
 rw [S.av_eq] at es ⊢
 cases hsB : shapeB e with
 | false =>
   rw [hsB,st_av,St7.cells] at es
   have hr : stepR e = .err 6 := by unfold stepR; rw [if_pos hsB]
   rw [hr]
   simp [IP_sr36_Step,i_sr36_Step,es,StR.tup,stz_av]
 | true =>
   have hse := hs hsB
   subst hse
   rw [hsB,shape_av] at es
   obtain ⟨k0,kl,k5⟩ := shapeB_ok hsB
   have hkind : (shapeS e).kind = lineK e.list := rfl
   have hr : stepR e = (if lineK e.list = 5 then (match subsS (e.list.getD 3 zS).list with | .err c => .err c | .ok sb => .ok ⟨(shapeS e).kind,(shapeS e).ro,(shapeS e).refs,(shapeS e).rule,sb.isEmpty,sb,T.z,T.z⟩) else
     if lineK e.list = 1 ∨ lineK e.list = 6 ∨ lineK e.list = 7 ∨ lineK e.list = 8 then (match readS (e.list.getD 2 zS) with | .err c => .err c | .ok t => .ok ⟨(shapeS e).kind,(shapeS e).ro,(shapeS e).refs,(shapeS e).rule,true,[],t,T.z⟩) else
     if lineK e.list = 4 then (match readS (e.list.getD 2 zS) with | .err c => .err c | .ok t => (match readS (e.list.getD 3 zS) with | .err c => .err c | .ok u => .ok ⟨(shapeS e).kind,(shapeS e).ro,(shapeS e).refs,(shapeS e).rule,true,[],t,u⟩)) else .ok (shapeS e)) := by
     rw [stepR,if_neg (by rw [hsB]; simp)]
   rw [hr]
   generalize hS : shapeS e = s at *
   rw [hkind] at es
   generalize lineK e.list = k at *
   cases e with | mk a o l =>
   simp only [show ∀ a o l,S.atom (.mk a o l) = a from fun _ _ _ => rfl,show ∀ a o l,S.list (.mk a o l) = l from fun _ _ _ => rfl,show ∀ a o l,S.o (.mk a o l) = o from fun _ _ _ => rfl] at *
   by_cases h5 : k = 5
   · subst h5
     have hl : l.length = 4 := by have : partsE 5 = 4 := rfl; omega
     match l,hl with
     | [x,y,z,w],_ =>
       have c3 : [x,y,z,w].getD 3 zS = w := rfl
       rw [c3] at k5
       have hw := hf.2.2.2 w (by simp)
       have hwf := (S.fit_eq w).1 hw
       have hn := k5 rfl
       simp only [namedB,Bool.and_eq_true,List.all_eq_true] at hn
       have hloop := fun o => step36_L (hp := hp) (lo := hp.length) s w.list o hwf.2.1 w.list [] [] rfl (by simp) (fun x hx => ⟨hwf.2.2.2 x hx,hn.1 x hx⟩)
       simp [cells36,ownSb,hkind] at hloop
       rw [if_pos rfl,c3]
       simp only [S.avs,S.av_eq x,S.av_eq y,S.av_eq z,S.av_eq w] at es
       cases hsub : subsS w.list with
       | err c =>
         rw [hsub] at hloop
         simp only [outSb] at hloop
         simp [IP_sr36_Step,i_sr36_Step,es,StR.tup,stz_av,S.avs,S.av_eq x,S.av_eq y,S.av_eq z,S.av_eq w,hloop]
       | ok sb =>
         rw [hsub] at hloop
         simp only [outSb,List.nil_append,cells36] at hloop
         simp [IP_sr36_Step,i_sr36_Step,es,StR.tup,stz_av,S.avs,S.av_eq x,S.av_eq y,S.av_eq z,S.av_eq w,hloop]
         exact ⟨⟨i64s_closed _ _,sbs_closed _ _⟩,by rw [st_av,St7.cells]; rfl⟩
   · rw [if_neg h5]
     by_cases h1 : k = 1 ∨ k = 6 ∨ k = 7 ∨ k = 8
     · rw [if_pos h1]
       have hl : l.length = 3 := by
         have : partsE k = 3 := by rcases h1 with rfl | rfl | rfl | rfl <;> rfl
         omega
       match l,hl with
       | [x, y,z],_ =>
         have c2 : [x,y,z].getD 2 zS = z := rfl
         have hz := S.sm_of_fit z (hf.2.2.2 z (by simp))
         have e1 := fun (hp:List HObj) (lo:Nat) (q:Bool) => read7_D z hz hp lo q
         rw [c2]
         simp only [S.avs,S.av_eq x,S.av_eq y,S.av_eq z] at es
         cases hrz : readS z with
         | err c =>
           have hc := readS_ne z c hrz
           simp only [hrz,tup_err,S.av_eq z] at e1
           rcases h1 with rfl | rfl | rfl | rfl
           all_goals simp [IP_sr36_Step,i_sr36_Step,es,StR.tup,stz_av,S.avs,S.av_eq x,S.av_eq y,S.av_eq z,e1,hc]
         | ok t =>
           simp only [hrz,tup_ok,S.av_eq z,T.av_eq] at e1
           rcases h1 with rfl | rfl | rfl | rfl
           all_goals
             simp [IP_sr36_Step,i_sr36_Step,es,StR.tup,stz_av,S.avs,S.av_eq x,S.av_eq y,S.av_eq z,e1]
             exact ⟨i64s_closed _ _,by rw [st_av,St7.cells,hkind]; rfl⟩
     · rw [if_neg h1]
       have n1 : ¬ k = 1 := fun h => h1 (.inl h)
       have n6 : ¬ k = 6 := fun h => h1 (.inr (.inl h))
       have n7 : ¬ k = 7 := fun h => h1 (.inr (.inr (.inl h)))
       have n8 : ¬ k = 8 := fun h => h1 (.inr (.inr (.inr h)))
       by_cases h4 : k = 4
       · subst h4
         rw [if_pos rfl]
         have hl : l.length = 4 := by have : partsE 4 = 4 := rfl; omega
         match l,hl with
         | [x, y,z,w],_ =>
           have c2 : [x,y,z,w].getD 2 zS = z := rfl
           have c3 : [x,y,z,w].getD 3 zS = w := rfl
           have hz := S.sm_of_fit z (hf.2.2.2 z (by simp))
           have hw := S.sm_of_fit w (hf.2.2.2 w (by simp))
           have e1 := fun (hp:List HObj) (lo:Nat) (q:Bool) => read7_D z hz hp lo q
           have e2 := fun (hp:List HObj) (lo:Nat) (q:Bool) => read7_D w hw hp lo q
           rw [c2,c3]
           simp only [S.avs,S.av_eq x,S.av_eq y,S.av_eq z,S.av_eq w] at es
           cases hrz : readS z with
           | err c =>
             have hc := readS_ne z c hrz
             simp only [hrz,tup_err,S.av_eq z] at e1
             simp [IP_sr36_Step,i_sr36_Step,es,StR.tup,stz_av,S.avs,S.av_eq x,S.av_eq y,S.av_eq z,S.av_eq w,e1,hc]
           | ok t =>
             simp only [hrz,tup_ok,S.av_eq z,T.av_eq] at e1
             cases hrw : readS w with
             | err c =>
               have hc := readS_ne w c hrw
               simp only [hrw,tup_err,S.av_eq w] at e2
               simp [IP_sr36_Step,i_sr36_Step,es,StR.tup,stz_av,S.avs,S.av_eq x,S.av_eq y,S.av_eq z,S.av_eq w,e1,e2,hc]
             | ok u =>
               simp only [hrw,tup_ok,S.av_eq w,T.av_eq] at e2
               simp [IP_sr36_Step,i_sr36_Step,es,StR.tup,stz_av,S.avs,S.av_eq x,S.av_eq y,S.av_eq z,S.av_eq w,e1,e2]
               exact ⟨i64s_closed _ _,by rw [st_av,St7.cells,hkind]; rfl⟩
       · rw [if_neg h4]
         simp [IP_sr36_Step,i_sr36_Step,es,StR.tup,h5,n1,n6,n7,n8,h4]
         exact ⟨i64s_closed _ _,by rw [← hS,shape_av,hS,hkind]⟩
end
end Go.Proofs.YtkofimhnehkdoaaGreatDoor.Rf
end
section
namespace Go.Proofs.YtkofimhnehkdoaaGreatDoor.Rf
def nmS (x:S) : List UInt8 := (x.list.getD 0 zS).atom
def trS (x:S) : S := x.list.getD 1 zS
abbrev sbZ (n:List UInt8) : List AV := [.str n,.int .i64 0,.int .i64 0,.int .u64 0,.str [],.list [] .nil]
def sbZs (l:List S) : List AV := (l.map fun x => sbZ (nmS x)).flatten
theorem sbZs_len (l:List S) : (sbZs l).length = l.length * 6 := by
 induction l with
 | nil => rfl
 | cons x r ih => simp [sbZs] at ih ⊢; omega
theorem sbZs_take (l:List S) : (sbZs l).take (l.length * 6) = sbZs l := by rw [← sbZs_len,List.take_length]
theorem sbZs_app (l:List S) (x:S) : sbZs (l ++ [x]) = sbZs l ++ sbZ (nmS x) := by simp [sbZs]
theorem sbZs_cp (l:List S) : (sbZs l).map AV.cp1 = sbZs l := by
 induction l with
 | nil => rfl
 | cons x r ih =>
   have : sbZs (x :: r) = sbZ (nmS x) ++ sbZs r := by simp [sbZs]
   rw [this,List.map_append,ih]; rfl
def prH (hp:List HObj) : List S → List HObj
 | [] => hp
 | x :: r => hp ++ List.replicate r.length .dead ++ [.cells 0 (sbZs (x :: r))]
def prV (n:Nat) : List S → AV
 | [] => .list [] .nil
 | x :: r => .sref (n + r.length) 0 (r.length + 1) 6
theorem prH_len (hp:List HObj) (x:S) (r:List S) : (prH hp (x :: r)).length = hp.length + r.length + 1 := by simp [prH]; omega
theorem prH_get (hp:List HObj) (x:S) (r:List S) : (prH hp (x :: r))[hp.length + r.length]? = some (.cells 0 (sbZs (x :: r))) := by
 unfold prH
 rw [List.getElem?_append_right (by simp)]
 simp
theorem prH_cons (hp:List HObj) (x:S) (r:List S) : prH hp (x :: r) = hp ++ List.replicate r.length .dead ++ [.cells 0 (sbZs (x :: r))] := rfl
theorem prH_set (hp:List HObj) (x y:S) (r:List S) : (prH hp (x :: r)).set (hp.length + r.length) .dead ++ [.cells 0 (sbZs (x :: r) ++ sbZ (nmS y))] = prH hp (x :: (r ++ [y])) := by
 rw [prH_cons,prH_cons,List.set_append_right _ _ (by simp)]
 have : (hp.length + r.length - (hp ++ List.replicate r.length HObj.dead).length) = 0 := by simp
 rw [this,← List.cons_append,sbZs_app]
 simp [List.replicate_succ']
theorem prV_cons (n:Nat) (x:S) (r:List S) : prV n (x :: r) = .sref (n + r.length) 0 (r.length + 1) 6 := rfl
noncomputable def evB (lo:Nat) (st:St) : Option (Ex × St) := evalC G0 (callD G0 IP) (loopD G0 IP lo) lo l_pt_pairs_0 st
section
variable {lo:Nat} (L TL:List AV) (o to:Own) (j:Nat) (H:List HObj)
theorem pairs_bad (V:AV) (hV:V = .list [] .nil ∨ ∃ id n,V = .sref id 0 n 6) (x:S) (hj:j < L.length) (hx:L[j] = x.av) (hf:x.fit) (hb:pairB x = false) :
   evB lo ⟨[(5,V),(6,.list TL to),(13,.list L o),(14,.int .i64 L.length),(15,.int .i64 j)],H⟩ = some (.ret,⟨[(2,.list [] .nil),(3,.list [] .nil),(4,.bool false)],H⟩) := by
 have hI : (j:Int) < (L.length : Int) := by omega
 by_cases ha : x.atom = []
 · by_cases hx2 : x.list.length = 2
   · match hxl : x.list,hx2 with
     | [a,b],_ =>
       have hab : a.atom = [] := by simpa [pairB,hxl] using hb
       rcases hV with rfl | ⟨id,n,rfl⟩
       · simp [evB,l_pt_pairs_0,hj,hI,hx,S.av_eq x,ha,hxl,S.avs,S.av_eq a,S.av_eq b,hab]
       · simp [evB,l_pt_pairs_0,hj,hI,hx,S.av_eq x,ha,hxl,S.avs,S.av_eq a,S.av_eq b,hab]
   · have hx3 : ¬ (x.list.length : Int) = 2 := by omega
     rcases hV with rfl | ⟨id,n,rfl⟩
     · simp [evB,l_pt_pairs_0,hj,hI,hx,S.av_eq x,ha,hx3]
     · simp [evB,l_pt_pairs_0,hj,hI,hx,S.av_eq x,ha,hx3]
 · have ha2 : x.atom.isEmpty = false := by simpa using ha
   rcases hV with rfl | ⟨id,n,rfl⟩
   · simp [evB,l_pt_pairs_0,hj,hI,hx,S.av_eq x,ha,ha2]
   · simp [evB,l_pt_pairs_0,hj,hI,hx,S.av_eq x,ha,ha2]
theorem pairs_nil (hto:to = .nil ∨ to = .own 2 0) (hsz:okSize 2 TL = true) (x a b:S) (hj:j < L.length) (hx:L[j] = x.av) (hL:L.length ≤ 65536) (hTL:TL.length ≤ 65536) (ha:x.atom = []) (hxl:x.list = [a,b]) (hab:¬ a.atom = []) :
   evB lo ⟨[(5,.list [] .nil),(6,.list TL to),(13,.list L o),(14,.int .i64 L.length),(15,.int .i64 j)],H⟩ =
     some (.normal,⟨[(5,.sref H.length 0 1 6),(6,.list (TL ++ [b.av]) (.own 2 0)),(13,.list L o),(14,.int .i64 L.length),(15,.int .i64 ((j:Int) + 1))],H ++ [.cells 0 (sbZ a.atom)]⟩) := by
 have hI : (j:Int) < (L.length : Int) := by omega
 have hw : IntKind.wrap .i64 ((j:Int) + 1) = (j:Int) + 1 := wrap_small (by omega) (by omega)
 have hb1 : (TL.length + 1) * 40 ≤ 140737488355328 := by omega
 have hb2 : TL.length + 1 ≤ 9223372036854775807 := by omega
 simp [evB,l_pt_pairs_0,hj,hI,hx,S.av_eq x,ha,hxl,S.avs,S.av_eq a,S.av_eq b,hab,hw,hb1,hb2,hto,hsz]
theorem pairs_more (hto:to = .nil ∨ to = .own 2 0) (hsz:okSize 2 TL = true) (x a b:S) (hj:j < L.length) (hx:L[j] = x.av) (hL:L.length ≤ 65536) (hTL:TL.length ≤ 65536) (ha:x.atom = []) (hxl:x.list = [a,b]) (hab:¬ a.atom = [])
   (id n:Nat) (C:List AV) (hg:H[id]? = some (.cells 0 C)) (hn:n ≤ 65536) (hid:lo ≤ id) (hc:n * 6 ≤ C.length) (htk:C.take (n * 6) = C) (hcp:C.map AV.cp1 = C) :
   evB lo ⟨[(5,.sref id 0 n 6),(6,.list TL to),(13,.list L o),(14,.int .i64 L.length),(15,.int .i64 j)],H⟩ =
     some (.normal,⟨[(5,.sref H.length 0 (n + 1) 6),(6,.list (TL ++ [b.av]) (.own 2 0)),(13,.list L o),(14,.int .i64 L.length),(15,.int .i64 ((j:Int) + 1))],H.set id .dead ++ [.cells 0 (C ++ sbZ a.atom)]⟩) := by
 have hI : (j:Int) < (L.length : Int) := by omega
 have hw : IntKind.wrap .i64 ((j:Int) + 1) = (j:Int) + 1 := wrap_small (by omega) (by omega)
 have hb1 : (TL.length + 1) * 40 ≤ 140737488355328 := by omega
 have hb2 : TL.length + 1 ≤ 9223372036854775807 := by omega
 have hb3 : (n + 1) * 80 ≤ 140737488355328 := by omega
 have hb4 : n + 1 ≤ 9223372036854775807 := by omega
 simp [evB,l_pt_pairs_0,hj,hI,hx,S.av_eq x,ha,hxl,S.avs,S.av_eq a,S.av_eq b,hab,hw,hb1,hb2,hto,hsz,hg,hid,hc,htk,hcp,hb3,hb4]
end
def outPairs (hp:List HObj) (L p r:List S) (o:Own) (st:Ex × St) : Prop :=
 if r.all pairB = true then st = (.exit 0,⟨[(5,prV hp.length (p ++ r)),(6,.list (S.avs ((p ++ r).map trS)) (ownA ((p ++ r).map trS))),(13,.list (S.avs L) o),(14,.int .i64 L.length),(15,.int .i64 L.length),(16,.bool false)],prH hp (p ++ r)⟩)
 else ∃ hp',st = (.ret,⟨[(2,.list [] .nil),(3,.list [] .nil),(4,.bool false)],hp'⟩)
section
variable {hp:List HObj} {lo:Nat}
theorem prV_or (n:Nat) (l:List S) : prV n l = .list [] .nil ∨ ∃ id k,prV n l = .sref id 0 k 6 := by
 cases l with
 | nil => exact .inl rfl
 | cons x r => exact .inr ⟨_,_,rfl⟩
theorem pairs_L (L:List S) (o:Own) (hL:L.length ≤ 65536) (hlo:lo ≤ hp.length) : ∀ (r p:List S),L = p ++ r → (∀ x,x ∈ r → x.fit) →
   ∃ st,loopD G0 IP lo l_pt_pairs_0 ⟨[(5,prV hp.length p),(6,.list (S.avs (p.map trS)) (ownA (p.map trS))),(13,.list (S.avs L) o),(14,.int .i64 L.length),(15,.int .i64 p.length)],prH hp p⟩ = some st ∧ outPairs hp L p r o st
 | [],p,h,_ => by
   simp at h
   subst h
   refine ⟨(.exit 0,⟨[(5,prV hp.length L),(6,.list (S.avs (L.map trS)) (ownA (L.map trS))),(13,.list (S.avs L) o),(14,.int .i64 L.length),(15,.int .i64 L.length),(16,.bool false)],prH hp L⟩),?_,?_⟩
   · rw [loopD_eq,loopBody]
     cases L with
     | nil => simp [l_pt_pairs_0,prV]
     | cons y p' => simp [l_pt_pairs_0,prV_cons]
   · rw [outPairs,if_pos (by rfl)]; simp
 | x :: r,p,h,hx => by
   have xf := hx x (by simp)
   have hlen : L.length = p.length + (r.length + 1) := by rw [h]; simp
   have hj : p.length < (S.avs L).length := by simp; omega
   have h2 : (S.avs L)[p.length] = x.av := by simp [h]
   have hL2 : (S.avs L).length ≤ 65536 := by simpa using hL
   rw [loopD_eq,loopBody]
   cases hb : pairB x with
   | false =>
     have e1 := pairs_bad (lo := lo) (S.avs L) (S.avs (p.map trS)) o (ownA (p.map trS)) p.length (prH hp p) (prV hp.length p) (prV_or _ _) x hj h2 xf hb
     rw [S.avs_len,evB] at e1
     refine ⟨(.ret,⟨[(2,.list [] .nil),(3,.list [] .nil),(4,.bool false)],prH hp p⟩),?_,?_⟩
     · rw [e1]
     · rw [outPairs,if_neg (by simp [hb])]; exact ⟨_,rfl⟩
   | true =>
     obtain ⟨a,b,hxl⟩ := pairB_two hb
     have ha : x.atom = [] := by
       by_cases ha : x.atom = []
       · exact ha
       · have := ((S.fit_eq x).1 xf).2.2.1 ha; rw [hxl] at this; cases this
     have hab : ¬ a.atom = [] := by simpa [pairB,hxl] using hb
     have hn : nmS x = a.atom := by unfold nmS; rw [hxl]; rfl
     have ht : trS x = b := by unfold trS; rw [hxl]; rfl
     obtain ⟨st,hs1,hs2⟩ := pairs_L L o hL hlo r (p ++ [x]) (by rw [h]; simp) (fun y hy => hx y (by simp [hy]))
     refine ⟨st,?_,?_⟩
     rotate_left
     · unfold outPairs at hs2 ⊢
       simp only [List.append_assoc,List.singleton_append] at hs2
       rw [List.all_cons,hb,Bool.true_and]
       exact hs2
     simp only [List.map_append,List.map_cons,List.map_nil,S.avs_app,ownA_app,ht,show S.avs [b] = [b.av] from rfl,List.length_append,List.length_cons,List.length_nil,Nat.zero_add,Int.natCast_add,Int.natCast_one] at hs1
     cases p with
     | nil =>
       have e1 := pairs_nil (lo := lo) (S.avs L) [] o .nil 0 hp (.inl rfl) rfl x a b hj h2 hL2 (by simp) ha hxl hab
       rw [S.avs_len,evB] at e1
       simp only [List.map_nil,S.avs_nil,prH,prV,List.length_nil,show ownA [] = .nil from rfl] at hs1 ⊢
       rw [e1]
       simp only [List.nil_append,prH,prV,List.length_nil,Nat.add_zero,sbZs,hn,List.map_cons,List.map_nil,List.flatten_cons,List.flatten_nil,List.append_nil,List.replicate_zero,Nat.zero_add,S.avs_nil] at hs1
       exact hs1
     | cons y p' =>
       have e1 := pairs_more (lo := lo) (S.avs L) (S.avs ((y :: p').map trS)) o (ownA ((y :: p').map trS)) (y :: p').length (prH hp (y :: p')) (ownA_ok _) (by simp) x a b hj h2 hL2 (by simp at hlen ⊢; omega) ha hxl hab
         (hp.length + p'.length) (p'.length + 1) (sbZs (y :: p')) (prH_get hp y p') (by simp at hlen; omega) (by omega) (by rw [sbZs_len]; simp) (sbZs_take (y :: p')) (sbZs_cp _)
       have hset := prH_set hp y x p'
       rw [hn] at hset
       rw [S.avs_len,evB,hset,prH_len] at e1
       rw [prV_cons,e1]
       simp only [List.cons_append,prV_cons,List.length_append,List.length_cons,List.length_nil,Nat.zero_add,List.map_cons] at hs1 ⊢
       exact hs1
theorem pairs_D (e:S) (he:e.fit) (hp:List HObj) (lo:Nat) (hlo:lo ≤ hp.length) : ∃ hp',callD G0 IP n_pt_pairs [e.av] hp lo false =
   some (.ret (if namedB e = true then .tup [prV hp.length e.list,.list (S.avs (e.list.map trS)) (ownA (e.list.map trS)),.bool true] else .tup [.list [] .nil,.list [] .nil,.bool false]) hp') ∧ (namedB e = true → hp' = prH hp e.list) := by
 have hf := (S.fit_eq e).1 he
 rw [callD_eq,S.av_eq]
 by_cases ha : e.atom = []
 · obtain ⟨st,hs1,hs2⟩ := pairs_L (hp := hp) (lo := lo) e.list (ownB e.o) hf.2.1 hlo e.list [] rfl hf.2.2.2
   simp only [List.map_nil,S.avs_nil,prH,prV,List.length_nil,show ownA [] = .nil from rfl,Int.natCast_zero] at hs1
   unfold outPairs at hs2
   by_cases hb : e.list.all pairB = true
   · rw [if_pos hb] at hs2
     subst hs2
     have hn : namedB e = true := by simp only [namedB,hb,ha]; rfl
     refine ⟨prH hp e.list,?_,fun _ => rfl⟩
     rw [if_pos hn]
     simp only [List.nil_append] at hs1
     cases hl : e.list with
     | nil => rw [hl] at hs1; simp [IP_pt_pairs,i_pt_pairs,ha,hl,prV,prH] at hs1 ⊢; simp [hs1]
     | cons y r =>
       rw [hl] at hs1
       rw [← S.avs_len (y :: r)] at hs1
       simp only [prV_cons] at hs1 ⊢
       generalize prH hp (y :: r) = H at *
       generalize hp.length + r.length = id at *
       generalize r.length + 1 = n at *
       generalize S.avs ((y :: r).map trS) = X at *
       generalize (ownA ((y :: r).map trS)) = ox at *
       generalize S.avs (y :: r) = Y at *
       simp [IP_pt_pairs,i_pt_pairs,ha,hl,hs1]
   · rw [if_neg hb] at hs2
     obtain ⟨hp',rfl⟩ := hs2
     have hn : ¬ namedB e = true := by simp only [namedB]; intro h; simp only [Bool.and_eq_true] at h; exact hb h.1
     refine ⟨hp',?_,fun h => absurd h hn⟩
     rw [if_neg hn]
     simp [IP_pt_pairs,i_pt_pairs,ha,hs1]
 · have ha2 : e.atom.isEmpty = false := by simpa using ha
   have hn : ¬ namedB e = true := by simp only [namedB]; intro h; simp only [Bool.and_eq_true] at h; simp [ha,ha2] at h
   refine ⟨hp,?_,fun h => absurd h hn⟩
   rw [if_neg hn]
   simp [IP_pt_pairs,i_pt_pairs,ha,ha2]
end
end Go.Proofs.YtkofimhnehkdoaaGreatDoor.Rf
end
section
namespace Go.Proofs.YtkofimhnehkdoaaGreatDoor.Rf
abbrev cellsT (k:Int) (acc:List Int) : List AV := [.int .i64 k,.list (i64s acc) (ownN acc),.int .i64 0,.list [] .nil,
 .int .i64 0,.int .i64 0,.int .u64 0,.str [],.list [] .nil,.int .i64 0,.int .i64 0,.int .u64 0,.str [],.list [] .nil]
abbrev cellsP (k:Int) (acc:List Int) (ru:Int) (v:AV) : List AV := [.int .i64 k,.list (i64s acc) (ownB acc.isEmpty),.int .i64 ru,v,
 .int .i64 0,.int .i64 0,.int .u64 0,.str [],.list [] .nil,.int .i64 0,.int .i64 0,.int .u64 0,.str [],.list [] .nil]
abbrev cellsF (k:Int) (acc:List Int) (ru:Int) : List AV := cellsP k acc ru (.list [] .nil)
def outTr (B L:List AV) (o:Own) (hp:List HObj) (k:Int) (acc:List Int) : Option (List Int) → Ex × St → Prop
 | none,st => ∃ a,st = (.ret,⟨[(2,.box (cellsF k a 0)),(3,.list [] .nil),(4,.bool false)],hp⟩)
 | some l,st => st = (.exit 0,⟨[(1,.box B),(2,boxZ14),(5,.box (cellsT k (acc ++ l))),(47,.list L o),(48,.int .i64 L.length),(49,.int .i64 L.length),(50,.bool false)],hp⟩)
section
variable {hp:List HObj} {lo:Nat}
set_option maxHeartbeats 1000000 in
theorem stepT_L (B:List AV) (L:List S) (o:Own) (hL:L.length ≤ 65536) (hp:List HObj) (lo:Nat) (k:Int) : ∀ (r p:List S) (acc:List Int),L = p ++ r → acc.length ≤ p.length → (∀ x,x ∈ r → x.fit) →
   ∃ st,loopD G0 IP lo l_pt_step_0 ⟨[(1,.box B),(2,boxZ14),(5,.box (cellsT k acc)),(47,.list (S.avs L) o),(48,.int .i64 L.length),(49,.int .i64 p.length)],hp⟩ = some st ∧ outTr B (S.avs L) o hp k acc (refsS r) st
 | [],p,acc,h,ha,_ => by
   simp at h
   subst h
   refine ⟨(.exit 0,⟨[(1,.box B),(2,boxZ14),(5,.box (cellsT k acc)),(47,.list (S.avs L) o),(48,.int .i64 (S.avs L).length),(49,.int .i64 (S.avs L).length),(50,.bool false)],hp⟩),?_,?_⟩
   · rw [loopD_eq,loopBody]
     simp [l_pt_step_0]
   · simp [refsS,outTr]
 | x :: r,p,acc,h,ha,hx => by
   rw [loopD_eq,loopBody]
   have xf := hx x (by simp)
   have hlen : L.length = p.length + (r.length + 1) := by rw [h]; simp
   have h1 : (p.length : Int) < (L.length : Int) := by omega
   have hl : p.length < L.length := by omega
   have h2 : L[p.length] = x := by simp [h]
   have hw : IntKind.wrap .i64 ((p.length : Int) + 1) = (p.length : Int) + 1 := wrap_small (by omega) (by omega)
   have hxf := (S.fit_eq x).1 xf
   have e1 := fun (l:List AV) (oo:Own) (hp:List HObj) (lo:Nat) (q:Bool) => integer_D x.atom (by omega) l oo hp lo q
   have hb1 : (acc.length + 1) * 8 ≤ 140737488355328 := by omega
   have hb2 : acc.length + 1 ≤ 9223372036854775807 := by omega
   rw [refsS]
   by_cases hz : (intE x.atom).2 = 0
   · obtain ⟨st,hs1,hs2⟩ := stepT_L B L o hL hp lo k r (p ++ [x]) (acc ++ [(intE x.atom).1]) (by rw [h]; simp) (by simp; omega) (fun y hy => hx y (by simp [hy]))
     refine ⟨st,?_,?_⟩
     · simp only [List.length_append,List.length_cons,List.length_nil,Nat.zero_add,Int.natCast_add,Int.natCast_one] at hs1
       unfold cellsT at hs1
       rw [i64s_app,i64s_one,ownN_app] at hs1
       simp [l_pt_step_0,hl,h1,h2,S.av_eq x,e1,hz,hw,hb1,hb2,ownN_ok]
       exact hs1
     · rw [if_pos hz]
       cases hr : refsS r with
       | none => rw [hr] at hs2; simpa [outTr] using hs2
       | some l => rw [hr] at hs2; simpa [outTr] using hs2
   · rw [if_neg hz]
     refine ⟨(.ret,⟨[(2,.box (cellsF k acc 0)),(3,.list [] .nil),(4,.bool false)],hp⟩),?_,?_⟩
     · simp [l_pt_step_0,hl,h1,h2,S.av_eq x,e1,hz]
     · exact ⟨acc,rfl⟩
end
end Go.Proofs.YtkofimhnehkdoaaGreatDoor.Rf
end
section
namespace Go.Proofs.YtkofimhnehkdoaaGreatDoor.Rf
theorem S.mk_av (a:List UInt8) (o:Bool) (l:List S) : (S.mk a o l).av = .agg [.str a,.list (S.avs l) (ownB o)] := rfl
theorem ownB_true : ownB true = .nil := rfl
def badT (c:Option COut) : Prop := ∃ k a ru hp',c = some (.ret (.tup [.agg (cellsF k a ru),.list [] .nil,.bool false]) hp')
section
variable {hp:List HObj} {lo:Nat}
theorem stepT_bad1 (e:S) (he:e.fit) (hb:e.atom ≠ [] ∨ e.list.length < 2) (hp:List HObj) (lo:Nat) : badT (callD G0 IP n_pt_step [e.av] hp lo false) := by
 have hf := (S.fit_eq e).1 he
 rw [callD_eq,S.av_eq]
 by_cases ha : e.atom = []
 · have hl : e.list.length < 2 := by
     rcases hb with h | h
     · exact absurd ha h
     · exact h
   have hI : (e.list.length : Int) < 2 := by omega
   exact ⟨0,[],0,hp,by simp [IP_pt_step,i_pt_step,ha,hI,ownN,ownB_true]⟩
 · have ha2 : e.atom.isEmpty = false := by simpa using ha
   exact ⟨0,[],0,hp,by simp [IP_pt_step,i_pt_step,ha,ha2,ownN,ownB_true]⟩
theorem stepT_bad2 (x y:S) (r:List S) (o:Bool) (hb:y.atom ≠ []) (hp:List HObj) (lo:Nat) : badT (callD G0 IP n_pt_step [(S.mk [] o (x :: y :: r)).av] hp lo false) := by
 rw [callD_eq,S.mk_av]
 have g2 : ¬ (r.length : Int) + 1 + 1 < 2 := by omega
 have g4 : (1:Int) < (r.length : Int) + 1 + 1 := by omega
 have ha2 : y.atom.isEmpty = false := by simpa using hb
 exact ⟨0,[],0,hp,by simp [IP_pt_step,i_pt_step,S.avs,S.av_eq x,S.av_eq y,g2,g4,hb,ha2,ownN,ownB_true]⟩
theorem stepT_bad3 (x y:S) (r:List S) (o:Bool) (hy:y.atom = []) (hk:kindOf x.atom = 0) (hp:List HObj) (lo:Nat) : badT (callD G0 IP n_pt_step [(S.mk [] o (x :: y :: r)).av] hp lo false) := by
 rw [callD_eq,S.mk_av]
 have g2 : ¬ (r.length : Int) + 1 + 1 < 2 := by omega
 have g3 : (0:Int) < (r.length : Int) + 1 + 1 := by omega
 have g4 : (1:Int) < (r.length : Int) + 1 + 1 := by omega
 have e1 := fun (hp:List HObj) (lo:Nat) (q:Bool) => kindT_D x.atom hp lo q
 rw [hk] at e1
 exact ⟨0,[],0,hp,by simp [IP_pt_step,i_pt_step,S.avs,S.av_eq x,S.av_eq y,g2,g3,g4,hy,e1,ownN,ownB_true]⟩
theorem stepT_bad4 (x y:S) (r:List S) (o:Bool) (hy:y.atom = []) (hyf:y.fit) (hk:kindOf x.atom ≠ 0) (hr:refsS y.list = none) (hp:List HObj) (lo:Nat) : badT (callD G0 IP n_pt_step [(S.mk [] o (x :: y :: r)).av] hp lo false) := by
 rw [callD_eq,S.mk_av]
 have g2 : ¬ (r.length : Int) + 1 + 1 < 2 := by omega
 have g3 : (0:Int) < (r.length : Int) + 1 + 1 := by omega
 have g4 : (1:Int) < (r.length : Int) + 1 + 1 := by omega
 have e1 := fun (hp:List HObj) (lo:Nat) (q:Bool) => kindT_D x.atom hp lo q
 have hf := (S.fit_eq y).1 hyf
 generalize kindOf x.atom = k at *
 have hloop := fun (B:List AV) (hp:List HObj) (lo:Nat) => stepT_L B y.list (ownB y.o) hf.2.1 hp lo k y.list [] [] rfl (by simp) hf.2.2.2
 simp only [cellsT,hr,outTr,i64s_nil,show ownN [] = .nil from rfl,List.length_nil,Int.natCast_zero] at hloop
 obtain ⟨st,hs1,a,rfl⟩ := hloop [.str [],.list (x.av :: y.av :: S.avs r) (ownB o)] hp lo
 rw [S.av_eq x,S.av_eq y,hy] at hs1
 exact ⟨k,a,0,hp,by simp [IP_pt_step,i_pt_step,S.avs,S.av_eq x,S.av_eq y,g2,g3,g4,hy,e1,hk,hs1]⟩
end
end Go.Proofs.YtkofimhnehkdoaaGreatDoor.Rf
end
section
namespace Go.Proofs.YtkofimhnehkdoaaGreatDoor.Rf
section
variable {hp:List HObj} {lo:Nat}
theorem refsL_some {y:S} (hyf:y.fit) {rl:List Int} (hr:refsS y.list = some rl) (k:Int) (B:List AV) (hp:List HObj) (lo:Nat) :
   loopD G0 IP lo l_pt_step_0 ⟨[(1,.box B),(2,boxZ14),(5,.box (cellsT k [])),(47,.list (S.avs y.list) (ownB y.o)),(48,.int .i64 y.list.length),(49,.int .i64 0)],hp⟩ =
     some (.exit 0,⟨[(1,.box B),(2,boxZ14),(5,.box (cellsT k rl)),(47,.list (S.avs y.list) (ownB y.o)),(48,.int .i64 y.list.length),(49,.int .i64 y.list.length),(50,.bool false)],hp⟩) := by
 have hf := (S.fit_eq y).1 hyf
 have hloop := stepT_L B y.list (ownB y.o) hf.2.1 hp lo k y.list [] [] rfl (by simp) hf.2.2.2
 simp only [hr,outTr,List.length_nil,Int.natCast_zero,List.nil_append,S.avs_len] at hloop
 obtain ⟨st,hs1,rfl⟩ := hloop
 exact hs1
set_option maxHeartbeats 4000000 in
theorem stepT_bad5 (x y:S) (r:List S) (o:Bool) (hr9:r.length ≤ 65536) (hy:y.atom = []) (hyf:y.fit) (hk:kindOf x.atom ≠ 0) {rl:List Int} (hr:refsS y.list = some rl) (hl:¬ (r.length : Int) + 1 + 1 = partsE (kindOf x.atom)) (hp:List HObj) (lo:Nat) : badT (callD G0 IP n_pt_step [(S.mk [] o (x :: y :: r)).av] hp lo false) := by
 rw [callD_eq,S.mk_av]
 have g2 : ¬ (r.length : Int) + 1 + 1 < 2 := by omega
 have g3 : (0:Int) < (r.length : Int) + 1 + 1 := by omega
 have g4 : (1:Int) < (r.length : Int) + 1 + 1 := by omega
 have g5 : (2:Int) ≤ (r.length : Int) + 1 + 1 := by omega
 have e1 := fun (hp:List HObj) (lo:Nat) (q:Bool) => kindT_D x.atom hp lo q
 have hb := kindOf_bd x.atom
 generalize kindOf x.atom = k at *
 have hloop := fun (B:List AV) (hp:List HObj) (lo:Nat) => refsL_some hyf hr k B hp lo
 simp only [cellsT,i64s_nil,show ownN [] = .nil from rfl] at hloop
 refine ⟨k,rl,0,hp,?_⟩
 by_cases h2 : k = 5 ∨ k = 4
 · have c2 : ¬ (r.length : Int) = 2 := by unfold partsE at hl; rw [if_pos h2] at hl; omega
   rcases h2 with rfl | rfl
   all_goals simp [IP_pt_step,i_pt_step,S.avs,S.av_eq x,S.av_eq y,g2,g3,g4,g5,hy,e1,hloop,c2]
 · by_cases h1 : k = 12 ∨ k = 1 ∨ k = 6 ∨ k = 7 ∨ k = 8
   · have c1 : ¬ (r.length : Int) = 1 := by unfold partsE at hl; rw [if_neg h2,if_pos h1] at hl; omega
     rcases h1 with rfl | rfl | rfl | rfl | rfl
     all_goals simp [IP_pt_step,i_pt_step,S.avs,S.av_eq x,S.av_eq y,g2,g3,g4,g5,hy,e1,hloop,c1]
   · have c0 : ¬ (r.length : Int) = 0 := by unfold partsE at hl; rw [if_neg h2,if_neg h1] at hl; omega
     have c0' : ¬ r = [] := fun e => c0 (by rw [e]; rfl)
     have n5 : ¬ k = 5 := fun h => h2 (.inl h)
     have n4 : ¬ k = 4 := fun h => h2 (.inr h)
     have n12 : ¬ k = 12 := fun h => h1 (.inl h)
     have n1 : ¬ k = 1 := fun h => h1 (.inr (.inl h))
     have n6 : ¬ k = 6 := fun h => h1 (.inr (.inr (.inl h)))
     have n7 : ¬ k = 7 := fun h => h1 (.inr (.inr (.inr (.inl h))))
     have n8 : ¬ k = 8 := fun h => h1 (.inr (.inr (.inr (.inr h))))
     simp [IP_pt_step,i_pt_step,S.avs,S.av_eq x,S.av_eq y,g2,g3,g4,g5,hy,e1,hloop,c0,c0',hk,n5,n4,n12,n1,n6,n7,n8]
set_option maxHeartbeats 4000000 in
theorem stepT_else (x y:S) (r:List S) (o:Bool) (hr9:r.length ≤ 65536) (hy:y.atom = []) (hyf:y.fit) (hk:kindOf x.atom ≠ 0) {rl:List Int} (hr:refsS y.list = some rl) (hl:(r.length : Int) + 1 + 1 = partsE (kindOf x.atom)) (h5:kindOf x.atom ≠ 5) (h12:kindOf x.atom ≠ 12) (hp:List HObj) (lo:Nat) :
   callD G0 IP n_pt_step [(S.mk [] o (x :: y :: r)).av] hp lo false = some (.ret (.tup [.agg (cellsF (kindOf x.atom) rl 0),.list (S.avs r) .no,.bool true]) hp) := by
 rw [callD_eq,S.mk_av]
 have g2 : ¬ (r.length : Int) + 1 + 1 < 2 := by omega
 have g3 : (0:Int) < (r.length : Int) + 1 + 1 := by omega
 have g4 : (1:Int) < (r.length : Int) + 1 + 1 := by omega
 have g5 : (2:Int) ≤ (r.length : Int) + 1 + 1 := by omega
 have hT : List.take r.length (S.avs r) = S.avs r := List.take_of_length_le (by simp)
 have e1 := fun (hp:List HObj) (lo:Nat) (q:Bool) => kindT_D x.atom hp lo q
 generalize kindOf x.atom = k at *
 have hloop := fun (B:List AV) (hp:List HObj) (lo:Nat) => refsL_some hyf hr k B hp lo
 simp only [cellsT,i64s_nil,show ownN [] = .nil from rfl] at hloop
 by_cases h2 : k = 4
 · have c2 : (r.length : Int) = 2 := by unfold partsE at hl; rw [if_pos (.inr h2)] at hl; omega
   subst h2
   simp [IP_pt_step,i_pt_step,S.avs,S.av_eq x,S.av_eq y,g2,g3,g4,g5,hy,e1,hloop,c2,hT]
 · by_cases h1 : k = 1 ∨ k = 6 ∨ k = 7 ∨ k = 8
   · have c1 : (r.length : Int) = 1 := by unfold partsE at hl; rw [if_neg (by omega),if_pos (by omega)] at hl; omega
     rcases h1 with rfl | rfl | rfl | rfl
     all_goals simp [IP_pt_step,i_pt_step,S.avs,S.av_eq x,S.av_eq y,g2,g3,g4,g5,hy,e1,hloop,c1,hT]
   · have c0 : (r.length : Int) = 0 := by unfold partsE at hl; rw [if_neg (by omega),if_neg (by omega)] at hl; omega
     have c0' : r = [] := List.length_eq_zero_iff.1 (by omega)
     subst c0'
     have n1 : ¬ k = 1 := fun h => h1 (.inl h)
     have n6 : ¬ k = 6 := fun h => h1 (.inr (.inl h))
     have n7 : ¬ k = 7 := fun h => h1 (.inr (.inr (.inl h)))
     have n8 : ¬ k = 8 := fun h => h1 (.inr (.inr (.inr h)))
     simp [IP_pt_step,i_pt_step,S.avs,S.av_eq x,S.av_eq y,hy,e1,hloop,hk,h5,h2,h12,n1,n6,n7,n8]
end
end Go.Proofs.YtkofimhnehkdoaaGreatDoor.Rf
end
section
namespace Go.Proofs.YtkofimhnehkdoaaGreatDoor.Rf
section
variable {hp:List HObj} {lo:Nat}
set_option maxHeartbeats 4000000 in
theorem stepT_12 (x y z:S) (o:Bool) (hy:y.atom = []) (hyf:y.fit) (hzf:z.fit) (hk:kindOf x.atom = 12) {rl:List Int} (hr:refsS y.list = some rl) (hp:List HObj) (lo:Nat) :
   callD G0 IP n_pt_step [(S.mk [] o [x,y,z]).av] hp lo false = some (.ret (.tup [.agg (cellsF 12 rl (intE z.atom).1),.list [] .nil,.bool (decide ((intE z.atom).2 = 0))]) hp) := by
 rw [callD_eq,S.mk_av]
 have e1 := fun (hp:List HObj) (lo:Nat) (q:Bool) => kindT_D x.atom hp lo q
 rw [hk] at e1
 have hf := (S.fit_eq z).1 hzf
 have e2 := fun (l:List AV) (oo:Own) (hp:List HObj) (lo:Nat) (q:Bool) => integer_D z.atom (by omega) l oo hp lo q
 have hloop := fun (B:List AV) (hp:List HObj) (lo:Nat) => refsL_some hyf hr 12 B hp lo
 simp only [cellsT,i64s_nil,show ownN [] = .nil from rfl] at hloop
 simp [IP_pt_step,i_pt_step,S.avs,S.av_eq x,S.av_eq y,S.av_eq z,hy,e1,hloop,e2]
set_option maxHeartbeats 4000000 in
theorem stepT_5bad (x y z w:S) (o:Bool) (hy:y.atom = []) (hyf:y.fit) (hzf:z.fit) (hwf:w.fit) (hk:kindOf x.atom = 5) {rl:List Int} (hr:refsS y.list = some rl) (hb:¬ (intE z.atom).2 = 0 ∨ namedB w = false) (hp:List HObj) (lo:Nat) (hlo:lo ≤ hp.length) :
   badT (callD G0 IP n_pt_step [(S.mk [] o [x,y,z,w]).av] hp lo false) := by
 rw [callD_eq,S.mk_av]
 have e1 := fun (hp:List HObj) (lo:Nat) (q:Bool) => kindT_D x.atom hp lo q
 rw [hk] at e1
 have hf := (S.fit_eq z).1 hzf
 have e2 := fun (l:List AV) (oo:Own) (hp:List HObj) (lo:Nat) (q:Bool) => integer_D z.atom (by omega) l oo hp lo q
 have hloop := fun (B:List AV) (hp:List HObj) (lo:Nat) => refsL_some hyf hr 5 B hp lo
 simp only [cellsT,i64s_nil,show ownN [] = .nil from rfl] at hloop
 by_cases hz : (intE z.atom).2 = 0
 · have hn : namedB w = false := by
     rcases hb with h | h
     · exact absurd hz h
     · exact h
   obtain ⟨hp',hp1,_⟩ := pairs_D w hwf hp lo hlo
   rw [hn,S.av_eq] at hp1
   simp only [Bool.false_eq_true,if_false] at hp1
   exact ⟨5,rl,(intE z.atom).1,hp',by simp [IP_pt_step,i_pt_step,S.avs,S.av_eq x,S.av_eq y,S.av_eq z,S.av_eq w,hy,e1,hloop,e2,hz,hp1]⟩
 · exact ⟨5,rl,(intE z.atom).1,hp,by simp [IP_pt_step,i_pt_step,S.avs,S.av_eq x,S.av_eq y,S.av_eq z,S.av_eq w,hy,e1,hloop,e2,hz]⟩
set_option maxHeartbeats 4000000 in
theorem stepT_5 (x y z w:S) (o:Bool) (hy:y.atom = []) (hyf:y.fit) (hzf:z.fit) (hwf:w.fit) (hk:kindOf x.atom = 5) {rl:List Int} (hr:refsS y.list = some rl) (hz:(intE z.atom).2 = 0) (hn:namedB w = true) (hp:List HObj) (lo:Nat) (hlo:lo ≤ hp.length) :
   ∃ ow,callD G0 IP n_pt_step [(S.mk [] o [x,y,z,w]).av] hp lo false = some (.ret (.tup [.agg (cellsP 5 rl (intE z.atom).1 (prV hp.length w.list)),.list (S.avs (w.list.map trS)) ow,.bool true]) (prH hp w.list)) := by
 rw [callD_eq,S.mk_av]
 have e1 := fun (hp:List HObj) (lo:Nat) (q:Bool) => kindT_D x.atom hp lo q
 rw [hk] at e1
 have hf := (S.fit_eq z).1 hzf
 have e2 := fun (l:List AV) (oo:Own) (hp:List HObj) (lo:Nat) (q:Bool) => integer_D z.atom (by omega) l oo hp lo q
 have hloop := fun (B:List AV) (hp:List HObj) (lo:Nat) => refsL_some hyf hr 5 B hp lo
 simp only [cellsT,i64s_nil,show ownN [] = .nil from rfl] at hloop
 obtain ⟨hp',hp1,hp2⟩ := pairs_D w hwf hp lo hlo
 rw [hp2 hn,hn,S.av_eq] at hp1
 simp only [if_true] at hp1
 have hcl := fun n => S.avs_closed n (w.list.map trS)
 generalize hX : S.avs (w.list.map trS) = X at *
 generalize ownA (w.list.map trS) = ox at *
 cases hl : w.list with
 | nil =>
   rw [hl] at hp1
   simp only [prV,prH,S.avs_nil] at hp1 ⊢
   exact ⟨ox.cp,by simp [IP_pt_step,i_pt_step,S.avs,S.av_eq x,S.av_eq y,S.av_eq z,S.av_eq w,hy,e1,hloop,e2,hz,hl,hp1,hcl]⟩
 | cons u r =>
   rw [hl] at hp1
   simp only [prV_cons] at hp1 ⊢
   generalize hH : prH hp (u :: r) = H at *
   generalize hid : hp.length + r.length = id at *
   generalize r.length + 1 = n at *
   generalize hW : S.avs (u :: r) = W at *
   exact ⟨ox.cp,by simp [IP_pt_step,i_pt_step,S.avs,S.av_eq x,S.av_eq y,S.av_eq z,S.av_eq w,hy,e1,hloop,e2,hz,hl,hW,hp1,hcl]⟩
end
end Go.Proofs.YtkofimhnehkdoaaGreatDoor.Rf
end
section
namespace Go.Proofs.YtkofimhnehkdoaaGreatDoor.Rf
@[simp] theorem cp_data (xs:List AV) (e:Nat) : AV.cp (.data xs e) = .data xs e := rfl
abbrev bytesA (bs:List UInt8) : List AV := bs.map fun b => AV.int .u8 (b.toNat : Int)
def BW (hp:List HObj) (bs:List UInt8) : List HObj := hp ++ [.cells 110 [.ptr hp.length 0,.list (bytesA bs) (.own 1 5)]]
def B0 (hp:List HObj) : List HObj := hp ++ [.cells 110 [.nilp,.list [] .nil]]
section
variable {hp:List HObj} {lo:Nat}
@[simp] theorem BW_get (bs:List UInt8) : (BW hp bs)[hp.length]? = some (.cells 110 [.ptr hp.length 0,.list (bytesA bs) (.own 1 5)]) := by simp [BW]
@[simp] theorem B0_get : (B0 hp)[hp.length]? = some (.cells 110 [.nilp,.list [] .nil]) := by simp [B0]
@[simp] theorem okSize_bytes (bs:List UInt8) : okSize 1 (bytesA bs) = true := by cases bs <;> simp [bytesA]
end
mutual
def S.text : S → List UInt8
 | .mk a _ l => if a = [] then 40 :: (S.texts true l ++ [41]) else a
def S.texts : Bool → List S → List UInt8
 | _,[] => []
 | b,t :: r => (if b then [] else [32]) ++ (t.text ++ S.texts false r)
end
section
variable {hp:List HObj} {lo:Nat}
end
end Go.Proofs.YtkofimhnehkdoaaGreatDoor.Rf
end
section
namespace Go.Proofs.YtkofimhnehkdoaaGreatDoor.Rf
section
variable {hp:List HObj} {lo:Nat}
end
section
variable {lo:Nat}
end
end Go.Proofs.YtkofimhnehkdoaaGreatDoor.Rf
end
section
namespace Go.Proofs.YtkofimhnehkdoaaGreatDoor.Rf
def tokC (c:UInt8) : Bool := !blankC (c.toNat : Int) && !decide ((c.toNat : Int) = 59)
def Gp (g:List UInt8) : Prop := ∀ pre post,skipN (pre ++ (g ++ post)) pre.length = skipN (pre ++ (g ++ post)) (pre.length + g.length)
theorem Gp.nil : Gp [] := fun pre post => by simp
theorem Gp.app {a b:List UInt8} (ha:Gp a) (hb:Gp b) : Gp (a ++ b) := fun pre post => by
 have h1 := ha pre (b ++ post)
 have h2 := hb (pre ++ a) post
 simp only [List.append_assoc,List.length_append] at h1 h2 ⊢
 rw [h1,h2]; congr 1; omega
theorem plain_tok {c:UInt8} (h:plainC (c.toNat : Int) = true) : tokC c = true ∧ ¬ (c.toNat : Int) = 40 ∧ ¬ (c.toNat : Int) = 41 := by
 simp only [plainC,Bool.and_eq_true,decide_eq_true_eq,Bool.not_eq_true',decide_eq_false_iff_not] at h
 obtain ⟨h1,h2,h3,h4,h5⟩ := h
 refine ⟨?_,h3,h4⟩
 simp only [tokC,blankC,Bool.and_eq_true,Bool.not_eq_true',decide_eq_false_iff_not,Bool.or_eq_false_iff]
 exact ⟨⟨by omega,by omega,by omega,by omega⟩,h5⟩
mutual
inductive Enc : S → List UInt8 → Prop
 | atom {a:List UInt8} {o:Bool} : a ≠ [] → (∀ c,c ∈ a → plainC (c.toNat : Int) = true) → Enc (.mk a o []) a
 | list {o:Bool} {l:List S} {b:List UInt8} : EncL l b → Enc (.mk [] o l) (40 :: (b ++ [41]))
inductive EncL : List S → List UInt8 → Prop
 | nil {g:List UInt8} : Gp g → EncL [] g
 | cons {g e b:List UInt8} {t:S} {r:List S} : Gp g → Enc t e → EncL r b → (t.atom ≠ [] → ∀ c r,b = c :: r → plainC (c.toNat : Int) = false) → EncL (t :: r) (g ++ (e ++ b))
end
mutual
def S.depth : S → Nat
 | .mk a _ l => if a = [] then S.depths l + 1 else 1
def S.depths : List S → Nat
 | [] => 0
 | t :: r => max t.depth (S.depths r)
end
theorem Enc.head {t:S} {e:List UInt8} (h:Enc t e) : ∃ c r,e = c :: r ∧ tokC c = true ∧ ¬ (c.toNat : Int) = 41 := by
 cases h with
 | atom h1 h2 =>
   cases e with
   | nil => exact absurd rfl h1
   | cons c r => exact ⟨c,r,rfl,(plain_tok (h2 c (by simp))).1,(plain_tok (h2 c (by simp))).2.2⟩
 | list h1 => exact ⟨40,_,rfl,by decide,by decide⟩
end Go.Proofs.YtkofimhnehkdoaaGreatDoor.Rf
end
section
namespace Go.Proofs.YtkofimhnehkdoaaGreatDoor.Rf
def allPlain (a:List UInt8) : Bool := a.all fun c => plainC (c.toNat : Int)
mutual
def S.right : S → Bool
 | .mk a _ l => if a = [] then S.rights l else l.isEmpty && allPlain a
def S.rights : List S → Bool
 | [] => true
 | t :: r => t.right && S.rights r
end
mutual
def S.valid : S → Nat → Bool
 | .mk a _ l,d => decide (d < 64) && (if a = [] then S.valids l (d + 1) else allPlain a && l.isEmpty)
def S.valids : List S → Nat → Bool
 | [],_ => true
 | t :: r,d => t.valid d && S.valids r d
end
section
variable {hp:List HObj} {lo:Nat}
end
end Go.Proofs.YtkofimhnehkdoaaGreatDoor.Rf
end
section
namespace Go.Proofs.YtkofimhnehkdoaaGreatDoor.Rf
section
variable {hp:List HObj} {lo:Nat}
end
end Go.Proofs.YtkofimhnehkdoaaGreatDoor.Rf
end
section
namespace Go.Proofs.YtkofimhnehkdoaaGreatDoor.Rf
end Go.Proofs.YtkofimhnehkdoaaGreatDoor.Rf
end
