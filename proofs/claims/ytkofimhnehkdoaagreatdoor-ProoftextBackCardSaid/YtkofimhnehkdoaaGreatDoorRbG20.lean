/- A part of the proof: see the last text. -/
import Derived.Test.YtkofimhnehkdoaaGreatDoorRbG19
import Derived.Test.YtkofimhnehkdoaaGreatDoorRbG18
import Derived.Test.YtkofimhnehkdoaaGreatDoorRbG17
import Derived.Test.YtkofimhnehkdoaaGreatDoorRbG16
set_option linter.unusedVariables false
set_option linter.unusedSimpArgs false
section
namespace Go.Proofs.YtkofimhnehkdoaaGreatDoor.Rf
def numsN (op:Int) : Nat := if op = 21 then 2 else if op = 22 ∨ op = 23 then 1 else 0
def numR (s:List UInt8) (most:Int) : Int × Int := if (numE s).2 = 6 then (0,6) else if (numE s).2 ≠ 0 ∨ most < (numE s).1 then (0,2) else ((numE s).1,0)
def S.z : S := .mk [] true []
def numsR (op:Int) (l:List S) : Int × Int × Int :=
 if op = 21 then
   (if (numR (l.getD 1 S.z).atom 18446744073709551615).2 ≠ 0 then (0,0,(numR (l.getD 1 S.z).atom 18446744073709551615).2) else
    if (numR (l.getD 2 S.z).atom 64).2 ≠ 0 then (0,0,(numR (l.getD 2 S.z).atom 64).2) else
    ((numR (l.getD 1 S.z).atom 18446744073709551615).1,(numR (l.getD 2 S.z).atom 64).1,0))
 else if op = 22 ∨ op = 23 then
   (if (numR (l.getD 1 S.z).atom 64).2 ≠ 0 then (0,0,(numR (l.getD 1 S.z).atom 64).2) else (0,(numR (l.getD 1 S.z).atom 64).1,0))
 else (0,0,0)
inductive TRs where
 | ok (t:List T) | err (e:Int)
def TRs.cons (r:TR) (s:TRs) : TRs := match r with
 | .err e => .err e
 | .ok t => match s with
   | .err e => .err e
   | .ok ts => .ok (t :: ts)
def nodeR (op v w:Int) (s:TRs) : TR := match s with
 | .err e => .err e
 | .ok ts => if (widE op w v (ts.map T.width)).2 ≠ 0 then .err (widE op w v (ts.map T.width)).2 else .ok (.mk op (widE op w v (ts.map T.width)).1 v [] ts.isEmpty ts)
def headR (l:List S) : Bool := decide (l ≠ []) && ((ofE (l.getD 0 S.z).atom).2 && (!decide (arE (ofE (l.getD 0 S.z).atom).1 = 0) && decide ((l.length : Int) = 1 + numsN (ofE (l.getD 0 S.z).atom).1 + arE (ofE (l.getD 0 S.z).atom).1)))
mutual
def readS : S → TR
 | .mk a o l => if a ≠ [] then leafR a else
   if headR l = false then .err 6 else
   if (numsR (ofE (l.getD 0 S.z).atom).1 l).2.2 ≠ 0 then .err (numsR (ofE (l.getD 0 S.z).atom).1 l).2.2 else
   nodeR (ofE (l.getD 0 S.z).atom).1 (numsR (ofE (l.getD 0 S.z).atom).1 l).1 (numsR (ofE (l.getD 0 S.z).atom).1 l).2.1 (readsS l (1 + numsN (ofE (l.getD 0 S.z).atom).1))
def readsS : List S → Nat → TRs
 | [],_ => .ok []
 | x :: r,k + 1 => readsS r k
 | x :: r,0 => TRs.cons (readS x) (readsS r 0)
end
theorem numR_bd (s:List UInt8) (m:Int) (hm:0 ≤ m) : 0 ≤ (numR s m).1 ∧ (numR s m).1 ≤ m := by
 have := numE_bd s
 unfold numR; split
 · simp; omega
 · split
   · simp; omega
   · rename_i h; simp only; omega
end Go.Proofs.YtkofimhnehkdoaaGreatDoor.Rf
end
section
namespace Go.Proofs.YtkofimhnehkdoaaGreatDoor.Rf
section
variable {hp:List HObj} {lo:Nat} (q:Bool)
def TR1 (hp:List HObj) (k:IntKind) (r:Int × Int) : COut := if r.2 = 0 then .ret (.int k r.1) hp else .pan (.iface 78 (.agg [.int .i64 r.2])) hp
theorem ttNumerals_D (op:Int) : callD G0 IP n_tt_numerals [.int .i64 op] hp lo q = some (.ret (.int .i64 (numsN op)) hp) := by
 rw [callD_eq]
 by_cases h1 : op = 21
 · subst h1; simp [IP_tt_numerals,i_tt_numerals,numsN]
 · by_cases h2 : op = 22
   · subst h2; simp [IP_tt_numerals,i_tt_numerals,numsN]
   · by_cases h3 : op = 23
     · subst h3; simp [IP_tt_numerals,i_tt_numerals,numsN]
     · simp [IP_tt_numerals,i_tt_numerals,numsN,h1,h2,h3]
theorem number_D (a:List UInt8) (o:Own) (l:List AV) (hs:a.length ≤ 140737488355328) (m:Int) : callD G0 IP n_tt_number [.agg [.str a,.list l o],.int .u64 m] hp lo false = some (TR1 hp .u64 (numR a m)) := by
 rw [callD_eq]
 have hn := fun hp lo q => ttNumeral_D (hp := hp) (lo := lo) q a hs
 by_cases h0 : a = []
 · subst h0
   have e : numR [] m = (0,6) := by rfl
   simp [IP_tt_number,i_tt_number,must_D,e,TR1]
 · by_cases h1 : (numE a).2 = 6
   · have e : numR a m = (0,6) := by simp [numR,h1]
     simp [IP_tt_number,i_tt_number,must_D,hn,h0,h1,e,TR1]
   · by_cases h2 : (numE a).2 = 0
     · by_cases h3 : (numE a).1 ≤ m
       · have e : numR a m = ((numE a).1,0) := by simp [numR,h2]; omega
         simp [IP_tt_number,i_tt_number,must_D,hn,h0,h2,h3,e,TR1]
       · have e : numR a m = (0,2) := by simp [numR,h2]; omega
         simp [IP_tt_number,i_tt_number,must_D,hn,h0,h2,h3,e,TR1]
     · have e : numR a m = (0,2) := by simp [numR,h1,h2]
       simp [IP_tt_number,i_tt_number,must_D,hn,h0,h1,h2,e,TR1]
end
end Go.Proofs.YtkofimhnehkdoaaGreatDoor.Rf
end
section
namespace Go.Proofs.YtkofimhnehkdoaaGreatDoor.Rf
section
variable {hp:List HObj} {lo:Nat} (q:Bool)
end
end Go.Proofs.YtkofimhnehkdoaaGreatDoor.Rf
end
section
namespace Go.Proofs.YtkofimhnehkdoaaGreatDoor.Rf
section
variable {hp:List HObj} {lo:Nat} (q:Bool)
end
theorem ofE_ok {s:List UInt8} (h:(ofE s).2 = true) : opOk (ofE s).1 = true := by
 unfold ofE at h ⊢
 split at h
 · rename_i i hi
   have := List.mem_of_find?_eq_some hi
   simp at this
   simp [opOk]; omega
 · simp at h
theorem arE_bd (op:Int) : -1 ≤ arE op ∧ arE op ≤ 3 := by
 unfold arE; split
 · omega
 · split
   · omega
   · split
     · omega
     · split <;> omega
theorem numsN_bd (op:Int) : numsN op ≤ 2 := by
 unfold numsN; split
 · omega
 · split <;> omega
mutual
def S.sm : S → Prop
 | .mk a _ l => a.length ≤ 140737488355328 ∧ S.sms l
def S.sms : List S → Prop
 | [] => True
 | t :: r => t.sm ∧ S.sms r
end
theorem S.sms_iff : ∀ l : List S,S.sms l ↔ ∀ t,t ∈ l → t.sm
 | [] => by simp [S.sms]
 | t :: r => by simp [S.sms,S.sms_iff r]
theorem S.sm_eq (t:S) : t.sm ↔ t.atom.length ≤ 140737488355328 ∧ ∀ u,u ∈ t.list → u.sm := by
 cases t; simp only [S.sm,S.atom,S.list,S.sms_iff]
theorem constR_ne {l:List UInt8} {w e c:Int} (h:constR l w e = .err c) : c ≠ 0 := by
 unfold constR at h
 split at h
 · cases h; simp
 · split at h
   · cases h; simp
   · split at h
     · rename_i k; cases h; exact k
     · cases h
theorem leafR_ne {s:List UInt8} {c:Int} (h:leafR s = .err c) : c ≠ 0 := by
 unfold leafR at h
 split at h
 · cases h; simp
 · split at h
   · exact constR_ne h
   · split at h
     · cases h; simp
     · split at h
       · cases h; simp
       · cases h
mutual
theorem readS_ne : ∀ (e:S) (c:Int),readS e = .err c → c ≠ 0
 | .mk a o l,c,h => by
   rw [readS] at h
   split at h
   · exact leafR_ne h
   · split at h
     · cases h; simp
     · split at h
       · rename_i k; cases h; exact k
       · cases hs : readsS l (1 + numsN (ofE (l.getD 0 S.z).atom).1) with
         | err e => rw [hs] at h; simp only [nodeR] at h; cases h; exact readsS_ne l _ _ hs
         | ok ts =>
           rw [hs] at h; simp only [nodeR] at h
           split at h
           · rename_i k; cases h; exact k
           · cases h
theorem readsS_ne : ∀ (l:List S) (k:Nat) (c:Int),readsS l k = .err c → c ≠ 0
 | [],k,c,h => by simp [readsS] at h
 | x :: r,k + 1,c,h => by rw [readsS] at h; exact readsS_ne r k c h
 | x :: r,0,c,h => by
   rw [readsS] at h
   cases hx : readS x with
   | err e => rw [hx] at h; simp only [TRs.cons] at h; cases h; exact readS_ne x _ hx
   | ok t =>
     cases hr : readsS r 0 with
     | err e => rw [hx,hr] at h; simp only [TRs.cons] at h; cases h; exact readsS_ne r 0 _ hr
     | ok us => rw [hx,hr] at h; simp only [TRs.cons] at h; cases h
end
def ownT (acc:List T) : Own := if acc.isEmpty then .nil else .own 5 0
@[simp] theorem ownT_cp (acc:List T) : (ownT acc).cp = ownB acc.isEmpty := by cases acc <;> rfl
@[simp] theorem ownT_app (acc:List T) (x:T) : ownT (acc ++ [x]) = .own 5 0 := by cases acc <;> rfl
theorem ownT_ok (acc:List T) : ownT acc = .nil ∨ ownT acc = .own 5 0 := by cases acc <;> simp [ownT]
theorem T.avs_app (a b:List T) : T.avs (a ++ b) = T.avs a ++ T.avs b := by simp [T.avs_eq]
def wds (acc:List T) : List AV := (acc.map T.width).map (AV.int .i64)
@[simp] theorem wds_len (acc:List T) : (wds acc).length = acc.length := by simp [wds]
@[simp] theorem wds_nil : wds [] = [] := rfl
theorem wds_app (acc:List T) (t:T) : wds (acc ++ [t]) = wds acc ++ [.int .i64 t.width] := by simp [wds]
abbrev boxZ : AV := .box [.int .i64 0,.int .i64 0,.int .u64 0,.str [],.list [] .nil]
@[simp] theorem T.okSize_avs (l:List T) : okSize 5 (T.avs l) = true := by
 cases l with
 | nil => rfl
 | cons t r => simp [T.avs,T.av_eq]
@[simp] theorem okSize_wds (l:List T) : okSize 1 (wds l) = true := by
 cases l with
 | nil => rfl
 | cons t r => simp [wds]
section
variable {hp:List HObj} {lo:Nat} (q:Bool)
end
end Go.Proofs.YtkofimhnehkdoaaGreatDoor.Rf
end
section
namespace Go.Proofs.YtkofimhnehkdoaaGreatDoor.Rf
def w7 (s:List UInt8) : Int × Int := if (numE s).2 ≠ 0 then (0,(numE s).2) else if 64 < (numE s).1 then (0,2) else ((numE s).1,0)
section
variable {hp:List HObj} {lo:Nat} (q:Bool)
end
end Go.Proofs.YtkofimhnehkdoaaGreatDoor.Rf
end
section
namespace Go.Proofs.YtkofimhnehkdoaaGreatDoor.Rf
section
variable {hp:List HObj} {lo:Nat} (q:Bool)
end
end Go.Proofs.YtkofimhnehkdoaaGreatDoor.Rf
end
section
namespace Go.Proofs.YtkofimhnehkdoaaGreatDoor.Rf
section
variable {hp:List HObj} {lo:Nat} (q:Bool)
end
end Go.Proofs.YtkofimhnehkdoaaGreatDoor.Rf
end
section
namespace Go.Proofs.YtkofimhnehkdoaaGreatDoor.Rf
def notE (t:T) : Bool := decide (0 ≤ t.width) && (decide (t.width ≤ 64) && (decide ((t.args.length : Int) = arE t.op) && (if t.op = 1 ∨ t.op = 24 ∨ t.op = 25 then nameOk t.name && decide (t.val = 0) else if t.op = 2 ∨ t.op = 21 then decide (t.name = []) else decide (t.name = []) && decide (t.val = 0))))
theorem notE_mk (op w v:Int) (n:List UInt8) (o:Bool) (as:List T) : notE (.mk op w v n o as) = (decide (0 ≤ w) && (decide (w ≤ 64) && (decide ((as.length : Int) = arE op) && (if op = 1 ∨ op = 24 ∨ op = 25 then nameOk n && decide (v = 0) else if op = 2 ∨ op = 21 then decide (n = []) else decide (n = []) && decide (v = 0))))) := rfl
def decI (n:Int) : List UInt8 := dec n.toNat
def aS (a:List UInt8) : S := .mk a true []
def headW (op w v:Int) : List S := aS (nameE op) :: ((if op = 21 then [aS (decI v)] else []) ++ (if op = 21 ∨ op = 22 ∨ op = 23 then [aS (decI w)] else []))
mutual
def writeT : T → S
 | .mk op w v n o as => if notE (.mk op w v n o as) = false then aS [63] else
   if op = 1 then aS (n ++ 58 :: decI w) else
   if op = 24 then aS (63 :: (n ++ 58 :: decI w)) else
   if op = 25 then aS (35 :: (n ++ 58 :: decI w)) else
   if op = 2 then aS (decI v ++ 58 :: decI w) else
   .mk [] false (headW op w v ++ writeTs as)
def writeTs : List T → List S
 | [] => []
 | t :: r => writeT t :: writeTs r
end
mutual
def T.valid : T → Bool
 | .mk op w v n o as => T.valids as && (notE (.mk op w v n o as) && (decide ((widE op w v (as.map T.width)).2 = 0) && decide ((widE op w v (as.map T.width)).1 = w)))
def T.valids : List T → Bool
 | [] => true
 | t :: r => t.valid && T.valids r
end
mutual
def T.norm : T → T
 | .mk op w v n o as => .mk op w v n as.isEmpty (T.norms as)
def T.norms : List T → List T
 | [] => []
 | t :: r => t.norm :: T.norms r
end
theorem writeTs_len : ∀ as : List T,(writeTs as).length = as.length
 | [] => rfl
 | t :: r => by simp [writeTs,writeTs_len r]
theorem T.norms_len : ∀ as : List T,(T.norms as).length = as.length
 | [] => rfl
 | t :: r => by simp [T.norms,T.norms_len r]
theorem T.norms_isEmpty (as:List T) : (T.norms as).isEmpty = as.isEmpty := by cases as <;> rfl
theorem T.norm_width (t:T) : t.norm.width = t.width := by cases t; rfl
theorem T.norms_width : ∀ as : List T,(T.norms as).map T.width = as.map T.width
 | [] => rfl
 | t :: r => by simp [T.norms,T.norms_width r,T.norm_width t]
mutual
theorem T.norm_same : ∀ t : T,t.norm.same t = true
 | .mk op w v n o as => by simp [T.norm,T.same,T.norms_same as]
theorem T.norms_same : ∀ as : List T,T.sames (T.norms as) as = true
 | [] => rfl
 | t :: r => by simp [T.norms,T.sames,T.norm_same t,T.norms_same r]
end
theorem idxB_app : ∀ (n r:List UInt8) (c:UInt8),c ∉ n → idxB (n ++ c :: r) c = n.length
 | [],r,c,_ => by simp [idxB]
 | b :: n,r,c,h => by
   have ih := idxB_app n r c (fun hm => h (by simp [hm]))
   have hb : ¬ b = c := fun e => h (by simp [e])
   have h1 : ¬ (n.length : Int) = -1 := by omega
   simp [idxB,hb,ih,h1]
theorem cutB_app (n r:List UInt8) (c:UInt8) (h:c ∉ n) : cutB (n ++ c :: r) c = (n,r,true) := by
 unfold cutB; rw [idxB_app n r c h,if_pos (by omega)]; simp
theorem nameOk_mem {n:List UInt8} (h:nameOk n = true) : n ≠ [] ∧ n.length ≤ 16 ∧ 97 ≤ bt n 0 ∧ bt n 0 ≤ 122 ∧ ∀ c,c ∈ n → nameC (c.toNat : Int) = true := by
 simp only [nameOk,lowC,Bool.and_eq_true,decide_eq_true_eq,List.all_eq_true] at h
 obtain ⟨h1,h2,⟨h3,h4⟩,h5⟩ := h
 exact ⟨fun e => by subst e; simp at h1,h2,h3,h4,h5⟩
theorem nameOk_colon {n:List UInt8} (h:nameOk n = true) : (58:UInt8) ∉ n := fun hm => by
 have := (nameOk_mem h).2.2.2.2 58 hm
 revert this; decide
theorem decI_digs (n:Int) : ∀ c,c ∈ decI n → isDig c = true := dec_digs _
theorem decI_colon (n:Int) : (58:UInt8) ∉ decI n := fun hm => by
 have := decI_digs n 58 hm
 revert this; decide
theorem numE_decI {w:Int} (h0:0 ≤ w) (h1:w < 18446744073709551616) : numE (decI w) = (w,0) := by
 have h := numE_dec (n := w.toNat) (by omega)
 unfold decI; rw [h]
 have : ((w.toNat : Nat) : Int) = w := Int.toNat_of_nonneg h0
 rw [this]
theorem leaf_name {l n:List UInt8} {w:Int} (h0:0 ≤ w) (h1:w ≤ 64) (hc:(58:UInt8) ∉ l) (hn:leafNm l = n) (hk:nameOk n = true) (hd:¬ (48 ≤ bt (l ++ 58 :: decI w) 0 ∧ bt (l ++ 58 :: decI w) 0 ≤ 57)) :
   leafR (l ++ 58 :: decI w) = .ok (.mk (leafOp l) w 0 n true []) := by
 unfold leafR
 rw [cutB_app _ _ _ hc]
 simp only [numE_decI h0 (show w < 18446744073709551616 by omega)]
 rw [if_neg (by simp),if_neg hd,hn,hk,if_neg (by simp),if_neg (by simp; omega)]
theorem leaf_const {v w:Int} (h0:0 ≤ w) (h1:w ≤ 64) (g0:0 ≤ v) (g1:v < 18446744073709551616) (hw:(widE 2 w v []).2 = 0) : leafR (decI v ++ 58 :: decI w) = .ok (.mk 2 w v [] true []) := by
 unfold leafR
 rw [cutB_app _ _ _ (decI_colon v)]
 simp only [numE_decI h0 (show w < 18446744073709551616 by omega)]
 have hd : 48 ≤ bt (decI v ++ 58 :: decI w) 0 ∧ bt (decI v ++ 58 :: decI w) 0 ≤ 57 := by
   cases hh : decI v with
   | nil => exact absurd hh (dec_ne _)
   | cons c r =>
     have := decI_digs v c (by rw [hh]; simp)
     simp only [isDig,Bool.and_eq_true,decide_eq_true_eq] at this
     have e : bt (c :: r ++ 58 :: decI w) 0 = (c.toNat : Int) := rfl
     rw [e]; omega
 rw [if_neg (by simp),if_pos hd]
 unfold constR
 simp only [numE_decI g0 g1]
 rw [if_neg (by simp),if_neg (by simp; omega),if_neg (by simp [hw])]
theorem ofE_name {op:Int} (h:opOk op = true) : ofE (nameE op) = (op,true) := by
 rcases opOk_cases h with rfl | rfl | rfl | rfl | rfl | rfl | rfl | rfl | rfl | rfl | rfl | rfl | rfl | rfl | rfl | rfl | rfl | rfl | rfl | rfl | rfl | rfl | rfl | rfl | rfl | rfl
 all_goals decide +kernel
theorem arE_ok {op:Int} (h:arE op ≠ -1) : opOk op = true := by
 cases h2 : opOk op with
 | true => rfl
 | false => exact absurd (by simp [arE,h2]) h
theorem arE_ne {op:Int} (h:opOk op = true) (h1:op ≠ 1) (h2:op ≠ 2) (h3:op ≠ 24) (h4:op ≠ 25) : arE op ≠ 0 := by
 unfold arE
 rw [if_neg (by simp [h]),if_neg (by omega)]
 split
 · omega
 · split <;> omega
theorem widE_any {op:Int} (w v w' v' : Int) (as:List Int) (h1:op ≠ 1) (h2:op ≠ 2) (h3:op ≠ 24) (h4:op ≠ 25) (h5:op ≠ 21) (h6:op ≠ 22) (h7:op ≠ 23) : widE op w v as = widE op w' v' as := by
 unfold widE
 simp [h1,h2,h3,h4,h5,h6,h7]
theorem bt_cons (c:UInt8) (r:List UInt8) : bt (c :: r) 0 = (c.toNat : Int) := rfl
theorem bt_app {n r:List UInt8} (h:n ≠ []) : bt (n ++ r) 0 = bt n 0 := by
 cases n with
 | nil => exact absurd rfl h
 | cons c n => rfl
theorem numR_decI {v m:Int} (h0:0 ≤ v) (h1:v ≤ m) (h2:v < 18446744073709551616) : numR (decI v) m = (v,0) := by
 unfold numR; rw [numE_decI h0 h2]; simp; omega
mutual
theorem read_write : ∀ t : T,t.wf → t.valid = true → readS (writeT t) = .ok t.norm
 | .mk op w v n o as,hw,hv => by
   simp only [T.wf] at hw
   obtain ⟨_,_,w3,_,_,_,w7⟩ := hw
   have wv : 0 ≤ v ∧ v < 18446744073709551616 := by simp [Lit.wf,IntKind.min,IntKind.max,IntKind.signed,IntKind.bits] at w3; omega
   simp only [T.valid,Bool.and_eq_true,decide_eq_true_eq] at hv
   obtain ⟨v1,v2,v3,v4⟩ := hv
   have ih := reads_writes as w7 v1
   have hN := v2
   rw [notE_mk] at hN
   simp only [Bool.and_eq_true,decide_eq_true_eq] at hN
   obtain ⟨n0,n1,n2,n3⟩ := hN
   have hop : opOk op = true := arE_ok (by omega)
   rw [writeT,if_neg (by rw [v2]; simp)]
   have leaf0 : arE op = 0 → as = [] := fun h => List.length_eq_zero_iff.1 (by omega)
   by_cases h1 : op = 1
   · subst h1
     obtain rfl := leaf0 rfl
     simp only [true_or,if_true,Bool.and_eq_true,decide_eq_true_eq] at n3
     obtain ⟨m1,m2⟩ := n3
     have hm := nameOk_mem m1
     have hb : bt (n ++ 58 :: decI w) 0 = bt n 0 := bt_app hm.1
     have e1 : leafNm n = n := by unfold leafNm; rw [if_neg (by omega)]
     have e2 : leafOp n = 1 := by unfold leafOp; rw [if_neg (by omega),if_neg (by omega)]
     rw [if_pos rfl,aS,readS,if_pos (by simp),leaf_name n0 n1 (nameOk_colon m1) e1 m1 (by rw [hb]; omega),e2,m2]
     rfl
   rw [if_neg h1]
   by_cases h2 : op = 24
   · subst h2
     obtain rfl := leaf0 rfl
     have n3' : (nameOk n && decide (v = 0)) = true := n3
     simp only [Bool.and_eq_true,decide_eq_true_eq] at n3'
     obtain ⟨m1,m2⟩ := n3'
     have hm := nameOk_mem m1
     rw [if_pos rfl,aS,readS,if_pos (by simp)]
     have hc : (58:UInt8) ∉ (63:UInt8) :: n := by
       intro h; rcases List.mem_cons.1 h with h | h
       · revert h; decide
       · exact nameOk_colon m1 h
     have := leaf_name (l := 63 :: n) n0 n1 hc (by rfl) m1 (by rw [List.cons_append,bt_cons]; decide)
     rw [List.cons_append] at this
     rw [this,m2]; rfl
   rw [if_neg h2]
   by_cases h3 : op = 25
   · subst h3
     obtain rfl := leaf0 rfl
     have n3' : (nameOk n && decide (v = 0)) = true := n3
     simp only [Bool.and_eq_true,decide_eq_true_eq] at n3'
     obtain ⟨m1,m2⟩ := n3'
     have hm := nameOk_mem m1
     rw [if_pos rfl,aS,readS,if_pos (by simp)]
     have hc : (58:UInt8) ∉ (35:UInt8) :: n := by
       intro h; rcases List.mem_cons.1 h with h | h
       · revert h; decide
       · exact nameOk_colon m1 h
     have := leaf_name (l := 35 :: n) n0 n1 hc (by rfl) m1 (by rw [List.cons_append,bt_cons]; decide)
     rw [List.cons_append] at this
     rw [this,m2]; rfl
   rw [if_neg h3]
   by_cases h4 : op = 2
   · subst h4
     obtain rfl := leaf0 rfl
     have n3' : decide (n = []) = true := n3
     simp only [decide_eq_true_eq] at n3'
     subst n3'
     rw [if_pos rfl,aS,readS,if_pos (by simp),leaf_const n0 n1 wv.1 wv.2 v3]
     rfl
   rw [if_neg h4]
   have hne := arE_ne hop h1 h4 h2 h3
   have hof := ofE_name hop
   rw [readS,if_neg (by simp)]
   by_cases h5 : op = 21
   · subst h5
     have n3' : decide (n = []) = true := n3
     simp only [decide_eq_true_eq] at n3'
     subst n3'
     have hL : headW 21 w v ++ writeTs as = aS (nameE 21) :: aS (decI v) :: aS (decI w) :: writeTs as := rfl
     rw [hL]
     have g0 : ((aS (nameE 21) :: aS (decI v) :: aS (decI w) :: writeTs as).getD 0 S.z).atom = nameE 21 := rfl
     have g1 : ((aS (nameE 21) :: aS (decI v) :: aS (decI w) :: writeTs as).getD 1 S.z).atom = decI v := rfl
     have g2 : ((aS (nameE 21) :: aS (decI v) :: aS (decI w) :: writeTs as).getD 2 S.z).atom = decI w := rfl
     have hR : headR (aS (nameE 21) :: aS (decI v) :: aS (decI w) :: writeTs as) = true := by
       unfold headR; rw [g0,hof]
       have e0 : (numsN 21:Int) = 2 := rfl
       simp [hne,writeTs_len,e0]; omega
     have hn : numsR 21 (aS (nameE 21) :: aS (decI v) :: aS (decI w) :: writeTs as) = (v,w,0) := by
       unfold numsR; rw [g1,g2,numR_decI wv.1 (by omega) wv.2,numR_decI n0 n1 (by omega)]; simp
     have hs : readsS (aS (nameE 21) :: aS (decI v) :: aS (decI w) :: writeTs as) (1 + numsN 21) = readsS (writeTs as) 0 := by
       show readsS _ 3 = _
       simp only [readsS]
     rw [if_neg (by rw [hR]; simp),g0,hof]
     simp only [hn,hs,ih]
     rw [if_neg (by simp)]
     simp only [nodeR,T.norms_width,v3,v4,T.norms_isEmpty]
     rw [if_neg (by simp)]; rfl
   · have n3' : (decide (n = []) && decide (v = 0)) = true := by
       rw [if_neg (by omega),if_neg (by omega)] at n3; exact n3
     simp only [Bool.and_eq_true,decide_eq_true_eq] at n3'
     obtain ⟨rfl,rfl⟩ := n3'
     by_cases h6 : op = 22 ∨ op = 23
     · have hL : headW op w 0 ++ writeTs as = aS (nameE op) :: aS (decI w) :: writeTs as := by simp [headW,h5,h6]
       rw [hL]
       have g0 : ((aS (nameE op) :: aS (decI w) :: writeTs as).getD 0 S.z).atom = nameE op := rfl
       have g1 : ((aS (nameE op) :: aS (decI w) :: writeTs as).getD 1 S.z).atom = decI w := rfl
       have hN : numsN op = 1 := by simp [numsN,h5,h6]
       have hR : headR (aS (nameE op) :: aS (decI w) :: writeTs as) = true := by
         unfold headR; rw [g0,hof]
         simp [hne,writeTs_len,hN]; omega
       have hn : numsR op (aS (nameE op) :: aS (decI w) :: writeTs as) = (0,w,0) := by
         unfold numsR; rw [if_neg h5,if_pos h6,g1,numR_decI n0 n1 (by omega)]; simp
       have hs : readsS (aS (nameE op) :: aS (decI w) :: writeTs as) (1 + numsN op) = readsS (writeTs as) 0 := by
         rw [hN]; show readsS _ 2 = _
         simp only [readsS]
       rw [if_neg (by rw [hR]; simp),g0,hof]
       simp only [hn,hs,ih]
       rw [if_neg (by simp)]
       simp only [nodeR,T.norms_width,v3,v4,T.norms_isEmpty]
       rw [if_neg (by simp)]; rfl
     · have hL : headW op w 0 ++ writeTs as = aS (nameE op) :: writeTs as := by simp [headW,h5,h6]
       rw [hL]
       have g0 : ((aS (nameE op) :: writeTs as).getD 0 S.z).atom = nameE op := rfl
       have hN : numsN op = 0 := by simp [numsN,h5,h6]
       have hR : headR (aS (nameE op) :: writeTs as) = true := by
         unfold headR; rw [g0,hof]
         simp [hne,writeTs_len,hN]; omega
       have hn : numsR op (aS (nameE op) :: writeTs as) = (0,0,0) := by
         unfold numsR; rw [if_neg h5,if_neg h6]
       have hs : readsS (aS (nameE op) :: writeTs as) (1 + numsN op) = readsS (writeTs as) 0 := by
         rw [hN]; show readsS _ 1 = _
         simp only [readsS]
       rw [if_neg (by rw [hR]; simp),g0,hof]
       simp only [hn,hs,ih]
       rw [if_neg (by simp)]
       have hx := widE_any 0 0 w 0 (as.map T.width) h1 h4 h2 h3 h5 (fun e => h6 (.inl e)) (fun e => h6 (.inr e))
       simp only [nodeR,T.norms_width,hx,v3,v4,T.norms_isEmpty]
       rw [if_neg (by simp)]; rfl
theorem reads_writes : ∀ as : List T,T.wfs as → T.valids as = true → readsS (writeTs as) 0 = .ok (T.norms as)
 | [],_,_ => rfl
 | t :: r,hw,hv => by
   simp only [T.wfs] at hw
   simp only [T.valids,Bool.and_eq_true] at hv
   simp only [writeTs,readsS,read_write t hw.1 hv.1,reads_writes r hw.2 hv.2,TRs.cons,T.norms]
end
end Go.Proofs.YtkofimhnehkdoaaGreatDoor.Rf
end
section
namespace Go.Proofs.YtkofimhnehkdoaaGreatDoor.Rf
theorem insE_all {as:List Int} (h:¬ as.all insE = false) (i:Nat) : 0 ≤ as.getD i 0 ∧ as.getD i 0 ≤ 64 := by
 have h : as.all insE = true := by cases hh : as.all insE <;> simp_all
 by_cases hi : i < as.length
 · have e : as.getD i 0 = as[i] := by simp [List.getD,hi]
   have := List.all_eq_true.1 h as[i] (List.getElem_mem hi)
   simp only [insE,Bool.and_eq_true,decide_eq_true_eq] at this
   rw [e]; exact this
 · have e : as.getD i 0 = 0 := by simp [List.getD,hi]
   rw [e]; omega
theorem widE_idem {op w v:Int} {as:List Int} (h:(widE op w v as).2 = 0) : opOk op = true ∧ (as.length : Int) = arE op ∧ 0 ≤ (widE op w v as).1 ∧ (widE op w v as).1 ≤ 64 ∧ widE op (widE op w v as).1 v as = ((widE op w v as).1,0) := by
 by_cases c1 : opOk op = false ∨ (as.length : Int) ≠ arE op
 · unfold widE at h; rw [if_pos c1] at h; simp at h
 by_cases c2 : as.all insE = false
 · unfold widE at h; rw [if_neg c1,if_pos c2] at h; simp at h
 have hop : opOk op = true := by cases hh : opOk op <;> simp_all
 have hlen : (as.length : Int) = arE op := by
   by_cases e : (as.length : Int) = arE op
   · exact e
   · exact absurd (.inr e) c1
 refine ⟨hop,hlen,?_⟩
 have g := insE_all c2
 have g0 := g 0
 have g1 := g 1
 unfold widE at h ⊢
 simp only [if_neg c1,if_neg c2] at h ⊢
 by_cases k1 : op = 1 ∨ op = 2 ∨ op = 24 ∨ op = 25
 · simp only [if_pos k1] at h ⊢
   unfold leafE at h ⊢
   by_cases k : insE w = false ∨ (op = 2 ∧ 0 < w ∧ 2 ^ w.toNat ≤ v)
   · rw [if_pos k] at h; simp at h
   · simp only [if_neg k]
     have : insE w = true := by cases hh : insE w <;> simp_all
     simp only [insE,Bool.and_eq_true,decide_eq_true_eq] at this
     exact ⟨this.1,this.2,trivial⟩
 simp only [if_neg k1] at h ⊢
 by_cases k2 : op = 3 ∨ op = 4 ∨ op = 26
 · simp only [if_pos k2]; exact ⟨g0.1,g0.2,trivial⟩
 simp only [if_neg k2] at h ⊢
 by_cases k3 : op = 21 ∨ op = 22 ∨ op = 23
 · simp only [if_pos k3] at h ⊢
   unfold resE at h ⊢
   by_cases k : w < 1 ∨ 64 < w ∨ as.getD 0 0 < 1
   · rw [if_pos k] at h; simp at h
   · simp only [if_neg k] at h ⊢
     by_cases k' : (op ≠ 21 ∧ w < as.getD 0 0) ∨ (op = 21 ∧ (as.getD 0 0 < w ∨ as.getD 0 0 - w < v))
     · rw [if_pos k'] at h; simp at h
     · simp only [if_neg k']
       rw [if_neg k]
       exact ⟨by omega,by omega,rfl⟩
 simp only [if_neg k3] at h ⊢
 by_cases k4 : op = 19
 · simp only [if_pos k4] at h ⊢
   by_cases k : as.getD 0 0 = 1 ∧ as.getD 1 0 = as.getD 2 0
   · simp only [if_pos k]; exact ⟨g1.1,g1.2,trivial⟩
   · rw [if_neg k] at h; simp at h
 simp only [if_neg k4] at h ⊢
 by_cases k5 : op = 20
 · simp only [if_pos k5] at h ⊢
   by_cases k : 1 ≤ as.getD 0 0 ∧ 1 ≤ as.getD 1 0 ∧ as.getD 0 0 + as.getD 1 0 ≤ 64
   · simp only [if_pos k]; exact ⟨by omega,by omega,trivial⟩
   · rw [if_neg k] at h; simp at h
 simp only [if_neg k5] at h ⊢
 by_cases k6 : op = 16 ∨ op = 17 ∨ op = 18
 · simp only [if_pos k6] at h ⊢
   by_cases k : as.getD 0 0 = as.getD 1 0
   · simp only [if_pos k]; exact ⟨by omega,by omega,trivial⟩
   · rw [if_neg k] at h; simp at h
 simp only [if_neg k6] at h ⊢
 by_cases k : as.getD 0 0 = as.getD 1 0
 · simp only [if_pos k]; exact ⟨g0.1,g0.2,trivial⟩
 · rw [if_neg k] at h; simp at h
theorem i64_wf {n:Int} (h0:0 ≤ n) (h1:n ≤ 1000) : (Lit.int .i64 n).wf = true := by simp [Lit.wf,IntKind.min,IntKind.max,IntKind.signed,IntKind.bits]; omega
theorem u64_wf {n:Int} (h0:0 ≤ n) (h1:n < 18446744073709551616) : (Lit.int .u64 n).wf = true := by simp [Lit.wf,IntKind.min,IntKind.max,IntKind.signed,IntKind.bits]; omega
theorem constR_valid {l:List UInt8} {w e:Int} {t:T} (hw:0 ≤ w) (h:constR l w e = .ok t) : t.valid = true ∧ t.wf := by
 have hb := numE_bd l
 unfold constR at h
 split at h
 · cases h
 · split at h
   · cases h
   · rename_i k
     have k : e = 0 ∧ (numE l).2 = 0 ∧ w ≤ 64 := Decidable.not_not.1 k
     split at h
     · cases h
     · rename_i k2
       have k2 : (widE 2 w (numE l).1 []).2 = 0 := Decidable.not_not.1 k2
       cases h
       obtain ⟨i1,i2,i3,i4,i5⟩ := widE_idem k2
       have i6 : (widE 2 w (numE l).1 []).1 = w := by
         unfold widE at k2 ⊢
         rw [if_neg (by decide),if_neg (by decide),if_pos (by decide)] at k2 ⊢
         unfold leafE at k2 ⊢
         split at k2
         · simp at k2
         · rename_i k3; rw [if_neg k3]
       refine ⟨?_,?_⟩
       · simp only [T.valid,T.valids,List.map_nil,k2,i6]
         simp [notE_mk,hw,k.2.2]; rfl
       · simp only [T.wf,T.wfs]
         exact ⟨by decide,i64_wf hw (by omega),u64_wf hb.1 hb.2,by simp,by simp,by simp,trivial⟩
theorem leafOp_cases (l:List UInt8) : leafOp l = 1 ∨ leafOp l = 24 ∨ leafOp l = 25 := by
 unfold leafOp; split
 · simp
 · split <;> simp
theorem name_valid {op w:Int} {n:List UInt8} (h:op = 1 ∨ op = 24 ∨ op = 25) (h0:0 ≤ w) (h1:w ≤ 64) (hn:nameOk n = true) : (T.mk op w 0 n true []).valid = true ∧ (T.mk op w 0 n true []).wf := by
 have ins : insE w = true := by simp [insE,h0,h1]
 have hm := nameOk_mem hn
 refine ⟨?_,?_⟩
 · have hw : widE op w 0 [] = (w,0) := by
     have h2 : op ≠ 2 := by omega
     have h3 : op = 1 ∨ op = 2 ∨ op = 24 ∨ op = 25 := by omega
     have h4 : opOk op = true := by simp [opOk]; omega
     have h5 : arE op = 0 := by rcases h with rfl | rfl | rfl <;> rfl
     unfold widE
     rw [if_neg (by simp [h4,h5]),if_neg (by simp),if_pos h3]
     unfold leafE
     rw [if_neg (by simp [ins,h2])]
   have h5 : arE op = 0 := by rcases h with rfl | rfl | rfl <;> rfl
   simp only [T.valid,T.valids,List.map_nil,hw,notE_mk]
   rw [if_pos h]
   simp [h0,h1,hn,h5]
 · simp only [T.wf,T.wfs]
   exact ⟨i64_wf (by omega) (by omega),i64_wf h0 (by omega),by decide,by omega,by simp,by simp,trivial⟩
theorem leafR_valid {s:List UInt8} {t:T} (h:leafR s = .ok t) : t.valid = true ∧ t.wf := by
 unfold leafR at h
 have hb := numE_bd (cutB s 58).2.1
 split at h
 · cases h
 · split at h
   · exact constR_valid hb.1 h
   · split at h
     · cases h
     · rename_i k
       split at h
       · cases h
       · rename_i k2
         have k2 := Decidable.not_not.1 k2
         cases h
         exact name_valid (leafOp_cases _) hb.1 k2.2 (by simpa using k)
theorem nodeR_valid {op v w:Int} {ts:List T} {t:T} (h1:op ≠ 1) (h2:op ≠ 2) (h3:op ≠ 24) (h4:op ≠ 25) (hv0:op ≠ 21 → v = 0) (hvr:0 ≤ v ∧ v < 18446744073709551616) (hts:T.valids ts = true) (hwf:T.wfs ts) (h:nodeR op v w (.ok ts) = .ok t) : t.valid = true ∧ t.wf := by
 simp only [nodeR] at h
 split at h
 · cases h
 · rename_i k
   have k := Decidable.not_not.1 k
   cases h
   obtain ⟨i1,i2,i3,i4,i5⟩ := widE_idem k
   have i1' : 1 ≤ op ∧ op ≤ 26 := by simpa [opOk] using i1
   have i2' : (ts.length : Int) = arE op := by simpa using i2
   have i6 : arE op ≤ 3 := by
     unfold arE; split
     · omega
     · split
       · omega
       · split
         · omega
         · split <;> omega
   refine ⟨?_,?_⟩
   · simp only [T.valid,hts,i5,Bool.true_and]
     have : notE (.mk op (widE op w v (ts.map T.width)).1 v [] ts.isEmpty ts) = true := by
       rw [notE_mk]
       rw [if_neg (by omega)]
       by_cases h21 : op = 21
       · rw [if_pos (.inr h21)]; simp [i3,i4,i2']
       · rw [if_neg (by omega),hv0 h21]; rw [hv0 h21] at i3 i4; simp [i3,i4,i2']
     simp [this]
   · simp only [T.wf]
     exact ⟨i64_wf (by omega) (by omega),i64_wf i3 (by omega),u64_wf hvr.1 hvr.2,by simp,by omega,by simp,hwf⟩
theorem numsR_val (op:Int) (l:List S) : (op ≠ 21 → (numsR op l).1 = 0) ∧ 0 ≤ (numsR op l).1 ∧ (numsR op l).1 < 18446744073709551616 := by
 have hb := numR_bd (l.getD 1 S.z).atom 18446744073709551615 (by omega)
 unfold numsR
 by_cases h : op = 21
 · rw [if_pos h]
   refine ⟨fun e => absurd h e,?_⟩
   split
   · simp
   · split
     · simp
     · simp only; omega
 · rw [if_neg h]
   split
   · split <;> simp
   · simp
mutual
theorem readS_valid : ∀ (e:S) (t:T),readS e = .ok t → t.valid = true ∧ t.wf
 | .mk a o l,t,h => by
   rw [readS] at h
   split at h
   · exact leafR_valid h
   · split at h
     · cases h
     · rename_i hh
       split at h
       · cases h
       · cases hs : readsS l (1 + numsN (ofE (l.getD 0 S.z).atom).1) with
         | err e => rw [hs] at h; simp [nodeR] at h
         | ok ts =>
           rw [hs] at h
           have hv := readsS_valid l _ ts hs
           have hn := numsR_val (ofE (l.getD 0 S.z).atom).1 l
           have hR : headR l = true := by cases hx : headR l <;> simp_all
           simp only [headR,Bool.and_eq_true,Bool.not_eq_true',decide_eq_false_iff_not] at hR
           have ha := hR.2.2.1
           exact nodeR_valid (fun e => ha (by rw [e]; rfl)) (fun e => ha (by rw [e]; rfl)) (fun e => ha (by rw [e]; rfl)) (fun e => ha (by rw [e]; rfl)) hn.1 hn.2 hv.1 hv.2 h
theorem readsS_valid : ∀ (l:List S) (k:Nat) (ts:List T),readsS l k = .ok ts → T.valids ts = true ∧ T.wfs ts
 | [],k,ts,h => by simp [readsS] at h; subst h; exact ⟨rfl,trivial⟩
 | x :: r,k + 1,ts,h => by rw [readsS] at h; exact readsS_valid r k ts h
 | x :: r,0,ts,h => by
   rw [readsS] at h
   cases hx : readS x with
   | err e => rw [hx] at h; simp [TRs.cons] at h
   | ok t =>
     cases hr : readsS r 0 with
     | err e => rw [hx,hr] at h; simp [TRs.cons] at h
     | ok us =>
       rw [hx,hr] at h; simp [TRs.cons] at h; subst h
       have a := readS_valid x t hx
       have b := readsS_valid r 0 us hr
       exact ⟨by simp [T.valids,a.1,b.1],a.2,b.2⟩
end
theorem same_atoms : ∀ (l l' : List S),S.sames l l' = true → l.length = l'.length ∧ ∀ i,(l.getD i S.z).atom = (l'.getD i S.z).atom
 | [],[],_ => ⟨rfl,fun _ => rfl⟩
 | x :: r,y :: s,h => by
   simp only [S.sames,Bool.and_eq_true] at h
   obtain ⟨h1,h2⟩ := same_atoms r s h.2
   refine ⟨by simp [h1],fun i => ?_⟩
   cases i with
   | zero =>
     have := h.1
     rw [S.same_eq] at this
     simp only [Bool.and_eq_true,beq_iff_eq] at this
     simpa using this.1
   | succ i => simpa using h2 i
 | [],_ :: _,h => by simp [S.sames] at h
 | _ :: _,[],h => by simp [S.sames] at h
theorem headR_same {l l' : List S} (h:S.sames l l' = true) : headR l = headR l' := by
 obtain ⟨h1,h2⟩ := same_atoms l l' h
 unfold headR
 rw [h2 0,h1]
 have : decide (l ≠ []) = decide (l' ≠ []) := by
   cases l <;> cases l' <;> simp_all
 rw [this]
theorem numsR_same {l l' : List S} (h:S.sames l l' = true) (op:Int) : numsR op l = numsR op l' := by
 obtain ⟨h1,h2⟩ := same_atoms l l' h
 unfold numsR
 rw [h2 1,h2 2]
mutual
theorem readS_same : ∀ (x y:S),x.same y = true → readS x = readS y
 | .mk a o l,.mk a' o' l',h => by
   simp only [S.same,Bool.and_eq_true,beq_iff_eq] at h
   obtain ⟨rfl,h⟩ := h
   have e0 := (same_atoms l l' h).2 0
   rw [readS,readS,headR_same h,e0,numsR_same h,readsS_same l l' _ h]
theorem readsS_same : ∀ (l l' : List S) (k:Nat),S.sames l l' = true → readsS l k = readsS l' k
 | [],[],_,_ => rfl
 | x :: r,y :: s,k + 1,h => by
   simp only [S.sames,Bool.and_eq_true] at h
   rw [readsS,readsS]; exact readsS_same r s k h.2
 | x :: r,y :: s,0,h => by
   simp only [S.sames,Bool.and_eq_true] at h
   rw [readsS,readsS,readS_same x y h.1,readsS_same r s 0 h.2]
 | [],_ :: _,_,h => by simp [S.sames] at h
 | _ :: _,[],_,h => by simp [S.sames] at h
end
end Go.Proofs.YtkofimhnehkdoaaGreatDoor.Rf
end
section
namespace Go.Proofs.YtkofimhnehkdoaaGreatDoor.Rf
theorem tup_err (hp:List HObj) (c:Int) : (TR.err c).tup hp = .ret (.tup [.agg [.int .i64 0,.int .i64 0,.int .u64 0,.str [],.list [] .nil],.int .i64 c]) hp := rfl
theorem tup_ok (hp:List HObj) (t:T) : (TR.ok t).tup hp = .ret (.tup [t.av,.int .i64 0]) hp := rfl
theorem arE_ge {op:Int} (h:opOk op = true) : 0 ≤ arE op := by
 unfold arE; rw [if_neg (by simp [h])]; split
 · omega
 · split
   · omega
   · split <;> omega
theorem readsS_len : ∀ (l:List S) (k:Nat) (ts:List T),readsS l k = .ok ts → ts.length ≤ l.length
 | [],k,ts,h => by simp [readsS] at h; subst h; simp
 | x :: r,k + 1,ts,h => by rw [readsS] at h; have := readsS_len r k ts h; simp; omega
 | x :: r,0,ts,h => by
   rw [readsS] at h
   cases hx : readS x with
   | err e => rw [hx] at h; simp [TRs.cons] at h
   | ok t =>
     cases hr : readsS r 0 with
     | err e => rw [hx,hr] at h; simp [TRs.cons] at h
     | ok us =>
       rw [hx,hr] at h; simp [TRs.cons] at h; subst h
       have := readsS_len r 0 us hr
       simp; omega
section
variable {hp:List HObj} {lo:Nat} (q:Bool)
end
end Go.Proofs.YtkofimhnehkdoaaGreatDoor.Rf
end
section
namespace Go.Proofs.YtkofimhnehkdoaaGreatDoor.Rf
def plainC (n:Int) : Bool := decide (n ≥ 33) && (decide (n ≤ 126) && (!decide (n = 40) && (!decide (n = 41) && !decide (n = 59))))
def blankC (n:Int) : Bool := decide (n = 32) || (decide (n = 9) || (decide (n = 10) || decide (n = 13)))
theorem plain2_D (n:Int) (hp:List HObj) (lo:Nat) (q:Bool) : callD G0 IP n_sx_plain [.int .u8 n] hp lo q = some (.ret (.bool (plainC n)) hp) := by
 rw [callD_eq]
 by_cases h1 : n ≥ 33
 · by_cases h2 : n ≤ 126
   · by_cases h3 : n = 40
     · subst h3; simp [IP_sx_plain,i_sx_plain,plainC]
     · by_cases h4 : n = 41
       · subst h4; simp [IP_sx_plain,i_sx_plain,plainC]
       · by_cases h5 : n = 59
         · subst h5; simp [IP_sx_plain,i_sx_plain,plainC]
         · simp [IP_sx_plain,i_sx_plain,plainC,h1,h2,h3,h4,h5]
   · simp [IP_sx_plain,i_sx_plain,plainC,h1,h2]
 · simp [IP_sx_plain,i_sx_plain,plainC,h1]
def byt (s:List UInt8) (i:Nat) : Int := ((s.getD i 0).toNat : Int)
theorem byt_some {s:List UInt8} {i:Nat} (h:i < s.length) : ∃ c : UInt8,s[i]? = some c ∧ byt s i = (c.toNat : Int) := ⟨s[i],by simp [h],by simp [byt,h]⟩
def comK (s:List UInt8) : Nat → Nat → Nat
 | 0,i => i
 | k + 1,i => if byt s i = 10 then i else comK s k (i + 1)
theorem comK_le (s:List UInt8) : ∀ k i,i ≤ comK s k i ∧ comK s k i ≤ i + k
 | 0,i => by simp [comK]
 | k + 1,i => by
   simp only [comK]
   split
   · omega
   · have := comK_le s k (i + 1); omega
def skipK (s:List UInt8) : Nat → Nat → Nat
 | 0,i => i
 | n + 1,i => if i < s.length then (if blankC (byt s i) then skipK s n (i + 1) else if byt s i = 59 then skipK s n (comK s (s.length - i) i) else i) else i
theorem skipK_le (s:List UInt8) : ∀ n i,i ≤ s.length → i ≤ skipK s n i ∧ skipK s n i ≤ s.length
 | 0,i,h => by simp [skipK]; exact h
 | n + 1, i,h => by
   simp only [skipK]
   split
   · split
     · have := skipK_le s n (i + 1) (by omega); omega
     · split
       · have h1 := comK_le s (s.length - i) i
         have := skipK_le s n (comK s (s.length - i) i) (by omega); omega
       · omega
   · omega
def skipN (s:List UInt8) (i:Nat) : Nat := skipK s s.length i
def atomK (s:List UInt8) : Nat → Nat → Nat
 | 0,i => i
 | k + 1,i => if plainC (byt s i) then atomK s k (i + 1) else i
def atomN (s:List UInt8) (i:Nat) : Nat := atomK s (s.length - i) i
theorem atomK_le (s:List UInt8) : ∀ k i,i ≤ atomK s k i ∧ atomK s k i ≤ i + k
 | 0,i => by simp [atomK]
 | k + 1,i => by
   simp only [atomK]
   split
   · have := atomK_le s k (i + 1); omega
   · omega
section
variable {s:List UInt8} {hp:List HObj} {lo:Nat}
end
end Go.Proofs.YtkofimhnehkdoaaGreatDoor.Rf
end
section
namespace Go.Proofs.YtkofimhnehkdoaaGreatDoor.Rf
def PH (hp:List HObj) (s:List UInt8) (v:Int) : List HObj := hp ++ [.cells 0 [.str s,.int .i64 v,.list [] .nil]]
section
variable {hp:List HObj} {s:List UInt8} {lo:Nat}
@[simp] theorem PH_get (v:Int) : (PH hp s v)[hp.length]? = some (.cells 0 [.str s,.int .i64 v,.list [] .nil]) := by simp [PH]
@[simp] theorem PH_set (v u:Int) : (PH hp s v).set hp.length (.cells 0 [.str s,.int .i64 u,.list [] .nil]) = PH hp s u := by simp [PH]
theorem PH_len (v:Int) : (PH hp s v).length = hp.length + 1 := by simp [PH]
theorem com2_L (hs:s.length ≤ 9223372036854775807) (hlo:lo ≤ hp.length) : ∀ (k i:Nat) (ex:Fr),ex = [] ∨ ex = [(33,.bool true)] → i + k = s.length →
   loopD G0 IP lo l_sp_skip_1 ⟨(0,.ptr hp.length 0) :: ex,PH hp s i⟩ = some (.exit 3,⟨[(0,.ptr hp.length 0),(56,.bool false)],PH hp s (comK s k i)⟩)
 | 0,i,ex,hex,h => by
   rw [loopD_eq,loopBody]
   have : ¬ (i:Int) < (s.length : Int) := by omega
   rcases hex with rfl | rfl <;> simp [l_sp_skip_1,this,comK]
 | k + 1,i,ex,hex,h => by
   rw [loopD_eq,loopBody]
   have h1 : (i:Int) < (s.length : Int) := by omega
   obtain ⟨c,h2,hb⟩ := byt_some (s := s) (i := i) (by omega)
   have h3 := wrap_succ (i := i) (n := s.length) (by omega) hs
   have ih := com2_L hs hlo k (i + 1) [] (.inl rfl) (by omega)
   simp only [comK,hb]
   by_cases hc : (c.toNat : Int) = 10
   · rcases hex with rfl | rfl <;> simp [l_sp_skip_1,h1,h2,hc]
   · rcases hex with rfl | rfl <;> simp [l_sp_skip_1,h1,h2,hc,h3,hlo] <;> exact ih
theorem skip2_L (hs : s.length ≤ 9223372036854775807) (hlo:lo ≤ hp.length) : ∀ (n i:Nat) (ex:Fr),ex = [] ∨ ex = [(56,.bool false)] → i ≤ s.length → s.length - i ≤ n →
   ∃ e st,loopD G0 IP lo l_sp_skip_0 ⟨(0,.ptr hp.length 0) :: ex,PH hp s i⟩ = some (e,st) ∧ st.hp = PH hp s (skipK s n i) ∧ (e = .exit 0 ∨ e = .ret)
 | n, i, ex, hex, hi,hn => by
   by_cases h0 : i < s.length
   · match n, hn with
     | 0,hn => exact absurd hn (by omega)
     | n + 1, hn =>
       rw [loopD_eq,loopBody]
       have h1 : (i:Int) < (s.length : Int) := by omega
       obtain ⟨c,h2,hb⟩ := byt_some (s := s) (i := i) h0
       have h3 := wrap_succ (i := i) (n := s.length) h0 hs
       simp only [skipK,if_pos h0,hb]
       have ih0 := skip2_L hs hlo n (i + 1) [] (.inl rfl) (by omega) (by omega)
       by_cases b1 : (c.toNat : Int) = 32
       · rcases hex with rfl | rfl <;> simp [l_sp_skip_0,h1,h2,b1,h3,hlo,show blankC 32 = true from rfl] <;> exact ih0
       · by_cases b2 : (c.toNat : Int) = 9
         · rcases hex with rfl | rfl <;> simp [l_sp_skip_0,h1,h2,b2,h3,hlo,show blankC 9 = true from rfl] <;> exact ih0
         · by_cases b3 : (c.toNat : Int) = 10
           · rcases hex with rfl | rfl <;> simp [l_sp_skip_0,h1,h2,b3,h3,hlo,show blankC 10 = true from rfl] <;> exact ih0
           · by_cases b4 : (c.toNat : Int) = 13
             · rcases hex with rfl | rfl <;> simp [l_sp_skip_0,h1,h2,b4,h3,hlo,show blankC 13 = true from rfl] <;> exact ih0
             · have hc : blankC (c.toNat : Int) = false := by simp [blankC,b1,b2,b3,b4]
               by_cases h4 : (c.toNat : Int) = 59
               · have hcm := com2_L (hp := hp) (lo := lo) hs hlo (s.length - i) i [(33,.bool true)] (.inr rfl) (by omega)
                 have hle := comK_le s (s.length - i) i
                 have hgt : i < comK s (s.length - i) i := by
                   obtain ⟨k,hk⟩ : ∃ k,s.length - i = k + 1 := ⟨s.length - i - 1,by omega⟩
                   rw [hk]; simp only [comK,hb,h4]
                   have := comK_le s k (i + 1)
                   simp; omega
                 have ih := skip2_L hs hlo n (comK s (s.length - i) i) [(56,.bool false)] (.inr rfl) (by omega) (by omega)
                 rcases hex with rfl | rfl <;> simp [l_sp_skip_0,h1,h2,h4,hcm,show blankC 59 = false from rfl] <;> exact ih
               · rcases hex with rfl | rfl <;> simp [l_sp_skip_0,h1,h2,hc,h4,b1,b2,b3,b4] <;> exact ⟨_,_,⟨rfl,rfl⟩,rfl,.inr rfl⟩
   · rw [loopD_eq,loopBody]
     have h1 : ¬ (i:Int) < (s.length : Int) := by omega
     have e : skipK s n i = i := by cases n <;> simp [skipK,h0]
     rw [e]
     rcases hex with rfl | rfl <;> simp [l_sp_skip_0,h1] <;> exact ⟨_,_,⟨rfl,rfl⟩,rfl,.inl rfl⟩
theorem skip2_D (hs:s.length ≤ 9223372036854775807) (hlo:lo ≤ hp.length) (i:Nat) (hi:i ≤ s.length) : callD G0 IP n_sp_skip [.ptr hp.length 0] (PH hp s i) lo false = some (.ret (.tup []) (PH hp s (skipN s i))) := by
 rw [callD_eq]
 obtain ⟨e,st,h,h2,h3⟩ := skip2_L (hp := hp) (lo := lo) hs hlo s.length i [] (.inl rfl) hi (by omega)
 rcases h3 with rfl | rfl <;> simp [IP_sp_skip,i_sp_skip,h,h2,skipN]
end
end Go.Proofs.YtkofimhnehkdoaaGreatDoor.Rf
end
section
namespace Go.Proofs.YtkofimhnehkdoaaGreatDoor.Rf
inductive PR where
 | ok (e:S) (i:Nat)
 | err (i:Nat) (code:Int)
inductive LR where
 | stop (i:Nat) (acc:List S)
 | err (i:Nat) (code:Int)
mutual
def pOne (s:List UInt8) : Nat → Nat → Nat → PR
 | 0,i,_ => .err i 6
 | n + 1,i,d =>
   if byt s i = 40 then
     if d ≥ 64 then .err i 7 else
     match pLoop s n (skipN s (i + 1)) d [] with
     | .err j e => .err j e
     | .stop j acc => if j = s.length then .err j 6 else .ok (.mk [] acc.isEmpty acc) (j + 1)
   else if plainC (byt s i) then
     if d ≥ 64 then .err i 7 else .ok (.mk ((s.take (atomN s i)).drop i) true []) (atomN s i)
   else .err i 6
def pLoop (s:List UInt8) : Nat → Nat → Nat → List S → LR
 | 0,i,_,acc => .stop i acc
 | n + 1,i,d,acc =>
   if i < s.length then
     if byt s i = 41 then .stop i acc else
     match pOne s n i (d + 1) with
     | .err j e => .err j e
     | .ok x j => pLoop s n (skipN s j) d (acc ++ [x])
   else .stop i acc
end
theorem atomN_gt {s:List UInt8} {i:Nat} (h:i < s.length) (hp:plainC (byt s i) = true) : i < atomN s i ∧ atomN s i ≤ s.length := by
 obtain ⟨k,hk⟩ : ∃ k,s.length - i = k + 1 := ⟨s.length - i - 1,by omega⟩
 unfold atomN
 rw [hk]; simp only [atomK,hp,if_true]
 have := atomK_le s k (i + 1)
 omega
theorem skipN_le {s:List UInt8} {i:Nat} (h:i ≤ s.length) : i ≤ skipN s i ∧ skipN s i ≤ s.length := skipK_le s _ i h
theorem p_le (s:List UInt8) : ∀ n,(∀ i d x j,i < s.length → pOne s n i d = .ok x j → i < j ∧ j ≤ s.length) ∧ (∀ i d acc j acc',i ≤ s.length → acc.length ≤ i → pLoop s n i d acc = .stop j acc' → i ≤ j ∧ j ≤ s.length ∧ acc'.length ≤ j)
 | 0 => ⟨fun i d x j hi h => by simp [pOne] at h,fun i d acc j acc' hi ha h => by simp [pLoop] at h; obtain ⟨rfl,rfl⟩ := h; exact ⟨Nat.le_refl _,hi,ha⟩⟩
 | n + 1 => by
   obtain ⟨h1,h2⟩ := p_le s n
   refine ⟨fun i d x j hi h => ?_,fun i d acc j acc' hi ha h => ?_⟩
   · simp only [pOne] at h
     have hk := skipN_le (s := s) (i := i + 1) (by omega)
     split at h
     · split at h
       · cases h
       · split at h
         · cases h
         · rename_i j' acc' hl
           have := h2 _ _ _ _ _ hk.2 (by simp) hl
           split at h
           · cases h
           · cases h; omega
     · split at h
       · rename_i hp
         split at h
         · cases h
         · cases h; exact atomN_gt hi hp
       · cases h
   · simp only [pLoop] at h
     split at h
     · rename_i hlt
       split at h
       · cases h; omega
       · split at h
         · cases h
         · rename_i x j' ho
           have := h1 _ _ _ _ hlt ho
           have hk := skipN_le (s := s) (i := j') (by omega)
           have := h2 _ _ _ _ _ hk.2 (by simp; omega) h
           omega
     · cases h; omega
theorem perr_both (s:List UInt8) : ∀ n,(∀ i d j e,pOne s n i d = .err j e → ¬ e = 0) ∧ (∀ i d acc j e,pLoop s n i d acc = .err j e → ¬ e = 0)
 | 0 => ⟨fun i d j e h => by simp [pOne] at h; obtain ⟨_,rfl⟩ := h; simp,fun i d acc j e h => by simp [pLoop] at h⟩
 | n + 1 => by
   obtain ⟨h1,h2⟩ := perr_both s n
   refine ⟨fun i d j e h => ?_,fun i d acc j e h => ?_⟩
   · simp only [pOne] at h
     repeat' split at h
     all_goals first
       | (cases h; done)
       | (cases h; simp; done)
       | (rename_i hl; cases h; exact h2 _ _ _ _ _ hl)
   · simp only [pLoop] at h
     repeat' split at h
     all_goals first
       | (cases h; done)
       | (rename_i hl; cases h; exact h1 _ _ _ _ hl)
       | exact h2 _ _ _ _ _ h
theorem perr_ne (s:List UInt8) (n i d j:Nat) (e:Int) (h:pOne s n i d = .err j e) : ¬ e = 0 := (perr_both s n).1 i d j e h
mutual
theorem S.av_closed (n:Nat) : ∀ t : S,AV.closed n t.av = true
 | .mk a o l => by simp [S.av,AV.closed,AV.closedL,S.avs_closed n l]
theorem S.avs_closed (n:Nat) : ∀ l : List S,AV.closedL n (S.avs l) = true
 | [] => rfl
 | t :: r => by simp [S.avs,AV.closedL,S.av_closed n t,S.avs_closed n r]
end
@[simp] theorem S.okSize_avs (l:List S) : okSize 2 (S.avs l) = true := by
 cases l with
 | nil => rfl
 | cons t r => simp [S.avs,S.av_eq]
def ownA (acc:List S) : Own := if acc.isEmpty then .nil else .own 2 0
@[simp] theorem ownA_cp (acc:List S) : (ownA acc).cp = ownB acc.isEmpty := by cases acc <;> rfl
@[simp] theorem ownA_app (acc:List S) (x:S) : ownA (acc ++ [x]) = .own 2 0 := by cases acc <;> rfl
theorem ownA_ok (acc:List S) : ownA acc = .nil ∨ ownA acc = .own 2 0 := by cases acc <;> simp [ownA]
section
variable {s:List UInt8}
end
end Go.Proofs.YtkofimhnehkdoaaGreatDoor.Rf
end
section
namespace Go.Proofs.YtkofimhnehkdoaaGreatDoor.Rf
abbrev failAV (j:Nat) (e:Int) : AV := .iface 168 (.agg [.int .i64 j,.int .i64 e])
theorem fail_D (p q:Nat) (j e:Int) (hp:List HObj) (lo:Nat) : callD G0 IP n_sp_fail [.ptr p q,.int .i64 j,.int .i64 e] hp lo false = some (.pan (.iface 168 (.agg [.int .i64 j,.int .i64 e])) hp) := by
 rw [callD_eq]
 simp [IP_sp_fail,i_sp_fail]
section
variable {hp:List HObj} {s:List UInt8} {lo:Nat}
theorem atom2_L (hs:s.length ≤ 65536) (hlo:lo ≤ hp.length) (f:Int) : ∀ (k i:Nat),i + k = s.length →
   loopD G0 IP lo l_sp_expression_0 ⟨[(0,.ptr hp.length 0),(4,.box [.str [],.list [] .nil]),(6,.int .i64 f)],PH hp s i⟩ =
     some (.exit 0,⟨[(0,.ptr hp.length 0),(4,.box [.str [],.list [] .nil]),(6,.int .i64 f),(66,.bool false)],PH hp s (atomK s k i)⟩)
 | 0,i,h => by
   rw [loopD_eq,loopBody]
   have : ¬ (i:Int) < (s.length : Int) := by omega
   simp [l_sp_expression_0,this,atomK]
 | k + 1,i,h => by
   rw [loopD_eq,loopBody]
   have h1 : (i:Int) < (s.length : Int) := by omega
   obtain ⟨c,h2,hb⟩ := byt_some (s := s) (i := i) (by omega)
   have h3 := wrap_succ (i := i) (n := s.length) (by omega) (by omega)
   have ih := atom2_L hs hlo f k (i + 1) (by omega)
   simp only [atomK,hb]
   cases hc : plainC (c.toNat : Int)
   · simp [l_sp_expression_0,h1,h2,hc,plain2_D]
   · simp [l_sp_expression_0,h1,h2,hc,h3,plain2_D,hlo]
     exact ih
def outE (hp:List HObj) (s:List UInt8) : PR → COut
 | .ok x j => .ret x.av (PH hp s j)
 | .err j e => .pan (failAV j e) (PH hp s j)
def LRok (hp:List HObj) (s:List UInt8) : LR → Ex → St → Prop
 | .err j e,ex,st => ex = .pan (failAV j e) ∧ st.hp = PH hp s j
 | .stop j acc,ex,st => if j = s.length then ex = .pan (failAV j 6) ∧ st.hp = PH hp s j else ex = .ret ∧ st = ⟨[(4,.box [.str [],.list (S.avs acc) (ownB acc.isEmpty)])],PH hp s ((j + 1 : Nat) : Int)⟩
theorem expr_W (hs:s.length ≤ 65536) (hlo:lo ≤ hp.length) : ∀ n,(∀ (i d:Nat),i < s.length → d ≤ 64 → 2 * (s.length - i) ≤ n → callD G0 IP n_sp_expression [.ptr hp.length 0,.int .i64 d] (PH hp s i) lo false = some (outE hp s (pOne s n i d))) ∧
   (∀ (i d:Nat) (acc:List S),i ≤ s.length → d < 64 → acc.length ≤ i → 2 * (s.length - skipN s i) + 1 ≤ n →
     ∃ ex st,loopD G0 IP lo l_sp_expression_1 ⟨[(0,.ptr hp.length 0),(1,.int .i64 d),(4,.box [.str [],.list [] .nil]),(7,.box [.str [],.list (S.avs acc) (ownA acc)])],PH hp s i⟩ = some (ex,st) ∧ LRok hp s (pLoop s n (skipN s i) d acc) ex st) := by
 have hs' : s.length ≤ 9223372036854775807 := by omega
 intro n
 induction n with
 | zero => exact ⟨fun i d hi _ h => absurd h (by omega),fun i d acc hi _ _ h => absurd h (by omega)⟩
 | succ n ih =>
   obtain ⟨ih1,ih2⟩ := ih
   refine ⟨fun i d hi hd h => ?_,fun i d acc hi hd ha h => ?_⟩
   · rw [callD_eq]
     obtain ⟨c,h2,hb⟩ := byt_some (s := s) (i := i) hi
     have hw : IntKind.wrap .i64 ((i:Int) + 1) = (i:Int) + 1 := wrap_small (by omega) (by omega)
     have hwd : IntKind.wrap .i64 ((d:Int) + 1) = (d:Int) + 1 := wrap_small (by omega) (by omega)
     have hk := skipN_le (s := s) (i := i + 1) (by omega)
     simp only [pOne,hb]
     by_cases h40 : (c.toNat : Int) = 40
     · by_cases h64 : d ≥ 64
       · have h64' : (64:Int) < (d:Int) + 1 := by omega
         simp [IP_sp_expression,i_sp_expression,h2,h40,h64,h64',hwd,outE,fail_D]
       · have h64' : ¬ (64:Int) < (d:Int) + 1 := by omega
         obtain ⟨ex,st,e3,e4⟩ := ih2 (i + 1) d [] (by omega) (by omega) (by simp) (by omega)
         simp [ownA] at e3
         cases hx : pLoop s n (skipN s (i + 1)) d [] with
         | err j e =>
           rw [hx] at e4
           obtain ⟨rfl,e5⟩ := e4
           simp [IP_sp_expression,i_sp_expression,h2,h40,h64,h64',hwd,hw,hlo,outE,e3,e5]
         | stop j acc =>
           rw [hx] at e4
           simp only [LRok] at e4
           by_cases hjl : j = s.length
           · rw [if_pos hjl] at e4
             obtain ⟨rfl,e5⟩ := e4
             simp [IP_sp_expression,i_sp_expression,h2,h40,h64,h64',hwd,hw,hlo,outE,e3,e5,hjl]
           · rw [if_neg hjl] at e4
             obtain ⟨rfl,rfl⟩ := e4
             simp [IP_sp_expression,i_sp_expression,h2,h40,h64,h64',hwd,hw,hlo,outE,e3,hjl,S.av]
     · cases hc : plainC (c.toNat : Int)
       · simp [IP_sp_expression,i_sp_expression,h2,h40,hc,outE,fail_D,plain2_D]
       · by_cases h64 : d ≥ 64
         · have h64' : (64:Int) < (d:Int) + 1 := by omega
           simp [IP_sp_expression,i_sp_expression,h2,h40,hc,h64,h64',hwd,outE,fail_D,plain2_D]
         · have h64' : ¬ (64:Int) < (d:Int) + 1 := by omega
           have e2 := atom2_L (hp := hp) (lo := lo) hs hlo (i:Int) (s.length - i) i (by omega)
           have ha := atomN_gt (s := s) (i := i) hi (by rw [hb]; exact hc)
           unfold atomN at ha
           simp [IP_sp_expression,i_sp_expression,h2,h40,hc,h64,h64',hwd,outE,plain2_D,e2,ha.1,ha.2,Nat.le_of_lt ha.1,S.av,atomN,ownB]
   · rw [loopD_eq,loopBody]
     have e0 := skip2_D (hp := hp) (lo := lo) hs' hlo i hi
     have hk := skipN_le (s := s) (i := i) hi
     generalize hj : skipN s i = j at *
     simp only [pLoop]
     by_cases h0 : j < s.length
     · have h1 : ¬ (j:Int) = (s.length : Int) := by omega
       obtain ⟨c,h2,hb⟩ := byt_some (s := s) (i := j) h0
       simp only [if_pos h0,hb]
       by_cases h41 : (c.toNat : Int) = 41
       · have hw : IntKind.wrap .i64 ((j:Int) + 1) = (j:Int) + 1 := wrap_small (by omega) (by omega)
         have h1' : ¬ j = s.length := by omega
         refine ⟨.ret,⟨[(4,.box [.str [],.list (S.avs acc) (ownB acc.isEmpty)])],PH hp s ((j + 1 : Nat) : Int)⟩,?_,?_⟩
         · simp [l_sp_expression_1,e0,h1,h2,h41,hw,hlo]
         · simp only [h41,if_true,LRok]
           rw [if_neg h1']
           simp
       · have e1 : callD G0 IP n_sp_expression [.ptr hp.length 0,.int .i64 ((d:Int) + 1)] (PH hp s j) lo false = some (outE hp s (pOne s n j (d + 1))) := ih1 j (d + 1) h0 (by omega) (by omega)
         have hw : IntKind.wrap .i64 ((d:Int) + 1) = (d:Int) + 1 := wrap_small (by omega) (by omega)
         have he := (p_le s n).1 j (d + 1)
         simp only [if_neg h41]
         cases hx : pOne s n j (d + 1) with
         | err k e =>
           rw [hx] at e1
           simp only [outE] at e1
           simp [l_sp_expression_1,e0,h1,h2,h41,hw,e1]
           exact ⟨_,_,⟨rfl,rfl⟩,rfl,rfl⟩
         | ok x k =>
           rw [hx] at e1
           simp only [outE] at e1
           obtain ⟨hj1,hj2⟩ := he x k h0 hx
           have hsk := skipN_le (s := s) (i := k) hj2
           obtain ⟨ex,st,e3,e4⟩ := ih2 k d (acc ++ [x]) hj2 hd (by simp; omega) (by omega)
           have hb1 : (acc.length + 1) * 40 ≤ 140737488355328 := by omega
           have hb2 : acc.length + 1 ≤ 9223372036854775807 := by omega
           rw [S.av_eq] at e1
           rw [S.avs_app,ownA_app,show S.avs [x] = [.agg [.str x.atom,.list (S.avs x.list) (ownB x.o)]] by simp [S.avs,S.av_eq]] at e3
           refine ⟨ex,st,?_,e4⟩
           simp [l_sp_expression_1,e0,h1,h2,h41,hw,e1,hb1,hb2,ownA_ok]
           exact e3
     · have h1' : j = s.length := by omega
       subst h1'
       simp only [if_neg h0,LRok,if_true]
       simp [l_sp_expression_1,e0,fail_D]
       exact ⟨_,_,⟨rfl,rfl⟩,rfl,rfl⟩
end
end Go.Proofs.YtkofimhnehkdoaaGreatDoor.Rf
end
