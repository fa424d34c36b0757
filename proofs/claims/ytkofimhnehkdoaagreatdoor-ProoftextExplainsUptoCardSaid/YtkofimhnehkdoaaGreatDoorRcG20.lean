/- A part of the proof: see the last text. -/
import Derived.Test.YtkofimhnehkdoaaGreatDoorRcG19
set_option linter.unusedVariables false
set_option linter.unusedSimpArgs false
section
namespace Go.Proofs.YtkofimhnehkdoaaGreatDoor.Rf
def numsN (op:Int) : Nat := if op = 21 then 2 else if op = 22 ∨ op = 23 then 1 else 0
def numR (s:List UInt8) (most:Int) : Int × Int := if (numE s).2 = 6 then (0,6) else if (numE s).2 ≠ 0 ∨ most < (numE s).1 then (0,2) else ((numE s).1,0)
def S.z : S := .mk [] true []
def numsR (op:Int) (l:List S) : Int × Int × Int :=
 if op = 21 then
   (if (numR (l.getD 1 S.z).atom 18446744073709551615).2 ≠ 0 then (0,0,(numR (l.getD 1 S.z).atom 18446744073709551615).2) else
    if (numR (l.getD 2 S.z).atom 64).2 ≠ 0 then (0,0,(numR (l.getD 2 S.z).atom 64).2) else
    ((numR (l.getD 1 S.z).atom 18446744073709551615).1,(numR (l.getD 2 S.z).atom 64).1,0))
 else if op = 22 ∨ op = 23 then
   (if (numR (l.getD 1 S.z).atom 64).2 ≠ 0 then (0,0,(numR (l.getD 1 S.z).atom 64).2) else (0,(numR (l.getD 1 S.z).atom 64).1,0))
 else (0,0,0)
inductive TRs where
 | ok (t:List T) | err (e:Int)
def TRs.cons (r:TR) (s:TRs) : TRs := match r with
 | .err e => .err e
 | .ok t => match s with
   | .err e => .err e
   | .ok ts => .ok (t :: ts)
def nodeR (op v w:Int) (s:TRs) : TR := match s with
 | .err e => .err e
 | .ok ts => if (widE op w v (ts.map T.width)).2 ≠ 0 then .err (widE op w v (ts.map T.width)).2 else .ok (.mk op (widE op w v (ts.map T.width)).1 v [] ts.isEmpty ts)
def headR (l:List S) : Bool := decide (l ≠ []) && ((ofE (l.getD 0 S.z).atom).2 && (!decide (arE (ofE (l.getD 0 S.z).atom).1 = 0) && decide ((l.length : Int) = 1 + numsN (ofE (l.getD 0 S.z).atom).1 + arE (ofE (l.getD 0 S.z).atom).1)))
mutual
def readS : S → TR
 | .mk a o l => if a ≠ [] then leafR a else
   if headR l = false then .err 6 else
   if (numsR (ofE (l.getD 0 S.z).atom).1 l).2.2 ≠ 0 then .err (numsR (ofE (l.getD 0 S.z).atom).1 l).2.2 else
   nodeR (ofE (l.getD 0 S.z).atom).1 (numsR (ofE (l.getD 0 S.z).atom).1 l).1 (numsR (ofE (l.getD 0 S.z).atom).1 l).2.1 (readsS l (1 + numsN (ofE (l.getD 0 S.z).atom).1))
def readsS : List S → Nat → TRs
 | [],_ => .ok []
 | x :: r,k + 1 => readsS r k
 | x :: r,0 => TRs.cons (readS x) (readsS r 0)
end
theorem numR_bd (s:List UInt8) (m:Int) (hm:0 ≤ m) : 0 ≤ (numR s m).1 ∧ (numR s m).1 ≤ m := by
 have := numE_bd s
 unfold numR; split
 · simp; omega
 · split
   · simp; omega
   · rename_i h; simp only; omega
end Go.Proofs.YtkofimhnehkdoaaGreatDoor.Rf
end
section
namespace Go.Proofs.YtkofimhnehkdoaaGreatDoor.Rf
def notE (t:T) : Bool := decide (0 ≤ t.width) && (decide (t.width ≤ 64) && (decide ((t.args.length : Int) = arE t.op) && (if t.op = 1 ∨ t.op = 24 ∨ t.op = 25 then nameOk t.name && decide (t.val = 0) else if t.op = 2 ∨ t.op = 21 then decide (t.name = []) else decide (t.name = []) && decide (t.val = 0))))
theorem notE_mk (op w v:Int) (n:List UInt8) (o:Bool) (as:List T) : notE (.mk op w v n o as) = (decide (0 ≤ w) && (decide (w ≤ 64) && (decide ((as.length : Int) = arE op) && (if op = 1 ∨ op = 24 ∨ op = 25 then nameOk n && decide (v = 0) else if op = 2 ∨ op = 21 then decide (n = []) else decide (n = []) && decide (v = 0))))) := rfl
def decI (n:Int) : List UInt8 := dec n.toNat
def aS (a:List UInt8) : S := .mk a true []
def headW (op w v:Int) : List S := aS (nameE op) :: ((if op = 21 then [aS (decI v)] else []) ++ (if op = 21 ∨ op = 22 ∨ op = 23 then [aS (decI w)] else []))
mutual
def writeT : T → S
 | .mk op w v n o as => if notE (.mk op w v n o as) = false then aS [63] else
   if op = 1 then aS (n ++ 58 :: decI w) else
   if op = 24 then aS (63 :: (n ++ 58 :: decI w)) else
   if op = 25 then aS (35 :: (n ++ 58 :: decI w)) else
   if op = 2 then aS (decI v ++ 58 :: decI w) else
   .mk [] false (headW op w v ++ writeTs as)
def writeTs : List T → List S
 | [] => []
 | t :: r => writeT t :: writeTs r
end
mutual
def T.valid : T → Bool
 | .mk op w v n o as => T.valids as && (notE (.mk op w v n o as) && (decide ((widE op w v (as.map T.width)).2 = 0) && decide ((widE op w v (as.map T.width)).1 = w)))
def T.valids : List T → Bool
 | [] => true
 | t :: r => t.valid && T.valids r
end
theorem writeTs_len : ∀ as : List T,(writeTs as).length = as.length
 | [] => rfl
 | t :: r => by simp [writeTs,writeTs_len r]
theorem nameOk_mem {n:List UInt8} (h:nameOk n = true) : n ≠ [] ∧ n.length ≤ 16 ∧ 97 ≤ bt n 0 ∧ bt n 0 ≤ 122 ∧ ∀ c,c ∈ n → nameC (c.toNat : Int) = true := by
 simp only [nameOk,lowC,Bool.and_eq_true,decide_eq_true_eq,List.all_eq_true] at h
 obtain ⟨h1,h2,⟨h3,h4⟩,h5⟩ := h
 exact ⟨fun e => by subst e; simp at h1,h2,h3,h4,h5⟩
theorem decI_digs (n:Int) : ∀ c,c ∈ decI n → isDig c = true := dec_digs _
theorem arE_ok {op:Int} (h:arE op ≠ -1) : opOk op = true := by
 cases h2 : opOk op with
 | true => rfl
 | false => exact absurd (by simp [arE,h2]) h
theorem arE_ne {op:Int} (h:opOk op = true) (h1:op ≠ 1) (h2:op ≠ 2) (h3:op ≠ 24) (h4:op ≠ 25) : arE op ≠ 0 := by
 unfold arE
 rw [if_neg (by simp [h]),if_neg (by omega)]
 split
 · omega
 · split <;> omega
end Go.Proofs.YtkofimhnehkdoaaGreatDoor.Rf
end
section
namespace Go.Proofs.YtkofimhnehkdoaaGreatDoor.Rf
section
variable {hp:List HObj} {lo:Nat}
theorem fb_tail (hlo:lo ≤ hp.length) (p r:List AV) (n u i:Nat) (hi:i ≤ 7) (hn:i ≤ n) (hu:u < 10 ^ i) (f:List AV) (hf:f.length = i) :
   ∃ fr,evalC G0 (callD G0 IP) (loopD G0 IP lo) lo fbTail ⟨frB hp p.length n u i ++ [(20,.bool false)],HB hp (p ++ (f ++ r))⟩ = some (.normal,⟨fr,HB hp (p ++ (digA (digN i u) ++ r))⟩) := by
 match i,hi with
 | 0,_ => exact fb_tail0 hlo p r n u hn hu f hf
 | 1,_ => exact fb_tail1 hlo p r n u hn hu f hf
 | 2,_ => exact fb_tail2 hlo p r n u hn hu f hf
 | 3,_ => exact fb_tail3 hlo p r n u hn hu f hf
 | 4,_ => exact fb_tail4 hlo p r n u hn hu f hf
 | 5,_ => exact fb_tail5 hlo p r n u hn hu f hf
 | 6,_ => exact fb_tail6 hlo p r n u hn hu f hf
 | 7,_ => exact fb_tail7 hlo p r n u hn hu f hf
theorem fb_body : i_isc_formatBase10.body = .seq (.region [oO 17 (.mv (tU 0)),oO 18 (.len (tU 17) .list),oO 4 (.mv (tV 18))] [0,1,4]) (.seq (.block 0 (.loop l_isc_formatBase10_0)) fbTail) := rfl
theorem formatBase10_D (hlo:lo ≤ hp.length) (p f r:List AV) (n u:Nat) (hf:f.length = n) (hn:n ≤ 20) (hu:u < 10 ^ n) (hu2:u < 18446744073709551616) :
   callD G0 IP n_isc_formatBase10 [.sref hp.length p.length n 1,.int .u64 u] (HB hp (p ++ (f ++ r))) lo false = some (.ret (.tup []) (HB hp (p ++ (digA (digN n u) ++ r)))) := by
 have h1 := fb_loop (hp := hp) (lo := lo) hlo p r n (by omega) n f [] u hf (by simp) hu2
 simp only [digA,List.map_nil,List.nil_append,List.append_nil] at h1
 have hsum : n % 8 + 8 * (n / 8) = n := by omega
 have hu3 : u / 10 ^ (8 * (n / 8)) < 10 ^ (n % 8) := by
   rw [Nat.div_lt_iff_lt_mul (Nat.pow_pos (by omega)),← Nat.pow_add,hsum]; exact hu
 obtain ⟨fr,h2⟩ := fb_tail (hp := hp) (lo := lo) hlo p (digA (digN (8 * (n / 8)) u) ++ r) n (u / 10 ^ (8 * (n / 8))) (n % 8) (by omega) (by omega) hu3 (f.take (n % 8)) (by simp; omega)
 have h3 : digA (digN n u) = digA (digN (n % 8) (u / 10 ^ (8 * (n / 8)))) ++ digA (digN (8 * (n / 8)) u) := by
   rw [← digA_app,← digN_app,hsum]
 rw [h3]
 simp only [digA] at h2 ⊢
 clear h3 hsum hu3
 generalize u / 10 ^ (8 * (n / 8)) = w at *
 generalize n % 8 = m at *
 rw [callD_eq]
 have g1 : i_isc_formatBase10.arity = 2 := rfl
 have g2 : i_isc_formatBase10.res = [] := rfl
 have g3 : i_isc_formatBase10.rcv = none := rfl
 have g4 : i_isc_formatBase10.dfr = none := rfl
 have g5 : i_isc_formatBase10.frz = [] := rfl
 have g6 : i_isc_formatBase10.still = false := rfl
 simp only [List.cons_append,List.nil_append] at h2
 simp [IP_isc_formatBase10,g1,g2,g3,g4,g5,g6,fb_body,hf,h1,h2]
theorem bytesOf_digA (l:List UInt8) : bytesOf (l.map fun c => AV.int .u8 (c.toNat : Int)) = some l := bytesOf_bytes l
abbrev Z24 : List AV := [.int .u8 0,.int .u8 0,.int .u8 0,.int .u8 0,.int .u8 0,.int .u8 0,.int .u8 0,.int .u8 0,.int .u8 0,.int .u8 0,.int .u8 0,.int .u8 0,.int .u8 0,.int .u8 0,.int .u8 0,.int .u8 0,.int .u8 0,.int .u8 0,.int .u8 0,.int .u8 0,.int .u8 0,.int .u8 0,.int .u8 0,.int .u8 0]
theorem formatUint_D (u:Nat) (hu:u < 18446744073709551616) (hp:List HObj) (lo:Nat) (q:Bool) : callD G0 IP n_isc_FormatUint [.int .u64 u,.int .i64 10] hp lo q = some (.ret (.str (dec u)) hp) := by
 rw [callD_eq]
 by_cases h : u < 100
 · have h' : (u:Int) < 100 := by omega
   have hw : IntKind.wrap .i64 (u:Int) = u := wrap_small (by omega) (by omega)
   have e := fun hp lo q => small_D (hp := hp) (lo := lo) q u h
   simp [IP_isc_FormatUint,i_isc_FormatUint,h',hw,e]
 · have h' : ¬ (u:Int) < 100 := by omega
   obtain ⟨n,n1,n2,n3,n4⟩ := numDigits_D u (by omega) hu
   have hd : digN (n + 1) u = dec u := digN_dec n u n3 (.inr n2)
   have e1 := formatBase10_D (hp := hp) (lo := hp.length) (Nat.le_refl _) [] (Z24.take (n + 1)) (Z24.drop (n + 1)) (n + 1) u (by simp; omega) (by omega) n3 hu
   rw [List.take_append_drop,hd] at e1
   have k1 : (0:Int) ≤ (n:Int) + 1 := by omega
   have k2 : n + 1 ≤ 24 := by omega
   have k3 : ((n:Int) + 1).toNat = n + 1 := by omega
   have hl : (dec u).length = n + 1 := by rw [← hd,digN_len]
   simp [digA] at e1
   have k4 : 24 ≤ (dec u).length + (23 - n) := by omega
   have k5 : ∀ X,List.take (n + 1) (((dec u).map fun c => AV.int .u8 (c.toNat : Int)) ++ X) = (dec u).map fun c => AV.int .u8 (c.toNat : Int) := fun X => List.take_left' (by simp; omega)
   have k6 : n + 1 ≤ (dec u).length + (23 - n) := by omega
   simp [IP_isc_FormatUint,i_isc_FormatUint,h',n4,k1,k2,k3,k4,k5,k6,bytesOf_digA,e1]
theorem formatUintS_D (u:Nat) (hu:u < 18446744073709551616) (hp:List HObj) (lo:Nat) (q:Bool) : callD G0 IP n_sc_FormatUint [.int .u64 u,.int .i64 10] hp lo q = some (.ret (.str (dec u)) hp) := by
 rw [callD_eq]
 simp [IP_sc_FormatUint,i_sc_FormatUint,formatUint_D u hu]
theorem decT_D (v:Int) (h0:0 ≤ v) (hv:v < 18446744073709551616) (hp:List HObj) (lo:Nat) (q:Bool) : callD G0 IP n_digits_Dec [.int .u64 v] hp lo q = some (.ret (.str (decI v)) hp) := by
 have e := formatUintS_D v.toNat (by omega)
 rw [Int.toNat_of_nonneg h0] at e
 rw [callD_eq]
 simp [IP_digits_Dec,i_digits_Dec,e,decI]
theorem intT_D (w:Int) (h0:0 ≤ w) (hw:w ≤ 64) (hp:List HObj) (lo:Nat) (q:Bool) : callD G0 IP n_digits_Int [.int .i64 w] hp lo q = some (.ret (.str (decI w)) hp) := by
 have e1 := fun hp lo q => small_D (hp := hp) (lo := lo) q w.toNat (by omega)
 rw [Int.toNat_of_nonneg h0] at e1
 have k : w < 100 := by omega
 have e2 : ∀ hp lo q,callD G0 IP n_isc_FormatInt [.int .i64 w,.int .i64 10] hp lo q = some (.ret (.str (decI w)) hp) := fun hp lo q => by
   rw [callD_eq]; simp [IP_isc_FormatInt,i_isc_FormatInt,h0,k,e1,decI]
 have e3 : ∀ hp lo q,callD G0 IP n_isc_Itoa [.int .i64 w] hp lo q = some (.ret (.str (decI w)) hp) := fun hp lo q => by
   rw [callD_eq]; simp [IP_isc_Itoa,i_isc_Itoa,e2]
 have e4 : ∀ hp lo q,callD G0 IP n_sc_Itoa [.int .i64 w] hp lo q = some (.ret (.str (decI w)) hp) := fun hp lo q => by
   rw [callD_eq]; simp [IP_sc_Itoa,i_sc_Itoa,e3]
 rw [callD_eq]
 simp [IP_digits_Int,i_digits_Int,e4]
def d16 : List UInt8 := [48,49,50,51,52,53,54,55,56,57,97,98,99,100,101,102]
theorem d16_at (d:Nat) (h:d < 10) : (d16.take (d + 1)).drop d = [dig d] := by
 have : ∀ d : Fin 10,(d16.take (d.val + 1)).drop d.val = [dig d.val] := by decide +kernel
 exact this ⟨d,h⟩
theorem write2_L (hp:List HObj) (lo:Nat) : ∀ (u:Nat) (s:List UInt8),u < 18446744073709551616 → s.length + (dec u).length ≤ 1000 →
   ∃ u' : Nat,loopD G0 IP lo l_sr02_write_0 ⟨[(0,.int .u64 u),(1,.int .u64 10),(5,.str (dig (u % 10) :: s))],hp⟩ = some (.exit 0,⟨[(0,.int .u64 u'),(1,.int .u64 10),(5,.str (dec u ++ s)),(16,.bool false)],hp⟩) := by
 intro u
 induction u using Nat.strongRecOn with
 | _ u ih =>
   intro s hu hs
   rw [loopD_eq,loopBody]
   by_cases h : u < 10
   · have h' : ¬ (10:Int) ≤ (u:Int) := by omega
     have e : u % 10 = u := by omega
     refine ⟨u,?_⟩
     rw [dec_small h,e]
     simp [l_sr02_write_0,h']
   · have h' : (10:Int) ≤ (u:Int) := by omega
     have hb := dec_big (n := u) (by omega)
     have hl := congrArg List.length hb
     simp at hl
     obtain ⟨u',e⟩ := ih (u / 10) (by omega) (dig (u % 10) :: s) (by omega) (by simp; omega)
     have q1 : (u:Int).tdiv 10 = ((u / 10 : Nat) : Int) := rfl
     have w1 : IntKind.wrap .u64 ((u / 10 : Nat) : Int) = ((u / 10 : Nat) : Int) := by simp [IntKind.wrap,IntKind.signed,IntKind.bits]; omega
     have hm : u / 10 % 10 < 10 := Nat.mod_lt _ (by omega)
     have q2 : ((u / 10 : Nat) : Int).tmod 10 = ((u / 10 % 10 : Nat) : Int) := rfl
     have hat := d16_at (u / 10 % 10) hm
     rw [hb,List.append_assoc]
     refine ⟨u',?_⟩
     rw [show [dig (u % 10)] ++ s = dig (u % 10) :: s from rfl]
     generalize dig (u % 10) = c at *
     generalize u / 10 = v at *
     generalize v % 10 = m at *
     have w2 : IntKind.wrap .u64 ((m:Int) + 1) = (m:Int) + 1 := by simp [IntKind.wrap,IntKind.signed,IntKind.bits]; omega
     have k1 : (0:Int) ≤ (m:Int) + 1 := by omega
     have k2 : m + 1 ≤ 16 := by omega
     have k3 : ((m:Int) + 1).toNat = m + 1 := toNat_add m 1
     simp [d16] at hat
     have k4 : 1 + (s.length + 1) ≤ 9223372036854775807 := by omega
     simp [l_sr02_write_0,h',q1,w1,q2,w2,k1,k2,k3,k4,hat]
     exact e
theorem dec2_D (v:Int) (h0:0 ≤ v) (hv:v < 18446744073709551616) (hp:List HObj) (lo:Nat) (q:Bool) : callD G0 IP n_sr02_Dec [.int .u64 v] hp lo q = some (.ret (.str (decI v)) hp) := by
 have ew : ∀ hp lo q,callD G0 IP n_sr02_write [.int .u64 v,.int .u64 10] hp lo q = some (.ret (.str (decI v)) hp) := fun hp lo q => by
   obtain ⟨u,rfl⟩ : ∃ u : Nat,v = u := ⟨v.toNat,by omega⟩
   have hu : u < 18446744073709551616 := by omega
   obtain ⟨u',e⟩ := write2_L hp hp.length u [] hu (by have := dec_len20 hu; simp; omega)
   have hm : u % 10 < 10 := Nat.mod_lt _ (by omega)
   have q2 : (u:Int).tmod 10 = ((u % 10 : Nat) : Int) := rfl
   have hat := d16_at (u % 10) hm
   have hI : decI (u:Int) = dec u := rfl
   rw [callD_eq,hI]
   rw [List.append_nil] at e
   generalize u % 10 = m at *
   have w2 : IntKind.wrap .u64 ((m:Int) + 1) = (m:Int) + 1 := by simp [IntKind.wrap,IntKind.signed,IntKind.bits]; omega
   have k1 : (0:Int) ≤ (m:Int) + 1 := by omega
   have k2 : m + 1 ≤ 16 := by omega
   have k3 : ((m:Int) + 1).toNat = m + 1 := toNat_add m 1
   simp [d16] at hat
   simp [IP_sr02_write,i_sr02_write,q2,w2,k1,k2,k3,hat,e]
 rw [callD_eq]
 simp [IP_sr02_Dec,i_sr02_Dec,ew]
theorem int2_D (w:Int) (h0:0 ≤ w) (hw:w ≤ 64) (hp:List HObj) (lo:Nat) (q:Bool) : callD G0 IP n_sr02_Int [.int .i64 w] hp lo q = some (.ret (.str (decI w)) hp) := by
 have e := dec2_D w h0 (by omega)
 have hw' : IntKind.wrap .u64 w = w := by simp [IntKind.wrap,IntKind.signed,IntKind.bits]; omega
 rw [callD_eq]
 simp [IP_sr02_Int,i_sr02_Int,h0,hw',e]
end
end Go.Proofs.YtkofimhnehkdoaaGreatDoor.Rf
end
section
namespace Go.Proofs.YtkofimhnehkdoaaGreatDoor.Rf
theorem arE_ne0 {op:Int} (h1:op ≠ 1) (h2:op ≠ 2) (h3:op ≠ 24) (h4:op ≠ 25) : arE op ≠ 0 := by
 unfold arE
 split
 · omega
 · rw [if_neg (by omega)]; split
   · omega
   · split <;> omega
section
variable {hp:List HObj} {lo:Nat}
set_option maxHeartbeats 4000000 in
theorem notable_D (t:T) (hw:t.wf) (hp:List HObj) (lo:Nat) (q:Bool) : callD G0 IP n_tt_notable [t.av] hp lo q = some (.ret (.bool (notE t)) hp) := by
 rw [callD_eq]
 have hwf := (T.wf_eq t).1 hw
 cases t with | mk op w v n o as =>
 rw [notE_mk,T.av_eq]
 simp only [T.op,T.width,T.val,T.name,T.o,T.args] at hwf ⊢
 have en := fun hp lo q => name_D (hp := hp) (lo := lo) q n hwf.2.2.2.1
 by_cases h1 : w < 0
 · have h1' : ¬ 0 ≤ w := by omega
   simp [IP_tt_notable,i_tt_notable,h1,h1']
 have h1' : 0 ≤ w := by omega
 by_cases h2 : 64 < w
 · have h2' : ¬ w ≤ 64 := by omega
   simp [IP_tt_notable,i_tt_notable,h1,h1',h2,h2']
 have h2' : w ≤ 64 := by omega
 by_cases h3 : (as.length : Int) = arE op
 · by_cases k1 : op = 1
   · subst k1
     simp [IP_tt_notable,i_tt_notable,arity_D,h1,h1',h2,h2',h3,en]
     cases nameOk n <;> simp
   by_cases k2 : op = 24
   · subst k2
     simp [IP_tt_notable,i_tt_notable,arity_D,h1,h1',h2,h2',h3,en]
     cases nameOk n <;> simp
   by_cases k3 : op = 25
   · subst k3
     simp [IP_tt_notable,i_tt_notable,arity_D,h1,h1',h2,h2',h3,en]
     cases nameOk n <;> simp
   by_cases k4 : op = 2
   · subst k4
     simp [IP_tt_notable,i_tt_notable,arity_D,h1,h1',h2,h2',h3]
     cases n <;> simp
   by_cases k5 : op = 21
   · subst k5
     simp [IP_tt_notable,i_tt_notable,arity_D,h1,h1',h2,h2',h3]
     cases n <;> simp
   rcases n with _ | ⟨c,n'⟩
   · simp [IP_tt_notable,i_tt_notable,arity_D,h1,h1',h2,h2',h3,k1,k2,k3,k4,k5]
   · simp [IP_tt_notable,i_tt_notable,arity_D,h1,h1',h2,h2',h3,k1,k2,k3,k4,k5]
 · simp [IP_tt_notable,i_tt_notable,arity_D,h1,h1',h2,h2',h3]
set_option maxHeartbeats 4000000 in
theorem notable7_D (t:T) (hw:t.wf) (hp:List HObj) (lo:Nat) (q:Bool) : callD G0 IP n_sr07_Notable [t.av] hp lo q = some (.ret (.bool (notE t)) hp) := by
 rw [callD_eq]
 have hwf := (T.wf_eq t).1 hw
 cases t with | mk op w v n o as =>
 rw [notE_mk,T.av_eq]
 simp only [T.op,T.width,T.val,T.name,T.o,T.args] at hwf ⊢
 have en := fun hp lo q => name7_D (hp := hp) (lo := lo) q n hwf.2.2.2.1
 by_cases h1 : w < 0
 · have h1' : ¬ 0 ≤ w := by omega
   simp [IP_sr07_Notable,i_sr07_Notable,h1,h1']
 have h1' : 0 ≤ w := by omega
 by_cases h2 : 64 < w
 · have h2' : ¬ w ≤ 64 := by omega
   simp [IP_sr07_Notable,i_sr07_Notable,h1,h1',h2,h2']
 have h2' : w ≤ 64 := by omega
 by_cases k1 : op = 1
 · subst k1
   have e : arE 1 = 0 := rfl
   by_cases k : v = 0
   · simp [IP_sr07_Notable,i_sr07_Notable,h1,h1',h2,h2',en,e,k]
     cases nameOk n <;> simp
   · simp [IP_sr07_Notable,i_sr07_Notable,h1,h1',h2,h2',en,e,k]
     cases nameOk n <;> simp
 by_cases k2 : op = 24
 · subst k2
   have e : arE 24 = 0 := rfl
   by_cases k : v = 0
   · simp [IP_sr07_Notable,i_sr07_Notable,h1,h1',h2,h2',en,e,k]
     cases nameOk n <;> simp
   · simp [IP_sr07_Notable,i_sr07_Notable,h1,h1',h2,h2',en,e,k]
     cases nameOk n <;> simp
 by_cases k3 : op = 25
 · subst k3
   have e : arE 25 = 0 := rfl
   by_cases k : v = 0
   · simp [IP_sr07_Notable,i_sr07_Notable,h1,h1',h2,h2',en,e,k]
     cases nameOk n <;> simp
   · simp [IP_sr07_Notable,i_sr07_Notable,h1,h1',h2,h2',en,e,k]
     cases nameOk n <;> simp
 by_cases k4 : op = 2
 · subst k4
   have e : arE 2 = 0 := rfl
   rcases n with _ | ⟨c,n'⟩
   · simp [IP_sr07_Notable,i_sr07_Notable,h1,h1',h2,h2',e]
   · simp [IP_sr07_Notable,i_sr07_Notable,h1,h1',h2,h2',e]
 have hne := arE_ne0 k1 k4 k2 k3
 have hor : ¬ (op = 1 ∨ op = 24 ∨ op = 25) := by omega
 rw [if_neg hor]
 rcases n with _ | ⟨c,n'⟩
 · by_cases k5 : op = 21
   · rw [if_pos (.inr k5)]
     subst k5
     by_cases k8 : as = []
     · subst k8
       have e : ¬ (0:Int) = arE 21 := fun e => hne e.symm
       by_cases k7 : v = 0
       · simp [IP_sr07_Notable,i_sr07_Notable,arity4_D,h1,h1',h2,h2',k7,e]
       · simp [IP_sr07_Notable,i_sr07_Notable,arity4_D,h1,h1',h2,h2',k7,e]
     · have kl : 0 < as.length := List.length_pos_iff.2 k8
       by_cases k7 : v = 0
       · simp [IP_sr07_Notable,i_sr07_Notable,arity4_D,h1,h1',h2,h2',k7,kl]
       · simp [IP_sr07_Notable,i_sr07_Notable,arity4_D,h1,h1',h2,h2',k7,kl]
   · rw [if_neg (by omega)]
     by_cases k7 : v = 0
     · by_cases k8 : as = []
       · subst k8
         have e : ¬ (0:Int) = arE op := fun e => hne e.symm
         simp [IP_sr07_Notable,i_sr07_Notable,arity4_D,h1,h1',h2,h2',k1,k2,k3,k4,k5,k7,e]
       · have kl : 0 < as.length := List.length_pos_iff.2 k8
         simp [IP_sr07_Notable,i_sr07_Notable,arity4_D,h1,h1',h2,h2',k1,k2,k3,k4,k5,k7,kl]
     · simp [IP_sr07_Notable,i_sr07_Notable,arity4_D,h1,h1',h2,h2',k1,k2,k3,k4,k5,k7]
 · simp [IP_sr07_Notable,i_sr07_Notable,arity4_D,h1,h1',h2,h2',k1,k2,k3,k4]
theorem atom_D (s:List UInt8) (hp:List HObj) (lo:Nat) (q:Bool) : callD G0 IP n_tt_atom [.str s] hp lo q = some (.ret (.agg [.str s,.list [] .nil]) hp) := by
 rw [callD_eq]
 simp [IP_tt_atom,i_tt_atom]
end
end Go.Proofs.YtkofimhnehkdoaaGreatDoor.Rf
end
section
namespace Go.Proofs.YtkofimhnehkdoaaGreatDoor.Rf
mutual
theorem T.av_closed (n:Nat) : ∀ t : T,AV.closed n t.av = true
 | .mk a b c d o l => by simp [T.av,AV.closed,AV.closedL,T.avs_closed n l]
theorem T.avs_closed (n:Nat) : ∀ l : List T,AV.closedL n (T.avs l) = true
 | [] => rfl
 | t :: r => by simp [T.avs,AV.closedL,T.av_closed n t,T.avs_closed n r]
end
end Go.Proofs.YtkofimhnehkdoaaGreatDoor.Rf
end
section
namespace Go.Proofs.YtkofimhnehkdoaaGreatDoor.Rf
section
variable {hp:List HObj} {lo:Nat} (q:Bool)
theorem ttNumerals_D (op:Int) : callD G0 IP n_tt_numerals [.int .i64 op] hp lo q = some (.ret (.int .i64 (numsN op)) hp) := by
 rw [callD_eq]
 by_cases h1 : op = 21
 · subst h1; simp [IP_tt_numerals,i_tt_numerals,numsN]
 · by_cases h2 : op = 22
   · subst h2; simp [IP_tt_numerals,i_tt_numerals,numsN]
   · by_cases h3 : op = 23
     · subst h3; simp [IP_tt_numerals,i_tt_numerals,numsN]
     · simp [IP_tt_numerals,i_tt_numerals,numsN,h1,h2,h3]
theorem plain7_D (op:Int) : callD G0 IP n_sr07_plain [.int .i64 op] hp lo q = some (.ret (.int .i64 (numsN op)) hp) := by
 rw [callD_eq]
 by_cases h1 : op = 21
 · subst h1; simp [IP_sr07_plain,i_sr07_plain,numsN]
 · by_cases h2 : op = 22
   · subst h2; simp [IP_sr07_plain,i_sr07_plain,numsN]
   · by_cases h3 : op = 23
     · subst h3; simp [IP_sr07_plain,i_sr07_plain,numsN]
     · simp [IP_sr07_plain,i_sr07_plain,numsN,h1,h2,h3]
end
end Go.Proofs.YtkofimhnehkdoaaGreatDoor.Rf
end
section
namespace Go.Proofs.YtkofimhnehkdoaaGreatDoor.Rf
section
variable {hp:List HObj} {lo:Nat} (q:Bool)
end
end Go.Proofs.YtkofimhnehkdoaaGreatDoor.Rf
end
section
namespace Go.Proofs.YtkofimhnehkdoaaGreatDoor.Rf
section
variable {hp:List HObj} {lo:Nat} (q:Bool)
end
theorem arE_bd (op:Int) : -1 ≤ arE op ∧ arE op ≤ 3 := by
 unfold arE; split
 · omega
 · split
   · omega
   · split
     · omega
     · split <;> omega
mutual
def S.sm : S → Prop
 | .mk a _ l => a.length ≤ 140737488355328 ∧ S.sms l
def S.sms : List S → Prop
 | [] => True
 | t :: r => t.sm ∧ S.sms r
end
def ownT (acc:List T) : Own := if acc.isEmpty then .nil else .own 5 0
@[simp] theorem ownT_cp (acc:List T) : (ownT acc).cp = ownB acc.isEmpty := by cases acc <;> rfl
@[simp] theorem ownT_app (acc:List T) (x:T) : ownT (acc ++ [x]) = .own 5 0 := by cases acc <;> rfl
theorem T.avs_app (a b:List T) : T.avs (a ++ b) = T.avs a ++ T.avs b := by simp [T.avs_eq]
def wds (acc:List T) : List AV := (acc.map T.width).map (AV.int .i64)
@[simp] theorem wds_len (acc:List T) : (wds acc).length = acc.length := by simp [wds]
@[simp] theorem wds_nil : wds [] = [] := rfl
@[simp] theorem T.okSize_avs (l:List T) : okSize 5 (T.avs l) = true := by
 cases l with
 | nil => rfl
 | cons t r => simp [T.avs,T.av_eq]
@[simp] theorem okSize_wds (l:List T) : okSize 1 (wds l) = true := by
 cases l with
 | nil => rfl
 | cons t r => simp [wds]
section
variable {hp:List HObj} {lo:Nat} (q:Bool)
end
end Go.Proofs.YtkofimhnehkdoaaGreatDoor.Rf
end
section
namespace Go.Proofs.YtkofimhnehkdoaaGreatDoor.Rf
theorem insE_all {as:List Int} (h:¬ as.all insE = false) (i:Nat) : 0 ≤ as.getD i 0 ∧ as.getD i 0 ≤ 64 := by
 have h : as.all insE = true := by cases hh : as.all insE <;> simp_all
 by_cases hi : i < as.length
 · have e : as.getD i 0 = as[i] := by simp [List.getD,hi]
   have := List.all_eq_true.1 h as[i] (List.getElem_mem hi)
   simp only [insE,Bool.and_eq_true,decide_eq_true_eq] at this
   rw [e]; exact this
 · have e : as.getD i 0 = 0 := by simp [List.getD,hi]
   rw [e]; omega
theorem widE_idem {op w v:Int} {as:List Int} (h:(widE op w v as).2 = 0) : opOk op = true ∧ (as.length : Int) = arE op ∧ 0 ≤ (widE op w v as).1 ∧ (widE op w v as).1 ≤ 64 ∧ widE op (widE op w v as).1 v as = ((widE op w v as).1,0) := by
 by_cases c1 : opOk op = false ∨ (as.length : Int) ≠ arE op
 · unfold widE at h; rw [if_pos c1] at h; simp at h
 by_cases c2 : as.all insE = false
 · unfold widE at h; rw [if_neg c1,if_pos c2] at h; simp at h
 have hop : opOk op = true := by cases hh : opOk op <;> simp_all
 have hlen : (as.length : Int) = arE op := by
   by_cases e : (as.length : Int) = arE op
   · exact e
   · exact absurd (.inr e) c1
 refine ⟨hop,hlen,?_⟩
 have g := insE_all c2
 have g0 := g 0
 have g1 := g 1
 unfold widE at h ⊢
 simp only [if_neg c1,if_neg c2] at h ⊢
 by_cases k1 : op = 1 ∨ op = 2 ∨ op = 24 ∨ op = 25
 · simp only [if_pos k1] at h ⊢
   unfold leafE at h ⊢
   by_cases k : insE w = false ∨ (op = 2 ∧ 0 < w ∧ 2 ^ w.toNat ≤ v)
   · rw [if_pos k] at h; simp at h
   · simp only [if_neg k]
     have : insE w = true := by cases hh : insE w <;> simp_all
     simp only [insE,Bool.and_eq_true,decide_eq_true_eq] at this
     exact ⟨this.1,this.2,trivial⟩
 simp only [if_neg k1] at h ⊢
 by_cases k2 : op = 3 ∨ op = 4 ∨ op = 26
 · simp only [if_pos k2]; exact ⟨g0.1,g0.2,trivial⟩
 simp only [if_neg k2] at h ⊢
 by_cases k3 : op = 21 ∨ op = 22 ∨ op = 23
 · simp only [if_pos k3] at h ⊢
   unfold resE at h ⊢
   by_cases k : w < 1 ∨ 64 < w ∨ as.getD 0 0 < 1
   · rw [if_pos k] at h; simp at h
   · simp only [if_neg k] at h ⊢
     by_cases k' : (op ≠ 21 ∧ w < as.getD 0 0) ∨ (op = 21 ∧ (as.getD 0 0 < w ∨ as.getD 0 0 - w < v))
     · rw [if_pos k'] at h; simp at h
     · simp only [if_neg k']
       rw [if_neg k]
       exact ⟨by omega,by omega,rfl⟩
 simp only [if_neg k3] at h ⊢
 by_cases k4 : op = 19
 · simp only [if_pos k4] at h ⊢
   by_cases k : as.getD 0 0 = 1 ∧ as.getD 1 0 = as.getD 2 0
   · simp only [if_pos k]; exact ⟨g1.1,g1.2,trivial⟩
   · rw [if_neg k] at h; simp at h
 simp only [if_neg k4] at h ⊢
 by_cases k5 : op = 20
 · simp only [if_pos k5] at h ⊢
   by_cases k : 1 ≤ as.getD 0 0 ∧ 1 ≤ as.getD 1 0 ∧ as.getD 0 0 + as.getD 1 0 ≤ 64
   · simp only [if_pos k]; exact ⟨by omega,by omega,trivial⟩
   · rw [if_neg k] at h; simp at h
 simp only [if_neg k5] at h ⊢
 by_cases k6 : op = 16 ∨ op = 17 ∨ op = 18
 · simp only [if_pos k6] at h ⊢
   by_cases k : as.getD 0 0 = as.getD 1 0
   · simp only [if_pos k]; exact ⟨by omega,by omega,trivial⟩
   · rw [if_neg k] at h; simp at h
 simp only [if_neg k6] at h ⊢
 by_cases k : as.getD 0 0 = as.getD 1 0
 · simp only [if_pos k]; exact ⟨g0.1,g0.2,trivial⟩
 · rw [if_neg k] at h; simp at h
theorem i64_wf {n:Int} (h0:0 ≤ n) (h1:n ≤ 1000) : (Lit.int .i64 n).wf = true := by simp [Lit.wf,IntKind.min,IntKind.max,IntKind.signed,IntKind.bits]; omega
theorem u64_wf {n:Int} (h0:0 ≤ n) (h1:n < 18446744073709551616) : (Lit.int .u64 n).wf = true := by simp [Lit.wf,IntKind.min,IntKind.max,IntKind.signed,IntKind.bits]; omega
theorem constR_valid {l:List UInt8} {w e:Int} {t:T} (hw:0 ≤ w) (h:constR l w e = .ok t) : t.valid = true ∧ t.wf := by
 have hb := numE_bd l
 unfold constR at h
 split at h
 · cases h
 · split at h
   · cases h
   · rename_i k
     have k : e = 0 ∧ (numE l).2 = 0 ∧ w ≤ 64 := Decidable.not_not.1 k
     split at h
     · cases h
     · rename_i k2
       have k2 : (widE 2 w (numE l).1 []).2 = 0 := Decidable.not_not.1 k2
       cases h
       obtain ⟨i1,i2,i3,i4,i5⟩ := widE_idem k2
       have i6 : (widE 2 w (numE l).1 []).1 = w := by
         unfold widE at k2 ⊢
         rw [if_neg (by decide),if_neg (by decide),if_pos (by decide)] at k2 ⊢
         unfold leafE at k2 ⊢
         split at k2
         · simp at k2
         · rename_i k3; rw [if_neg k3]
       refine ⟨?_,?_⟩
       · simp only [T.valid,T.valids,List.map_nil,k2,i6]
         simp [notE_mk,hw,k.2.2]; rfl
       · simp only [T.wf,T.wfs]
         exact ⟨by decide,i64_wf hw (by omega),u64_wf hb.1 hb.2,by simp,by simp,by simp,trivial⟩
theorem leafOp_cases (l:List UInt8) : leafOp l = 1 ∨ leafOp l = 24 ∨ leafOp l = 25 := by
 unfold leafOp; split
 · simp
 · split <;> simp
theorem name_valid {op w:Int} {n:List UInt8} (h:op = 1 ∨ op = 24 ∨ op = 25) (h0:0 ≤ w) (h1:w ≤ 64) (hn:nameOk n = true) : (T.mk op w 0 n true []).valid = true ∧ (T.mk op w 0 n true []).wf := by
 have ins : insE w = true := by simp [insE,h0,h1]
 have hm := nameOk_mem hn
 refine ⟨?_,?_⟩
 · have hw : widE op w 0 [] = (w,0) := by
     have h2 : op ≠ 2 := by omega
     have h3 : op = 1 ∨ op = 2 ∨ op = 24 ∨ op = 25 := by omega
     have h4 : opOk op = true := by simp [opOk]; omega
     have h5 : arE op = 0 := by rcases h with rfl | rfl | rfl <;> rfl
     unfold widE
     rw [if_neg (by simp [h4,h5]),if_neg (by simp),if_pos h3]
     unfold leafE
     rw [if_neg (by simp [ins,h2])]
   have h5 : arE op = 0 := by rcases h with rfl | rfl | rfl <;> rfl
   simp only [T.valid,T.valids,List.map_nil,hw,notE_mk]
   rw [if_pos h]
   simp [h0,h1,hn,h5]
 · simp only [T.wf,T.wfs]
   exact ⟨i64_wf (by omega) (by omega),i64_wf h0 (by omega),by decide,by omega,by simp,by simp,trivial⟩
theorem leafR_valid {s:List UInt8} {t:T} (h:leafR s = .ok t) : t.valid = true ∧ t.wf := by
 unfold leafR at h
 have hb := numE_bd (cutB s 58).2.1
 split at h
 · cases h
 · split at h
   · exact constR_valid hb.1 h
   · split at h
     · cases h
     · rename_i k
       split at h
       · cases h
       · rename_i k2
         have k2 := Decidable.not_not.1 k2
         cases h
         exact name_valid (leafOp_cases _) hb.1 k2.2 (by simpa using k)
theorem nodeR_valid {op v w:Int} {ts:List T} {t:T} (h1:op ≠ 1) (h2:op ≠ 2) (h3:op ≠ 24) (h4:op ≠ 25) (hv0:op ≠ 21 → v = 0) (hvr:0 ≤ v ∧ v < 18446744073709551616) (hts:T.valids ts = true) (hwf:T.wfs ts) (h:nodeR op v w (.ok ts) = .ok t) : t.valid = true ∧ t.wf := by
 simp only [nodeR] at h
 split at h
 · cases h
 · rename_i k
   have k := Decidable.not_not.1 k
   cases h
   obtain ⟨i1,i2,i3,i4,i5⟩ := widE_idem k
   have i1' : 1 ≤ op ∧ op ≤ 26 := by simpa [opOk] using i1
   have i2' : (ts.length : Int) = arE op := by simpa using i2
   have i6 : arE op ≤ 3 := by
     unfold arE; split
     · omega
     · split
       · omega
       · split
         · omega
         · split <;> omega
   refine ⟨?_,?_⟩
   · simp only [T.valid,hts,i5,Bool.true_and]
     have : notE (.mk op (widE op w v (ts.map T.width)).1 v [] ts.isEmpty ts) = true := by
       rw [notE_mk]
       rw [if_neg (by omega)]
       by_cases h21 : op = 21
       · rw [if_pos (.inr h21)]; simp [i3,i4,i2']
       · rw [if_neg (by omega),hv0 h21]; rw [hv0 h21] at i3 i4; simp [i3,i4,i2']
     simp [this]
   · simp only [T.wf]
     exact ⟨i64_wf (by omega) (by omega),i64_wf i3 (by omega),u64_wf hvr.1 hvr.2,by simp,by omega,by simp,hwf⟩
theorem numsR_val (op:Int) (l:List S) : (op ≠ 21 → (numsR op l).1 = 0) ∧ 0 ≤ (numsR op l).1 ∧ (numsR op l).1 < 18446744073709551616 := by
 have hb := numR_bd (l.getD 1 S.z).atom 18446744073709551615 (by omega)
 unfold numsR
 by_cases h : op = 21
 · rw [if_pos h]
   refine ⟨fun e => absurd h e,?_⟩
   split
   · simp
   · split
     · simp
     · simp only; omega
 · rw [if_neg h]
   split
   · split <;> simp
   · simp
mutual
theorem readS_valid : ∀ (e:S) (t:T),readS e = .ok t → t.valid = true ∧ t.wf
 | .mk a o l,t,h => by
   rw [readS] at h
   split at h
   · exact leafR_valid h
   · split at h
     · cases h
     · rename_i hh
       split at h
       · cases h
       · cases hs : readsS l (1 + numsN (ofE (l.getD 0 S.z).atom).1) with
         | err e => rw [hs] at h; simp [nodeR] at h
         | ok ts =>
           rw [hs] at h
           have hv := readsS_valid l _ ts hs
           have hn := numsR_val (ofE (l.getD 0 S.z).atom).1 l
           have hR : headR l = true := by cases hx : headR l <;> simp_all
           simp only [headR,Bool.and_eq_true,Bool.not_eq_true',decide_eq_false_iff_not] at hR
           have ha := hR.2.2.1
           exact nodeR_valid (fun e => ha (by rw [e]; rfl)) (fun e => ha (by rw [e]; rfl)) (fun e => ha (by rw [e]; rfl)) (fun e => ha (by rw [e]; rfl)) hn.1 hn.2 hv.1 hv.2 h
theorem readsS_valid : ∀ (l:List S) (k:Nat) (ts:List T),readsS l k = .ok ts → T.valids ts = true ∧ T.wfs ts
 | [],k,ts,h => by simp [readsS] at h; subst h; exact ⟨rfl,trivial⟩
 | x :: r,k + 1,ts,h => by rw [readsS] at h; exact readsS_valid r k ts h
 | x :: r,0,ts,h => by
   rw [readsS] at h
   cases hx : readS x with
   | err e => rw [hx] at h; simp [TRs.cons] at h
   | ok t =>
     cases hr : readsS r 0 with
     | err e => rw [hx,hr] at h; simp [TRs.cons] at h
     | ok us =>
       rw [hx,hr] at h; simp [TRs.cons] at h; subst h
       have a := readS_valid x t hx
       have b := readsS_valid r 0 us hr
       exact ⟨by simp [T.valids,a.1,b.1],a.2,b.2⟩
end
end Go.Proofs.YtkofimhnehkdoaaGreatDoor.Rf
end
section
namespace Go.Proofs.YtkofimhnehkdoaaGreatDoor.Rf
section
variable {hp:List HObj} {lo:Nat}
theorem B0_fold (hp:List HObj) : hp ++ [.cells 110 [.nilp,.list [] .nil]] = BH hp [] := rfl
theorem print2_D {t:S} (hw:t.wf) (hb:t.text.length ≤ 140737488355328) (q:Bool) : callD G0 IP n_sx_Print [t.av] hp lo q = some (.ret (.str t.text) hp) := by
 rw [callD_eq]
 have e1 := write_D t hw (hp := hp) (lo := hp.length) (Nat.le_refl _) [] (by simpa using hb)
 have e2 := bstr_D (hp := hp) (lo := hp.length) (Nat.le_refl _) t.text hb
 rw [S.av_eq] at e1
 simp at e1
 rw [S.av_eq]
 simp [IP_sx_Print,i_sx_Print,B0_fold,e1,e2]
theorem print1_D (t:S) : t.wf → t.text.length ≤ 140737488355328 → ∀ (hp:List HObj) (lo:Nat) (q:Bool),callD G0 IP n_sr05_Print [t.av] hp lo q = some (.ret (.str t.text) hp) := by
 induction t using S.ind with | h t ih =>
 intro hw hb hp lo q
 rw [S.wf_eq] at hw
 obtain ⟨_,hl,_,hws⟩ := hw
 rw [callD_eq]
 have ht := S.text_eq t
 by_cases ha : t.atom = []
 · rw [if_pos ha] at ht
   rw [ht] at hb ⊢
   simp only [List.length_cons,List.length_append,List.length_nil] at hb
   have hloop := loop_iter (G := G0) (IP := IP) (lo := hp.length) (b := l_sr05_Print_0)
     (fun i => ⟨[(1,.box [.str t.atom,.list (S.avs t.list) (ownB t.o)]),(3,.str (40 :: S.texts true (t.list.take i))),(4,.int .i64 i)],hp⟩) t.list.length
     (r := (.exit 0,⟨[(1,.box [.str t.atom,.list (S.avs t.list) (ownB t.o)]),(3,.str (40 :: S.texts true t.list)),(4,.int .i64 t.list.length),(14,.bool false)],hp⟩)) (fun i hi => by
       have hle := texts_le (b := true) t.list (i + 1)
       rw [texts_take_len hi] at hle
       simp only [List.length_append] at hle
       have hw := wrap_succ hi hl
       have hiI : (i:Int) < (t.list.length : Int) := by omega
       have e3 := ih t.list[i] (List.getElem_mem hi) (hws _ (List.getElem_mem hi)) (by omega) hp hp.length false
       rw [S.av_eq] at e3
       by_cases h0 : i = 0
       · subst h0
         rw [texts_take_len hi]
         have hb1 : t.list[0].text.length + 1 ≤ 9223372036854775807 := by omega
         have hb2 : 1 + t.list[0].text.length ≤ 9223372036854775807 := by omega
         simp [l_sr05_Print_0,hi,S.av_eq t.list[0],S.texts,e3,hb1,hb2,show IntKind.wrap .i64 1 = 1 from rfl]
       · have h0' : 0 < i := by omega
         have hle2 : ((if true && decide (i = 0) then ([] : List UInt8) else [32])).length = 1 := by simp [h0]
         rw [hle2] at hle
         rw [texts_take_len hi,← hw]
         have hb1 : (S.texts true (List.take i t.list)).length + 1 + 1 ≤ 9223372036854775807 := by omega
         have hb2 : (S.texts true (List.take i t.list)).length + 1 + 1 + t.list[i].text.length ≤ 9223372036854775807 := by omega
         simp [l_sr05_Print_0,hi,hiI,h0,h0',S.av_eq t.list[i],e3,hb1,hb2])
     (by simp [l_sr05_Print_0]) (by simp)
   simp [S.texts,ha] at hloop
   have hb3 : (S.texts true t.list).length + 1 + 1 ≤ 9223372036854775807 := by omega
   rw [S.av_eq t]
   simp [IP_sr05_Print,i_sr05_Print,ha,hloop,hb3]
 · rw [if_neg ha] at ht
   rw [ht]
   rw [S.av_eq t]
   simp [IP_sr05_Print,i_sr05_Print,ha]
end
section
variable {lo:Nat}
end
end Go.Proofs.YtkofimhnehkdoaaGreatDoor.Rf
end
section
namespace Go.Proofs.YtkofimhnehkdoaaGreatDoor.Rf
def tokC (c:UInt8) : Bool := !blankC (c.toNat : Int) && !decide ((c.toNat : Int) = 59)
def Gp (g:List UInt8) : Prop := ∀ pre post,skipN (pre ++ (g ++ post)) pre.length = skipN (pre ++ (g ++ post)) (pre.length + g.length)
theorem Gp.nil : Gp [] := fun pre post => by simp
theorem Gp.app {a b:List UInt8} (ha:Gp a) (hb:Gp b) : Gp (a ++ b) := fun pre post => by
 have h1 := ha pre (b ++ post)
 have h2 := hb (pre ++ a) post
 simp only [List.append_assoc,List.length_append] at h1 h2 ⊢
 rw [h1,h2]; congr 1; omega
theorem plain_tok {c:UInt8} (h:plainC (c.toNat : Int) = true) : tokC c = true ∧ ¬ (c.toNat : Int) = 40 ∧ ¬ (c.toNat : Int) = 41 := by
 simp only [plainC,Bool.and_eq_true,decide_eq_true_eq,Bool.not_eq_true',decide_eq_false_iff_not] at h
 obtain ⟨h1,h2,h3,h4,h5⟩ := h
 refine ⟨?_,h3,h4⟩
 simp only [tokC,blankC,Bool.and_eq_true,Bool.not_eq_true',decide_eq_false_iff_not,Bool.or_eq_false_iff]
 exact ⟨⟨by omega,by omega,by omega,by omega⟩,h5⟩
mutual
inductive Enc : S → List UInt8 → Prop
 | atom {a:List UInt8} {o:Bool} : a ≠ [] → (∀ c,c ∈ a → plainC (c.toNat : Int) = true) → Enc (.mk a o []) a
 | list {o:Bool} {l:List S} {b:List UInt8} : EncL l b → Enc (.mk [] o l) (40 :: (b ++ [41]))
inductive EncL : List S → List UInt8 → Prop
 | nil {g:List UInt8} : Gp g → EncL [] g
 | cons {g e b:List UInt8} {t:S} {r:List S} : Gp g → Enc t e → EncL r b → (t.atom ≠ [] → ∀ c r,b = c :: r → plainC (c.toNat : Int) = false) → EncL (t :: r) (g ++ (e ++ b))
end
mutual
def S.depth : S → Nat
 | .mk a _ l => if a = [] then S.depths l + 1 else 1
def S.depths : List S → Nat
 | [] => 0
 | t :: r => max t.depth (S.depths r)
end
theorem S.depth_eq (t:S) : t.depth = if t.atom = [] then S.depths t.list + 1 else 1 := by cases t; rfl
theorem Enc.head {t:S} {e:List UInt8} (h:Enc t e) : ∃ c r,e = c :: r ∧ tokC c = true ∧ ¬ (c.toNat : Int) = 41 := by
 cases h with
 | atom h1 h2 =>
   cases e with
   | nil => exact absurd rfl h1
   | cons c r => exact ⟨c,r,rfl,(plain_tok (h2 c (by simp))).1,(plain_tok (h2 c (by simp))).2.2⟩
 | list h1 => exact ⟨40,_,rfl,by decide,by decide⟩
end Go.Proofs.YtkofimhnehkdoaaGreatDoor.Rf
end
section
namespace Go.Proofs.YtkofimhnehkdoaaGreatDoor.Rf
def allPlain (a:List UInt8) : Bool := a.all fun c => plainC (c.toNat : Int)
mutual
def S.right : S → Bool
 | .mk a _ l => if a = [] then S.rights l else l.isEmpty && allPlain a
def S.rights : List S → Bool
 | [] => true
 | t :: r => t.right && S.rights r
end
mutual
def S.valid : S → Nat → Bool
 | .mk a _ l,d => decide (d < 64) && (if a = [] then S.valids l (d + 1) else allPlain a && l.isEmpty)
def S.valids : List S → Nat → Bool
 | [],_ => true
 | t :: r,d => t.valid d && S.valids r d
end
theorem S.right_eq (t:S) : t.right = if t.atom = [] then S.rights t.list else t.list.isEmpty && allPlain t.atom := by cases t; rfl
section
variable {hp:List HObj} {lo:Nat}
end
end Go.Proofs.YtkofimhnehkdoaaGreatDoor.Rf
end
section
namespace Go.Proofs.YtkofimhnehkdoaaGreatDoor.Rf
section
variable {hp:List HObj} {lo:Nat}
end
end Go.Proofs.YtkofimhnehkdoaaGreatDoor.Rf
end
section
namespace Go.Proofs.YtkofimhnehkdoaaGreatDoor.Rf
end Go.Proofs.YtkofimhnehkdoaaGreatDoor.Rf
end
section
namespace Go.Proofs.YtkofimhnehkdoaaGreatDoor.Rf
theorem right_atom {t:S} (h:t.right = true) (ha:t.atom ≠ []) : t.list = [] ∧ ∀ c,c ∈ t.atom → plainC (c.toNat : Int) = true := by
 rw [S.right_eq,if_neg ha] at h
 simp only [Bool.and_eq_true,List.isEmpty_iff,allPlain,List.all_eq_true] at h
 exact h
theorem plain_name {n:Int} (h:nameC n = true) : plainC n = true := by
 simp only [nameC,lowC,Bool.or_eq_true,Bool.and_eq_true,decide_eq_true_eq] at h
 simp only [plainC,Bool.and_eq_true,decide_eq_true_eq,Bool.not_eq_true',decide_eq_false_iff_not]
 omega
theorem plain_dig {c:UInt8} (h:isDig c = true) : plainC (c.toNat : Int) = true := by
 simp only [isDig,Bool.and_eq_true,decide_eq_true_eq] at h
 simp only [plainC,Bool.and_eq_true,decide_eq_true_eq,Bool.not_eq_true',decide_eq_false_iff_not]
 omega
theorem decI_plain (n:Int) : ∀ c,c ∈ decI n → plainC (c.toNat : Int) = true := fun c hc => plain_dig (decI_digs n c hc)
theorem name_plain {n:List UInt8} (h:nameOk n = true) : ∀ c,c ∈ n → plainC (c.toNat : Int) = true := fun c hc => plain_name ((nameOk_mem h).2.2.2.2 c hc)
theorem aS_right {a:List UInt8} (h:a ≠ []) (hp:∀ c,c ∈ a → plainC (c.toNat : Int) = true) : (aS a).right = true := by
 rw [aS,S.right,if_neg h]
 simp only [List.isEmpty_nil,Bool.true_and,allPlain,List.all_eq_true]
 exact hp
theorem nameE_plain {op:Int} (h:opOk op = true) : nameE op ≠ [] ∧ (nameE op).length ≤ 7 ∧ ∀ c,c ∈ nameE op → plainC (c.toNat : Int) = true := by
 rcases opOk_cases h with rfl | rfl | rfl | rfl | rfl | rfl | rfl | rfl | rfl | rfl | rfl | rfl | rfl | rfl | rfl | rfl | rfl | rfl | rfl | rfl | rfl | rfl | rfl | rfl | rfl | rfl
 all_goals decide +kernel
theorem S.rights_app : ∀ (a b:List S),S.rights (a ++ b) = (S.rights a && S.rights b)
 | [],b => rfl
 | t :: r,b => by simp [S.rights,S.rights_app r b,Bool.and_assoc]
theorem headW_right {op:Int} (h:opOk op = true) (w v:Int) : S.rights (headW op w v) = true := by
 have hn := nameE_plain h
 unfold headW
 simp only [S.rights,aS_right hn.1 hn.2.2,Bool.true_and,S.rights_app]
 have hd : ∀ n,(aS (decI n)).right = true := fun n => aS_right (dec_ne _) (decI_plain n)
 split <;> split <;> simp [S.rights,hd]
mutual
theorem write_right : ∀ t : T,(writeT t).right = true
 | .mk op w v n o as => by
   rw [writeT]
   by_cases h : notE (.mk op w v n o as) = false
   · rw [if_pos h]; rfl
   rw [if_neg h]
   have hN : notE (.mk op w v n o as) = true := by cases hh : notE (.mk op w v n o as) <;> simp_all
   rw [notE_mk] at hN
   simp only [Bool.and_eq_true,decide_eq_true_eq] at hN
   obtain ⟨n0,n1,n2,n3⟩ := hN
   have hop : opOk op = true := arE_ok (by omega)
   have h58 : plainC ((58:UInt8).toNat : Int) = true := by decide
   have nm1 : (op = 1 ∨ op = 24 ∨ op = 25) → ∀ c,c ∈ n ++ 58 :: decI w → plainC (c.toNat : Int) = true := fun e c hc => by
     rw [if_pos e] at n3
     simp only [Bool.and_eq_true,decide_eq_true_eq] at n3
     simp only [List.mem_append,List.mem_cons] at hc
     rcases hc with hc | rfl | hc
     · exact name_plain n3.1 c hc
     · exact h58
     · exact decI_plain w c hc
   by_cases h1 : op = 1
   · rw [if_pos h1]; exact aS_right (by simp) (nm1 (.inl h1))
   rw [if_neg h1]
   by_cases h2 : op = 24
   · rw [if_pos h2]; refine aS_right (by simp) fun c hc => ?_
     rcases List.mem_cons.1 hc with rfl | hc
     · decide
     · exact nm1 (.inr (.inl h2)) c hc
   rw [if_neg h2]
   by_cases h3 : op = 25
   · rw [if_pos h3]; refine aS_right (by simp) fun c hc => ?_
     rcases List.mem_cons.1 hc with rfl | hc
     · decide
     · exact nm1 (.inr (.inr h3)) c hc
   rw [if_neg h3]
   by_cases h4 : op = 2
   · rw [if_pos h4]; refine aS_right (by simp) fun c hc => ?_
     simp only [List.mem_append,List.mem_cons] at hc
     rcases hc with hc | rfl | hc
     · exact decI_plain v c hc
     · exact h58
     · exact decI_plain w c hc
   rw [if_neg h4,S.right,if_pos rfl,S.rights_app,headW_right hop,writes_right as]; rfl
theorem writes_right : ∀ as : List T,S.rights (writeTs as) = true
 | [] => rfl
 | t :: r => by simp [writeTs,S.rights,write_right t,writes_right r]
end
mutual
def T.dep : T → Nat
 | .mk _ _ _ _ _ as => 1 + T.deps as
def T.deps : List T → Nat
 | [] => 0
 | t :: r => max t.dep (T.deps r)
end
theorem T.dep_pos (t:T) : 1 ≤ t.dep := by cases t; simp [T.dep]
theorem aS_depth {a:List UInt8} (h:a ≠ []) : (aS a).depth = 1 := by simp [aS,S.depth,h]
theorem S.depths_app2 : ∀ (a b:List S),S.depths (a ++ b) = max (S.depths a) (S.depths b)
 | [],b => by simp [S.depths]
 | t :: r,b => by simp [S.depths,S.depths_app2 r b]
theorem headW_depth {op:Int} (h:opOk op = true) (w v:Int) : S.depths (headW op w v) = 1 := by
 have hn := nameE_plain h
 have hd : ∀ n,(aS (decI n)).depth = 1 := fun n => aS_depth (dec_ne _)
 unfold headW
 simp only [S.depths,aS_depth hn.1,S.depths_app2]
 split <;> split <;> simp [S.depths,hd]
mutual
theorem write_depth : ∀ t : T,(writeT t).depth ≤ t.dep
 | .mk op w v n o as => by
   have hp := T.dep_pos (.mk op w v n o as)
   rw [writeT]
   by_cases h : notE (.mk op w v n o as) = false
   · rw [if_pos h,aS_depth (by simp)]; exact hp
   rw [if_neg h]
   have hN : notE (.mk op w v n o as) = true := by cases hh : notE (.mk op w v n o as) <;> simp_all
   rw [notE_mk] at hN
   simp only [Bool.and_eq_true,decide_eq_true_eq] at hN
   obtain ⟨n0,n1,n2,n3⟩ := hN
   have hop : opOk op = true := arE_ok (by omega)
   by_cases h1 : op = 1
   · rw [if_pos h1,aS_depth (by simp)]; exact hp
   rw [if_neg h1]
   by_cases h2 : op = 24
   · rw [if_pos h2,aS_depth (by simp)]; exact hp
   rw [if_neg h2]
   by_cases h3 : op = 25
   · rw [if_pos h3,aS_depth (by simp)]; exact hp
   rw [if_neg h3]
   by_cases h4 : op = 2
   · rw [if_pos h4,aS_depth (by simp)]; exact hp
   rw [if_neg h4,S.depth,if_pos rfl,S.depths_app2,headW_depth hop]
   have hne := arE_ne hop h1 h4 h2 h3
   have ih := writes_depth as
   have : 1 ≤ T.deps as := by
     cases as with
     | nil => simp at n2; exact absurd n2.symm hne
     | cons t r => have := T.dep_pos t; simp only [T.deps]; omega
   simp only [T.dep]; omega
theorem writes_depth : ∀ as : List T,S.depths (writeTs as) ≤ T.deps as
 | [] => by simp [writeTs,S.depths,T.deps]
 | t :: r => by
   have a := write_depth t
   have b := writes_depth r
   simp only [writeTs,S.depths,T.deps]; omega
end
theorem decI_len {n:Int} (h:n < 18446744073709551616) : (decI n).length ≤ 20 := dec_len20 (by omega)
theorem aS_text (a:List UInt8) (h:a ≠ []) : (aS a).text = a := by simp [aS,S.text,h]
theorem texts_app2 : ∀ (a b:List S),a ≠ [] → S.texts true (a ++ b) = S.texts true a ++ S.texts false b := by
 have h0 : ∀ (a b:List S),S.texts false (a ++ b) = S.texts false a ++ S.texts false b := by
   intro a
   induction a with
   | nil => intro b; rfl
   | cons x r ih => intro b; simp [S.texts,ih b]
 intro a b h
 cases a with
 | nil => exact absurd rfl h
 | cons x r => simp [S.texts,h0 r b]
theorem headW_len {op w v:Int} (h:opOk op = true) (hw:w < 18446744073709551616) (hv:v < 18446744073709551616) : (S.texts true (headW op w v)).length ≤ 50 := by
 have hn := nameE_plain h
 have l1 := decI_len hw
 have l2 := decI_len hv
 have t1 := aS_text (decI w) (dec_ne _)
 have t2 := aS_text (decI v) (dec_ne _)
 unfold headW
 simp only [S.texts,aS_text _ hn.1]
 by_cases h1 : op = 21
 · simp [h1,S.texts,t1,t2]; rw [h1] at hn; omega
 · by_cases h2 : op = 22 ∨ op = 23
   · simp [h1,h2,S.texts,t1]; omega
   · simp [h1,h2,S.texts]; omega
mutual
theorem write_len : ∀ t : T,t.wf → (writeT t).text.length + 1 ≤ 64 * t.size
 | .mk op w v n o as,hw => by
   simp only [T.wf] at hw
   obtain ⟨_,w2,w3,_,_,_,w7⟩ := hw
   have wv : 0 ≤ v ∧ v < 18446744073709551616 := by simp [Lit.wf,IntKind.min,IntKind.max,IntKind.signed,IntKind.bits] at w3; omega
   have ih := writes_len as w7
   rw [writeT,T.size]
   by_cases h : notE (.mk op w v n o as) = false
   · rw [if_pos h,aS_text _ (by simp)]; simp; omega
   rw [if_neg h]
   have hN : notE (.mk op w v n o as) = true := by cases hh : notE (.mk op w v n o as) <;> simp_all
   rw [notE_mk] at hN
   simp only [Bool.and_eq_true,decide_eq_true_eq] at hN
   obtain ⟨n0,n1,n2,n3⟩ := hN
   have hop : opOk op = true := arE_ok (by omega)
   have l1 := decI_len (n := w) (by omega)
   have l2 := decI_len wv.2
   have nl : (op = 1 ∨ op = 24 ∨ op = 25) → n.length ≤ 16 := fun e => by
     rw [if_pos e] at n3
     simp only [Bool.and_eq_true,decide_eq_true_eq] at n3
     exact (nameOk_mem n3.1).2.1
   by_cases h1 : op = 1
   · have := nl (.inl h1)
     rw [if_pos h1,aS_text _ (by simp)]; simp; omega
   rw [if_neg h1]
   by_cases h2 : op = 24
   · have := nl (.inr (.inl h2))
     rw [if_pos h2,aS_text _ (by simp)]; simp; omega
   rw [if_neg h2]
   by_cases h3 : op = 25
   · have := nl (.inr (.inr h3))
     rw [if_pos h3,aS_text _ (by simp)]; simp; omega
   rw [if_neg h3]
   by_cases h4 : op = 2
   · rw [if_pos h4,aS_text _ (by simp)]; simp; omega
   rw [if_neg h4,S.text,if_pos rfl,texts_app2 _ _ (by simp [headW])]
   have l3 := headW_len (w := w) hop (by omega) wv.2
   simp; omega
theorem writes_len : ∀ as : List T,T.wfs as → (S.texts false (writeTs as)).length ≤ 64 * T.sizes as
 | [],_ => by simp [writeTs,S.texts,T.sizes]
 | t :: r,hw => by
   simp only [T.wfs] at hw
   have a := write_len t hw.1
   have b := writes_len r hw.2
   simp only [writeTs,S.texts,T.sizes,List.length_append]
   simp; omega
end
mutual
theorem write_wf : ∀ t : T,t.wf → (writeT t).wf
 | .mk op w v n o as,hw => by
   simp only [T.wf] at hw
   obtain ⟨_,w2,w3,_,wl,_,w7⟩ := hw
   have wv : 0 ≤ v ∧ v < 18446744073709551616 := by simp [Lit.wf,IntKind.min,IntKind.max,IntKind.signed,IntKind.bits] at w3; omega
   have ih := writes_wf as w7
   have hA : ∀ {a:List UInt8},a.length ≤ 1000 → (aS a).wf := fun h => by simp only [aS,S.wf,S.wfs]; exact ⟨by omega,by simp,by simp,trivial⟩
   rw [writeT]
   by_cases h : notE (.mk op w v n o as) = false
   · rw [if_pos h]; exact hA (by simp)
   rw [if_neg h]
   have hN : notE (.mk op w v n o as) = true := by cases hh : notE (.mk op w v n o as) <;> simp_all
   rw [notE_mk] at hN
   simp only [Bool.and_eq_true,decide_eq_true_eq] at hN
   obtain ⟨n0,n1,n2,n3⟩ := hN
   have hop : opOk op = true := arE_ok (by omega)
   have l1 := decI_len (n := w) (by omega)
   have l2 := decI_len wv.2
   have nl : (op = 1 ∨ op = 24 ∨ op = 25) → n.length ≤ 16 := fun e => by
     rw [if_pos e] at n3
     simp only [Bool.and_eq_true,decide_eq_true_eq] at n3
     exact (nameOk_mem n3.1).2.1
   by_cases h1 : op = 1
   · have := nl (.inl h1)
     rw [if_pos h1]; exact hA (by simp; omega)
   rw [if_neg h1]
   by_cases h2 : op = 24
   · have := nl (.inr (.inl h2))
     rw [if_pos h2]; exact hA (by simp; omega)
   rw [if_neg h2]
   by_cases h3 : op = 25
   · have := nl (.inr (.inr h3))
     rw [if_pos h3]; exact hA (by simp; omega)
   rw [if_neg h3]
   by_cases h4 : op = 2
   · rw [if_pos h4]; exact hA (by simp; omega)
   rw [if_neg h4]
   have hn := nameE_plain hop
   have k1 := hA (a := nameE op) (by omega)
   have k2 := hA (a := decI v) (by omega)
   have k3 := hA (a := decI w) (by omega)
   have hl : (headW op w v).length ≤ 3 := by unfold headW; split <;> split <;> simp
   have i6 : arE op ≤ 3 := by
     unfold arE; split
     · omega
     · split
       · omega
       · split
         · omega
         · split <;> omega
   simp only [S.wf]
   refine ⟨by simp,by rw [List.length_append,writeTs_len]; omega,by simp,?_⟩
   rw [S.wfs_iff]
   intro t ht
   rcases List.mem_append.1 ht with ht | ht
   · have : t = aS (nameE op) ∨ t = aS (decI v) ∨ t = aS (decI w) := by
       unfold headW at ht
       rcases List.mem_cons.1 ht with e | ht
       · exact .inl e
       · rcases List.mem_append.1 ht with ht | ht
         · split at ht
           · simp at ht; exact .inr (.inl ht)
           · simp at ht
         · split at ht
           · simp at ht; exact .inr (.inr ht)
           · simp at ht
     rcases this with rfl | rfl | rfl
     · exact k1
     · exact k2
     · exact k3
   · exact (S.wfs_iff _).1 ih t ht
theorem writes_wf : ∀ as : List T,T.wfs as → S.wfs (writeTs as)
 | [],_ => trivial
 | t :: r,hw => by
   simp only [T.wfs] at hw
   exact ⟨write_wf t hw.1,writes_wf r hw.2⟩
end
end Go.Proofs.YtkofimhnehkdoaaGreatDoor.Rf
end
