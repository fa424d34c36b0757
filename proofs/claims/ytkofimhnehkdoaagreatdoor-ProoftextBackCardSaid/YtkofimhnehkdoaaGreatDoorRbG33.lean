/- A part. -/
import Derived.Test.YtkofimhnehkdoaaGreatDoorRbG32
import Derived.Test.YtkofimhnehkdoaaGreatDoorRbG21
set_option linter.unusedVariables false
set_option linter.unusedSimpArgs false
section
namespace Go.Proofs.YtkofimhnehkdoaaGreatDoor.Rf
section
variable {hp:List HObj} {lo:Nat}
theorem fb_tail (hlo:lo ≤ hp.length) (p r:List AV) (n u i:Nat) (hi:i ≤ 7) (hn:i ≤ n) (hu:u < 10 ^ i) (f:List AV) (hf:f.length = i) :
   ∃ fr,evalC G0 (callD G0 IP) (loopD G0 IP lo) lo fbTail ⟨frB hp p.length n u i ++ [(20,.bool false)],HB hp (p ++ (f ++ r))⟩ = some (.normal,⟨fr,HB hp (p ++ (digA (digN i u) ++ r))⟩) := by
 match i,hi with
 | 0,_ => exact fb_tail0 hlo p r n u hn hu f hf
 | 1,_ => exact fb_tail1 hlo p r n u hn hu f hf
 | 2,_ => exact fb_tail2 hlo p r n u hn hu f hf
 | 3,_ => exact fb_tail3 hlo p r n u hn hu f hf
 | 4,_ => exact fb_tail4 hlo p r n u hn hu f hf
 | 5,_ => exact fb_tail5 hlo p r n u hn hu f hf
 | 6,_ => exact fb_tail6 hlo p r n u hn hu f hf
 | 7,_ => exact fb_tail7 hlo p r n u hn hu f hf
theorem fb_body : i_isc_formatBase10.body = .seq (.region [oO 17 (.mv (tU 0)),oO 18 (.len (tU 17) .list),oO 4 (.mv (tV 18))] [0,1,4]) (.seq (.block 0 (.loop l_isc_formatBase10_0)) fbTail) := rfl
theorem formatBase10_D (hlo:lo ≤ hp.length) (p f r:List AV) (n u:Nat) (hf:f.length = n) (hn:n ≤ 20) (hu:u < 10 ^ n) (hu2:u < 18446744073709551616) :
   callD G0 IP n_isc_formatBase10 [.sref hp.length p.length n 1,.int .u64 u] (HB hp (p ++ (f ++ r))) lo false = some (.ret (.tup []) (HB hp (p ++ (digA (digN n u) ++ r)))) := by
 have h1 := fb_loop (hp := hp) (lo := lo) hlo p r n (by omega) n f [] u hf (by simp) hu2
 simp only [digA,List.map_nil,List.nil_append,List.append_nil] at h1
 have hsum : n % 8 + 8 * (n / 8) = n := by omega
 have hu3 : u / 10 ^ (8 * (n / 8)) < 10 ^ (n % 8) := by
   rw [Nat.div_lt_iff_lt_mul (Nat.pow_pos (by omega)),← Nat.pow_add,hsum]; exact hu
 obtain ⟨fr,h2⟩ := fb_tail (hp := hp) (lo := lo) hlo p (digA (digN (8 * (n / 8)) u) ++ r) n (u / 10 ^ (8 * (n / 8))) (n % 8) (by omega) (by omega) hu3 (f.take (n % 8)) (by simp; omega)
 have h3 : digA (digN n u) = digA (digN (n % 8) (u / 10 ^ (8 * (n / 8)))) ++ digA (digN (8 * (n / 8)) u) := by
   rw [← digA_app,← digN_app,hsum]
 rw [h3]
 simp only [digA] at h2 ⊢
 clear h3 hsum hu3
 generalize u / 10 ^ (8 * (n / 8)) = w at *
 generalize n % 8 = m at *
 rw [callD_eq]
 have g1 : i_isc_formatBase10.arity = 2 := rfl
 have g2 : i_isc_formatBase10.res = [] := rfl
 have g3 : i_isc_formatBase10.rcv = none := rfl
 have g4 : i_isc_formatBase10.dfr = none := rfl
 have g5 : i_isc_formatBase10.frz = [] := rfl
 have g6 : i_isc_formatBase10.still = false := rfl
 simp only [List.cons_append,List.nil_append] at h2
 simp [IP_isc_formatBase10,g1,g2,g3,g4,g5,g6,fb_body,hf,h1,h2]
theorem bytesOf_digA (l:List UInt8) : bytesOf (l.map fun c => AV.int .u8 (c.toNat : Int)) = some l := bytesOf_bytes l
abbrev Z24 : List AV := [.int .u8 0,.int .u8 0,.int .u8 0,.int .u8 0,.int .u8 0,.int .u8 0,.int .u8 0,.int .u8 0,.int .u8 0,.int .u8 0,.int .u8 0,.int .u8 0,.int .u8 0,.int .u8 0,.int .u8 0,.int .u8 0,.int .u8 0,.int .u8 0,.int .u8 0,.int .u8 0,.int .u8 0,.int .u8 0,.int .u8 0,.int .u8 0]
theorem formatUint_D (u:Nat) (hu:u < 18446744073709551616) (hp:List HObj) (lo:Nat) (q:Bool) : callD G0 IP n_isc_FormatUint [.int .u64 u,.int .i64 10] hp lo q = some (.ret (.str (dec u)) hp) := by
 rw [callD_eq]
 by_cases h : u < 100
 · have h' : (u:Int) < 100 := by omega
   have hw : IntKind.wrap .i64 (u:Int) = u := wrap_small (by omega) (by omega)
   have e := fun hp lo q => small_D (hp := hp) (lo := lo) q u h
   simp [IP_isc_FormatUint,i_isc_FormatUint,h',hw,e]
 · have h' : ¬ (u:Int) < 100 := by omega
   obtain ⟨n,n1,n2,n3,n4⟩ := numDigits_D u (by omega) hu
   have hd : digN (n + 1) u = dec u := digN_dec n u n3 (.inr n2)
   have e1 := formatBase10_D (hp := hp) (lo := hp.length) (Nat.le_refl _) [] (Z24.take (n + 1)) (Z24.drop (n + 1)) (n + 1) u (by simp; omega) (by omega) n3 hu
   rw [List.take_append_drop,hd] at e1
   have k1 : (0:Int) ≤ (n:Int) + 1 := by omega
   have k2 : n + 1 ≤ 24 := by omega
   have k3 : ((n:Int) + 1).toNat = n + 1 := by omega
   have hl : (dec u).length = n + 1 := by rw [← hd,digN_len]
   simp [digA] at e1
   have k4 : 24 ≤ (dec u).length + (23 - n) := by omega
   have k5 : ∀ X,List.take (n + 1) (((dec u).map fun c => AV.int .u8 (c.toNat : Int)) ++ X) = (dec u).map fun c => AV.int .u8 (c.toNat : Int) := fun X => List.take_left' (by simp; omega)
   have k6 : n + 1 ≤ (dec u).length + (23 - n) := by omega
   simp [IP_isc_FormatUint,i_isc_FormatUint,h',n4,k1,k2,k3,k4,k5,k6,bytesOf_digA,e1]
theorem formatUintS_D (u:Nat) (hu:u < 18446744073709551616) (hp:List HObj) (lo:Nat) (q:Bool) : callD G0 IP n_sc_FormatUint [.int .u64 u,.int .i64 10] hp lo q = some (.ret (.str (dec u)) hp) := by
 rw [callD_eq]
 simp [IP_sc_FormatUint,i_sc_FormatUint,formatUint_D u hu]
theorem decT_D (v:Int) (h0:0 ≤ v) (hv:v < 18446744073709551616) (hp:List HObj) (lo:Nat) (q:Bool) : callD G0 IP n_digits_Dec [.int .u64 v] hp lo q = some (.ret (.str (decI v)) hp) := by
 have e := formatUintS_D v.toNat (by omega)
 rw [Int.toNat_of_nonneg h0] at e
 rw [callD_eq]
 simp [IP_digits_Dec,i_digits_Dec,e,decI]
theorem intT_D (w:Int) (h0:0 ≤ w) (hw:w ≤ 64) (hp:List HObj) (lo:Nat) (q:Bool) : callD G0 IP n_digits_Int [.int .i64 w] hp lo q = some (.ret (.str (decI w)) hp) := by
 have e1 := fun hp lo q => small_D (hp := hp) (lo := lo) q w.toNat (by omega)
 rw [Int.toNat_of_nonneg h0] at e1
 have k : w < 100 := by omega
 have e2 : ∀ hp lo q,callD G0 IP n_isc_FormatInt [.int .i64 w,.int .i64 10] hp lo q = some (.ret (.str (decI w)) hp) := fun hp lo q => by
   rw [callD_eq]; simp [IP_isc_FormatInt,i_isc_FormatInt,h0,k,e1,decI]
 have e3 : ∀ hp lo q,callD G0 IP n_isc_Itoa [.int .i64 w] hp lo q = some (.ret (.str (decI w)) hp) := fun hp lo q => by
   rw [callD_eq]; simp [IP_isc_Itoa,i_isc_Itoa,e2]
 have e4 : ∀ hp lo q,callD G0 IP n_sc_Itoa [.int .i64 w] hp lo q = some (.ret (.str (decI w)) hp) := fun hp lo q => by
   rw [callD_eq]; simp [IP_sc_Itoa,i_sc_Itoa,e3]
 rw [callD_eq]
 simp [IP_digits_Int,i_digits_Int,e4]
end
end Go.Proofs.YtkofimhnehkdoaaGreatDoor.Rf
end
section
namespace Go.Proofs.YtkofimhnehkdoaaGreatDoor.Rf
def decZ (n:Int) : List UInt8 := if 0 ≤ n then decI n else 45 :: decI (-n)
section
variable {hp:List HObj} {lo:Nat}
set_option maxHeartbeats 1000000 in
theorem formatInt_D (w:Int) (h0:-9223372036854775808 ≤ w) (h1:w ≤ 9223372036854775807) (hp:List HObj) (lo:Nat) (q:Bool) : callD G0 IP n_isc_FormatInt [.int .i64 w,.int .i64 10] hp lo q = some (.ret (.str (decZ w)) hp) := by
 rw [callD_eq]
 by_cases hs : 0 ≤ w ∧ w < 100
 · have e1 := fun hp lo q => small_D (hp := hp) (lo := lo) q w.toNat (by omega)
   rw [Int.toNat_of_nonneg hs.1] at e1
   simp [IP_isc_FormatInt,i_isc_FormatInt,hs.1,hs.2,e1,decZ,decI]
 · by_cases hn : 0 ≤ w
   · have h100 : ¬ w < 100 := by omega
     have hneg : ¬ w < 0 := by omega
     have hwu : IntKind.wrap .u64 w = w := by simp [IntKind.wrap,IntKind.signed,IntKind.bits]; omega
     obtain ⟨u,rfl⟩ : ∃ u : Nat,w = u := ⟨w.toNat,by omega⟩
     obtain ⟨n,n1,n2,n3,n4⟩ := numDigits_D u (by omega) (by omega)
     have hd : digN (n + 1) u = dec u := digN_dec n u n3 (.inr n2)
     have e1 := formatBase10_D (hp := hp) (lo := hp.length) (Nat.le_refl _) [.int .u8 0] ((Z24.drop 1).take (n + 1)) ((Z24.drop 1).drop (n + 1)) (n + 1) u (by simp; omega) (by omega) n3 (by omega)
     rw [List.take_append_drop,hd] at e1
     have k1 : (0:Int) ≤ 1 + ((n:Int) + 1) := by omega
     have k2 : n + 2 ≤ 24 := by omega
     have k3 : (1 + ((n:Int) + 1)).toNat = n + 2 := by omega
     have hl : (dec u).length = n + 1 := by rw [← hd,digN_len]
     have hw2 : IntKind.wrap .i64 (1 + ((n:Int) + 1)) = 1 + ((n:Int) + 1) := wrap_small (by omega) (by omega)
     have hz : decZ (u:Int) = dec u := by simp [decZ,decI]
     rw [hz]
     have k4 : 23 ≤ (dec u).length + (22 - n) := by omega
     have k5 : ∀ X,List.take (n + 1) (((dec u).map fun c => AV.int .u8 (c.toNat : Int)) ++ X) = (dec u).map fun c => AV.int .u8 (c.toNat : Int) := fun X => List.take_left' (by simp; omega)
     have k6 : 1 + (n + 1) ≤ (dec u).length + (22 - n) + 1 := by omega
     have k7 : n + 1 ≤ (dec u).length + (22 - n) := by omega
     have k8 : n + 2 ≤ (dec u).length + (22 - n) + 1 := by omega
     simp [digA] at e1
     simp [IP_isc_FormatInt,i_isc_FormatInt,h100,hneg,hwu,n4,k1,k2,k3,k4,k5,k6,k7,k8,hw2,bytesOf_digA,e1]
   · have hneg : w < 0 := by omega
     obtain ⟨u,hu⟩ : ∃ u : Nat,w = -(u:Int) := ⟨(-w).toNat,by omega⟩
     subst hu
     have hwu : IntKind.wrap .u64 (-(u:Int)) = 18446744073709551616 - (u:Int) := by simp [IntKind.wrap,IntKind.signed,IntKind.bits]; omega
     have hwn : IntKind.wrap .u64 (-(18446744073709551616 - (u:Int))) = u := by simp [IntKind.wrap,IntKind.signed,IntKind.bits]; omega
     obtain ⟨n,n1,n2,n3,n4⟩ := numDigits_D u (by omega) (by omega)
     have hd : digN (n + 1) u = dec u := digN_dec n u n3 (.inr n2)
     have e1 := formatBase10_D (hp := hp) (lo := hp.length) (Nat.le_refl _) [.int .u8 0] ((Z24.drop 1).take (n + 1)) ((Z24.drop 1).drop (n + 1)) (n + 1) u (by simp; omega) (by omega) n3 (by omega)
     rw [List.take_append_drop,hd] at e1
     have k1 : (0:Int) ≤ 1 + ((n:Int) + 1) := by omega
     have k2 : n + 2 ≤ 24 := by omega
     have k3 : (1 + ((n:Int) + 1)).toNat = n + 2 := by omega
     have hl : (dec u).length = n + 1 := by rw [← hd,digN_len]
     have hw2 : IntKind.wrap .i64 (1 + ((n:Int) + 1)) = 1 + ((n:Int) + 1) := wrap_small (by omega) (by omega)
     have hz : decZ (-(u:Int)) = 45 :: dec u := by simp [decZ,decI]; omega
     have hb45 : AV.int .u8 45 = AV.int .u8 (((45:UInt8).toNat : Nat) : Int) := rfl
     have hu0 : 0 < u := by omega
     have hu1 : ¬ u = 0 := by omega
     rw [hz]
     have k4 : 23 ≤ (dec u).length + (22 - n) := by omega
     have k5 : ∀ X,List.take (n + 1) (((dec u).map fun c => AV.int .u8 (c.toNat : Int)) ++ X) = (dec u).map fun c => AV.int .u8 (c.toNat : Int) := fun X => List.take_left' (by simp; omega)
     have k6 : 1 + (n + 1) ≤ (dec u).length + (22 - n) + 1 := by omega
     have k7 : n + 1 ≤ (dec u).length + (22 - n) := by omega
     have k8 : n + 2 ≤ (dec u).length + (22 - n) + 1 := by omega
     have hb : bytesOf (AV.int .u8 45 :: (dec u).map fun c => AV.int .u8 (c.toNat : Int)) = some (45 :: dec u) := bytesOf_digA (45 :: dec u)
     simp [digA] at e1
     simp [IP_isc_FormatInt,i_isc_FormatInt,hneg,hu0,hu1,hwu,hwn,n4,k1,k2,k3,k4,k5,k6,k7,k8,hw2,hb,e1]
theorem itoa_D (w:Int) (h0:-9223372036854775808 ≤ w) (h1:w ≤ 9223372036854775807) (hp:List HObj) (lo:Nat) (q:Bool) : callD G0 IP n_digits_Int [.int .i64 w] hp lo q = some (.ret (.str (decZ w)) hp) := by
 have e2 := formatInt_D w h0 h1
 have e3 : ∀ hp lo q,callD G0 IP n_isc_Itoa [.int .i64 w] hp lo q = some (.ret (.str (decZ w)) hp) := fun hp lo q => by
   rw [callD_eq]; simp [IP_isc_Itoa,i_isc_Itoa,e2]
 have e4 : ∀ hp lo q,callD G0 IP n_sc_Itoa [.int .i64 w] hp lo q = some (.ret (.str (decZ w)) hp) := fun hp lo q => by
   rw [callD_eq]; simp [IP_sc_Itoa,i_sc_Itoa,e3]
 rw [callD_eq]
 simp [IP_digits_Int,i_digits_Int,e4]
end
end Go.Proofs.YtkofimhnehkdoaaGreatDoor.Rf
end
