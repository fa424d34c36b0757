/- A part. -/
import Derived.Test.YtkofimhnehkdoaaGreatDoorRbG17
section
set_option linter.unusedSimpArgs false
set_option linter.unusedVariables false
namespace Go.Proofs.YtkofimhnehkdoaaGreatDoor.Rf
def digN : Nat → Nat → List UInt8
 | 0,_ => []
 | n + 1,u => digN n (u / 10) ++ [dig (u % 10)]
theorem digN_len : ∀ n u,(digN n u).length = n
 | 0,u => rfl
 | n + 1,u => by simp [digN,digN_len n]
theorem digN_dec : ∀ (n u:Nat),u < 10 ^ (n + 1) → (n = 0 ∨ 10 ^ n ≤ u) → digN (n + 1) u = dec u
 | 0,u,h,_ => by
   rw [dec_small (by omega)]; simp [digN]; congr 1; omega
 | n + 1,u,h,h2 => by
   have h3 : 10 ^ (n + 1) ≤ u := by omega
   have h10 : 10 ≤ u := by
     have : 10 ^ 1 ≤ 10 ^ (n + 1) := Nat.pow_le_pow_right (by omega) (by omega)
     omega
   have e : 10 ^ (n + 2) = 10 * 10 ^ (n + 1) := by rw [Nat.pow_succ]; omega
   have e1 : 10 ^ (n + 1) = 10 * 10 ^ n := by rw [Nat.pow_succ]; omega
   rw [dec_big h10,digN,digN_dec n (u / 10) (by rw [e] at h; omega) (by right; rw [e1] at h3; omega)]
theorem digN_app : ∀ (a b u:Nat),digN (a + b) u = digN a (u / 10 ^ b) ++ digN b u
 | a,0,u => by simp [digN]
 | a,b + 1,u => by
   rw [← Nat.add_assoc,digN,digN_app a b (u / 10),digN,Nat.div_div_eq_div_mul,List.append_assoc,Nat.pow_succ,Nat.mul_comm 10]
theorem digN_mod : ∀ (b u:Nat),digN b (u % 10 ^ b) = digN b u
 | 0,u => rfl
 | b + 1,u => by
   have e : 10 ^ (b + 1) = 10 * 10 ^ b := by rw [Nat.pow_succ]; omega
   rw [digN,digN,e,Nat.mod_mul_right_div_self,digN_mod b (u / 10),Nat.mod_mul_right_mod]
section
variable {hp:List HObj} {lo:Nat} (q:Bool)
theorem smalls2_at (d:Nat) (h:d < 100) : smalls2[2 * d]? = some (dig (d / 10)) ∧ smalls2[2 * d + 1]? = some (dig (d % 10)) := by
 have : ∀ d : Fin 100,smalls2[2 * d.val]? = some (dig (d.val / 10)) ∧ smalls2[2 * d.val + 1]? = some (dig (d.val % 10)) := by decide +kernel
 exact this ⟨d,h⟩
theorem smalls2_len : smalls2.length = 200 := by decide +kernel
def d36 : List UInt8 := [48,49,50,51,52,53,54,55,56,57,97,98,99,100,101,102,103,104,105,106,107,108,109,110,111,112,113,114,115,116,117,118,119,120,121,122]
theorem d36_at (d:Nat) (h:d < 10) : (d36.take (d + 1)).drop d = [dig d] := by
 have : ∀ d : Fin 10,(d36.take (d.val + 1)).drop d.val = [dig d.val] := by decide +kernel
 exact this ⟨d,h⟩
theorem smalls2_cut (d:Nat) (h:d < 100) : (smalls2.take (2 * d + 2)).drop (2 * d) = [dig (d / 10),dig (d % 10)] := by
 have : ∀ d : Fin 100,(smalls2.take (2 * d.val + 2)).drop (2 * d.val) = [dig (d.val / 10),dig (d.val % 10)] := by decide +kernel
 exact this ⟨d,h⟩
theorem small_D (n:Nat) (h:n < 100) : callD G0 IP n_isc_small [.int .i64 n] hp lo q = some (.ret (.str (dec n)) hp) := by
 rw [callD_eq]
 by_cases h1 : n < 10
 · have h1' : (n:Int) < 10 := by omega
   have hw : IntKind.wrap .i64 ((n:Int) + 1) = (n:Int) + 1 := wrap_small (by omega) (by omega)
   have e1 : (0:Int) ≤ (n:Int) + 1 := by omega
   have e2 : n + 1 ≤ 36 := by omega
   have e3 := d36_at n h1
   simp only [d36] at e3
   rw [dec_small h1]
   simp at e3
   simp [IP_isc_small,i_isc_small,h1',hw,e1,e2,e3]
 · have h1' : ¬ (n:Int) < 10 := by omega
   have hw : IntKind.wrap .i64 ((n:Int) * 2) = (n:Int) * 2 := wrap_small (by omega) (by omega)
   have hw2 : IntKind.wrap .i64 ((n:Int) * 2 + 2) = (n:Int) * 2 + 2 := wrap_small (by omega) (by omega)
   have e1 : (0:Int) ≤ (n:Int) * 2 := by omega
   have e2 : (0:Int) ≤ (n:Int) * 2 + 2 := by omega
   have e3 : ((n:Int) * 2).toNat = 2 * n := by omega
   have e4 : ((n:Int) * 2 + 2).toNat = 2 * n + 2 := by omega
   have e5 : 2 * n + 2 ≤ 200 := by omega
   rw [dec_big (by omega),dec_small (by omega)]
   simp [IP_isc_small,i_isc_small,h1',hw,hw2,e1,e2,e3,e4,e5,smalls2_len,smalls2_cut n h]
theorem len8t_len : len8t.length = 256 := by decide +kernel
theorem len8t_at (x:Nat) (h:x < 256) (h0:0 < x) : ∃ t : UInt8,len8t[x]? = some t ∧ 1 ≤ t.toNat ∧ t.toNat ≤ 8 ∧ 2 ^ (t.toNat - 1) ≤ x ∧ x < 2 ^ t.toNat := by
 have : ∀ x : Fin 256,0 < x.val → 1 ≤ (len8t.getD x.val 0).toNat ∧ (len8t.getD x.val 0).toNat ≤ 8 ∧ 2 ^ ((len8t.getD x.val 0).toNat - 1) ≤ x.val ∧ x.val < 2 ^ (len8t.getD x.val 0).toNat := by decide +kernel
 have := this ⟨x,h⟩ h0
 simp only at this
 have hl : x < len8t.length := by rw [len8t_len]; exact h
 refine ⟨len8t.getD x 0,?_,this⟩
 simp [List.getD,hl]
def bitsOf (u L:Nat) : Prop := 1 ≤ L ∧ 2 ^ (L - 1) ≤ u ∧ u < 2 ^ L
theorem bitsOf_shift {u L k:Nat} (h:bitsOf (u / 2 ^ k) L) : bitsOf u (L + k) := by
 obtain ⟨h1,h2,h3⟩ := h
 have hp : 0 < 2 ^ k := Nat.two_pow_pos k
 refine ⟨by omega,?_,?_⟩
 · rw [show L + k - 1 = (L - 1) + k by omega,Nat.pow_add]
   exact (Nat.le_div_iff_mul_le hp).1 h2
 · rw [Nat.pow_add]
   exact (Nat.div_lt_iff_lt_mul hp).1 h3
theorem len8_D (x:Nat) (h:x < 256) (h0:0 < x) : ∃ L : Nat,L ≤ 8 ∧ bitsOf x L ∧ ∃ t : UInt8,len8t[x]? = some t ∧ t.toNat = L := by
 obtain ⟨t,t1,t2,t3,t4,t5⟩ := len8t_at x h h0
 exact ⟨t.toNat,t3,⟨t2,t4,t5⟩,t,t1,rfl⟩
theorem len64_D (u:Nat) (h0:0 < u) (h:u < 18446744073709551616) : ∃ L : Nat,L ≤ 64 ∧ bitsOf u L ∧ ∀ (hp:List HObj) (lo:Nat) (q:Bool),callD G0 IP n_math_bits_Len64 [.int .u64 u] hp lo q = some (.ret (.int .i64 L) hp) := by
 have f1 : ∀ x : Int,x.fdiv (2 ^ min 32 IntKind.u64.bits) = x / 4294967296 := fun x => by rw [show (2:Int) ^ min 32 IntKind.u64.bits = 4294967296 by decide,Int.fdiv_eq_ediv_of_nonneg _ (by decide)]
 have f2 : ∀ x : Int,x.fdiv (2 ^ min 16 IntKind.u64.bits) = x / 65536 := fun x => by rw [show (2:Int) ^ min 16 IntKind.u64.bits = 65536 by decide,Int.fdiv_eq_ediv_of_nonneg _ (by decide)]
 have f3 : ∀ x : Int,x.fdiv (2 ^ min 8 IntKind.u64.bits) = x / 256 := fun x => by rw [show (2:Int) ^ min 8 IntKind.u64.bits = 256 by decide,Int.fdiv_eq_ediv_of_nonneg _ (by decide)]
 by_cases a : 4294967296 ≤ u
 · have a' : (4294967296:Int) ≤ (u:Int) := by omega
   by_cases b : 65536 ≤ u / 4294967296
   · have b' : (65536:Int) ≤ (u:Int) / 4294967296 := by omega
     by_cases c : 256 ≤ u / 4294967296 / 65536
     · have c' : (256:Int) ≤ (u:Int) / 4294967296 / 65536 := by omega
       obtain ⟨L,l1,l2,t,t1,t2⟩ := len8_D (u / 4294967296 / 65536 / 256) (by omega) (by omega)
       have hw1 : IntKind.wrap .u8 ((u:Int) / 4294967296 / 65536 / 256) = ((u:Int) / 4294967296 / 65536 / 256) := by simp [IntKind.wrap,IntKind.signed,IntKind.bits]; omega
       have hI : ((u:Int) / 4294967296 / 65536 / 256).toNat = u / 4294967296 / 65536 / 256 := by omega
       have hJ : 0 ≤ ((u:Int) / 4294967296 / 65536 / 256) := by omega
       have hw2 : IntKind.wrap .i64 (t.toNat : Int) = (t.toNat : Int) := wrap_small (by omega) (by omega)
       have hw3 : IntKind.wrap .i64 (56 + (t.toNat : Int)) = 56 + (t.toNat : Int) := wrap_small (by omega) (by omega)
       have hk : (u / 4294967296 / 65536 / 256) < 256 := by omega
       obtain ⟨hl1,hl2⟩ := List.getElem?_eq_some_iff.1 t1
       refine ⟨L + 8 + 16 + 32,by omega,bitsOf_shift (k := 32) (bitsOf_shift (k := 16) (bitsOf_shift (k := 8) (l2))),fun hp lo q => ?_⟩
       rw [callD_eq]
       simp [IP_math_bits_Len64,i_math_bits_Len64,f1,f2,f3,a',b',c',hw1,hw2,hw3,hI,hJ,hk,len8t_len,hl2,t1,hl1,hl2,show IntKind.wrap .i64 (32 + 16) = 48 from rfl,show IntKind.wrap .i64 48 = 48 from rfl,show IntKind.wrap .i64 16 = 16 from rfl,show IntKind.wrap .i64 8 = 8 from rfl,show IntKind.wrap .i64 24 = 24 from rfl,show IntKind.wrap .i64 40 = 40 from rfl,show IntKind.wrap .i64 56 = 56 from rfl]
       try omega
     · have c' : ¬ (256:Int) ≤ (u:Int) / 4294967296 / 65536 := by omega
       obtain ⟨L,l1,l2,t,t1,t2⟩ := len8_D (u / 4294967296 / 65536) (by omega) (by omega)
       have hw1 : IntKind.wrap .u8 ((u:Int) / 4294967296 / 65536) = ((u:Int) / 4294967296 / 65536) := by simp [IntKind.wrap,IntKind.signed,IntKind.bits]; omega
       have hI : ((u:Int) / 4294967296 / 65536).toNat = u / 4294967296 / 65536 := by omega
       have hJ : 0 ≤ ((u:Int) / 4294967296 / 65536) := by omega
       have hw2 : IntKind.wrap .i64 (t.toNat : Int) = (t.toNat : Int) := wrap_small (by omega) (by omega)
       have hw3 : IntKind.wrap .i64 (48 + (t.toNat : Int)) = 48 + (t.toNat : Int) := wrap_small (by omega) (by omega)
       have hk : (u / 4294967296 / 65536) < 256 := by omega
       obtain ⟨hl1,hl2⟩ := List.getElem?_eq_some_iff.1 t1
       refine ⟨L + 16 + 32,by omega,bitsOf_shift (k := 32) (bitsOf_shift (k := 16) (l2)),fun hp lo q => ?_⟩
       rw [callD_eq]
       simp [IP_math_bits_Len64,i_math_bits_Len64,f1,f2,f3,a',b',c',hw1,hw2,hw3,hI,hJ,hk,len8t_len,hl2,t1,hl1,hl2,show IntKind.wrap .i64 (32 + 16) = 48 from rfl,show IntKind.wrap .i64 48 = 48 from rfl,show IntKind.wrap .i64 16 = 16 from rfl,show IntKind.wrap .i64 8 = 8 from rfl,show IntKind.wrap .i64 24 = 24 from rfl,show IntKind.wrap .i64 40 = 40 from rfl,show IntKind.wrap .i64 56 = 56 from rfl]
       try omega
   · have b' : ¬ (65536:Int) ≤ (u:Int) / 4294967296 := by omega
     by_cases c : 256 ≤ u / 4294967296
     · have c' : (256:Int) ≤ (u:Int) / 4294967296 := by omega
       obtain ⟨L,l1,l2,t,t1,t2⟩ := len8_D (u / 4294967296 / 256) (by omega) (by omega)
       have hw1 : IntKind.wrap .u8 ((u:Int) / 4294967296 / 256) = ((u:Int) / 4294967296 / 256) := by simp [IntKind.wrap,IntKind.signed,IntKind.bits]; omega
       have hI : ((u:Int) / 4294967296 / 256).toNat = u / 4294967296 / 256 := by omega
       have hJ : 0 ≤ ((u:Int) / 4294967296 / 256) := by omega
       have hw2 : IntKind.wrap .i64 (t.toNat : Int) = (t.toNat : Int) := wrap_small (by omega) (by omega)
       have hw3 : IntKind.wrap .i64 (40 + (t.toNat : Int)) = 40 + (t.toNat : Int) := wrap_small (by omega) (by omega)
       have hk : (u / 4294967296 / 256) < 256 := by omega
       obtain ⟨hl1,hl2⟩ := List.getElem?_eq_some_iff.1 t1
       refine ⟨L + 8 + 32,by omega,bitsOf_shift (k := 32) (bitsOf_shift (k := 8) (l2)),fun hp lo q => ?_⟩
       rw [callD_eq]
       simp [IP_math_bits_Len64,i_math_bits_Len64,f1,f2,f3,a',b',c',hw1,hw2,hw3,hI,hJ,hk,len8t_len,hl2,t1,hl1,hl2,show IntKind.wrap .i64 48 = 48 from rfl,show IntKind.wrap .i64 16 = 16 from rfl,show IntKind.wrap .i64 8 = 8 from rfl,show IntKind.wrap .i64 24 = 24 from rfl,show IntKind.wrap .i64 40 = 40 from rfl,show IntKind.wrap .i64 56 = 56 from rfl]
       try omega
     · have c' : ¬ (256:Int) ≤ (u:Int) / 4294967296 := by omega
       obtain ⟨L,l1,l2,t,t1,t2⟩ := len8_D (u / 4294967296) (by omega) (by omega)
       have hw1 : IntKind.wrap .u8 ((u:Int) / 4294967296) = ((u:Int) / 4294967296) := by simp [IntKind.wrap,IntKind.signed,IntKind.bits]; omega
       have hI : ((u:Int) / 4294967296).toNat = u / 4294967296 := by omega
       have hJ : 0 ≤ ((u:Int) / 4294967296) := by omega
       have hw2 : IntKind.wrap .i64 (t.toNat : Int) = (t.toNat : Int) := wrap_small (by omega) (by omega)
       have hw3 : IntKind.wrap .i64 (32 + (t.toNat : Int)) = 32 + (t.toNat : Int) := wrap_small (by omega) (by omega)
       have hk : (u / 4294967296) < 256 := by omega
       obtain ⟨hl1,hl2⟩ := List.getElem?_eq_some_iff.1 t1
       refine ⟨L + 32,by omega,bitsOf_shift (k := 32) (l2),fun hp lo q => ?_⟩
       rw [callD_eq]
       simp [IP_math_bits_Len64,i_math_bits_Len64,f1,f2,f3,a',b',c',hw1,hw2,hw3,hI,hJ,hk,len8t_len,hl2,t1,hl1,hl2,show IntKind.wrap .i64 48 = 48 from rfl,show IntKind.wrap .i64 16 = 16 from rfl,show IntKind.wrap .i64 8 = 8 from rfl,show IntKind.wrap .i64 24 = 24 from rfl,show IntKind.wrap .i64 40 = 40 from rfl,show IntKind.wrap .i64 56 = 56 from rfl]
       try omega
 · have a' : ¬ (4294967296:Int) ≤ (u:Int) := by omega
   by_cases b : 65536 ≤ u
   · have b' : (65536:Int) ≤ (u:Int) := by omega
     by_cases c : 256 ≤ u / 65536
     · have c' : (256:Int) ≤ (u:Int) / 65536 := by omega
       obtain ⟨L,l1,l2,t,t1,t2⟩ := len8_D (u / 65536 / 256) (by omega) (by omega)
       have hw1 : IntKind.wrap .u8 ((u:Int) / 65536 / 256) = ((u:Int) / 65536 / 256) := by simp [IntKind.wrap,IntKind.signed,IntKind.bits]; omega
       have hI : ((u:Int) / 65536 / 256).toNat = u / 65536 / 256 := by omega
       have hJ : 0 ≤ ((u:Int) / 65536 / 256) := by omega
       have hw2 : IntKind.wrap .i64 (t.toNat : Int) = (t.toNat : Int) := wrap_small (by omega) (by omega)
       have hw3 : IntKind.wrap .i64 (24 + (t.toNat : Int)) = 24 + (t.toNat : Int) := wrap_small (by omega) (by omega)
       have hk : (u / 65536 / 256) < 256 := by omega
       obtain ⟨hl1,hl2⟩ := List.getElem?_eq_some_iff.1 t1
       refine ⟨L + 8 + 16,by omega,bitsOf_shift (k := 16) (bitsOf_shift (k := 8) (l2)),fun hp lo q => ?_⟩
       rw [callD_eq]
       simp [IP_math_bits_Len64,i_math_bits_Len64,f1,f2,f3,a',b',c',hw1,hw2,hw3,hI,hJ,hk,len8t_len,hl2,t1,hl1,hl2,show IntKind.wrap .i64 (0 + 16) = 16 from rfl,show IntKind.wrap .i64 48 = 48 from rfl,show IntKind.wrap .i64 16 = 16 from rfl,show IntKind.wrap .i64 8 = 8 from rfl,show IntKind.wrap .i64 24 = 24 from rfl,show IntKind.wrap .i64 40 = 40 from rfl,show IntKind.wrap .i64 56 = 56 from rfl]
       try omega
     · have c' : ¬ (256:Int) ≤ (u:Int) / 65536 := by omega
       obtain ⟨L,l1,l2,t,t1,t2⟩ := len8_D (u / 65536) (by omega) (by omega)
       have hw1 : IntKind.wrap .u8 ((u:Int) / 65536) = ((u:Int) / 65536) := by simp [IntKind.wrap,IntKind.signed,IntKind.bits]; omega
       have hI : ((u:Int) / 65536).toNat = u / 65536 := by omega
       have hJ : 0 ≤ ((u:Int) / 65536) := by omega
       have hw2 : IntKind.wrap .i64 (t.toNat : Int) = (t.toNat : Int) := wrap_small (by omega) (by omega)
       have hw3 : IntKind.wrap .i64 (16 + (t.toNat : Int)) = 16 + (t.toNat : Int) := wrap_small (by omega) (by omega)
       have hk : (u / 65536) < 256 := by omega
       obtain ⟨hl1,hl2⟩ := List.getElem?_eq_some_iff.1 t1
       refine ⟨L + 16,by omega,bitsOf_shift (k := 16) (l2),fun hp lo q => ?_⟩
       rw [callD_eq]
       simp [IP_math_bits_Len64,i_math_bits_Len64,f1,f2,f3,a',b',c',hw1,hw2,hw3,hI,hJ,hk,len8t_len,hl2,t1,hl1,hl2,show IntKind.wrap .i64 (0 + 16) = 16 from rfl,show IntKind.wrap .i64 48 = 48 from rfl,show IntKind.wrap .i64 16 = 16 from rfl,show IntKind.wrap .i64 8 = 8 from rfl,show IntKind.wrap .i64 24 = 24 from rfl,show IntKind.wrap .i64 40 = 40 from rfl,show IntKind.wrap .i64 56 = 56 from rfl]
       try omega
   · have b' : ¬ (65536:Int) ≤ (u:Int) := by omega
     by_cases c : 256 ≤ u
     · have c' : (256:Int) ≤ (u:Int) := by omega
       obtain ⟨L,l1,l2,t,t1,t2⟩ := len8_D (u / 256) (by omega) (by omega)
       have hw1 : IntKind.wrap .u8 ((u:Int) / 256) = ((u:Int) / 256) := by simp [IntKind.wrap,IntKind.signed,IntKind.bits]; omega
       have hI : ((u:Int) / 256).toNat = u / 256 := by omega
       have hJ : 0 ≤ ((u:Int) / 256) := by omega
       have hw2 : IntKind.wrap .i64 (t.toNat : Int) = (t.toNat : Int) := wrap_small (by omega) (by omega)
       have hw3 : IntKind.wrap .i64 (8 + (t.toNat : Int)) = 8 + (t.toNat : Int) := wrap_small (by omega) (by omega)
       have hk : (u / 256) < 256 := by omega
       obtain ⟨hl1,hl2⟩ := List.getElem?_eq_some_iff.1 t1
       refine ⟨L + 8,by omega,bitsOf_shift (k := 8) (l2),fun hp lo q => ?_⟩
       rw [callD_eq]
       simp [IP_math_bits_Len64,i_math_bits_Len64,f1,f2,f3,a',b',c',hw1,hw2,hw3,hI,hJ,hk,len8t_len,hl2,t1,hl1,hl2,show IntKind.wrap .i64 48 = 48 from rfl,show IntKind.wrap .i64 16 = 16 from rfl,show IntKind.wrap .i64 8 = 8 from rfl,show IntKind.wrap .i64 24 = 24 from rfl,show IntKind.wrap .i64 40 = 40 from rfl,show IntKind.wrap .i64 56 = 56 from rfl]
       try omega
     · have c' : ¬ (256:Int) ≤ (u:Int) := by omega
       obtain ⟨L,l1,l2,t,t1,t2⟩ := len8_D (u) (by omega) (by omega)
       have hw1 : IntKind.wrap .u8 ((u:Int)) = ((u:Int)) := by simp [IntKind.wrap,IntKind.signed,IntKind.bits]; omega
       have hI : ((u:Int)).toNat = u := by omega
       have hJ : 0 ≤ ((u:Int)) := by omega
       have hw2 : IntKind.wrap .i64 (t.toNat : Int) = (t.toNat : Int) := wrap_small (by omega) (by omega)
       have hw3 : IntKind.wrap .i64 (0 + (t.toNat : Int)) = 0 + (t.toNat : Int) := wrap_small (by omega) (by omega)
       have hk : (u) < 256 := by omega
       obtain ⟨hl1,hl2⟩ := List.getElem?_eq_some_iff.1 t1
       refine ⟨L,by omega,l2,fun hp lo q => ?_⟩
       rw [callD_eq]
       simp [IP_math_bits_Len64,i_math_bits_Len64,f1,f2,f3,a',b',c',hw1,hw2,hw3,hI,hJ,hk,len8t_len,hl2,t1,hl1,hl2,show IntKind.wrap .i64 48 = 48 from rfl,show IntKind.wrap .i64 16 = 16 from rfl,show IntKind.wrap .i64 8 = 8 from rfl,show IntKind.wrap .i64 24 = 24 from rfl,show IntKind.wrap .i64 40 = 40 from rfl,show IntKind.wrap .i64 56 = 56 from rfl]
       try omega
end
end Go.Proofs.YtkofimhnehkdoaaGreatDoor.Rf
end
