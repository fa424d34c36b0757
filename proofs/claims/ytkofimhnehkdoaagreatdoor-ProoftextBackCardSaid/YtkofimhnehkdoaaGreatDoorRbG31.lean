/- A part. -/
import Derived.Test.YtkofimhnehkdoaaGreatDoorRbG30
set_option linter.unusedVariables false
set_option linter.unusedSimpArgs false
section
namespace Go.Proofs.YtkofimhnehkdoaaGreatDoor.Rf
theorem g_2_eq : g_2 = (List.range 20).map fun k => AV.int .u64 ((10 ^ k : Nat) : Int) := by rfl
theorem g_2_len : g_2.length = 20 := rfl
theorem g_2_at {t:Nat} (h:t < 20) : (g_2.drop t).take 1 = [AV.int .u64 ((10 ^ t : Nat) : Int)] := by
 rw [g_2_eq,List.drop_eq_getElem_cons (by simpa using h)]
 simp
theorem logF (L:Nat) (h1:1 ≤ L) (h:L ≤ 64) : L * 78913 / 262144 ≤ 19 ∧ 2 ^ L ≤ 10 ^ (L * 78913 / 262144 + 1) ∧ (L * 78913 / 262144 = 0 ∨ 10 ^ (L * 78913 / 262144 - 1) ≤ 2 ^ (L - 1)) := by
 have : ∀ L : Fin 65,1 ≤ L.val → L.val * 78913 / 262144 ≤ 19 ∧ 2 ^ L.val ≤ 10 ^ (L.val * 78913 / 262144 + 1) ∧ (L.val * 78913 / 262144 = 0 ∨ 10 ^ (L.val * 78913 / 262144 - 1) ≤ 2 ^ (L.val - 1)) := by decide +kernel
 exact this ⟨L,by omega⟩ h1
section
variable {hp:List HObj} {lo:Nat} (q:Bool)
theorem log10_D (L:Nat) (h:L ≤ 64) (hp:List HObj) (lo:Nat) (q:Bool) : callD G0 IP n_isc_log10Pow2 [.int .i64 L] hp lo q = some (.ret (.int .i64 ((L * 78913 / 262144 : Nat) : Int)) hp) := by
 rw [callD_eq]
 have hw : IntKind.wrap .i64 ((L:Int) * 78913) = (L:Int) * 78913 := wrap_small (by omega) (by omega)
 have f1 : ∀ x : Int,x.fdiv (2 ^ min 18 IntKind.i64.bits) = x / 262144 := fun x => by rw [show (2:Int) ^ min 18 IntKind.i64.bits = 262144 by decide,Int.fdiv_eq_ediv_of_nonneg _ (by decide)]
 simp [IP_isc_log10Pow2,i_isc_log10Pow2,hw,f1]
theorem b2i_D (b:Bool) (hp:List HObj) (lo:Nat) (q:Bool) : callD G0 IP n_isc_bool2_int [.bool b] hp lo q = some (.ret (.int .i64 (if b then 1 else 0)) hp) := by
 rw [callD_eq]
 cases b <;> simp [IP_isc_bool2_int,i_isc_bool2_int]
theorem numDigits_D (u:Nat) (h0:0 < u) (h:u < 18446744073709551616) : ∃ n : Nat,n ≤ 19 ∧ 10 ^ n ≤ u ∧ u < 10 ^ (n + 1) ∧ ∀ (hp:List HObj) (lo:Nat) (q:Bool),callD G0 IP n_isc_numDigits [.int .u64 u] hp lo q = some (.ret (.int .i64 ((n:Int) + 1)) hp) := by
 obtain ⟨L,l1,⟨l2,l3,l4⟩,l5⟩ := len64_D u h0 h
 obtain ⟨t1,t2,t3⟩ := logF L l2 l1
 have e1 := log10_D L l1
 generalize ht : L * 78913 / 262144 = t at *
 have hg := g_2_at (t := t) (by omega)
 have hlt : (t:Int) < 20 := by omega
 have hlt2 : t + 1 ≤ 20 := by omega
 by_cases hc : 10 ^ t ≤ u
 · refine ⟨t,t1,hc,by omega,fun hp lo q => ?_⟩
   rw [callD_eq]
   have hc' : ((10 ^ t : Nat) : Int) ≤ (u:Int) := by omega
   have hw : IntKind.wrap .i64 ((t:Int) + 1) = (t:Int) + 1 := wrap_small (by omega) (by omega)
   generalize ((10 ^ t : Nat) : Int) = p at *
   simp [IP_isc_numDigits,i_isc_numDigits,l5,e1,G0_2,hlt,hlt2,hg,g_2_len,hc',b2i_D,hw]
 · have htp : t ≠ 0 := fun e => by rw [e] at hc; simp at hc; omega
   obtain ⟨m,rfl⟩ : ∃ m,t = m + 1 := ⟨t - 1,by omega⟩
   have t4 : 10 ^ m ≤ 2 ^ (L - 1) := by
     rcases t3 with e | e
     · omega
     · simpa using e
   refine ⟨m,by omega,by omega,by omega,fun hp lo q => ?_⟩
   rw [callD_eq]
   have hc' : ¬ ((10 ^ (m + 1) : Nat) : Int) ≤ (u:Int) := by omega
   have hw : IntKind.wrap .i64 ((m:Int) + 1) = (m:Int) + 1 := wrap_small (by omega) (by omega)
   generalize ((10 ^ (m + 1) : Nat) : Int) = p at *
   have hlt3 : (m:Int) + 1 < 20 := by omega
   have hI : ((m:Int) + 1).toNat = m + 1 := by omega
   have hJ : (0:Int) ≤ (m:Int) + 1 := by omega
   simp [IP_isc_numDigits,i_isc_numDigits,l5,e1,G0_2,hlt3,hlt2,hI,hJ,hg,g_2_len,hc',b2i_D,hw]
end
end Go.Proofs.YtkofimhnehkdoaaGreatDoor.Rf
end
section
namespace Go.Proofs.YtkofimhnehkdoaaGreatDoor.Rf
theorem put_set {cs:List AV} {k:Nat} {v:AV} (h:k < cs.length) : put cs k [v] = cs.set k v := by
 unfold put
 rw [List.set_eq_take_append_cons_drop,if_pos h]; simp
theorem toNat_add (j m:Nat) : ((j:Int) + (m:Int)).toNat = j + m := by omega
def dg (n:Nat) : AV := .int .u8 ((dig n).toNat : Int)
def set8 (cs:List AV) (k:Nat) (b1 b0 a1 a0:Nat) : List AV :=
 (((((((cs.set (k + 7) (dg (b0 % 10))).set (k + 6) (dg (b0 / 10))).set (k + 5) (dg (b1 % 10))).set (k + 4) (dg (b1 / 10))).set (k + 3) (dg (a0 % 10))).set (k + 2) (dg (a0 / 10))).set (k + 1) (dg (a1 % 10))).set k (dg (a1 / 10))
section
variable {hp:List HObj} {lo:Nat}
abbrev HB (hp:List HObj) (cs:List AV) : List HObj := hp ++ [.cells 0 cs]
abbrev frB (hp:List HObj) (off n:Nat) (u i:Int) : Fr := [(0,.sref hp.length off n 1),(1,.int .u64 u),(4,.int .i64 i)]
set_option maxHeartbeats 4000000 in
theorem fb_step (hlo:lo ≤ hp.length) (off n j u:Nat) (cs:List AV) (hn:off + n ≤ cs.length) (hj:j + 8 ≤ n) (hn2:n ≤ 100) (hu:u < 18446744073709551616) :
   ∃ b1 b0 a1 a0 : Nat,b1 < 100 ∧ b0 < 100 ∧ a1 < 100 ∧ a0 < 100 ∧ u % 100000000 = ((a1 * 100 + a0) * 100 + b1) * 100 + b0 ∧
   evalC G0 (callD G0 IP) (loopD G0 IP lo) lo l_isc_formatBase10_0 ⟨frB hp off n u ((j:Int) + 8),HB hp cs⟩ =
     some (.normal,⟨frB hp off n (u / 100000000 : Nat) j,HB hp (set8 cs (off + j) b1 b0 a1 a0)⟩) := by
 have q1 : (u:Int).tmod 100000000 = ((u % 100000000 : Nat) : Int) := rfl
 have q2 : (u:Int).tdiv 100000000 = ((u / 100000000 : Nat) : Int) := rfl
 have hr0 : u % 100000000 < 100000000 := Nat.mod_lt _ (by omega)
 have hw0 : u / 100000000 < 18446744073709551616 := by omega
 generalize u % 100000000 = r at *
 generalize u / 100000000 = w at *
 have q3 : (r:Int).tdiv 10000 = ((r / 10000 : Nat) : Int) := rfl
 have q4 : (r:Int).tmod 10000 = ((r % 10000 : Nat) : Int) := rfl
 have hd := Nat.div_add_mod r 10000
 have ha0 : r / 10000 < 10000 := by omega
 have hb0 : r % 10000 < 10000 := Nat.mod_lt _ (by omega)
 generalize r / 10000 = a at *
 generalize r % 10000 = b at *
 have q5 : (b:Int).tdiv 100 = ((b / 100 : Nat) : Int) := rfl
 have q6 : (b:Int).tmod 100 = ((b % 100 : Nat) : Int) := rfl
 have q7 : (a:Int).tdiv 100 = ((a / 100 : Nat) : Int) := rfl
 have q8 : (a:Int).tmod 100 = ((a % 100 : Nat) : Int) := rfl
 have hdb := Nat.div_add_mod b 100
 have hda := Nat.div_add_mod a 100
 have hb1 : b / 100 < 100 := by omega
 have hb2 : b % 100 < 100 := Nat.mod_lt _ (by omega)
 have ha1 : a / 100 < 100 := by omega
 have ha2 : a % 100 < 100 := Nat.mod_lt _ (by omega)
 refine ⟨b / 100,b % 100,a / 100,a % 100,hb1,hb2,ha1,ha2,by omega,?_⟩
 generalize b / 100 = b1 at *
 generalize b % 100 = b0 at *
 generalize a / 100 = a1 at *
 generalize a % 100 = a0 at *
 have wr : IntKind.wrap .u32 (r:Int) = r := by simp [IntKind.wrap,IntKind.signed,IntKind.bits]; omega
 have ww : IntKind.wrap .u64 (w:Int) = w := by simp [IntKind.wrap,IntKind.signed,IntKind.bits]; omega
 have wa : IntKind.wrap .u32 (a:Int) = a := by simp [IntKind.wrap,IntKind.signed,IntKind.bits]; omega
 have w32 : ∀ x : Nat,x < 100 → IntKind.wrap .u32 (x:Int) = x := fun x h => by simp [IntKind.wrap,IntKind.signed,IntKind.bits]; omega
 have w32b : ∀ x : Nat,x < 100 → IntKind.wrap .u32 ((x:Int) * 2) = (x:Int) * 2 := fun x h => by simp [IntKind.wrap,IntKind.signed,IntKind.bits]; omega
 have w32c : ∀ x : Nat,x < 100 → IntKind.wrap .u32 ((x:Int) * 2 + 1) = (x:Int) * 2 + 1 := fun x h => by simp [IntKind.wrap,IntKind.signed,IntKind.bits]; omega
 have t1 : ∀ x : Nat,((x:Int) * 2).toNat = 2 * x := fun x => by omega
 have t2 : ∀ x : Nat,((x:Int) * 2 + 1).toNat = 2 * x + 1 := fun x => by omega
 have t3 : ∀ x : Nat,(0:Int) ≤ (x:Int) * 2 := fun x => by omega
 have t4 : ∀ x : Nat,(0:Int) ≤ (x:Int) * 2 + 1 := fun x => by omega
 have s1 : ∀ x : Nat,x < 100 → smalls2[2 * x]? = some (dig (x / 10)) := fun x h => (smalls2_at x h).1
 have s2 : ∀ x : Nat,x < 100 → smalls2[2 * x + 1]? = some (dig (x % 10)) := fun x h => (smalls2_at x h).2
 have i8 : (8:Int) ≤ (j:Int) + 8 := by omega
 have k1 : ∀ m : Int,1 ≤ m → m ≤ 8 → IntKind.wrap .i64 ((j:Int) + 8 - m) = (j:Int) + (8 - m) := fun m h1 h2 => by rw [wrap_small (by omega) (by omega)]; omega
 have d1 : IntKind.wrap .i64 ((j:Int) + 8 - 1) = (j:Int) + 7 := k1 1 (by omega) (by omega)
 have d2 : IntKind.wrap .i64 ((j:Int) + 8 - 2) = (j:Int) + 6 := k1 2 (by omega) (by omega)
 have d3 : IntKind.wrap .i64 ((j:Int) + 8 - 3) = (j:Int) + 5 := k1 3 (by omega) (by omega)
 have d4 : IntKind.wrap .i64 ((j:Int) + 8 - 4) = (j:Int) + 4 := k1 4 (by omega) (by omega)
 have d5 : IntKind.wrap .i64 ((j:Int) + 8 - 5) = (j:Int) + 3 := k1 5 (by omega) (by omega)
 have d6 : IntKind.wrap .i64 ((j:Int) + 8 - 6) = (j:Int) + 2 := k1 6 (by omega) (by omega)
 have d7 : IntKind.wrap .i64 ((j:Int) + 8 - 7) = (j:Int) + 1 := k1 7 (by omega) (by omega)
 have d8 : IntKind.wrap .i64 ((j:Int) + 8 - 8) = (j:Int) := by rw [k1 8 (by omega) (by omega)]; omega
 have p7a : (0:Int) ≤ (j:Int) + 7 := by omega
 have p7b : (j:Int) + 7 < n := by omega
 have p7d : off + (j + 7) < cs.length := by omega
 have p6a : (0:Int) ≤ (j:Int) + 6 := by omega
 have p6b : (j:Int) + 6 < n := by omega
 have p6d : off + (j + 6) < cs.length := by omega
 have p5a : (0:Int) ≤ (j:Int) + 5 := by omega
 have p5b : (j:Int) + 5 < n := by omega
 have p5d : off + (j + 5) < cs.length := by omega
 have p4a : (0:Int) ≤ (j:Int) + 4 := by omega
 have p4b : (j:Int) + 4 < n := by omega
 have p4d : off + (j + 4) < cs.length := by omega
 have p3a : (0:Int) ≤ (j:Int) + 3 := by omega
 have p3b : (j:Int) + 3 < n := by omega
 have p3d : off + (j + 3) < cs.length := by omega
 have p2a : (0:Int) ≤ (j:Int) + 2 := by omega
 have p2b : (j:Int) + 2 < n := by omega
 have p2d : off + (j + 2) < cs.length := by omega
 have p1a : (0:Int) ≤ (j:Int) + 1 := by omega
 have p1b : (j:Int) + 1 < n := by omega
 have p1d : off + (j + 1) < cs.length := by omega
 have p7e : off + (j + 7) + 1 ≤ cs.length := by omega
 have p6e : off + (j + 6) + 1 ≤ cs.length := by omega
 have p5e : off + (j + 5) + 1 ≤ cs.length := by omega
 have p4e : off + (j + 4) + 1 ≤ cs.length := by omega
 have p3e : off + (j + 3) + 1 ≤ cs.length := by omega
 have p2e : off + (j + 2) + 1 ≤ cs.length := by omega
 have p1e : off + (j + 1) + 1 ≤ cs.length := by omega
 have p0e : off + j + 1 ≤ cs.length := by omega
 have p0b : (j:Int) < n := by omega
 have p0d : off + j < cs.length := by omega
 have hlo' : lo ≤ hp.length := hlo
 have d9 : IntKind.wrap .i64 (j:Int) = (j:Int) := wrap_small (by omega) (by omega)
 have p7c : ((j:Int) + 7).toNat = j + 7 := toNat_add j 7
 have p6c : ((j:Int) + 6).toNat = j + 6 := toNat_add j 6
 have p5c : ((j:Int) + 5).toNat = j + 5 := toNat_add j 5
 have p4c : ((j:Int) + 4).toNat = j + 4 := toNat_add j 4
 have p3c : ((j:Int) + 3).toNat = j + 3 := toNat_add j 3
 have p2c : ((j:Int) + 2).toNat = j + 2 := toNat_add j 2
 have p1c : ((j:Int) + 1).toNat = j + 1 := toNat_add j 1
 simp [-put,l_isc_formatBase10_0,i8,q1,q2,q3,q4,q5,q6,q7,q8,wr,ww,wa,w32,w32b,w32c,hb1,hb2,ha1,ha2,t1,t2,t3,t4,s1,s2,d1,d2,d3,d4,d5,d6,d7,d8,d9,p7a,p7b,p7c,p7d,p6a,p6b,p6c,p6d,p5a,p5b,p5c,p5d,p4a,p4b,p4c,p4d,p3a,p3b,p3c,p3d,p2a,p2b,p2c,p2d,p1a,p1b,p1c,p1d,p0b,p0d,hlo',put_set,p7e,p6e,p5e,p4e,p3e,p2e,p1e,p0e]
 simp only [set8,dg,Nat.add_assoc]
end
end Go.Proofs.YtkofimhnehkdoaaGreatDoor.Rf
end
section
namespace Go.Proofs.YtkofimhnehkdoaaGreatDoor.Rf
def digA (l:List UInt8) : List AV := l.map fun c => AV.int .u8 (c.toNat : Int)
@[simp] theorem digA_len (l:List UInt8) : (digA l).length = l.length := by simp [digA]
theorem digA_app (a b:List UInt8) : digA (a ++ b) = digA a ++ digA b := by simp [digA]
theorem set8_eq (p r:List AV) (x0 x1 x2 x3 x4 x5 x6 x7:AV) (b1 b0 a1 a0:Nat) :
   set8 (p ++ x0 :: x1 :: x2 :: x3 :: x4 :: x5 :: x6 :: x7 :: r) p.length b1 b0 a1 a0 =
     p ++ dg (a1 / 10) :: dg (a1 % 10) :: dg (a0 / 10) :: dg (a0 % 10) :: dg (b1 / 10) :: dg (b1 % 10) :: dg (b0 / 10) :: dg (b0 % 10) :: r := by
 simp [set8,List.set_append_right]
theorem digN8 {u b1 b0 a1 a0:Nat} (h:u % 100000000 = ((a1 * 100 + a0) * 100 + b1) * 100 + b0) (h1:b1 < 100) (h2:b0 < 100) (h3:a1 < 100) (h4:a0 < 100) :
   digA (digN 8 u) = [dg (a1 / 10),dg (a1 % 10),dg (a0 / 10),dg (a0 % 10),dg (b1 / 10),dg (b1 % 10),dg (b0 / 10),dg (b0 % 10)] := by
 rw [← digN_mod 8 u,show 10 ^ 8 = 100000000 from rfl,h]
 generalize hx : ((a1 * 100 + a0) * 100 + b1) * 100 + b0 = x
 have e0 : x % 10 = b0 % 10 := by omega
 have e1 : x / 10 % 10 = b0 / 10 := by omega
 have e2 : x / 10 / 10 % 10 = b1 % 10 := by omega
 have e3 : x / 10 / 10 / 10 % 10 = b1 / 10 := by omega
 have e4 : x / 10 / 10 / 10 / 10 % 10 = a0 % 10 := by omega
 have e5 : x / 10 / 10 / 10 / 10 / 10 % 10 = a0 / 10 := by omega
 have e6 : x / 10 / 10 / 10 / 10 / 10 / 10 % 10 = a1 % 10 := by omega
 have e7 : x / 10 / 10 / 10 / 10 / 10 / 10 / 10 % 10 = a1 / 10 := by omega
 simp only [digN,e0,e1,e2,e3,e4,e5,e6,e7]
 simp [digA,dg]
theorem list8 {α:Type} (f:List α) (j:Nat) (h:f.length = j + 8) : ∃ x0 x1 x2 x3 x4 x5 x6 x7,f = f.take j ++ [x0,x1,x2,x3,x4,x5,x6,x7] := by
 have hd : (f.drop j).length = 8 := by simp; omega
 match hq : f.drop j,hd with
 | [x0,x1,x2,x3,x4,x5,x6,x7],_ => exact ⟨x0,x1,x2,x3,x4,x5,x6,x7,by rw [← hq,List.take_append_drop]⟩
section
variable {hp:List HObj} {lo:Nat}
theorem fb_exit (off n:Nat) (u:Int) (i:Int) (cs:List AV) (h:¬ 8 ≤ i) : loopD G0 IP lo l_isc_formatBase10_0 ⟨frB hp off n u i,HB hp cs⟩ = some (.exit 0,⟨frB hp off n u i ++ [(20,.bool false)],HB hp cs⟩) := by
 rw [loopD_eq,loopBody]
 simp [l_isc_formatBase10_0,h]
theorem fb_loop (hlo:lo ≤ hp.length) (p r:List AV) (n:Nat) (hn2:n ≤ 100) : ∀ (i:Nat) (f:List AV) (d:List UInt8) (u:Nat),f.length = i → i + d.length = n → u < 18446744073709551616 →
   loopD G0 IP lo l_isc_formatBase10_0 ⟨frB hp p.length n u i,HB hp (p ++ (f ++ (digA d ++ r)))⟩ =
     some (.exit 0,⟨frB hp p.length n ((u / 10 ^ (8 * (i / 8)) : Nat) : Int) ((i % 8 : Nat) : Int) ++ [(20,.bool false)],HB hp (p ++ (f.take (i % 8) ++ (digA (digN (8 * (i / 8)) u ++ d) ++ r)))⟩) := by
 intro i
 induction i using Nat.strongRecOn with
 | _ i ih =>
   intro f d u hf hd hu
   by_cases h8 : i < 8
   · rw [fb_exit _ _ _ _ _ (by omega)]
     have e1 : i / 8 = 0 := by omega
     have e2 : i % 8 = i := by omega
     rw [e1,e2]
     simp [digN,← hf]
   · obtain ⟨j,rfl⟩ : ∃ j,i = j + 8 := ⟨i - 8,by omega⟩
     obtain ⟨x0,x1,x2,x3,x4,x5,x6,x7,hx⟩ := list8 f j hf
     have hcs : p ++ (f ++ (digA d ++ r)) = (p ++ f.take j) ++ (x0 :: x1 :: x2 :: x3 :: x4 :: x5 :: x6 :: x7 :: (digA d ++ r)) := by
       conv => lhs; rw [hx]
       simp
     have hlen : (p ++ f.take j).length = p.length + j := by simp; omega
     obtain ⟨b1,b0,a1,a0,l1,l2,l3,l4,hm,hst⟩ := fb_step (hp := hp) hlo p.length n j u (p ++ (f ++ (digA d ++ r))) (by simp; omega) (by omega) hn2 hu
     rw [loopD_eq,loopBody,show (((j + 8 : Nat) : Int)) = (j:Int) + 8 from rfl,hst]
     simp only
     rw [hcs,← hlen,set8_eq]
     have h3 := ih j (by omega) (f.take j) (digN 8 u ++ d) (u / 100000000) (by simp; omega) (by simp [digN_len]; omega) (by omega)
     have hc2 : (p ++ f.take j) ++ dg (a1 / 10) :: dg (a1 % 10) :: dg (a0 / 10) :: dg (a0 % 10) :: dg (b1 / 10) :: dg (b1 % 10) :: dg (b0 / 10) :: dg (b0 % 10) :: (digA d ++ r) = p ++ (f.take j ++ (digA (digN 8 u ++ d) ++ r)) := by
       rw [digA_app,digN8 hm l1 l2 l3 l4]; simp
     rw [hc2,h3]
     have e1 : (j + 8) / 8 = j / 8 + 1 := by omega
     have e2 : (j + 8) % 8 = j % 8 := by omega
     have e3 : u / 100000000 / 10 ^ (8 * (j / 8)) = u / 10 ^ (8 * (j / 8 + 1)) := by
       rw [Nat.div_div_eq_div_mul,show (100000000:Nat) = 10 ^ 8 from rfl,← Nat.pow_add]; congr 2; omega
     have e4 : digN (8 * (j / 8 + 1)) u = digN (8 * (j / 8)) (u / 100000000) ++ digN 8 u := by
       rw [show 8 * (j / 8 + 1) = 8 * (j / 8) + 8 by omega,digN_app]
     have e5 : (f.take j).take (j % 8) = f.take (j % 8) := by rw [List.take_take]; congr 1; omega
     rw [e1,e2,e3,e4,e5,List.append_assoc]
end
end Go.Proofs.YtkofimhnehkdoaaGreatDoor.Rf
end
