/- A part of the proof: see the last text. -/
import Derived.Test.YtkofimhnehkdoaaGreatDoorRcG18
set_option linter.unusedVariables false
set_option linter.unusedSimpArgs false
section
namespace Go.Proofs.YtkofimhnehkdoaaGreatDoor.Rf
def digA (l:List UInt8) : List AV := l.map fun c => AV.int .u8 (c.toNat : Int)
@[simp] theorem digA_len (l:List UInt8) : (digA l).length = l.length := by simp [digA]
theorem digA_app (a b:List UInt8) : digA (a ++ b) = digA a ++ digA b := by simp [digA]
theorem set8_eq (p r:List AV) (x0 x1 x2 x3 x4 x5 x6 x7:AV) (b1 b0 a1 a0:Nat) :
   set8 (p ++ x0 :: x1 :: x2 :: x3 :: x4 :: x5 :: x6 :: x7 :: r) p.length b1 b0 a1 a0 =
     p ++ dg (a1 / 10) :: dg (a1 % 10) :: dg (a0 / 10) :: dg (a0 % 10) :: dg (b1 / 10) :: dg (b1 % 10) :: dg (b0 / 10) :: dg (b0 % 10) :: r := by
 simp [set8,List.set_append_right]
theorem digN8 {u b1 b0 a1 a0:Nat} (h:u % 100000000 = ((a1 * 100 + a0) * 100 + b1) * 100 + b0) (h1:b1 < 100) (h2:b0 < 100) (h3:a1 < 100) (h4:a0 < 100) :
   digA (digN 8 u) = [dg (a1 / 10),dg (a1 % 10),dg (a0 / 10),dg (a0 % 10),dg (b1 / 10),dg (b1 % 10),dg (b0 / 10),dg (b0 % 10)] := by
 rw [← digN_mod 8 u,show 10 ^ 8 = 100000000 from rfl,h]
 generalize hx : ((a1 * 100 + a0) * 100 + b1) * 100 + b0 = x
 have e0 : x % 10 = b0 % 10 := by omega
 have e1 : x / 10 % 10 = b0 / 10 := by omega
 have e2 : x / 10 / 10 % 10 = b1 % 10 := by omega
 have e3 : x / 10 / 10 / 10 % 10 = b1 / 10 := by omega
 have e4 : x / 10 / 10 / 10 / 10 % 10 = a0 % 10 := by omega
 have e5 : x / 10 / 10 / 10 / 10 / 10 % 10 = a0 / 10 := by omega
 have e6 : x / 10 / 10 / 10 / 10 / 10 / 10 % 10 = a1 % 10 := by omega
 have e7 : x / 10 / 10 / 10 / 10 / 10 / 10 / 10 % 10 = a1 / 10 := by omega
 simp only [digN,e0,e1,e2,e3,e4,e5,e6,e7]
 simp [digA,dg]
theorem list8 {α:Type} (f:List α) (j:Nat) (h:f.length = j + 8) : ∃ x0 x1 x2 x3 x4 x5 x6 x7,f = f.take j ++ [x0,x1,x2,x3,x4,x5,x6,x7] := by
 have hd : (f.drop j).length = 8 := by simp; omega
 match hq : f.drop j,hd with
 | [x0,x1,x2,x3,x4,x5,x6,x7],_ => exact ⟨x0,x1,x2,x3,x4,x5,x6,x7,by rw [← hq,List.take_append_drop]⟩
section
variable {hp:List HObj} {lo:Nat}
theorem fb_exit (off n:Nat) (u:Int) (i:Int) (cs:List AV) (h:¬ 8 ≤ i) : loopD G0 IP lo l_isc_formatBase10_0 ⟨frB hp off n u i,HB hp cs⟩ = some (.exit 0,⟨frB hp off n u i ++ [(20,.bool false)],HB hp cs⟩) := by
 rw [loopD_eq,loopBody]
 simp [l_isc_formatBase10_0,h]
theorem fb_loop (hlo:lo ≤ hp.length) (p r:List AV) (n:Nat) (hn2:n ≤ 100) : ∀ (i:Nat) (f:List AV) (d:List UInt8) (u:Nat),f.length = i → i + d.length = n → u < 18446744073709551616 →
   loopD G0 IP lo l_isc_formatBase10_0 ⟨frB hp p.length n u i,HB hp (p ++ (f ++ (digA d ++ r)))⟩ =
     some (.exit 0,⟨frB hp p.length n ((u / 10 ^ (8 * (i / 8)) : Nat) : Int) ((i % 8 : Nat) : Int) ++ [(20,.bool false)],HB hp (p ++ (f.take (i % 8) ++ (digA (digN (8 * (i / 8)) u ++ d) ++ r)))⟩) := by
 intro i
 induction i using Nat.strongRecOn with
 | _ i ih =>
   intro f d u hf hd hu
   by_cases h8 : i < 8
   · rw [fb_exit _ _ _ _ _ (by omega)]
     have e1 : i / 8 = 0 := by omega
     have e2 : i % 8 = i := by omega
     rw [e1,e2]
     simp [digN,← hf]
   · obtain ⟨j,rfl⟩ : ∃ j,i = j + 8 := ⟨i - 8,by omega⟩
     obtain ⟨x0,x1,x2,x3,x4,x5,x6,x7,hx⟩ := list8 f j hf
     have hcs : p ++ (f ++ (digA d ++ r)) = (p ++ f.take j) ++ (x0 :: x1 :: x2 :: x3 :: x4 :: x5 :: x6 :: x7 :: (digA d ++ r)) := by
       conv => lhs; rw [hx]
       simp
     have hlen : (p ++ f.take j).length = p.length + j := by simp; omega
     obtain ⟨b1,b0,a1,a0,l1,l2,l3,l4,hm,hst⟩ := fb_step (hp := hp) hlo p.length n j u (p ++ (f ++ (digA d ++ r))) (by simp; omega) (by omega) hn2 hu
     rw [loopD_eq,loopBody,show (((j + 8 : Nat) : Int)) = (j:Int) + 8 from rfl,hst]
     simp only
     rw [hcs,← hlen,set8_eq]
     have h3 := ih j (by omega) (f.take j) (digN 8 u ++ d) (u / 100000000) (by simp; omega) (by simp [digN_len]; omega) (by omega)
     have hc2 : (p ++ f.take j) ++ dg (a1 / 10) :: dg (a1 % 10) :: dg (a0 / 10) :: dg (a0 % 10) :: dg (b1 / 10) :: dg (b1 % 10) :: dg (b0 / 10) :: dg (b0 % 10) :: (digA d ++ r) = p ++ (f.take j ++ (digA (digN 8 u ++ d) ++ r)) := by
       rw [digA_app,digN8 hm l1 l2 l3 l4]; simp
     rw [hc2,h3]
     have e1 : (j + 8) / 8 = j / 8 + 1 := by omega
     have e2 : (j + 8) % 8 = j % 8 := by omega
     have e3 : u / 100000000 / 10 ^ (8 * (j / 8)) = u / 10 ^ (8 * (j / 8 + 1)) := by
       rw [Nat.div_div_eq_div_mul,show (100000000:Nat) = 10 ^ 8 from rfl,← Nat.pow_add]; congr 2; omega
     have e4 : digN (8 * (j / 8 + 1)) u = digN (8 * (j / 8)) (u / 100000000) ++ digN 8 u := by
       rw [show 8 * (j / 8 + 1) = 8 * (j / 8) + 8 by omega,digN_app]
     have e5 : (f.take j).take (j % 8) = f.take (j % 8) := by rw [List.take_take]; congr 1; omega
     rw [e1,e2,e3,e4,e5,List.append_assoc]
end
end Go.Proofs.YtkofimhnehkdoaaGreatDoor.Rf
end
section
namespace Go.Proofs.YtkofimhnehkdoaaGreatDoor.Rf
theorem conv8 (w:Nat) (h:w < 10) : IntKind.wrap .u8 (48 + (w:Int)) = ((dig w).toNat : Int) := by
 rw [dig_toNat h]; simp [IntKind.wrap,IntKind.signed,IntKind.bits]; omega
theorem add48 (w:Nat) (h:w < 10) : IntKind.wrap .u32 (48 + (w:Int)) = 48 + (w:Int) := by
 simp [IntKind.wrap,IntKind.signed,IntKind.bits]; omega
def fbTail : ICode := match i_isc_formatBase10.body with
 | .seq _ (.seq _ c) => c
 | c => c
section
variable {hp:List HObj} {lo:Nat}
set_option maxHeartbeats 4000000 in
theorem fb_tail0 (hlo:lo ≤ hp.length) (p r:List AV) (n u:Nat) (hn:0 ≤ n) (hu:u < 1) (f:List AV) (hf:f.length = 0) :
   ∃ fr,evalC G0 (callD G0 IP) (loopD G0 IP lo) lo fbTail ⟨frB hp p.length n u 0 ++ [(20,.bool false)],HB hp (p ++ (f ++ r))⟩ = some (.normal,⟨fr,HB hp (p ++ (digA (digN 0 u) ++ r))⟩) := by
 have w0 : IntKind.wrap .u32 (u:Int) = u := by simp [IntKind.wrap,IntKind.signed,IntKind.bits]; omega
 have w32 : ∀ x : Nat,x < 100 → IntKind.wrap .u32 (x:Int) = x := fun x h => by simp [IntKind.wrap,IntKind.signed,IntKind.bits]; omega
 have w32b : ∀ x : Nat,x < 100 → IntKind.wrap .u32 ((x:Int) * 2) = (x:Int) * 2 := fun x h => by simp [IntKind.wrap,IntKind.signed,IntKind.bits]; omega
 have w32c : ∀ x : Nat,x < 100 → IntKind.wrap .u32 ((x:Int) * 2 + 1) = (x:Int) * 2 + 1 := fun x h => by simp [IntKind.wrap,IntKind.signed,IntKind.bits]; omega
 have t1 : ∀ x : Nat,((x:Int) * 2).toNat = 2 * x := fun x => by omega
 have t2 : ∀ x : Nat,((x:Int) * 2 + 1).toNat = 2 * x + 1 := fun x => by omega
 have t3 : ∀ x : Nat,(0:Int) ≤ (x:Int) * 2 := fun x => by omega
 have t4 : ∀ x : Nat,(0:Int) ≤ (x:Int) * 2 + 1 := fun x => by omega
 have s1 : ∀ x : Nat,x < 100 → smalls2[2 * x]? = some (dig (x / 10)) := fun x h => (smalls2_at x h).1
 have s2 : ∀ x : Nat,x < 100 → smalls2[2 * x + 1]? = some (dig (x % 10)) := fun x h => (smalls2_at x h).2
 match f,hf with
 | [],_ =>
 generalize hcs : p ++ ([] ++ r) = cs
 have hcl : p.length + 0 ≤ cs.length := by rw [← hcs]; simp
 have hdig : digN 0 u = [] := by
   simp [digN]
 rw [hdig]
 simp [-put,fbTail,i_isc_formatBase10,w0,w32,w32b,w32c,t1,t2,t3,t4,s1,s2,hlo,put_set,show IntKind.wrap .i64 0 = 0 from rfl,show IntKind.wrap .i64 1 = 1 from rfl,show IntKind.wrap .i64 2 = 2 from rfl,show IntKind.wrap .i64 3 = 3 from rfl,show IntKind.wrap .i64 4 = 4 from rfl,show IntKind.wrap .i64 5 = 5 from rfl,show IntKind.wrap .i64 6 = 6 from rfl,show IntKind.wrap .i64 7 = 7 from rfl]
 rw [← hcs]
 simp [List.set_append_right,digA]
set_option maxHeartbeats 4000000 in
theorem fb_tail1 (hlo:lo ≤ hp.length) (p r:List AV) (n u:Nat) (hn:1 ≤ n) (hu:u < 10) (f:List AV) (hf:f.length = 1) :
   ∃ fr,evalC G0 (callD G0 IP) (loopD G0 IP lo) lo fbTail ⟨frB hp p.length n u 1 ++ [(20,.bool false)],HB hp (p ++ (f ++ r))⟩ = some (.normal,⟨fr,HB hp (p ++ (digA (digN 1 u) ++ r))⟩) := by
 have w0 : IntKind.wrap .u32 (u:Int) = u := by simp [IntKind.wrap,IntKind.signed,IntKind.bits]; omega
 have l1 := conv8 u (by omega)
 have l2 := add48 u (by omega)
 have w32 : ∀ x : Nat,x < 100 → IntKind.wrap .u32 (x:Int) = x := fun x h => by simp [IntKind.wrap,IntKind.signed,IntKind.bits]; omega
 have w32b : ∀ x : Nat,x < 100 → IntKind.wrap .u32 ((x:Int) * 2) = (x:Int) * 2 := fun x h => by simp [IntKind.wrap,IntKind.signed,IntKind.bits]; omega
 have w32c : ∀ x : Nat,x < 100 → IntKind.wrap .u32 ((x:Int) * 2 + 1) = (x:Int) * 2 + 1 := fun x h => by simp [IntKind.wrap,IntKind.signed,IntKind.bits]; omega
 have t1 : ∀ x : Nat,((x:Int) * 2).toNat = 2 * x := fun x => by omega
 have t2 : ∀ x : Nat,((x:Int) * 2 + 1).toNat = 2 * x + 1 := fun x => by omega
 have t3 : ∀ x : Nat,(0:Int) ≤ (x:Int) * 2 := fun x => by omega
 have t4 : ∀ x : Nat,(0:Int) ≤ (x:Int) * 2 + 1 := fun x => by omega
 have s1 : ∀ x : Nat,x < 100 → smalls2[2 * x]? = some (dig (x / 10)) := fun x h => (smalls2_at x h).1
 have s2 : ∀ x : Nat,x < 100 → smalls2[2 * x + 1]? = some (dig (x % 10)) := fun x h => (smalls2_at x h).2
 have p0 : (0:Int) < n := by omega
 have pn0 : 0 < n := by omega
 match f,hf with
 | [x0],_ =>
 generalize hcs : p ++ ([x0] ++ r) = cs
 have hcl : p.length + 1 ≤ cs.length := by rw [← hcs]; simp
 have b0 : p.length < cs.length := by omega
 have e0 : p.length + 1 ≤ cs.length := by omega
 have hdig : digN 1 u = [dig u] := by
   have z0 : u % 10 = u := by omega
   simp [digN,z0]
 rw [hdig]
 simp [-put,fbTail,i_isc_formatBase10,l1,l2,w0,w32,w32b,w32c,t1,t2,t3,t4,s1,s2,hlo,put_set,p0,pn0,b0,e0,show IntKind.wrap .i64 0 = 0 from rfl,show IntKind.wrap .i64 1 = 1 from rfl,show IntKind.wrap .i64 2 = 2 from rfl,show IntKind.wrap .i64 3 = 3 from rfl,show IntKind.wrap .i64 4 = 4 from rfl,show IntKind.wrap .i64 5 = 5 from rfl,show IntKind.wrap .i64 6 = 6 from rfl,show IntKind.wrap .i64 7 = 7 from rfl]
 rw [← hcs]
 simp [List.set_append_right,digA]
set_option maxHeartbeats 4000000 in
theorem fb_tail2 (hlo:lo ≤ hp.length) (p r:List AV) (n u:Nat) (hn:2 ≤ n) (hu:u < 100) (f:List AV) (hf:f.length = 2) :
   ∃ fr,evalC G0 (callD G0 IP) (loopD G0 IP lo) lo fbTail ⟨frB hp p.length n u 2 ++ [(20,.bool false)],HB hp (p ++ (f ++ r))⟩ = some (.normal,⟨fr,HB hp (p ++ (digA (digN 2 u) ++ r))⟩) := by
 have w0 : IntKind.wrap .u32 (u:Int) = u := by simp [IntKind.wrap,IntKind.signed,IntKind.bits]; omega
 have q5 : (u:Int).tmod 100 = ((u % 100 : Nat) : Int) := rfl
 have q6 : (u:Int).tdiv 100 = ((u / 100 : Nat) : Int) := rfl
 have hd3 := Nat.div_add_mod u 100
 have hb5 : u % 100 < 100 := Nat.mod_lt _ (by omega)
 have hb6 : u / 100 < 1 := by omega
 generalize hz : u % 100 = c0 at *
 generalize ht : u / 100 = c1 at *
 have wc : IntKind.wrap .u32 (c1:Int) = c1 := by simp [IntKind.wrap,IntKind.signed,IntKind.bits]; omega
 have w32 : ∀ x : Nat,x < 100 → IntKind.wrap .u32 (x:Int) = x := fun x h => by simp [IntKind.wrap,IntKind.signed,IntKind.bits]; omega
 have w32b : ∀ x : Nat,x < 100 → IntKind.wrap .u32 ((x:Int) * 2) = (x:Int) * 2 := fun x h => by simp [IntKind.wrap,IntKind.signed,IntKind.bits]; omega
 have w32c : ∀ x : Nat,x < 100 → IntKind.wrap .u32 ((x:Int) * 2 + 1) = (x:Int) * 2 + 1 := fun x h => by simp [IntKind.wrap,IntKind.signed,IntKind.bits]; omega
 have t1 : ∀ x : Nat,((x:Int) * 2).toNat = 2 * x := fun x => by omega
 have t2 : ∀ x : Nat,((x:Int) * 2 + 1).toNat = 2 * x + 1 := fun x => by omega
 have t3 : ∀ x : Nat,(0:Int) ≤ (x:Int) * 2 := fun x => by omega
 have t4 : ∀ x : Nat,(0:Int) ≤ (x:Int) * 2 + 1 := fun x => by omega
 have s1 : ∀ x : Nat,x < 100 → smalls2[2 * x]? = some (dig (x / 10)) := fun x h => (smalls2_at x h).1
 have s2 : ∀ x : Nat,x < 100 → smalls2[2 * x + 1]? = some (dig (x % 10)) := fun x h => (smalls2_at x h).2
 have p0 : (0:Int) < n := by omega
 have pn0 : 0 < n := by omega
 have p1 : (1:Int) < n := by omega
 have pn1 : 1 < n := by omega
 match f,hf with
 | [x0,x1],_ =>
 generalize hcs : p ++ ([x0,x1] ++ r) = cs
 have hcl : p.length + 2 ≤ cs.length := by rw [← hcs]; simp
 have b0 : p.length < cs.length := by omega
 have e0 : p.length + 1 ≤ cs.length := by omega
 have b1 : p.length + 1 < cs.length := by omega
 have e1 : p.length + 1 + 1 ≤ cs.length := by omega
 have hdig : digN 2 u = [dig (c0 / 10),dig (c0 % 10)] := by
   have z0 : u % 10 = c0 % 10 := by omega
   have z1 : u / 10 % 10 = c0 / 10 := by omega
   simp [digN,z0,z1]
 rw [hdig]
 simp [-put,fbTail,i_isc_formatBase10,q5,q6,hb5,wc,w0,w32,w32b,w32c,t1,t2,t3,t4,s1,s2,hlo,put_set,p0,pn0,p1,pn1,b0,e0,b1,e1,show IntKind.wrap .i64 0 = 0 from rfl,show IntKind.wrap .i64 1 = 1 from rfl,show IntKind.wrap .i64 2 = 2 from rfl,show IntKind.wrap .i64 3 = 3 from rfl,show IntKind.wrap .i64 4 = 4 from rfl,show IntKind.wrap .i64 5 = 5 from rfl,show IntKind.wrap .i64 6 = 6 from rfl,show IntKind.wrap .i64 7 = 7 from rfl]
 rw [← hcs]
 simp [List.set_append_right,digA]
set_option maxHeartbeats 4000000 in
theorem fb_tail3 (hlo:lo ≤ hp.length) (p r:List AV) (n u:Nat) (hn:3 ≤ n) (hu:u < 1000) (f:List AV) (hf:f.length = 3) :
   ∃ fr,evalC G0 (callD G0 IP) (loopD G0 IP lo) lo fbTail ⟨frB hp p.length n u 3 ++ [(20,.bool false)],HB hp (p ++ (f ++ r))⟩ = some (.normal,⟨fr,HB hp (p ++ (digA (digN 3 u) ++ r))⟩) := by
 have w0 : IntKind.wrap .u32 (u:Int) = u := by simp [IntKind.wrap,IntKind.signed,IntKind.bits]; omega
 have q5 : (u:Int).tmod 100 = ((u % 100 : Nat) : Int) := rfl
 have q6 : (u:Int).tdiv 100 = ((u / 100 : Nat) : Int) := rfl
 have hd3 := Nat.div_add_mod u 100
 have hb5 : u % 100 < 100 := Nat.mod_lt _ (by omega)
 have hb6 : u / 100 < 10 := by omega
 generalize hz : u % 100 = c0 at *
 generalize ht : u / 100 = c1 at *
 have wc : IntKind.wrap .u32 (c1:Int) = c1 := by simp [IntKind.wrap,IntKind.signed,IntKind.bits]; omega
 have l1 := conv8 c1 (by omega)
 have l2 := add48 c1 (by omega)
 have w32 : ∀ x : Nat,x < 100 → IntKind.wrap .u32 (x:Int) = x := fun x h => by simp [IntKind.wrap,IntKind.signed,IntKind.bits]; omega
 have w32b : ∀ x : Nat,x < 100 → IntKind.wrap .u32 ((x:Int) * 2) = (x:Int) * 2 := fun x h => by simp [IntKind.wrap,IntKind.signed,IntKind.bits]; omega
 have w32c : ∀ x : Nat,x < 100 → IntKind.wrap .u32 ((x:Int) * 2 + 1) = (x:Int) * 2 + 1 := fun x h => by simp [IntKind.wrap,IntKind.signed,IntKind.bits]; omega
 have t1 : ∀ x : Nat,((x:Int) * 2).toNat = 2 * x := fun x => by omega
 have t2 : ∀ x : Nat,((x:Int) * 2 + 1).toNat = 2 * x + 1 := fun x => by omega
 have t3 : ∀ x : Nat,(0:Int) ≤ (x:Int) * 2 := fun x => by omega
 have t4 : ∀ x : Nat,(0:Int) ≤ (x:Int) * 2 + 1 := fun x => by omega
 have s1 : ∀ x : Nat,x < 100 → smalls2[2 * x]? = some (dig (x / 10)) := fun x h => (smalls2_at x h).1
 have s2 : ∀ x : Nat,x < 100 → smalls2[2 * x + 1]? = some (dig (x % 10)) := fun x h => (smalls2_at x h).2
 have p0 : (0:Int) < n := by omega
 have pn0 : 0 < n := by omega
 have p1 : (1:Int) < n := by omega
 have pn1 : 1 < n := by omega
 have p2 : (2:Int) < n := by omega
 have pn2 : 2 < n := by omega
 match f,hf with
 | [x0,x1,x2],_ =>
 generalize hcs : p ++ ([x0,x1,x2] ++ r) = cs
 have hcl : p.length + 3 ≤ cs.length := by rw [← hcs]; simp
 have b0 : p.length < cs.length := by omega
 have e0 : p.length + 1 ≤ cs.length := by omega
 have b1 : p.length + 1 < cs.length := by omega
 have e1 : p.length + 1 + 1 ≤ cs.length := by omega
 have b2 : p.length + 2 < cs.length := by omega
 have e2 : p.length + 2 + 1 ≤ cs.length := by omega
 have hdig : digN 3 u = [dig c1,dig (c0 / 10),dig (c0 % 10)] := by
   have z0 : u % 10 = c0 % 10 := by omega
   have z1 : u / 10 % 10 = c0 / 10 := by omega
   have z2 : u / 10 / 10 % 10 = c1 := by omega
   simp [digN,z0,z1,z2]
 rw [hdig]
 simp [-put,fbTail,i_isc_formatBase10,q5,q6,hb5,wc,l1,l2,w0,w32,w32b,w32c,t1,t2,t3,t4,s1,s2,hlo,put_set,p0,pn0,p1,pn1,p2,pn2,b0,e0,b1,e1,b2,e2,show IntKind.wrap .i64 0 = 0 from rfl,show IntKind.wrap .i64 1 = 1 from rfl,show IntKind.wrap .i64 2 = 2 from rfl,show IntKind.wrap .i64 3 = 3 from rfl,show IntKind.wrap .i64 4 = 4 from rfl,show IntKind.wrap .i64 5 = 5 from rfl,show IntKind.wrap .i64 6 = 6 from rfl,show IntKind.wrap .i64 7 = 7 from rfl]
 rw [← hcs]
 simp [List.set_append_right,digA]
set_option maxHeartbeats 4000000 in
theorem fb_tail4 (hlo:lo ≤ hp.length) (p r:List AV) (n u:Nat) (hn:4 ≤ n) (hu:u < 10000) (f:List AV) (hf:f.length = 4) :
   ∃ fr,evalC G0 (callD G0 IP) (loopD G0 IP lo) lo fbTail ⟨frB hp p.length n u 4 ++ [(20,.bool false)],HB hp (p ++ (f ++ r))⟩ = some (.normal,⟨fr,HB hp (p ++ (digA (digN 4 u) ++ r))⟩) := by
 have w0 : IntKind.wrap .u32 (u:Int) = u := by simp [IntKind.wrap,IntKind.signed,IntKind.bits]; omega
 have q1 : (u:Int).tmod 10000 = ((u % 10000 : Nat) : Int) := rfl
 have q2 : (u:Int).tdiv 10000 = ((u / 10000 : Nat) : Int) := rfl
 have hd1 := Nat.div_add_mod u 10000
 have hb1 : u % 10000 < 10000 := Nat.mod_lt _ (by omega)
 have hb2 : u / 10000 < 1 := by omega
 generalize hv : u % 10000 = v at *
 generalize hw : u / 10000 = w at *
 have q3 : (v:Int).tdiv 100 = ((v / 100 : Nat) : Int) := rfl
 have q4 : (v:Int).tmod 100 = ((v % 100 : Nat) : Int) := rfl
 have hd2 := Nat.div_add_mod v 100
 have hb3 : v % 100 < 100 := Nat.mod_lt _ (by omega)
 have hb4 : v / 100 < 100 := by omega
 generalize hx : v / 100 = a1 at *
 generalize hy : v % 100 = a0 at *
 have ww : IntKind.wrap .u32 (w:Int) = w := by simp [IntKind.wrap,IntKind.signed,IntKind.bits]; omega
 have w32 : ∀ x : Nat,x < 100 → IntKind.wrap .u32 (x:Int) = x := fun x h => by simp [IntKind.wrap,IntKind.signed,IntKind.bits]; omega
 have w32b : ∀ x : Nat,x < 100 → IntKind.wrap .u32 ((x:Int) * 2) = (x:Int) * 2 := fun x h => by simp [IntKind.wrap,IntKind.signed,IntKind.bits]; omega
 have w32c : ∀ x : Nat,x < 100 → IntKind.wrap .u32 ((x:Int) * 2 + 1) = (x:Int) * 2 + 1 := fun x h => by simp [IntKind.wrap,IntKind.signed,IntKind.bits]; omega
 have t1 : ∀ x : Nat,((x:Int) * 2).toNat = 2 * x := fun x => by omega
 have t2 : ∀ x : Nat,((x:Int) * 2 + 1).toNat = 2 * x + 1 := fun x => by omega
 have t3 : ∀ x : Nat,(0:Int) ≤ (x:Int) * 2 := fun x => by omega
 have t4 : ∀ x : Nat,(0:Int) ≤ (x:Int) * 2 + 1 := fun x => by omega
 have s1 : ∀ x : Nat,x < 100 → smalls2[2 * x]? = some (dig (x / 10)) := fun x h => (smalls2_at x h).1
 have s2 : ∀ x : Nat,x < 100 → smalls2[2 * x + 1]? = some (dig (x % 10)) := fun x h => (smalls2_at x h).2
 have p0 : (0:Int) < n := by omega
 have pn0 : 0 < n := by omega
 have p1 : (1:Int) < n := by omega
 have pn1 : 1 < n := by omega
 have p2 : (2:Int) < n := by omega
 have pn2 : 2 < n := by omega
 have p3 : (3:Int) < n := by omega
 have pn3 : 3 < n := by omega
 match f,hf with
 | [x0,x1,x2,x3],_ =>
 generalize hcs : p ++ ([x0,x1,x2,x3] ++ r) = cs
 have hcl : p.length + 4 ≤ cs.length := by rw [← hcs]; simp
 have b0 : p.length < cs.length := by omega
 have e0 : p.length + 1 ≤ cs.length := by omega
 have b1 : p.length + 1 < cs.length := by omega
 have e1 : p.length + 1 + 1 ≤ cs.length := by omega
 have b2 : p.length + 2 < cs.length := by omega
 have e2 : p.length + 2 + 1 ≤ cs.length := by omega
 have b3 : p.length + 3 < cs.length := by omega
 have e3 : p.length + 3 + 1 ≤ cs.length := by omega
 have hdig : digN 4 u = [dig (a1 / 10),dig (a1 % 10),dig (a0 / 10),dig (a0 % 10)] := by
   have z0 : u % 10 = a0 % 10 := by omega
   have z1 : u / 10 % 10 = a0 / 10 := by omega
   have z2 : u / 10 / 10 % 10 = a1 % 10 := by omega
   have z3 : u / 10 / 10 / 10 % 10 = a1 / 10 := by omega
   simp [digN,z0,z1,z2,z3]
 rw [hdig]
 simp [-put,fbTail,i_isc_formatBase10,q1,q2,q3,q4,hb3,hb4,ww,w0,w32,w32b,w32c,t1,t2,t3,t4,s1,s2,hlo,put_set,p0,pn0,p1,pn1,p2,pn2,p3,pn3,b0,e0,b1,e1,b2,e2,b3,e3,show IntKind.wrap .i64 0 = 0 from rfl,show IntKind.wrap .i64 1 = 1 from rfl,show IntKind.wrap .i64 2 = 2 from rfl,show IntKind.wrap .i64 3 = 3 from rfl,show IntKind.wrap .i64 4 = 4 from rfl,show IntKind.wrap .i64 5 = 5 from rfl,show IntKind.wrap .i64 6 = 6 from rfl,show IntKind.wrap .i64 7 = 7 from rfl]
 rw [← hcs]
 simp [List.set_append_right,digA]
set_option maxHeartbeats 4000000 in
theorem fb_tail5 (hlo:lo ≤ hp.length) (p r:List AV) (n u:Nat) (hn:5 ≤ n) (hu:u < 100000) (f:List AV) (hf:f.length = 5) :
   ∃ fr,evalC G0 (callD G0 IP) (loopD G0 IP lo) lo fbTail ⟨frB hp p.length n u 5 ++ [(20,.bool false)],HB hp (p ++ (f ++ r))⟩ = some (.normal,⟨fr,HB hp (p ++ (digA (digN 5 u) ++ r))⟩) := by
 have w0 : IntKind.wrap .u32 (u:Int) = u := by simp [IntKind.wrap,IntKind.signed,IntKind.bits]; omega
 have q1 : (u:Int).tmod 10000 = ((u % 10000 : Nat) : Int) := rfl
 have q2 : (u:Int).tdiv 10000 = ((u / 10000 : Nat) : Int) := rfl
 have hd1 := Nat.div_add_mod u 10000
 have hb1 : u % 10000 < 10000 := Nat.mod_lt _ (by omega)
 have hb2 : u / 10000 < 10 := by omega
 generalize hv : u % 10000 = v at *
 generalize hw : u / 10000 = w at *
 have q3 : (v:Int).tdiv 100 = ((v / 100 : Nat) : Int) := rfl
 have q4 : (v:Int).tmod 100 = ((v % 100 : Nat) : Int) := rfl
 have hd2 := Nat.div_add_mod v 100
 have hb3 : v % 100 < 100 := Nat.mod_lt _ (by omega)
 have hb4 : v / 100 < 100 := by omega
 generalize hx : v / 100 = a1 at *
 generalize hy : v % 100 = a0 at *
 have ww : IntKind.wrap .u32 (w:Int) = w := by simp [IntKind.wrap,IntKind.signed,IntKind.bits]; omega
 have l1 := conv8 w (by omega)
 have l2 := add48 w (by omega)
 have w32 : ∀ x : Nat,x < 100 → IntKind.wrap .u32 (x:Int) = x := fun x h => by simp [IntKind.wrap,IntKind.signed,IntKind.bits]; omega
 have w32b : ∀ x : Nat,x < 100 → IntKind.wrap .u32 ((x:Int) * 2) = (x:Int) * 2 := fun x h => by simp [IntKind.wrap,IntKind.signed,IntKind.bits]; omega
 have w32c : ∀ x : Nat,x < 100 → IntKind.wrap .u32 ((x:Int) * 2 + 1) = (x:Int) * 2 + 1 := fun x h => by simp [IntKind.wrap,IntKind.signed,IntKind.bits]; omega
 have t1 : ∀ x : Nat,((x:Int) * 2).toNat = 2 * x := fun x => by omega
 have t2 : ∀ x : Nat,((x:Int) * 2 + 1).toNat = 2 * x + 1 := fun x => by omega
 have t3 : ∀ x : Nat,(0:Int) ≤ (x:Int) * 2 := fun x => by omega
 have t4 : ∀ x : Nat,(0:Int) ≤ (x:Int) * 2 + 1 := fun x => by omega
 have s1 : ∀ x : Nat,x < 100 → smalls2[2 * x]? = some (dig (x / 10)) := fun x h => (smalls2_at x h).1
 have s2 : ∀ x : Nat,x < 100 → smalls2[2 * x + 1]? = some (dig (x % 10)) := fun x h => (smalls2_at x h).2
 have p0 : (0:Int) < n := by omega
 have pn0 : 0 < n := by omega
 have p1 : (1:Int) < n := by omega
 have pn1 : 1 < n := by omega
 have p2 : (2:Int) < n := by omega
 have pn2 : 2 < n := by omega
 have p3 : (3:Int) < n := by omega
 have pn3 : 3 < n := by omega
 have p4 : (4:Int) < n := by omega
 have pn4 : 4 < n := by omega
 match f,hf with
 | [x0,x1,x2,x3,x4],_ =>
 generalize hcs : p ++ ([x0,x1,x2,x3,x4] ++ r) = cs
 have hcl : p.length + 5 ≤ cs.length := by rw [← hcs]; simp
 have b0 : p.length < cs.length := by omega
 have e0 : p.length + 1 ≤ cs.length := by omega
 have b1 : p.length + 1 < cs.length := by omega
 have e1 : p.length + 1 + 1 ≤ cs.length := by omega
 have b2 : p.length + 2 < cs.length := by omega
 have e2 : p.length + 2 + 1 ≤ cs.length := by omega
 have b3 : p.length + 3 < cs.length := by omega
 have e3 : p.length + 3 + 1 ≤ cs.length := by omega
 have b4 : p.length + 4 < cs.length := by omega
 have e4 : p.length + 4 + 1 ≤ cs.length := by omega
 have hdig : digN 5 u = [dig w,dig (a1 / 10),dig (a1 % 10),dig (a0 / 10),dig (a0 % 10)] := by
   have z0 : u % 10 = a0 % 10 := by omega
   have z1 : u / 10 % 10 = a0 / 10 := by omega
   have z2 : u / 10 / 10 % 10 = a1 % 10 := by omega
   have z3 : u / 10 / 10 / 10 % 10 = a1 / 10 := by omega
   have z4 : u / 10 / 10 / 10 / 10 % 10 = w := by omega
   simp [digN,z0,z1,z2,z3,z4]
 rw [hdig]
 simp [-put,fbTail,i_isc_formatBase10,q1,q2,q3,q4,hb3,hb4,ww,l1,l2,w0,w32,w32b,w32c,t1,t2,t3,t4,s1,s2,hlo,put_set,p0,pn0,p1,pn1,p2,pn2,p3,pn3,p4,pn4,b0,e0,b1,e1,b2,e2,b3,e3,b4,e4,show IntKind.wrap .i64 0 = 0 from rfl,show IntKind.wrap .i64 1 = 1 from rfl,show IntKind.wrap .i64 2 = 2 from rfl,show IntKind.wrap .i64 3 = 3 from rfl,show IntKind.wrap .i64 4 = 4 from rfl,show IntKind.wrap .i64 5 = 5 from rfl,show IntKind.wrap .i64 6 = 6 from rfl,show IntKind.wrap .i64 7 = 7 from rfl]
 rw [← hcs]
 simp [List.set_append_right,digA]
set_option maxHeartbeats 4000000 in
theorem fb_tail6 (hlo:lo ≤ hp.length) (p r:List AV) (n u:Nat) (hn:6 ≤ n) (hu:u < 1000000) (f:List AV) (hf:f.length = 6) :
   ∃ fr,evalC G0 (callD G0 IP) (loopD G0 IP lo) lo fbTail ⟨frB hp p.length n u 6 ++ [(20,.bool false)],HB hp (p ++ (f ++ r))⟩ = some (.normal,⟨fr,HB hp (p ++ (digA (digN 6 u) ++ r))⟩) := by
 have w0 : IntKind.wrap .u32 (u:Int) = u := by simp [IntKind.wrap,IntKind.signed,IntKind.bits]; omega
 have q1 : (u:Int).tmod 10000 = ((u % 10000 : Nat) : Int) := rfl
 have q2 : (u:Int).tdiv 10000 = ((u / 10000 : Nat) : Int) := rfl
 have hd1 := Nat.div_add_mod u 10000
 have hb1 : u % 10000 < 10000 := Nat.mod_lt _ (by omega)
 have hb2 : u / 10000 < 100 := by omega
 generalize hv : u % 10000 = v at *
 generalize hw : u / 10000 = w at *
 have q3 : (v:Int).tdiv 100 = ((v / 100 : Nat) : Int) := rfl
 have q4 : (v:Int).tmod 100 = ((v % 100 : Nat) : Int) := rfl
 have hd2 := Nat.div_add_mod v 100
 have hb3 : v % 100 < 100 := Nat.mod_lt _ (by omega)
 have hb4 : v / 100 < 100 := by omega
 generalize hx : v / 100 = a1 at *
 generalize hy : v % 100 = a0 at *
 have ww : IntKind.wrap .u32 (w:Int) = w := by simp [IntKind.wrap,IntKind.signed,IntKind.bits]; omega
 have q5 : (w:Int).tmod 100 = ((w % 100 : Nat) : Int) := rfl
 have q6 : (w:Int).tdiv 100 = ((w / 100 : Nat) : Int) := rfl
 have hd3 := Nat.div_add_mod w 100
 have hb5 : w % 100 < 100 := Nat.mod_lt _ (by omega)
 have hb6 : w / 100 < 1 := by omega
 generalize hz : w % 100 = c0 at *
 generalize ht : w / 100 = c1 at *
 have wc : IntKind.wrap .u32 (c1:Int) = c1 := by simp [IntKind.wrap,IntKind.signed,IntKind.bits]; omega
 have w32 : ∀ x : Nat,x < 100 → IntKind.wrap .u32 (x:Int) = x := fun x h => by simp [IntKind.wrap,IntKind.signed,IntKind.bits]; omega
 have w32b : ∀ x : Nat,x < 100 → IntKind.wrap .u32 ((x:Int) * 2) = (x:Int) * 2 := fun x h => by simp [IntKind.wrap,IntKind.signed,IntKind.bits]; omega
 have w32c : ∀ x : Nat,x < 100 → IntKind.wrap .u32 ((x:Int) * 2 + 1) = (x:Int) * 2 + 1 := fun x h => by simp [IntKind.wrap,IntKind.signed,IntKind.bits]; omega
 have t1 : ∀ x : Nat,((x:Int) * 2).toNat = 2 * x := fun x => by omega
 have t2 : ∀ x : Nat,((x:Int) * 2 + 1).toNat = 2 * x + 1 := fun x => by omega
 have t3 : ∀ x : Nat,(0:Int) ≤ (x:Int) * 2 := fun x => by omega
 have t4 : ∀ x : Nat,(0:Int) ≤ (x:Int) * 2 + 1 := fun x => by omega
 have s1 : ∀ x : Nat,x < 100 → smalls2[2 * x]? = some (dig (x / 10)) := fun x h => (smalls2_at x h).1
 have s2 : ∀ x : Nat,x < 100 → smalls2[2 * x + 1]? = some (dig (x % 10)) := fun x h => (smalls2_at x h).2
 have p0 : (0:Int) < n := by omega
 have pn0 : 0 < n := by omega
 have p1 : (1:Int) < n := by omega
 have pn1 : 1 < n := by omega
 have p2 : (2:Int) < n := by omega
 have pn2 : 2 < n := by omega
 have p3 : (3:Int) < n := by omega
 have pn3 : 3 < n := by omega
 have p4 : (4:Int) < n := by omega
 have pn4 : 4 < n := by omega
 have p5 : (5:Int) < n := by omega
 have pn5 : 5 < n := by omega
 match f,hf with
 | [x0,x1,x2,x3,x4,x5],_ =>
 generalize hcs : p ++ ([x0,x1,x2,x3,x4,x5] ++ r) = cs
 have hcl : p.length + 6 ≤ cs.length := by rw [← hcs]; simp
 have b0 : p.length < cs.length := by omega
 have e0 : p.length + 1 ≤ cs.length := by omega
 have b1 : p.length + 1 < cs.length := by omega
 have e1 : p.length + 1 + 1 ≤ cs.length := by omega
 have b2 : p.length + 2 < cs.length := by omega
 have e2 : p.length + 2 + 1 ≤ cs.length := by omega
 have b3 : p.length + 3 < cs.length := by omega
 have e3 : p.length + 3 + 1 ≤ cs.length := by omega
 have b4 : p.length + 4 < cs.length := by omega
 have e4 : p.length + 4 + 1 ≤ cs.length := by omega
 have b5 : p.length + 5 < cs.length := by omega
 have e5 : p.length + 5 + 1 ≤ cs.length := by omega
 have hdig : digN 6 u = [dig (c0 / 10),dig (c0 % 10),dig (a1 / 10),dig (a1 % 10),dig (a0 / 10),dig (a0 % 10)] := by
   have z0 : u % 10 = a0 % 10 := by omega
   have z1 : u / 10 % 10 = a0 / 10 := by omega
   have z2 : u / 10 / 10 % 10 = a1 % 10 := by omega
   have z3 : u / 10 / 10 / 10 % 10 = a1 / 10 := by omega
   have z4 : u / 10 / 10 / 10 / 10 % 10 = c0 % 10 := by omega
   have z5 : u / 10 / 10 / 10 / 10 / 10 % 10 = c0 / 10 := by omega
   simp [digN,z0,z1,z2,z3,z4,z5]
 rw [hdig]
 simp [-put,fbTail,i_isc_formatBase10,q1,q2,q3,q4,hb3,hb4,ww,q5,q6,hb5,wc,w0,w32,w32b,w32c,t1,t2,t3,t4,s1,s2,hlo,put_set,p0,pn0,p1,pn1,p2,pn2,p3,pn3,p4,pn4,p5,pn5,b0,e0,b1,e1,b2,e2,b3,e3,b4,e4,b5,e5,show IntKind.wrap .i64 0 = 0 from rfl,show IntKind.wrap .i64 1 = 1 from rfl,show IntKind.wrap .i64 2 = 2 from rfl,show IntKind.wrap .i64 3 = 3 from rfl,show IntKind.wrap .i64 4 = 4 from rfl,show IntKind.wrap .i64 5 = 5 from rfl,show IntKind.wrap .i64 6 = 6 from rfl,show IntKind.wrap .i64 7 = 7 from rfl]
 rw [← hcs]
 simp [List.set_append_right,digA]
set_option maxHeartbeats 4000000 in
theorem fb_tail7 (hlo:lo ≤ hp.length) (p r:List AV) (n u:Nat) (hn:7 ≤ n) (hu:u < 10000000) (f:List AV) (hf:f.length = 7) :
   ∃ fr,evalC G0 (callD G0 IP) (loopD G0 IP lo) lo fbTail ⟨frB hp p.length n u 7 ++ [(20,.bool false)],HB hp (p ++ (f ++ r))⟩ = some (.normal,⟨fr,HB hp (p ++ (digA (digN 7 u) ++ r))⟩) := by
 have w0 : IntKind.wrap .u32 (u:Int) = u := by simp [IntKind.wrap,IntKind.signed,IntKind.bits]; omega
 have q1 : (u:Int).tmod 10000 = ((u % 10000 : Nat) : Int) := rfl
 have q2 : (u:Int).tdiv 10000 = ((u / 10000 : Nat) : Int) := rfl
 have hd1 := Nat.div_add_mod u 10000
 have hb1 : u % 10000 < 10000 := Nat.mod_lt _ (by omega)
 have hb2 : u / 10000 < 1000 := by omega
 generalize hv : u % 10000 = v at *
 generalize hw : u / 10000 = w at *
 have q3 : (v:Int).tdiv 100 = ((v / 100 : Nat) : Int) := rfl
 have q4 : (v:Int).tmod 100 = ((v % 100 : Nat) : Int) := rfl
 have hd2 := Nat.div_add_mod v 100
 have hb3 : v % 100 < 100 := Nat.mod_lt _ (by omega)
 have hb4 : v / 100 < 100 := by omega
 generalize hx : v / 100 = a1 at *
 generalize hy : v % 100 = a0 at *
 have ww : IntKind.wrap .u32 (w:Int) = w := by simp [IntKind.wrap,IntKind.signed,IntKind.bits]; omega
 have q5 : (w:Int).tmod 100 = ((w % 100 : Nat) : Int) := rfl
 have q6 : (w:Int).tdiv 100 = ((w / 100 : Nat) : Int) := rfl
 have hd3 := Nat.div_add_mod w 100
 have hb5 : w % 100 < 100 := Nat.mod_lt _ (by omega)
 have hb6 : w / 100 < 10 := by omega
 generalize hz : w % 100 = c0 at *
 generalize ht : w / 100 = c1 at *
 have wc : IntKind.wrap .u32 (c1:Int) = c1 := by simp [IntKind.wrap,IntKind.signed,IntKind.bits]; omega
 have l1 := conv8 c1 (by omega)
 have l2 := add48 c1 (by omega)
 have w32 : ∀ x : Nat,x < 100 → IntKind.wrap .u32 (x:Int) = x := fun x h => by simp [IntKind.wrap,IntKind.signed,IntKind.bits]; omega
 have w32b : ∀ x : Nat,x < 100 → IntKind.wrap .u32 ((x:Int) * 2) = (x:Int) * 2 := fun x h => by simp [IntKind.wrap,IntKind.signed,IntKind.bits]; omega
 have w32c : ∀ x : Nat,x < 100 → IntKind.wrap .u32 ((x:Int) * 2 + 1) = (x:Int) * 2 + 1 := fun x h => by simp [IntKind.wrap,IntKind.signed,IntKind.bits]; omega
 have t1 : ∀ x : Nat,((x:Int) * 2).toNat = 2 * x := fun x => by omega
 have t2 : ∀ x : Nat,((x:Int) * 2 + 1).toNat = 2 * x + 1 := fun x => by omega
 have t3 : ∀ x : Nat,(0:Int) ≤ (x:Int) * 2 := fun x => by omega
 have t4 : ∀ x : Nat,(0:Int) ≤ (x:Int) * 2 + 1 := fun x => by omega
 have s1 : ∀ x : Nat,x < 100 → smalls2[2 * x]? = some (dig (x / 10)) := fun x h => (smalls2_at x h).1
 have s2 : ∀ x : Nat,x < 100 → smalls2[2 * x + 1]? = some (dig (x % 10)) := fun x h => (smalls2_at x h).2
 have p0 : (0:Int) < n := by omega
 have pn0 : 0 < n := by omega
 have p1 : (1:Int) < n := by omega
 have pn1 : 1 < n := by omega
 have p2 : (2:Int) < n := by omega
 have pn2 : 2 < n := by omega
 have p3 : (3:Int) < n := by omega
 have pn3 : 3 < n := by omega
 have p4 : (4:Int) < n := by omega
 have pn4 : 4 < n := by omega
 have p5 : (5:Int) < n := by omega
 have pn5 : 5 < n := by omega
 have p6 : (6:Int) < n := by omega
 have pn6 : 6 < n := by omega
 match f,hf with
 | [x0,x1,x2,x3,x4,x5,x6],_ =>
 generalize hcs : p ++ ([x0,x1,x2,x3,x4,x5,x6] ++ r) = cs
 have hcl : p.length + 7 ≤ cs.length := by rw [← hcs]; simp
 have b0 : p.length < cs.length := by omega
 have e0 : p.length + 1 ≤ cs.length := by omega
 have b1 : p.length + 1 < cs.length := by omega
 have e1 : p.length + 1 + 1 ≤ cs.length := by omega
 have b2 : p.length + 2 < cs.length := by omega
 have e2 : p.length + 2 + 1 ≤ cs.length := by omega
 have b3 : p.length + 3 < cs.length := by omega
 have e3 : p.length + 3 + 1 ≤ cs.length := by omega
 have b4 : p.length + 4 < cs.length := by omega
 have e4 : p.length + 4 + 1 ≤ cs.length := by omega
 have b5 : p.length + 5 < cs.length := by omega
 have e5 : p.length + 5 + 1 ≤ cs.length := by omega
 have b6 : p.length + 6 < cs.length := by omega
 have e6 : p.length + 6 + 1 ≤ cs.length := by omega
 have hdig : digN 7 u = [dig c1,dig (c0 / 10),dig (c0 % 10),dig (a1 / 10),dig (a1 % 10),dig (a0 / 10),dig (a0 % 10)] := by
   have z0 : u % 10 = a0 % 10 := by omega
   have z1 : u / 10 % 10 = a0 / 10 := by omega
   have z2 : u / 10 / 10 % 10 = a1 % 10 := by omega
   have z3 : u / 10 / 10 / 10 % 10 = a1 / 10 := by omega
   have z4 : u / 10 / 10 / 10 / 10 % 10 = c0 % 10 := by omega
   have z5 : u / 10 / 10 / 10 / 10 / 10 % 10 = c0 / 10 := by omega
   have z6 : u / 10 / 10 / 10 / 10 / 10 / 10 % 10 = c1 := by omega
   simp [digN,z0,z1,z2,z3,z4,z5,z6]
 rw [hdig]
 simp [-put,fbTail,i_isc_formatBase10,q1,q2,q3,q4,hb3,hb4,ww,q5,q6,hb5,wc,l1,l2,w0,w32,w32b,w32c,t1,t2,t3,t4,s1,s2,hlo,put_set,p0,pn0,p1,pn1,p2,pn2,p3,pn3,p4,pn4,p5,pn5,p6,pn6,b0,e0,b1,e1,b2,e2,b3,e3,b4,e4,b5,e5,b6,e6,show IntKind.wrap .i64 0 = 0 from rfl,show IntKind.wrap .i64 1 = 1 from rfl,show IntKind.wrap .i64 2 = 2 from rfl,show IntKind.wrap .i64 3 = 3 from rfl,show IntKind.wrap .i64 4 = 4 from rfl,show IntKind.wrap .i64 5 = 5 from rfl,show IntKind.wrap .i64 6 = 6 from rfl,show IntKind.wrap .i64 7 = 7 from rfl]
 rw [← hcs]
 simp [List.set_append_right,digA]
end
end Go.Proofs.YtkofimhnehkdoaaGreatDoor.Rf
end
section
namespace Go.Proofs.YtkofimhnehkdoaaGreatDoor.Rf
section
variable {hp:List HObj} {lo:Nat} (q:Bool)
theorem idxB_ge : ∀ (s:List UInt8) (c:UInt8),-1 ≤ idxB s c ∧ idxB s c < s.length
 | [],c => by simp [idxB]
 | b :: l,c => by
   have := idxB_ge l c
   simp only [idxB]
   split
   · simp
   · split
     · simp; omega
     · rename_i h; simp at h; simp; omega
def cutB (s:List UInt8) (c:UInt8) : List UInt8 × List UInt8 × Bool := if 0 ≤ idxB s c then (s.take (idxB s c).toNat,s.drop ((idxB s c).toNat + 1),true) else (s,[],false)
end
end Go.Proofs.YtkofimhnehkdoaaGreatDoor.Rf
end
section
namespace Go.Proofs.YtkofimhnehkdoaaGreatDoor.Rf
section
variable {hp:List HObj} {lo:Nat} (q:Bool)
end
end Go.Proofs.YtkofimhnehkdoaaGreatDoor.Rf
end
section
namespace Go.Proofs.YtkofimhnehkdoaaGreatDoor.Rf
def opN : List (List UInt8) := [[],[118,97,114],[99,111,110,115,116],[110,111,116],[110,101,103],[97,110,100],[111,114],[120,111,114],[97,100,100],[115,117,98],[109,117,108],[117,100,105,118],[117,114,101,109],[115,104,108],[108,115,104,114],[97,115,104,114],[101,113],[117,108,116],[115,108,116],[105,116,101],[99,111,110,99,97,116],[101,120,116,114,97,99,116],[122,101,120,116],[115,101,120,116],[104,111,108,101],[110,117,109],[101,118,97,108]]
theorem g_0_eq : g_0 = opN.map AV.str := rfl
theorem g_0_len : g_0.length = 27 := rfl
def nm (n:Nat) : List UInt8 := opN.getD n []
theorem g_0_at {n:Nat} (h:n < 27) : (g_0.drop n).take 1 = [AV.str (nm n)] := by
 rw [g_0_eq,List.drop_eq_getElem_cons (by simpa [opN] using h)]
 simp [nm,List.getD,show n < opN.length by simpa [opN] using h]
def opOk (op:Int) : Bool := decide (1 ≤ op) && decide (op ≤ 26)
theorem opOk_cases {op:Int} (h:opOk op = true) : op = 1 ∨ op = 2 ∨ op = 3 ∨ op = 4 ∨ op = 5 ∨ op = 6 ∨ op = 7 ∨ op = 8 ∨ op = 9 ∨ op = 10 ∨ op = 11 ∨ op = 12 ∨ op = 13 ∨ op = 14 ∨ op = 15 ∨ op = 16 ∨ op = 17 ∨ op = 18 ∨ op = 19 ∨ op = 20 ∨ op = 21 ∨ op = 22 ∨ op = 23 ∨ op = 24 ∨ op = 25 ∨ op = 26 := by
 simp [opOk] at h; omega
theorem opOk_nat {op:Int} (h:opOk op = true) : ∃ n : Nat,op = n ∧ 1 ≤ n ∧ n ≤ 26 := by
 simp [opOk] at h; exact ⟨op.toNat,by omega,by omega,by omega⟩
def nameE (op:Int) : List UInt8 := if opOk op then nm op.toNat else []
def ofE (s:List UInt8) : Int × Bool := match (List.range 26).find? fun i => decide (nm (i + 1) = s) with | some i => (((i + 1 : Nat) : Int),true) | none => (0,false)
def arE (op:Int) : Int := if opOk op = false then -1 else if op = 1 ∨ op = 2 ∨ op = 24 ∨ op = 25 then 0 else if op = 3 ∨ op = 4 ∨ op = 21 ∨ op = 22 ∨ op = 23 ∨ op = 26 then 1 else if op = 19 then 3 else 2
def insE (w:Int) : Bool := decide (0 ≤ w) && decide (w ≤ 64)
def leafE (op w v:Int) : Int × Int := if insE w = false ∨ (op = 2 ∧ 0 < w ∧ 2 ^ w.toNat ≤ v) then (0,3) else (w,0)
def resE (op w v f:Int) : Int × Int := if w < 1 ∨ 64 < w ∨ f < 1 then (0,3) else if (op ≠ 21 ∧ w < f) ∨ (op = 21 ∧ (f < w ∨ f - w < v)) then (0,3) else (w,0)
def widE (op w v:Int) (as:List Int) : Int × Int :=
 if opOk op = false ∨ (as.length : Int) ≠ arE op then (0,4) else
 if as.all insE = false then (0,3) else
 if op = 1 ∨ op = 2 ∨ op = 24 ∨ op = 25 then leafE op w v else
 if op = 3 ∨ op = 4 ∨ op = 26 then (as.getD 0 0,0) else
 if op = 21 ∨ op = 22 ∨ op = 23 then resE op w v (as.getD 0 0) else
 if op = 19 then (if as.getD 0 0 = 1 ∧ as.getD 1 0 = as.getD 2 0 then (as.getD 1 0,0) else (0,3)) else
 if op = 20 then (if 1 ≤ as.getD 0 0 ∧ 1 ≤ as.getD 1 0 ∧ as.getD 0 0 + as.getD 1 0 ≤ 64 then (as.getD 0 0 + as.getD 1 0,0) else (0,3)) else
 if op = 16 ∨ op = 17 ∨ op = 18 then (if as.getD 0 0 = as.getD 1 0 then (1,0) else (0,3)) else
 if as.getD 0 0 = as.getD 1 0 then (as.getD 0 0,0) else (0,3)
section
variable {hp:List HObj} {lo:Nat} (q:Bool)
theorem known_D (op:Int) : callD G0 IP n_oi_known [.int .i64 op] hp lo q = some (.ret (.bool (opOk op)) hp) := by
 rw [callD_eq]
 by_cases h : 1 ≤ op
 · by_cases h2 : op ≤ 26 <;> simp [IP_oi_known,i_oi_known,opOk,h,h2]
 · simp [IP_oi_known,i_oi_known,opOk,h]
theorem opName_D (op:Int) : callD G0 IP n_oi_Name [.int .i64 op] hp lo q = some (.ret (.str (nameE op)) hp) := by
 rw [callD_eq]
 cases h : opOk op with
 | false => simp [IP_oi_Name,i_oi_Name,known_D,h,nameE]
 | true =>
   obtain ⟨n,rfl,h1,h2⟩ := opOk_nat h
   have e1 : (n:Int) < 27 := by omega
   have e2 : n + 1 ≤ 27 := by omega
   simp [IP_oi_Name,i_oi_Name,known_D,h,nameE,G0_0,e1,e2,g_0_at (show n < 27 by omega),g_0_len]
theorem arity_D (op:Int) : callD G0 IP n_oi_Arity [.int .i64 op] hp lo q = some (.ret (.int .i64 (arE op)) hp) := by
 rw [callD_eq]
 cases h : opOk op with
 | true =>
   rcases opOk_cases h with rfl | rfl | rfl | rfl | rfl | rfl | rfl | rfl | rfl | rfl | rfl | rfl | rfl | rfl | rfl | rfl | rfl | rfl | rfl | rfl | rfl | rfl | rfl | rfl | rfl | rfl
   all_goals simp [IP_oi_Arity,i_oi_Arity,arE,opOk,show IntKind.wrap .i64 1 = 1 from rfl,show IntKind.wrap .i64 2 = 2 from rfl,show IntKind.wrap .i64 3 = 3 from rfl]
 | false =>
   have hk : ∀ k : Int,1 ≤ k → k ≤ 26 → (op = k) = False := fun k h1 h2 => by
     simp only [eq_iff_iff,iff_false]; intro e; subst e; simp [opOk] at h; omega
   simp [IP_oi_Arity,i_oi_Arity,arE,h,hk]
end
end Go.Proofs.YtkofimhnehkdoaaGreatDoor.Rf
end
section
namespace Go.Proofs.YtkofimhnehkdoaaGreatDoor.Rf
section
variable {hp:List HObj} {lo:Nat} (q:Bool)
end
end Go.Proofs.YtkofimhnehkdoaaGreatDoor.Rf
end
section
namespace Go.Proofs.YtkofimhnehkdoaaGreatDoor.Rf
section
variable {hp:List HObj} {lo:Nat} (q:Bool)
end
end Go.Proofs.YtkofimhnehkdoaaGreatDoor.Rf
end
section
namespace Go.Proofs.YtkofimhnehkdoaaGreatDoor.Rf
def leafB (op:Int) : Bool := decide (op = 1) || (decide (op = 2) || (decide (op = 24) || decide (op = 25)))
theorem any_eq (op:Int) (l:List Int) : ((List.range l.length).any fun i => decide (l.getD i 0 = op)) = l.any fun x => decide (x = op) := by
 induction l with
 | nil => rfl
 | cons c r ih =>
   rw [List.length_cons,List.range_succ_eq_map]
   simp [List.any_map,Function.comp_def] at ih ⊢
   rw [ih]
theorem eq_comm_dec (a b:Int) : decide (a = b) = decide (b = a) := by
 by_cases h : a = b
 · simp [h]
 · rw [decide_eq_false h,decide_eq_false fun e : b = a => h e.symm]
section
variable {hp:List HObj} {lo:Nat} (q:Bool)
theorem is4_D (op:Int) (l:List Int) (o:Own) (hl:l.length ≤ 9223372036854775807) : callD G0 IP n_sr04_Is [.int .i64 op,.list (l.map (AV.int .i64)) o] hp lo q = some (.ret (.bool (l.any fun x => decide (x = op))) hp) := by
 rw [callD_eq]
 have hloop := loop_find (G := G0) (IP := IP) (lo := hp.length) (b := l_sr04_Is_0)
   (fun i => ⟨[(0,.int .i64 op),(1,.list (l.map (AV.int .i64)) o),(7,.int .i64 l.length),(8,.int .i64 i)],hp⟩) l.length (fun i => decide (l.getD i 0 = op))
   (.ret,⟨[(4,.bool true)],hp⟩) (.exit 0,⟨[(0,.int .i64 op),(1,.list (l.map (AV.int .i64)) o),(7,.int .i64 l.length),(8,.int .i64 l.length),(9,.bool false)],hp⟩)
   (fun i hi hp => by
     have hw := wrap_succ hi hl
     simp [List.getD,hi] at hp
     rw [← hw]
     simp [l_sr04_Is_0,hi,show (i:Int) < (l.length : Int) by omega,hp])
   (fun i hi hp => by
     simp [List.getD,hi] at hp
     simp [l_sr04_Is_0,hi,show (i:Int) < (l.length : Int) by omega,hp])
   (by simp) (by simp [l_sr04_Is_0]) (by simp)
 rw [any_eq] at hloop
 simp only [Int.natCast_zero] at hloop
 cases h : l.any fun x => decide (x = op) with
 | true => rw [h] at hloop; simp only [if_true] at hloop; simp [IP_sr04_Is,i_sr04_Is,hloop]
 | false => rw [h] at hloop; simp only [Bool.false_eq_true,if_false] at hloop; simp [IP_sr04_Is,i_sr04_Is,hloop]
theorem leaf4_D (op:Int) : callD G0 IP n_sr04_Leaf [.int .i64 op] hp lo q = some (.ret (.bool (leafB op)) hp) := by
 rw [callD_eq]
 have e := fun hp lo q (o:Own) => is4_D (hp := hp) (lo := lo) q op [1,2,24,25] o (by simp)
 simp only [List.map_cons,List.map_nil,List.any_cons,List.any_nil,Bool.or_false,eq_comm_dec _ op] at e
 simp [IP_sr04_Leaf,i_sr04_Leaf,e,leafB]
theorem arity4_D (op:Int) : callD G0 IP n_sr04_Arity [.int .i64 op] hp lo q = some (.ret (.int .i64 (arE op)) hp) := by
 rw [callD_eq]
 have e := fun hp lo q (o:Own) => is4_D (hp := hp) (lo := lo) q op [3,4,21,22,23,26] o (by simp)
 simp only [List.map_cons,List.map_nil,List.any_cons,List.any_nil,Bool.or_false,eq_comm_dec _ op] at e
 by_cases h1 : op < 1
 · have hk : opOk op = false := by simp [opOk]; omega
   simp [IP_sr04_Arity,i_sr04_Arity,arE,hk,h1]
 · by_cases h2 : 26 < op
   · have hk : opOk op = false := by simp [opOk]; omega
     simp [IP_sr04_Arity,i_sr04_Arity,arE,hk,h1,h2]
   · have hk : opOk op = true := by simp [opOk]; omega
     cases hL : leafB op with
     | true =>
       have h3 : op = 1 ∨ op = 2 ∨ op = 24 ∨ op = 25 := by simpa [leafB] using hL
       simp [IP_sr04_Arity,i_sr04_Arity,arE,hk,h1,h2,leaf4_D,hL,h3]
     | false =>
       have h3 : ¬ (op = 1 ∨ op = 2 ∨ op = 24 ∨ op = 25) := by simpa [leafB] using hL
       by_cases h4 : op = 3 ∨ op = 4 ∨ op = 21 ∨ op = 22 ∨ op = 23 ∨ op = 26
       · have h5 : (decide (op = 3) || (decide (op = 4) || (decide (op = 21) || (decide (op = 22) || (decide (op = 23) || decide (op = 26)))))) = true := by simpa using h4
         rw [h5] at e
         rw [arE,if_neg (by simp [hk]),if_neg h3,if_pos h4]
         simp [IP_sr04_Arity,i_sr04_Arity,h1,h2,leaf4_D,hL,e]
       · have h5 : (decide (op = 3) || (decide (op = 4) || (decide (op = 21) || (decide (op = 22) || (decide (op = 23) || decide (op = 26)))))) = false := by simpa using h4
         rw [h5] at e
         rw [arE,if_neg (by simp [hk]),if_neg h3,if_neg h4]
         by_cases h6 : op = 19
         · subst h6
           simp [IP_sr04_Arity,i_sr04_Arity,leaf4_D,hL,e]
         · simp [IP_sr04_Arity,i_sr04_Arity,h1,h2,leaf4_D,hL,e,h6]
end
end Go.Proofs.YtkofimhnehkdoaaGreatDoor.Rf
end
section
namespace Go.Proofs.YtkofimhnehkdoaaGreatDoor.Rf
section
variable {hp:List HObj} {lo:Nat} (q:Bool)
end
end Go.Proofs.YtkofimhnehkdoaaGreatDoor.Rf
end
section
namespace Go.Proofs.YtkofimhnehkdoaaGreatDoor.Rf
section
variable {hp:List HObj} {lo:Nat} (q:Bool)
theorem nameSel {n:Nat} (h:n < 27) : ([AV.str [],AV.str [118,97,114],AV.str [99,111,110,115,116],AV.str [110,111,116],AV.str [110,101,103],AV.str [97,110,100],AV.str [111,114],AV.str [120,111,114],AV.str [97,100,100],AV.str [115,117,98],AV.str [109,117,108],AV.str [117,100,105,118],AV.str [117,114,101,109],AV.str [115,104,108],AV.str [108,115,104,114],AV.str [97,115,104,114],AV.str [101,113],AV.str [117,108,116],AV.str [115,108,116],AV.str [105,116,101],AV.str [99,111,110,99,97,116],AV.str [101,120,116,114,97,99,116],AV.str [122,101,120,116],AV.str [115,101,120,116],AV.str [104,111,108,101],AV.str [110,117,109],AV.str [101,118,97,108]])[n]? = some (AV.str (nm n)) := by
 have e := g_0_at h
 rw [List.drop_eq_getElem_cons (by rw [g_0_len]; exact h)] at e
 simp only [List.take_succ_cons,List.take_zero,List.cons.injEq,and_true] at e
 show g_0[n]? = _
 rw [List.getElem?_eq_getElem (by rw [g_0_len]; exact h),e]
theorem name4_D (op:Int) : callD G0 IP n_sr04_Name [.int .i64 op] hp lo q = some (.ret (.str (nameE op)) hp) := by
 rw [callD_eq]
 cases h : opOk op with
 | false =>
   have h1 : op < 1 ∨ ¬ op < 1 ∧ 26 < op := by simp [opOk] at h; omega
   rcases h1 with h1 | ⟨h1,h2⟩
   · simp [IP_sr04_Name,i_sr04_Name,h1,h,nameE]
   · simp [IP_sr04_Name,i_sr04_Name,h1,h2,h,nameE]
 | true =>
   obtain ⟨n,rfl,h1,h2⟩ := opOk_nat h
   have e1 : (n:Int) < 27 := by omega
   have e2 : n + 1 ≤ 27 := by omega
   have e3 : ¬ (n:Int) < 1 := by omega
   have e4 : ¬ (26:Int) < n := by omega
   simp [IP_sr04_Name,i_sr04_Name,h,nameE,e1,e2,e3,e4,nameSel (show n < 27 by omega)]
end
end Go.Proofs.YtkofimhnehkdoaaGreatDoor.Rf
end
section
namespace Go.Proofs.YtkofimhnehkdoaaGreatDoor.Rf
section
variable {hp:List HObj} {lo:Nat} (q:Bool)
end
end Go.Proofs.YtkofimhnehkdoaaGreatDoor.Rf
end
section
namespace Go.Proofs.YtkofimhnehkdoaaGreatDoor.Rf
section
variable {hp:List HObj} {lo:Nat} (q:Bool)
end
end Go.Proofs.YtkofimhnehkdoaaGreatDoor.Rf
end
section
namespace Go.Proofs.YtkofimhnehkdoaaGreatDoor.Rf
def bt (s:List UInt8) (i:Nat) : Int := ((s.getD i 0).toNat : Int)
theorem bt_some {s:List UInt8} {i:Nat} (h:i < s.length) : ∃ c : UInt8,s[i]? = some c ∧ bt s i = (c.toNat : Int) := ⟨s[i],by simp [h],by simp [bt,h]⟩
def lowC (n:Int) : Bool := decide (97 ≤ n) && decide (n ≤ 122)
def nameC (n:Int) : Bool := lowC n || (decide (48 ≤ n) && decide (n ≤ 57)) || decide (n = 95)
def nameOk (s:List UInt8) : Bool := decide (1 ≤ s.length) && (decide (s.length ≤ 16) && (lowC (bt s 0) && s.all fun c => nameC (c.toNat : Int)))
inductive TR where
 | ok (t:T) | err (e:Int)
def T.z : T := .mk 0 0 0 [] true []
def TR.t : TR → T | .ok t => t | .err _ => T.z
def TR.e : TR → Int | .ok _ => 0 | .err e => e
def TR.out (hp:List HObj) : TR → COut
 | .ok t => .ret t.av hp
 | .err e => .pan (.iface 78 (.agg [.int .i64 e])) hp
def TR.tup (hp:List HObj) (r:TR) : COut := .ret (.tup [r.t.av,.int .i64 r.e]) hp
def constR (left:List UInt8) (w e:Int) : TR :=
 if (numE left).2 = 6 then .err 6 else
 if ¬ (e = 0 ∧ (numE left).2 = 0 ∧ w ≤ 64) then .err 2 else
 if (widE 2 w (numE left).1 []).2 ≠ 0 then .err (widE 2 w (numE left).1 []).2 else
 .ok (.mk 2 w (numE left).1 [] true [])
def leafOp (l:List UInt8) : Int := if bt l 0 = 63 then 24 else if bt l 0 = 35 then 25 else 1
def leafNm (l:List UInt8) : List UInt8 := if bt l 0 = 63 ∨ bt l 0 = 35 then l.drop 1 else l
def leafR (s:List UInt8) : TR :=
 if (cutB s 58).2.2 = false ∨ (numE (cutB s 58).2.1).2 = 6 then .err 6 else
 if 48 ≤ bt s 0 ∧ bt s 0 ≤ 57 then constR (cutB s 58).1 (numE (cutB s 58).2.1).1 (numE (cutB s 58).2.1).2 else
 if nameOk (leafNm (cutB s 58).1) = false then .err 5 else
 if ¬ ((numE (cutB s 58).2.1).2 = 0 ∧ (numE (cutB s 58).2.1).1 ≤ 64) then .err 2 else
 .ok (.mk (leafOp (cutB s 58).1) (numE (cutB s 58).2.1).1 0 (leafNm (cutB s 58).1) true [])
end Go.Proofs.YtkofimhnehkdoaaGreatDoor.Rf
end
section
namespace Go.Proofs.YtkofimhnehkdoaaGreatDoor.Rf
theorem any_names (s:List UInt8) : ((List.range s.length).any fun i => !nameC (bt s i)) = !(s.all fun c => nameC (c.toNat : Int)) := by
 induction s with
 | nil => rfl
 | cons c r ih =>
   rw [List.length_cons,List.range_succ_eq_map]
   simp [List.any_map,Function.comp_def,bt] at ih ⊢
   rw [ih]
section
variable {hp:List HObj} {lo:Nat} (q:Bool)
theorem name_D (s : List UInt8) (hs:s.length ≤ 9223372036854775807) : callD G0 IP n_term_Name [.str s] hp lo q = some (.ret (.bool (nameOk s)) hp) := by
 rw [callD_eq]
 by_cases h1 : s.length < 1
 · have h0 : ¬ 1 ≤ s.length := by omega
   have hi : (s.length : Int) < 1 := by omega
   simp [IP_term_Name,i_term_Name,nameOk,hi,h0]
 · have h1' : 1 ≤ s.length := by omega
   have hi : ¬ (s.length : Int) < 1 := by omega
   by_cases h2 : 16 < s.length
   · have h2' : (16:Int) < (s.length : Int) := by omega
     have h0 : ¬ s.length ≤ 16 := by omega
     simp [IP_term_Name,i_term_Name,nameOk,hi,h2',h0]
   · have h2' : ¬ (16 : Int) < (s.length : Int) := by omega
     obtain ⟨c,h4,hb⟩ := bt_some (s := s) (i := 0) (by omega)
     have h3 : s.length ≤ 16 := by omega
     by_cases h5 : (c.toNat : Int) < 97
     · have g : lowC (c.toNat : Int) = false := by simp [lowC]; omega
       simp [IP_term_Name,i_term_Name,nameOk,hi,h2',h4,hb,h5,g]
     · by_cases h6 : 122 < (c.toNat : Int)
       · have g : lowC (c.toNat : Int) = false := by simp [lowC]; omega
         simp [IP_term_Name,i_term_Name,nameOk,hi,h2',h4,hb,h5,h6,g]
       · have g : lowC (c.toNat : Int) = true := by simp [lowC]; omega
         have hloop := loop_find (G := G0) (IP := IP) (lo := hp.length) (b := l_term_Name_0)
           (fun i => ⟨[(0,.str s),(24,.int .i64 s.length),(25,.int .i64 i)],hp⟩) s.length (fun i => !nameC (bt s i))
           (.ret,⟨[(2,.bool false)],hp⟩) (.exit 0,⟨[(0,.str s),(24,.int .i64 s.length),(25,.int .i64 s.length),(26,.bool false)],hp⟩)
           (fun i hi hp => by
             have hw := wrap_succ hi hs
             obtain ⟨c,h4,hb⟩ := bt_some (s := s) (i := i) hi
             have h4' : s[i] = c := by simpa [hi] using h4
             rw [hb] at hp
             rw [← hw]
             by_cases a1 : (c.toNat : Int) < 97
             · by_cases a2 : (c.toNat : Int) < 48
               · simp [nameC,lowC] at hp; omega
               · by_cases a3 : 57 < (c.toNat : Int)
                 · have a4 : (c.toNat : Int) = 95 := by simp [nameC,lowC] at hp; omega
                   simp [l_term_Name_0,h4,h4',hi,a1,a2,a3,a4]
                 · simp [l_term_Name_0,h4,h4',hi,a1,a2,a3]
             · by_cases a2 : 122 < (c.toNat : Int)
               · simp [nameC,lowC] at hp; omega
               · simp [l_term_Name_0,h4,h4',hi,a1,a2])
           (fun i hi hp => by
             obtain ⟨c,h4,hb⟩ := bt_some (s := s) (i := i) hi
             have h4' : s[i] = c := by simpa [hi] using h4
             rw [hb] at hp
             have a4 : ¬ (c.toNat : Int) = 95 := by simp [nameC,lowC] at hp; omega
             by_cases a1 : (c.toNat : Int) < 97
             · by_cases a2 : (c.toNat : Int) < 48
               · simp [l_term_Name_0,h4,h4',hi,a1,a2,a4]
               · have a3 : 57 < (c.toNat : Int) := by simp [nameC,lowC] at hp; omega
                 simp [l_term_Name_0,h4,h4',hi,a1,a2,a3,a4]
             · have a2 : 122 < (c.toNat : Int) := by simp [nameC,lowC] at hp; omega
               have a3 : 57 < (c.toNat : Int) := by omega
               have a5 : ¬ (c.toNat : Int) < 48 := by omega
               simp [l_term_Name_0,h4,h4',hi,a1,a2,a3,a4,a5])
           (by simp) (by simp [l_term_Name_0]) (by simp)
         rw [any_names] at hloop
         simp only [Int.natCast_zero] at hloop
         cases h : s.all fun c => nameC (c.toNat : Int) with
         | true => rw [h] at hloop; simp only [Bool.not_true,Bool.false_eq_true,if_false] at hloop; simp [IP_term_Name,i_term_Name,hi,h2',h4,h5,h6,hloop,nameOk,hb,g,h1',h3,h]
         | false => rw [h] at hloop; simp only [Bool.not_false,if_true] at hloop; simp [IP_term_Name,i_term_Name,hi,h2',h4,h5,h6,hloop,nameOk,hb,g,h1',h3,h]
theorem name7_D (s : List UInt8) (hs:s.length ≤ 9223372036854775807) : callD G0 IP n_sr07_Name [.str s] hp lo q = some (.ret (.bool (nameOk s)) hp) := by
 rw [callD_eq]
 by_cases h1 : s.length < 1
 · have h0 : ¬ 1 ≤ s.length := by omega
   have hi : (s.length : Int) < 1 := by omega
   simp [IP_sr07_Name,i_sr07_Name,nameOk,hi,h0]
 · have h1' : 1 ≤ s.length := by omega
   have hi : ¬ (s.length : Int) < 1 := by omega
   by_cases h2 : 16 < s.length
   · have h2' : (16:Int) < (s.length : Int) := by omega
     have h0 : ¬ s.length ≤ 16 := by omega
     simp [IP_sr07_Name,i_sr07_Name,nameOk,hi,h2',h0]
   · have h2' : ¬ (16 : Int) < (s.length : Int) := by omega
     obtain ⟨c,h4,hb⟩ := bt_some (s := s) (i := 0) (by omega)
     have h3 : s.length ≤ 16 := by omega
     by_cases h5 : (c.toNat : Int) < 97
     · have g : lowC (c.toNat : Int) = false := by simp [lowC]; omega
       simp [IP_sr07_Name,i_sr07_Name,nameOk,hi,h2',h4,hb,h5,g]
     · by_cases h6 : 122 < (c.toNat : Int)
       · have g : lowC (c.toNat : Int) = false := by simp [lowC]; omega
         simp [IP_sr07_Name,i_sr07_Name,nameOk,hi,h2',h4,hb,h5,h6,g]
       · have g : lowC (c.toNat : Int) = true := by simp [lowC]; omega
         have hloop := loop_find (G := G0) (IP := IP) (lo := hp.length) (b := l_sr07_Name_0)
           (fun i => ⟨[(0,.str s),(3,.int .i64 i)],hp⟩) s.length (fun i => !nameC (bt s i))
           (.ret,⟨[(2,.bool false)],hp⟩) (.exit 0,⟨[(0,.str s),(3,.int .i64 s.length),(26,.bool false)],hp⟩)
           (fun i hi hp => by
             have hw := wrap_succ hi hs
             obtain ⟨c,h4,hb⟩ := bt_some (s := s) (i := i) hi
             have h4' : s[i] = c := by simpa [hi] using h4
             rw [hb] at hp
             rw [← hw]
             by_cases a1 : 97 ≤ (c.toNat : Int)
             · by_cases a2 : (c.toNat : Int) ≤ 122
               · simp [l_sr07_Name_0,h4,h4',hi,a1,a2]
               · simp [nameC,lowC] at hp; omega
             · by_cases a2 : 48 ≤ (c.toNat : Int)
               · by_cases a3 : (c.toNat : Int) ≤ 57
                 · simp [l_sr07_Name_0,h4,h4',hi,a1,a2,a3]
                 · have a4 : (c.toNat : Int) = 95 := by simp [nameC,lowC] at hp; omega
                   simp [l_sr07_Name_0,h4,h4',hi,a1,a2,a3,a4]
               · simp [nameC,lowC] at hp; omega)
           (fun i hi hp => by
             obtain ⟨c,h4,hb⟩ := bt_some (s := s) (i := i) hi
             have h4' : s[i] = c := by simpa [hi] using h4
             rw [hb] at hp
             have a4 : ¬ (c.toNat : Int) = 95 := by simp [nameC,lowC] at hp; omega
             by_cases a1 : 97 ≤ (c.toNat : Int)
             · have a2 : ¬ (c.toNat : Int) ≤ 122 := by simp [nameC,lowC] at hp; omega
               have a3 : ¬ (c.toNat : Int) ≤ 57 := by omega
               have a5 : 48 ≤ (c.toNat : Int) := by omega
               simp [l_sr07_Name_0,h4,h4',hi,a1,a2,a3,a4,a5]
             · by_cases a2 : 48 ≤ (c.toNat : Int)
               · have a3 : ¬ (c.toNat : Int) ≤ 57 := by simp [nameC,lowC] at hp; omega
                 simp [l_sr07_Name_0,h4,h4',hi,a1,a2,a3,a4]
               · simp [l_sr07_Name_0,h4,h4',hi,a1,a2,a4])
           (by simp) (by simp [l_sr07_Name_0]) (by simp)
         rw [any_names] at hloop
         simp only [Int.natCast_zero] at hloop
         cases h : s.all fun c => nameC (c.toNat : Int) with
         | true => rw [h] at hloop; simp only [Bool.not_true,Bool.false_eq_true,if_false] at hloop; simp [IP_sr07_Name,i_sr07_Name,hi,h2',h4,h5,h6,hloop,nameOk,hb,g,h1',h3,h]
         | false => rw [h] at hloop; simp only [Bool.not_false,if_true] at hloop; simp [IP_sr07_Name,i_sr07_Name,hi,h2',h4,h5,h6,hloop,nameOk,hb,g,h1',h3,h]
end
end Go.Proofs.YtkofimhnehkdoaaGreatDoor.Rf
end
section
namespace Go.Proofs.YtkofimhnehkdoaaGreatDoor.Rf
theorem numE_bd (s:List UInt8) : 0 ≤ (numE s).1 ∧ (numE s).1 < 18446744073709551616 := by
 unfold numE
 split
 · omega
 · split <;> omega
mutual
@[simp] theorem T.av_clo (n:Nat) : ∀ t : T,AV.closed n t.av = true
 | .mk _ _ _ _ o as => by simp [T.av,AV.closed,AV.closedL,T.avs_clo n as]
@[simp] theorem T.avs_clo (n:Nat) : ∀ as : List T,AV.closedL n (T.avs as) = true
 | [] => rfl
 | t :: r => by simp [T.avs,AV.closedL,T.av_clo n t,T.avs_clo n r]
end
section
variable {hp:List HObj} {lo:Nat} (q:Bool)
end
end Go.Proofs.YtkofimhnehkdoaaGreatDoor.Rf
end
