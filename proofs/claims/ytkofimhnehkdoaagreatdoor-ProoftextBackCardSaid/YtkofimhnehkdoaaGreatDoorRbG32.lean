/- A part. -/
import Derived.Test.YtkofimhnehkdoaaGreatDoorRbG31
section
set_option linter.unusedSimpArgs false
set_option linter.unusedVariables false
namespace Go.Proofs.YtkofimhnehkdoaaGreatDoor.Rf
theorem conv8 (w:Nat) (h:w < 10) : IntKind.wrap .u8 (48 + (w:Int)) = ((dig w).toNat : Int) := by
 rw [dig_toNat h]; simp [IntKind.wrap,IntKind.signed,IntKind.bits]; omega
theorem add48 (w:Nat) (h:w < 10) : IntKind.wrap .u32 (48 + (w:Int)) = 48 + (w:Int) := by
 simp [IntKind.wrap,IntKind.signed,IntKind.bits]; omega
def fbTail : ICode := match i_isc_formatBase10.body with
 | .seq _ (.seq _ c) => c
 | c => c
section
variable {hp:List HObj} {lo:Nat}
set_option maxHeartbeats 4000000 in
theorem fb_tail0 (hlo:lo ≤ hp.length) (p r:List AV) (n u:Nat) (hn:0 ≤ n) (hu:u < 1) (f:List AV) (hf:f.length = 0) :
   ∃ fr,evalC G0 (callD G0 IP) (loopD G0 IP lo) lo fbTail ⟨frB hp p.length n u 0 ++ [(20,.bool false)],HB hp (p ++ (f ++ r))⟩ = some (.normal,⟨fr,HB hp (p ++ (digA (digN 0 u) ++ r))⟩) := by
 have w0 : IntKind.wrap .u32 (u:Int) = u := by simp [IntKind.wrap,IntKind.signed,IntKind.bits]; omega
 have w32 : ∀ x : Nat,x < 100 → IntKind.wrap .u32 (x:Int) = x := fun x h => by simp [IntKind.wrap,IntKind.signed,IntKind.bits]; omega
 have w32b : ∀ x : Nat,x < 100 → IntKind.wrap .u32 ((x:Int) * 2) = (x:Int) * 2 := fun x h => by simp [IntKind.wrap,IntKind.signed,IntKind.bits]; omega
 have w32c : ∀ x : Nat,x < 100 → IntKind.wrap .u32 ((x:Int) * 2 + 1) = (x:Int) * 2 + 1 := fun x h => by simp [IntKind.wrap,IntKind.signed,IntKind.bits]; omega
 have t1 : ∀ x : Nat,((x:Int) * 2).toNat = 2 * x := fun x => by omega
 have t2 : ∀ x : Nat,((x:Int) * 2 + 1).toNat = 2 * x + 1 := fun x => by omega
 have t3 : ∀ x : Nat,(0:Int) ≤ (x:Int) * 2 := fun x => by omega
 have t4 : ∀ x : Nat,(0:Int) ≤ (x:Int) * 2 + 1 := fun x => by omega
 have s1 : ∀ x : Nat,x < 100 → smalls2[2 * x]? = some (dig (x / 10)) := fun x h => (smalls2_at x h).1
 have s2 : ∀ x : Nat,x < 100 → smalls2[2 * x + 1]? = some (dig (x % 10)) := fun x h => (smalls2_at x h).2
 match f,hf with
 | [],_ =>
 generalize hcs : p ++ ([] ++ r) = cs
 have hcl : p.length + 0 ≤ cs.length := by rw [← hcs]; simp
 have hdig : digN 0 u = [] := by
   simp [digN]
 rw [hdig]
 simp [-put,fbTail,i_isc_formatBase10,w0,w32,w32b,w32c,t1,t2,t3,t4,s1,s2,hlo,put_set,show IntKind.wrap .i64 0 = 0 from rfl,show IntKind.wrap .i64 1 = 1 from rfl,show IntKind.wrap .i64 2 = 2 from rfl,show IntKind.wrap .i64 3 = 3 from rfl,show IntKind.wrap .i64 4 = 4 from rfl,show IntKind.wrap .i64 5 = 5 from rfl,show IntKind.wrap .i64 6 = 6 from rfl,show IntKind.wrap .i64 7 = 7 from rfl]
 rw [← hcs]
 simp [List.set_append_right,digA]
set_option maxHeartbeats 4000000 in
theorem fb_tail1 (hlo:lo ≤ hp.length) (p r:List AV) (n u:Nat) (hn:1 ≤ n) (hu:u < 10) (f:List AV) (hf:f.length = 1) :
   ∃ fr,evalC G0 (callD G0 IP) (loopD G0 IP lo) lo fbTail ⟨frB hp p.length n u 1 ++ [(20,.bool false)],HB hp (p ++ (f ++ r))⟩ = some (.normal,⟨fr,HB hp (p ++ (digA (digN 1 u) ++ r))⟩) := by
 have w0 : IntKind.wrap .u32 (u:Int) = u := by simp [IntKind.wrap,IntKind.signed,IntKind.bits]; omega
 have l1 := conv8 u (by omega)
 have l2 := add48 u (by omega)
 have w32 : ∀ x : Nat,x < 100 → IntKind.wrap .u32 (x:Int) = x := fun x h => by simp [IntKind.wrap,IntKind.signed,IntKind.bits]; omega
 have w32b : ∀ x : Nat,x < 100 → IntKind.wrap .u32 ((x:Int) * 2) = (x:Int) * 2 := fun x h => by simp [IntKind.wrap,IntKind.signed,IntKind.bits]; omega
 have w32c : ∀ x : Nat,x < 100 → IntKind.wrap .u32 ((x:Int) * 2 + 1) = (x:Int) * 2 + 1 := fun x h => by simp [IntKind.wrap,IntKind.signed,IntKind.bits]; omega
 have t1 : ∀ x : Nat,((x:Int) * 2).toNat = 2 * x := fun x => by omega
 have t2 : ∀ x : Nat,((x:Int) * 2 + 1).toNat = 2 * x + 1 := fun x => by omega
 have t3 : ∀ x : Nat,(0:Int) ≤ (x:Int) * 2 := fun x => by omega
 have t4 : ∀ x : Nat,(0:Int) ≤ (x:Int) * 2 + 1 := fun x => by omega
 have s1 : ∀ x : Nat,x < 100 → smalls2[2 * x]? = some (dig (x / 10)) := fun x h => (smalls2_at x h).1
 have s2 : ∀ x : Nat,x < 100 → smalls2[2 * x + 1]? = some (dig (x % 10)) := fun x h => (smalls2_at x h).2
 have p0 : (0:Int) < n := by omega
 have pn0 : 0 < n := by omega
 match f,hf with
 | [x0],_ =>
 generalize hcs : p ++ ([x0] ++ r) = cs
 have hcl : p.length + 1 ≤ cs.length := by rw [← hcs]; simp
 have b0 : p.length < cs.length := by omega
 have e0 : p.length + 1 ≤ cs.length := by omega
 have hdig : digN 1 u = [dig u] := by
   have z0 : u % 10 = u := by omega
   simp [digN,z0]
 rw [hdig]
 simp [-put,fbTail,i_isc_formatBase10,l1,l2,w0,w32,w32b,w32c,t1,t2,t3,t4,s1,s2,hlo,put_set,p0,pn0,b0,e0,show IntKind.wrap .i64 0 = 0 from rfl,show IntKind.wrap .i64 1 = 1 from rfl,show IntKind.wrap .i64 2 = 2 from rfl,show IntKind.wrap .i64 3 = 3 from rfl,show IntKind.wrap .i64 4 = 4 from rfl,show IntKind.wrap .i64 5 = 5 from rfl,show IntKind.wrap .i64 6 = 6 from rfl,show IntKind.wrap .i64 7 = 7 from rfl]
 rw [← hcs]
 simp [List.set_append_right,digA]
set_option maxHeartbeats 4000000 in
theorem fb_tail2 (hlo:lo ≤ hp.length) (p r:List AV) (n u:Nat) (hn:2 ≤ n) (hu:u < 100) (f:List AV) (hf:f.length = 2) :
   ∃ fr,evalC G0 (callD G0 IP) (loopD G0 IP lo) lo fbTail ⟨frB hp p.length n u 2 ++ [(20,.bool false)],HB hp (p ++ (f ++ r))⟩ = some (.normal,⟨fr,HB hp (p ++ (digA (digN 2 u) ++ r))⟩) := by
 have w0 : IntKind.wrap .u32 (u:Int) = u := by simp [IntKind.wrap,IntKind.signed,IntKind.bits]; omega
 have q5 : (u:Int).tmod 100 = ((u % 100 : Nat) : Int) := rfl
 have q6 : (u:Int).tdiv 100 = ((u / 100 : Nat) : Int) := rfl
 have hd3 := Nat.div_add_mod u 100
 have hb5 : u % 100 < 100 := Nat.mod_lt _ (by omega)
 have hb6 : u / 100 < 1 := by omega
 generalize hz : u % 100 = c0 at *
 generalize ht : u / 100 = c1 at *
 have wc : IntKind.wrap .u32 (c1:Int) = c1 := by simp [IntKind.wrap,IntKind.signed,IntKind.bits]; omega
 have w32 : ∀ x : Nat,x < 100 → IntKind.wrap .u32 (x:Int) = x := fun x h => by simp [IntKind.wrap,IntKind.signed,IntKind.bits]; omega
 have w32b : ∀ x : Nat,x < 100 → IntKind.wrap .u32 ((x:Int) * 2) = (x:Int) * 2 := fun x h => by simp [IntKind.wrap,IntKind.signed,IntKind.bits]; omega
 have w32c : ∀ x : Nat,x < 100 → IntKind.wrap .u32 ((x:Int) * 2 + 1) = (x:Int) * 2 + 1 := fun x h => by simp [IntKind.wrap,IntKind.signed,IntKind.bits]; omega
 have t1 : ∀ x : Nat,((x:Int) * 2).toNat = 2 * x := fun x => by omega
 have t2 : ∀ x : Nat,((x:Int) * 2 + 1).toNat = 2 * x + 1 := fun x => by omega
 have t3 : ∀ x : Nat,(0:Int) ≤ (x:Int) * 2 := fun x => by omega
 have t4 : ∀ x : Nat,(0:Int) ≤ (x:Int) * 2 + 1 := fun x => by omega
 have s1 : ∀ x : Nat,x < 100 → smalls2[2 * x]? = some (dig (x / 10)) := fun x h => (smalls2_at x h).1
 have s2 : ∀ x : Nat,x < 100 → smalls2[2 * x + 1]? = some (dig (x % 10)) := fun x h => (smalls2_at x h).2
 have p0 : (0:Int) < n := by omega
 have pn0 : 0 < n := by omega
 have p1 : (1:Int) < n := by omega
 have pn1 : 1 < n := by omega
 match f,hf with
 | [x0,x1],_ =>
 generalize hcs : p ++ ([x0,x1] ++ r) = cs
 have hcl : p.length + 2 ≤ cs.length := by rw [← hcs]; simp
 have b0 : p.length < cs.length := by omega
 have e0 : p.length + 1 ≤ cs.length := by omega
 have b1 : p.length + 1 < cs.length := by omega
 have e1 : p.length + 1 + 1 ≤ cs.length := by omega
 have hdig : digN 2 u = [dig (c0 / 10),dig (c0 % 10)] := by
   have z0 : u % 10 = c0 % 10 := by omega
   have z1 : u / 10 % 10 = c0 / 10 := by omega
   simp [digN,z0,z1]
 rw [hdig]
 simp [-put,fbTail,i_isc_formatBase10,q5,q6,hb5,wc,w0,w32,w32b,w32c,t1,t2,t3,t4,s1,s2,hlo,put_set,p0,pn0,p1,pn1,b0,e0,b1,e1,show IntKind.wrap .i64 0 = 0 from rfl,show IntKind.wrap .i64 1 = 1 from rfl,show IntKind.wrap .i64 2 = 2 from rfl,show IntKind.wrap .i64 3 = 3 from rfl,show IntKind.wrap .i64 4 = 4 from rfl,show IntKind.wrap .i64 5 = 5 from rfl,show IntKind.wrap .i64 6 = 6 from rfl,show IntKind.wrap .i64 7 = 7 from rfl]
 rw [← hcs]
 simp [List.set_append_right,digA]
set_option maxHeartbeats 4000000 in
theorem fb_tail3 (hlo:lo ≤ hp.length) (p r:List AV) (n u:Nat) (hn:3 ≤ n) (hu:u < 1000) (f:List AV) (hf:f.length = 3) :
   ∃ fr,evalC G0 (callD G0 IP) (loopD G0 IP lo) lo fbTail ⟨frB hp p.length n u 3 ++ [(20,.bool false)],HB hp (p ++ (f ++ r))⟩ = some (.normal,⟨fr,HB hp (p ++ (digA (digN 3 u) ++ r))⟩) := by
 have w0 : IntKind.wrap .u32 (u:Int) = u := by simp [IntKind.wrap,IntKind.signed,IntKind.bits]; omega
 have q5 : (u:Int).tmod 100 = ((u % 100 : Nat) : Int) := rfl
 have q6 : (u:Int).tdiv 100 = ((u / 100 : Nat) : Int) := rfl
 have hd3 := Nat.div_add_mod u 100
 have hb5 : u % 100 < 100 := Nat.mod_lt _ (by omega)
 have hb6 : u / 100 < 10 := by omega
 generalize hz : u % 100 = c0 at *
 generalize ht : u / 100 = c1 at *
 have wc : IntKind.wrap .u32 (c1:Int) = c1 := by simp [IntKind.wrap,IntKind.signed,IntKind.bits]; omega
 have l1 := conv8 c1 (by omega)
 have l2 := add48 c1 (by omega)
 have w32 : ∀ x : Nat,x < 100 → IntKind.wrap .u32 (x:Int) = x := fun x h => by simp [IntKind.wrap,IntKind.signed,IntKind.bits]; omega
 have w32b : ∀ x : Nat,x < 100 → IntKind.wrap .u32 ((x:Int) * 2) = (x:Int) * 2 := fun x h => by simp [IntKind.wrap,IntKind.signed,IntKind.bits]; omega
 have w32c : ∀ x : Nat,x < 100 → IntKind.wrap .u32 ((x:Int) * 2 + 1) = (x:Int) * 2 + 1 := fun x h => by simp [IntKind.wrap,IntKind.signed,IntKind.bits]; omega
 have t1 : ∀ x : Nat,((x:Int) * 2).toNat = 2 * x := fun x => by omega
 have t2 : ∀ x : Nat,((x:Int) * 2 + 1).toNat = 2 * x + 1 := fun x => by omega
 have t3 : ∀ x : Nat,(0:Int) ≤ (x:Int) * 2 := fun x => by omega
 have t4 : ∀ x : Nat,(0:Int) ≤ (x:Int) * 2 + 1 := fun x => by omega
 have s1 : ∀ x : Nat,x < 100 → smalls2[2 * x]? = some (dig (x / 10)) := fun x h => (smalls2_at x h).1
 have s2 : ∀ x : Nat,x < 100 → smalls2[2 * x + 1]? = some (dig (x % 10)) := fun x h => (smalls2_at x h).2
 have p0 : (0:Int) < n := by omega
 have pn0 : 0 < n := by omega
 have p1 : (1:Int) < n := by omega
 have pn1 : 1 < n := by omega
 have p2 : (2:Int) < n := by omega
 have pn2 : 2 < n := by omega
 match f,hf with
 | [x0,x1,x2],_ =>
 generalize hcs : p ++ ([x0,x1,x2] ++ r) = cs
 have hcl : p.length + 3 ≤ cs.length := by rw [← hcs]; simp
 have b0 : p.length < cs.length := by omega
 have e0 : p.length + 1 ≤ cs.length := by omega
 have b1 : p.length + 1 < cs.length := by omega
 have e1 : p.length + 1 + 1 ≤ cs.length := by omega
 have b2 : p.length + 2 < cs.length := by omega
 have e2 : p.length + 2 + 1 ≤ cs.length := by omega
 have hdig : digN 3 u = [dig c1,dig (c0 / 10),dig (c0 % 10)] := by
   have z0 : u % 10 = c0 % 10 := by omega
   have z1 : u / 10 % 10 = c0 / 10 := by omega
   have z2 : u / 10 / 10 % 10 = c1 := by omega
   simp [digN,z0,z1,z2]
 rw [hdig]
 simp [-put,fbTail,i_isc_formatBase10,q5,q6,hb5,wc,l1,l2,w0,w32,w32b,w32c,t1,t2,t3,t4,s1,s2,hlo,put_set,p0,pn0,p1,pn1,p2,pn2,b0,e0,b1,e1,b2,e2,show IntKind.wrap .i64 0 = 0 from rfl,show IntKind.wrap .i64 1 = 1 from rfl,show IntKind.wrap .i64 2 = 2 from rfl,show IntKind.wrap .i64 3 = 3 from rfl,show IntKind.wrap .i64 4 = 4 from rfl,show IntKind.wrap .i64 5 = 5 from rfl,show IntKind.wrap .i64 6 = 6 from rfl,show IntKind.wrap .i64 7 = 7 from rfl]
 rw [← hcs]
 simp [List.set_append_right,digA]
set_option maxHeartbeats 4000000 in
theorem fb_tail4 (hlo:lo ≤ hp.length) (p r:List AV) (n u:Nat) (hn:4 ≤ n) (hu:u < 10000) (f:List AV) (hf:f.length = 4) :
   ∃ fr,evalC G0 (callD G0 IP) (loopD G0 IP lo) lo fbTail ⟨frB hp p.length n u 4 ++ [(20,.bool false)],HB hp (p ++ (f ++ r))⟩ = some (.normal,⟨fr,HB hp (p ++ (digA (digN 4 u) ++ r))⟩) := by
 have w0 : IntKind.wrap .u32 (u:Int) = u := by simp [IntKind.wrap,IntKind.signed,IntKind.bits]; omega
 have q1 : (u:Int).tmod 10000 = ((u % 10000 : Nat) : Int) := rfl
 have q2 : (u:Int).tdiv 10000 = ((u / 10000 : Nat) : Int) := rfl
 have hd1 := Nat.div_add_mod u 10000
 have hb1 : u % 10000 < 10000 := Nat.mod_lt _ (by omega)
 have hb2 : u / 10000 < 1 := by omega
 generalize hv : u % 10000 = v at *
 generalize hw : u / 10000 = w at *
 have q3 : (v:Int).tdiv 100 = ((v / 100 : Nat) : Int) := rfl
 have q4 : (v:Int).tmod 100 = ((v % 100 : Nat) : Int) := rfl
 have hd2 := Nat.div_add_mod v 100
 have hb3 : v % 100 < 100 := Nat.mod_lt _ (by omega)
 have hb4 : v / 100 < 100 := by omega
 generalize hx : v / 100 = a1 at *
 generalize hy : v % 100 = a0 at *
 have ww : IntKind.wrap .u32 (w:Int) = w := by simp [IntKind.wrap,IntKind.signed,IntKind.bits]; omega
 have w32 : ∀ x : Nat,x < 100 → IntKind.wrap .u32 (x:Int) = x := fun x h => by simp [IntKind.wrap,IntKind.signed,IntKind.bits]; omega
 have w32b : ∀ x : Nat,x < 100 → IntKind.wrap .u32 ((x:Int) * 2) = (x:Int) * 2 := fun x h => by simp [IntKind.wrap,IntKind.signed,IntKind.bits]; omega
 have w32c : ∀ x : Nat,x < 100 → IntKind.wrap .u32 ((x:Int) * 2 + 1) = (x:Int) * 2 + 1 := fun x h => by simp [IntKind.wrap,IntKind.signed,IntKind.bits]; omega
 have t1 : ∀ x : Nat,((x:Int) * 2).toNat = 2 * x := fun x => by omega
 have t2 : ∀ x : Nat,((x:Int) * 2 + 1).toNat = 2 * x + 1 := fun x => by omega
 have t3 : ∀ x : Nat,(0:Int) ≤ (x:Int) * 2 := fun x => by omega
 have t4 : ∀ x : Nat,(0:Int) ≤ (x:Int) * 2 + 1 := fun x => by omega
 have s1 : ∀ x : Nat,x < 100 → smalls2[2 * x]? = some (dig (x / 10)) := fun x h => (smalls2_at x h).1
 have s2 : ∀ x : Nat,x < 100 → smalls2[2 * x + 1]? = some (dig (x % 10)) := fun x h => (smalls2_at x h).2
 have p0 : (0:Int) < n := by omega
 have pn0 : 0 < n := by omega
 have p1 : (1:Int) < n := by omega
 have pn1 : 1 < n := by omega
 have p2 : (2:Int) < n := by omega
 have pn2 : 2 < n := by omega
 have p3 : (3:Int) < n := by omega
 have pn3 : 3 < n := by omega
 match f,hf with
 | [x0,x1,x2,x3],_ =>
 generalize hcs : p ++ ([x0,x1,x2,x3] ++ r) = cs
 have hcl : p.length + 4 ≤ cs.length := by rw [← hcs]; simp
 have b0 : p.length < cs.length := by omega
 have e0 : p.length + 1 ≤ cs.length := by omega
 have b1 : p.length + 1 < cs.length := by omega
 have e1 : p.length + 1 + 1 ≤ cs.length := by omega
 have b2 : p.length + 2 < cs.length := by omega
 have e2 : p.length + 2 + 1 ≤ cs.length := by omega
 have b3 : p.length + 3 < cs.length := by omega
 have e3 : p.length + 3 + 1 ≤ cs.length := by omega
 have hdig : digN 4 u = [dig (a1 / 10),dig (a1 % 10),dig (a0 / 10),dig (a0 % 10)] := by
   have z0 : u % 10 = a0 % 10 := by omega
   have z1 : u / 10 % 10 = a0 / 10 := by omega
   have z2 : u / 10 / 10 % 10 = a1 % 10 := by omega
   have z3 : u / 10 / 10 / 10 % 10 = a1 / 10 := by omega
   simp [digN,z0,z1,z2,z3]
 rw [hdig]
 simp [-put,fbTail,i_isc_formatBase10,q1,q2,q3,q4,hb3,hb4,ww,w0,w32,w32b,w32c,t1,t2,t3,t4,s1,s2,hlo,put_set,p0,pn0,p1,pn1,p2,pn2,p3,pn3,b0,e0,b1,e1,b2,e2,b3,e3,show IntKind.wrap .i64 0 = 0 from rfl,show IntKind.wrap .i64 1 = 1 from rfl,show IntKind.wrap .i64 2 = 2 from rfl,show IntKind.wrap .i64 3 = 3 from rfl,show IntKind.wrap .i64 4 = 4 from rfl,show IntKind.wrap .i64 5 = 5 from rfl,show IntKind.wrap .i64 6 = 6 from rfl,show IntKind.wrap .i64 7 = 7 from rfl]
 rw [← hcs]
 simp [List.set_append_right,digA]
set_option maxHeartbeats 4000000 in
theorem fb_tail5 (hlo:lo ≤ hp.length) (p r:List AV) (n u:Nat) (hn:5 ≤ n) (hu:u < 100000) (f:List AV) (hf:f.length = 5) :
   ∃ fr,evalC G0 (callD G0 IP) (loopD G0 IP lo) lo fbTail ⟨frB hp p.length n u 5 ++ [(20,.bool false)],HB hp (p ++ (f ++ r))⟩ = some (.normal,⟨fr,HB hp (p ++ (digA (digN 5 u) ++ r))⟩) := by
 have w0 : IntKind.wrap .u32 (u:Int) = u := by simp [IntKind.wrap,IntKind.signed,IntKind.bits]; omega
 have q1 : (u:Int).tmod 10000 = ((u % 10000 : Nat) : Int) := rfl
 have q2 : (u:Int).tdiv 10000 = ((u / 10000 : Nat) : Int) := rfl
 have hd1 := Nat.div_add_mod u 10000
 have hb1 : u % 10000 < 10000 := Nat.mod_lt _ (by omega)
 have hb2 : u / 10000 < 10 := by omega
 generalize hv : u % 10000 = v at *
 generalize hw : u / 10000 = w at *
 have q3 : (v:Int).tdiv 100 = ((v / 100 : Nat) : Int) := rfl
 have q4 : (v:Int).tmod 100 = ((v % 100 : Nat) : Int) := rfl
 have hd2 := Nat.div_add_mod v 100
 have hb3 : v % 100 < 100 := Nat.mod_lt _ (by omega)
 have hb4 : v / 100 < 100 := by omega
 generalize hx : v / 100 = a1 at *
 generalize hy : v % 100 = a0 at *
 have ww : IntKind.wrap .u32 (w:Int) = w := by simp [IntKind.wrap,IntKind.signed,IntKind.bits]; omega
 have l1 := conv8 w (by omega)
 have l2 := add48 w (by omega)
 have w32 : ∀ x : Nat,x < 100 → IntKind.wrap .u32 (x:Int) = x := fun x h => by simp [IntKind.wrap,IntKind.signed,IntKind.bits]; omega
 have w32b : ∀ x : Nat,x < 100 → IntKind.wrap .u32 ((x:Int) * 2) = (x:Int) * 2 := fun x h => by simp [IntKind.wrap,IntKind.signed,IntKind.bits]; omega
 have w32c : ∀ x : Nat,x < 100 → IntKind.wrap .u32 ((x:Int) * 2 + 1) = (x:Int) * 2 + 1 := fun x h => by simp [IntKind.wrap,IntKind.signed,IntKind.bits]; omega
 have t1 : ∀ x : Nat,((x:Int) * 2).toNat = 2 * x := fun x => by omega
 have t2 : ∀ x : Nat,((x:Int) * 2 + 1).toNat = 2 * x + 1 := fun x => by omega
 have t3 : ∀ x : Nat,(0:Int) ≤ (x:Int) * 2 := fun x => by omega
 have t4 : ∀ x : Nat,(0:Int) ≤ (x:Int) * 2 + 1 := fun x => by omega
 have s1 : ∀ x : Nat,x < 100 → smalls2[2 * x]? = some (dig (x / 10)) := fun x h => (smalls2_at x h).1
 have s2 : ∀ x : Nat,x < 100 → smalls2[2 * x + 1]? = some (dig (x % 10)) := fun x h => (smalls2_at x h).2
 have p0 : (0:Int) < n := by omega
 have pn0 : 0 < n := by omega
 have p1 : (1:Int) < n := by omega
 have pn1 : 1 < n := by omega
 have p2 : (2:Int) < n := by omega
 have pn2 : 2 < n := by omega
 have p3 : (3:Int) < n := by omega
 have pn3 : 3 < n := by omega
 have p4 : (4:Int) < n := by omega
 have pn4 : 4 < n := by omega
 match f,hf with
 | [x0,x1,x2,x3,x4],_ =>
 generalize hcs : p ++ ([x0,x1,x2,x3,x4] ++ r) = cs
 have hcl : p.length + 5 ≤ cs.length := by rw [← hcs]; simp
 have b0 : p.length < cs.length := by omega
 have e0 : p.length + 1 ≤ cs.length := by omega
 have b1 : p.length + 1 < cs.length := by omega
 have e1 : p.length + 1 + 1 ≤ cs.length := by omega
 have b2 : p.length + 2 < cs.length := by omega
 have e2 : p.length + 2 + 1 ≤ cs.length := by omega
 have b3 : p.length + 3 < cs.length := by omega
 have e3 : p.length + 3 + 1 ≤ cs.length := by omega
 have b4 : p.length + 4 < cs.length := by omega
 have e4 : p.length + 4 + 1 ≤ cs.length := by omega
 have hdig : digN 5 u = [dig w,dig (a1 / 10),dig (a1 % 10),dig (a0 / 10),dig (a0 % 10)] := by
   have z0 : u % 10 = a0 % 10 := by omega
   have z1 : u / 10 % 10 = a0 / 10 := by omega
   have z2 : u / 10 / 10 % 10 = a1 % 10 := by omega
   have z3 : u / 10 / 10 / 10 % 10 = a1 / 10 := by omega
   have z4 : u / 10 / 10 / 10 / 10 % 10 = w := by omega
   simp [digN,z0,z1,z2,z3,z4]
 rw [hdig]
 simp [-put,fbTail,i_isc_formatBase10,q1,q2,q3,q4,hb3,hb4,ww,l1,l2,w0,w32,w32b,w32c,t1,t2,t3,t4,s1,s2,hlo,put_set,p0,pn0,p1,pn1,p2,pn2,p3,pn3,p4,pn4,b0,e0,b1,e1,b2,e2,b3,e3,b4,e4,show IntKind.wrap .i64 0 = 0 from rfl,show IntKind.wrap .i64 1 = 1 from rfl,show IntKind.wrap .i64 2 = 2 from rfl,show IntKind.wrap .i64 3 = 3 from rfl,show IntKind.wrap .i64 4 = 4 from rfl,show IntKind.wrap .i64 5 = 5 from rfl,show IntKind.wrap .i64 6 = 6 from rfl,show IntKind.wrap .i64 7 = 7 from rfl]
 rw [← hcs]
 simp [List.set_append_right,digA]
set_option maxHeartbeats 4000000 in
theorem fb_tail6 (hlo:lo ≤ hp.length) (p r:List AV) (n u:Nat) (hn:6 ≤ n) (hu:u < 1000000) (f:List AV) (hf:f.length = 6) :
   ∃ fr,evalC G0 (callD G0 IP) (loopD G0 IP lo) lo fbTail ⟨frB hp p.length n u 6 ++ [(20,.bool false)],HB hp (p ++ (f ++ r))⟩ = some (.normal,⟨fr,HB hp (p ++ (digA (digN 6 u) ++ r))⟩) := by
 have w0 : IntKind.wrap .u32 (u:Int) = u := by simp [IntKind.wrap,IntKind.signed,IntKind.bits]; omega
 have q1 : (u:Int).tmod 10000 = ((u % 10000 : Nat) : Int) := rfl
 have q2 : (u:Int).tdiv 10000 = ((u / 10000 : Nat) : Int) := rfl
 have hd1 := Nat.div_add_mod u 10000
 have hb1 : u % 10000 < 10000 := Nat.mod_lt _ (by omega)
 have hb2 : u / 10000 < 100 := by omega
 generalize hv : u % 10000 = v at *
 generalize hw : u / 10000 = w at *
 have q3 : (v:Int).tdiv 100 = ((v / 100 : Nat) : Int) := rfl
 have q4 : (v:Int).tmod 100 = ((v % 100 : Nat) : Int) := rfl
 have hd2 := Nat.div_add_mod v 100
 have hb3 : v % 100 < 100 := Nat.mod_lt _ (by omega)
 have hb4 : v / 100 < 100 := by omega
 generalize hx : v / 100 = a1 at *
 generalize hy : v % 100 = a0 at *
 have ww : IntKind.wrap .u32 (w:Int) = w := by simp [IntKind.wrap,IntKind.signed,IntKind.bits]; omega
 have q5 : (w:Int).tmod 100 = ((w % 100 : Nat) : Int) := rfl
 have q6 : (w:Int).tdiv 100 = ((w / 100 : Nat) : Int) := rfl
 have hd3 := Nat.div_add_mod w 100
 have hb5 : w % 100 < 100 := Nat.mod_lt _ (by omega)
 have hb6 : w / 100 < 1 := by omega
 generalize hz : w % 100 = c0 at *
 generalize ht : w / 100 = c1 at *
 have wc : IntKind.wrap .u32 (c1:Int) = c1 := by simp [IntKind.wrap,IntKind.signed,IntKind.bits]; omega
 have w32 : ∀ x : Nat,x < 100 → IntKind.wrap .u32 (x:Int) = x := fun x h => by simp [IntKind.wrap,IntKind.signed,IntKind.bits]; omega
 have w32b : ∀ x : Nat,x < 100 → IntKind.wrap .u32 ((x:Int) * 2) = (x:Int) * 2 := fun x h => by simp [IntKind.wrap,IntKind.signed,IntKind.bits]; omega
 have w32c : ∀ x : Nat,x < 100 → IntKind.wrap .u32 ((x:Int) * 2 + 1) = (x:Int) * 2 + 1 := fun x h => by simp [IntKind.wrap,IntKind.signed,IntKind.bits]; omega
 have t1 : ∀ x : Nat,((x:Int) * 2).toNat = 2 * x := fun x => by omega
 have t2 : ∀ x : Nat,((x:Int) * 2 + 1).toNat = 2 * x + 1 := fun x => by omega
 have t3 : ∀ x : Nat,(0:Int) ≤ (x:Int) * 2 := fun x => by omega
 have t4 : ∀ x : Nat,(0:Int) ≤ (x:Int) * 2 + 1 := fun x => by omega
 have s1 : ∀ x : Nat,x < 100 → smalls2[2 * x]? = some (dig (x / 10)) := fun x h => (smalls2_at x h).1
 have s2 : ∀ x : Nat,x < 100 → smalls2[2 * x + 1]? = some (dig (x % 10)) := fun x h => (smalls2_at x h).2
 have p0 : (0:Int) < n := by omega
 have pn0 : 0 < n := by omega
 have p1 : (1:Int) < n := by omega
 have pn1 : 1 < n := by omega
 have p2 : (2:Int) < n := by omega
 have pn2 : 2 < n := by omega
 have p3 : (3:Int) < n := by omega
 have pn3 : 3 < n := by omega
 have p4 : (4:Int) < n := by omega
 have pn4 : 4 < n := by omega
 have p5 : (5:Int) < n := by omega
 have pn5 : 5 < n := by omega
 match f,hf with
 | [x0,x1,x2,x3,x4,x5],_ =>
 generalize hcs : p ++ ([x0,x1,x2,x3,x4,x5] ++ r) = cs
 have hcl : p.length + 6 ≤ cs.length := by rw [← hcs]; simp
 have b0 : p.length < cs.length := by omega
 have e0 : p.length + 1 ≤ cs.length := by omega
 have b1 : p.length + 1 < cs.length := by omega
 have e1 : p.length + 1 + 1 ≤ cs.length := by omega
 have b2 : p.length + 2 < cs.length := by omega
 have e2 : p.length + 2 + 1 ≤ cs.length := by omega
 have b3 : p.length + 3 < cs.length := by omega
 have e3 : p.length + 3 + 1 ≤ cs.length := by omega
 have b4 : p.length + 4 < cs.length := by omega
 have e4 : p.length + 4 + 1 ≤ cs.length := by omega
 have b5 : p.length + 5 < cs.length := by omega
 have e5 : p.length + 5 + 1 ≤ cs.length := by omega
 have hdig : digN 6 u = [dig (c0 / 10),dig (c0 % 10),dig (a1 / 10),dig (a1 % 10),dig (a0 / 10),dig (a0 % 10)] := by
   have z0 : u % 10 = a0 % 10 := by omega
   have z1 : u / 10 % 10 = a0 / 10 := by omega
   have z2 : u / 10 / 10 % 10 = a1 % 10 := by omega
   have z3 : u / 10 / 10 / 10 % 10 = a1 / 10 := by omega
   have z4 : u / 10 / 10 / 10 / 10 % 10 = c0 % 10 := by omega
   have z5 : u / 10 / 10 / 10 / 10 / 10 % 10 = c0 / 10 := by omega
   simp [digN,z0,z1,z2,z3,z4,z5]
 rw [hdig]
 simp [-put,fbTail,i_isc_formatBase10,q1,q2,q3,q4,hb3,hb4,ww,q5,q6,hb5,wc,w0,w32,w32b,w32c,t1,t2,t3,t4,s1,s2,hlo,put_set,p0,pn0,p1,pn1,p2,pn2,p3,pn3,p4,pn4,p5,pn5,b0,e0,b1,e1,b2,e2,b3,e3,b4,e4,b5,e5,show IntKind.wrap .i64 0 = 0 from rfl,show IntKind.wrap .i64 1 = 1 from rfl,show IntKind.wrap .i64 2 = 2 from rfl,show IntKind.wrap .i64 3 = 3 from rfl,show IntKind.wrap .i64 4 = 4 from rfl,show IntKind.wrap .i64 5 = 5 from rfl,show IntKind.wrap .i64 6 = 6 from rfl,show IntKind.wrap .i64 7 = 7 from rfl]
 rw [← hcs]
 simp [List.set_append_right,digA]
set_option maxHeartbeats 4000000 in
theorem fb_tail7 (hlo:lo ≤ hp.length) (p r:List AV) (n u:Nat) (hn:7 ≤ n) (hu:u < 10000000) (f:List AV) (hf:f.length = 7) :
   ∃ fr,evalC G0 (callD G0 IP) (loopD G0 IP lo) lo fbTail ⟨frB hp p.length n u 7 ++ [(20,.bool false)],HB hp (p ++ (f ++ r))⟩ = some (.normal,⟨fr,HB hp (p ++ (digA (digN 7 u) ++ r))⟩) := by
 have w0 : IntKind.wrap .u32 (u:Int) = u := by simp [IntKind.wrap,IntKind.signed,IntKind.bits]; omega
 have q1 : (u:Int).tmod 10000 = ((u % 10000 : Nat) : Int) := rfl
 have q2 : (u:Int).tdiv 10000 = ((u / 10000 : Nat) : Int) := rfl
 have hd1 := Nat.div_add_mod u 10000
 have hb1 : u % 10000 < 10000 := Nat.mod_lt _ (by omega)
 have hb2 : u / 10000 < 1000 := by omega
 generalize hv : u % 10000 = v at *
 generalize hw : u / 10000 = w at *
 have q3 : (v:Int).tdiv 100 = ((v / 100 : Nat) : Int) := rfl
 have q4 : (v:Int).tmod 100 = ((v % 100 : Nat) : Int) := rfl
 have hd2 := Nat.div_add_mod v 100
 have hb3 : v % 100 < 100 := Nat.mod_lt _ (by omega)
 have hb4 : v / 100 < 100 := by omega
 generalize hx : v / 100 = a1 at *
 generalize hy : v % 100 = a0 at *
 have ww : IntKind.wrap .u32 (w:Int) = w := by simp [IntKind.wrap,IntKind.signed,IntKind.bits]; omega
 have q5 : (w:Int).tmod 100 = ((w % 100 : Nat) : Int) := rfl
 have q6 : (w:Int).tdiv 100 = ((w / 100 : Nat) : Int) := rfl
 have hd3 := Nat.div_add_mod w 100
 have hb5 : w % 100 < 100 := Nat.mod_lt _ (by omega)
 have hb6 : w / 100 < 10 := by omega
 generalize hz : w % 100 = c0 at *
 generalize ht : w / 100 = c1 at *
 have wc : IntKind.wrap .u32 (c1:Int) = c1 := by simp [IntKind.wrap,IntKind.signed,IntKind.bits]; omega
 have l1 := conv8 c1 (by omega)
 have l2 := add48 c1 (by omega)
 have w32 : ∀ x : Nat,x < 100 → IntKind.wrap .u32 (x:Int) = x := fun x h => by simp [IntKind.wrap,IntKind.signed,IntKind.bits]; omega
 have w32b : ∀ x : Nat,x < 100 → IntKind.wrap .u32 ((x:Int) * 2) = (x:Int) * 2 := fun x h => by simp [IntKind.wrap,IntKind.signed,IntKind.bits]; omega
 have w32c : ∀ x : Nat,x < 100 → IntKind.wrap .u32 ((x:Int) * 2 + 1) = (x:Int) * 2 + 1 := fun x h => by simp [IntKind.wrap,IntKind.signed,IntKind.bits]; omega
 have t1 : ∀ x : Nat,((x:Int) * 2).toNat = 2 * x := fun x => by omega
 have t2 : ∀ x : Nat,((x:Int) * 2 + 1).toNat = 2 * x + 1 := fun x => by omega
 have t3 : ∀ x : Nat,(0:Int) ≤ (x:Int) * 2 := fun x => by omega
 have t4 : ∀ x : Nat,(0:Int) ≤ (x:Int) * 2 + 1 := fun x => by omega
 have s1 : ∀ x : Nat,x < 100 → smalls2[2 * x]? = some (dig (x / 10)) := fun x h => (smalls2_at x h).1
 have s2 : ∀ x : Nat,x < 100 → smalls2[2 * x + 1]? = some (dig (x % 10)) := fun x h => (smalls2_at x h).2
 have p0 : (0:Int) < n := by omega
 have pn0 : 0 < n := by omega
 have p1 : (1:Int) < n := by omega
 have pn1 : 1 < n := by omega
 have p2 : (2:Int) < n := by omega
 have pn2 : 2 < n := by omega
 have p3 : (3:Int) < n := by omega
 have pn3 : 3 < n := by omega
 have p4 : (4:Int) < n := by omega
 have pn4 : 4 < n := by omega
 have p5 : (5:Int) < n := by omega
 have pn5 : 5 < n := by omega
 have p6 : (6:Int) < n := by omega
 have pn6 : 6 < n := by omega
 match f,hf with
 | [x0,x1,x2,x3,x4,x5,x6],_ =>
 generalize hcs : p ++ ([x0,x1,x2,x3,x4,x5,x6] ++ r) = cs
 have hcl : p.length + 7 ≤ cs.length := by rw [← hcs]; simp
 have b0 : p.length < cs.length := by omega
 have e0 : p.length + 1 ≤ cs.length := by omega
 have b1 : p.length + 1 < cs.length := by omega
 have e1 : p.length + 1 + 1 ≤ cs.length := by omega
 have b2 : p.length + 2 < cs.length := by omega
 have e2 : p.length + 2 + 1 ≤ cs.length := by omega
 have b3 : p.length + 3 < cs.length := by omega
 have e3 : p.length + 3 + 1 ≤ cs.length := by omega
 have b4 : p.length + 4 < cs.length := by omega
 have e4 : p.length + 4 + 1 ≤ cs.length := by omega
 have b5 : p.length + 5 < cs.length := by omega
 have e5 : p.length + 5 + 1 ≤ cs.length := by omega
 have b6 : p.length + 6 < cs.length := by omega
 have e6 : p.length + 6 + 1 ≤ cs.length := by omega
 have hdig : digN 7 u = [dig c1,dig (c0 / 10),dig (c0 % 10),dig (a1 / 10),dig (a1 % 10),dig (a0 / 10),dig (a0 % 10)] := by
   have z0 : u % 10 = a0 % 10 := by omega
   have z1 : u / 10 % 10 = a0 / 10 := by omega
   have z2 : u / 10 / 10 % 10 = a1 % 10 := by omega
   have z3 : u / 10 / 10 / 10 % 10 = a1 / 10 := by omega
   have z4 : u / 10 / 10 / 10 / 10 % 10 = c0 % 10 := by omega
   have z5 : u / 10 / 10 / 10 / 10 / 10 % 10 = c0 / 10 := by omega
   have z6 : u / 10 / 10 / 10 / 10 / 10 / 10 % 10 = c1 := by omega
   simp [digN,z0,z1,z2,z3,z4,z5,z6]
 rw [hdig]
 simp [-put,fbTail,i_isc_formatBase10,q1,q2,q3,q4,hb3,hb4,ww,q5,q6,hb5,wc,l1,l2,w0,w32,w32b,w32c,t1,t2,t3,t4,s1,s2,hlo,put_set,p0,pn0,p1,pn1,p2,pn2,p3,pn3,p4,pn4,p5,pn5,p6,pn6,b0,e0,b1,e1,b2,e2,b3,e3,b4,e4,b5,e5,b6,e6,show IntKind.wrap .i64 0 = 0 from rfl,show IntKind.wrap .i64 1 = 1 from rfl,show IntKind.wrap .i64 2 = 2 from rfl,show IntKind.wrap .i64 3 = 3 from rfl,show IntKind.wrap .i64 4 = 4 from rfl,show IntKind.wrap .i64 5 = 5 from rfl,show IntKind.wrap .i64 6 = 6 from rfl,show IntKind.wrap .i64 7 = 7 from rfl]
 rw [← hcs]
 simp [List.set_append_right,digA]
end
end Go.Proofs.YtkofimhnehkdoaaGreatDoor.Rf
end
