/- A part of the proof: see the last text. -/
import Derived.Test.YtkofimhnehkdoaaGreatDoorRrG19
import Derived.Test.YtkofimhnehkdoaaGreatDoorRrG18
set_option linter.unusedVariables false
set_option linter.unusedSimpArgs false
section
namespace Go.Proofs.YtkofimhnehkdoaaGreatDoor.Rf
theorem conv8 (w:Nat) (h:w < 10) : IntKind.wrap .u8 (48 + (w:Int)) = ((dig w).toNat : Int) := by
 rw [dig_toNat h]; simp [IntKind.wrap,IntKind.signed,IntKind.bits]; omega
theorem add48 (w:Nat) (h:w < 10) : IntKind.wrap .u32 (48 + (w:Int)) = 48 + (w:Int) := by
 simp [IntKind.wrap,IntKind.signed,IntKind.bits]; omega
def fbTail : ICode := match i_isc_formatBase10.body with
 | .seq _ (.seq _ c) => c
 | c => c
section
variable {hp:List HObj} {lo:Nat}
set_option maxHeartbeats 4000000 in
theorem fb_tail0 (hlo:lo ≤ hp.length) (p r:List AV) (n u:Nat) (hn:0 ≤ n) (hu:u < 1) (f:List AV) (hf:f.length = 0) :
   ∃ fr,evalC G0 (callD G0 IP) (loopD G0 IP lo) lo fbTail ⟨frB hp p.length n u 0 ++ [(20,.bool false)],HB hp (p ++ (f ++ r))⟩ = some (.normal,⟨fr,HB hp (p ++ (digA (digN 0 u) ++ r))⟩) := by
 have w0 : IntKind.wrap .u32 (u:Int) = u := by simp [IntKind.wrap,IntKind.signed,IntKind.bits]; omega
 have w32 : ∀ x : Nat,x < 100 → IntKind.wrap .u32 (x:Int) = x := fun x h => by simp [IntKind.wrap,IntKind.signed,IntKind.bits]; omega
 have w32b : ∀ x : Nat,x < 100 → IntKind.wrap .u32 ((x:Int) * 2) = (x:Int) * 2 := fun x h => by simp [IntKind.wrap,IntKind.signed,IntKind.bits]; omega
 have w32c : ∀ x : Nat,x < 100 → IntKind.wrap .u32 ((x:Int) * 2 + 1) = (x:Int) * 2 + 1 := fun x h => by simp [IntKind.wrap,IntKind.signed,IntKind.bits]; omega
 have t1 : ∀ x : Nat,((x:Int) * 2).toNat = 2 * x := fun x => by omega
 have t2 : ∀ x : Nat,((x:Int) * 2 + 1).toNat = 2 * x + 1 := fun x => by omega
 have t3 : ∀ x : Nat,(0:Int) ≤ (x:Int) * 2 := fun x => by omega
 have t4 : ∀ x : Nat,(0:Int) ≤ (x:Int) * 2 + 1 := fun x => by omega
 have s1 : ∀ x : Nat,x < 100 → smalls2[2 * x]? = some (dig (x / 10)) := fun x h => (smalls2_at x h).1
 have s2 : ∀ x : Nat,x < 100 → smalls2[2 * x + 1]? = some (dig (x % 10)) := fun x h => (smalls2_at x h).2
 match f,hf with
 | [],_ =>
 generalize hcs : p ++ ([] ++ r) = cs
 have hcl : p.length + 0 ≤ cs.length := by rw [← hcs]; simp
 have hdig : digN 0 u = [] := by
   simp [digN]
 rw [hdig]
 simp [-put,fbTail,i_isc_formatBase10,w0,w32,w32b,w32c,t1,t2,t3,t4,s1,s2,hlo,put_set,show IntKind.wrap .i64 0 = 0 from rfl,show IntKind.wrap .i64 1 = 1 from rfl,show IntKind.wrap .i64 2 = 2 from rfl,show IntKind.wrap .i64 3 = 3 from rfl,show IntKind.wrap .i64 4 = 4 from rfl,show IntKind.wrap .i64 5 = 5 from rfl,show IntKind.wrap .i64 6 = 6 from rfl,show IntKind.wrap .i64 7 = 7 from rfl]
 rw [← hcs]
 simp [List.set_append_right,digA]
set_option maxHeartbeats 4000000 in
theorem fb_tail1 (hlo:lo ≤ hp.length) (p r:List AV) (n u:Nat) (hn:1 ≤ n) (hu:u < 10) (f:List AV) (hf:f.length = 1) :
   ∃ fr,evalC G0 (callD G0 IP) (loopD G0 IP lo) lo fbTail ⟨frB hp p.length n u 1 ++ [(20,.bool false)],HB hp (p ++ (f ++ r))⟩ = some (.normal,⟨fr,HB hp (p ++ (digA (digN 1 u) ++ r))⟩) := by
 have w0 : IntKind.wrap .u32 (u:Int) = u := by simp [IntKind.wrap,IntKind.signed,IntKind.bits]; omega
 have l1 := conv8 u (by omega)
 have l2 := add48 u (by omega)
 have w32 : ∀ x : Nat,x < 100 → IntKind.wrap .u32 (x:Int) = x := fun x h => by simp [IntKind.wrap,IntKind.signed,IntKind.bits]; omega
 have w32b : ∀ x : Nat,x < 100 → IntKind.wrap .u32 ((x:Int) * 2) = (x:Int) * 2 := fun x h => by simp [IntKind.wrap,IntKind.signed,IntKind.bits]; omega
 have w32c : ∀ x : Nat,x < 100 → IntKind.wrap .u32 ((x:Int) * 2 + 1) = (x:Int) * 2 + 1 := fun x h => by simp [IntKind.wrap,IntKind.signed,IntKind.bits]; omega
 have t1 : ∀ x : Nat,((x:Int) * 2).toNat = 2 * x := fun x => by omega
 have t2 : ∀ x : Nat,((x:Int) * 2 + 1).toNat = 2 * x + 1 := fun x => by omega
 have t3 : ∀ x : Nat,(0:Int) ≤ (x:Int) * 2 := fun x => by omega
 have t4 : ∀ x : Nat,(0:Int) ≤ (x:Int) * 2 + 1 := fun x => by omega
 have s1 : ∀ x : Nat,x < 100 → smalls2[2 * x]? = some (dig (x / 10)) := fun x h => (smalls2_at x h).1
 have s2 : ∀ x : Nat,x < 100 → smalls2[2 * x + 1]? = some (dig (x % 10)) := fun x h => (smalls2_at x h).2
 have p0 : (0:Int) < n := by omega
 have pn0 : 0 < n := by omega
 match f,hf with
 | [x0],_ =>
 generalize hcs : p ++ ([x0] ++ r) = cs
 have hcl : p.length + 1 ≤ cs.length := by rw [← hcs]; simp
 have b0 : p.length < cs.length := by omega
 have e0 : p.length + 1 ≤ cs.length := by omega
 have hdig : digN 1 u = [dig u] := by
   have z0 : u % 10 = u := by omega
   simp [digN,z0]
 rw [hdig]
 simp [-put,fbTail,i_isc_formatBase10,l1,l2,w0,w32,w32b,w32c,t1,t2,t3,t4,s1,s2,hlo,put_set,p0,pn0,b0,e0,show IntKind.wrap .i64 0 = 0 from rfl,show IntKind.wrap .i64 1 = 1 from rfl,show IntKind.wrap .i64 2 = 2 from rfl,show IntKind.wrap .i64 3 = 3 from rfl,show IntKind.wrap .i64 4 = 4 from rfl,show IntKind.wrap .i64 5 = 5 from rfl,show IntKind.wrap .i64 6 = 6 from rfl,show IntKind.wrap .i64 7 = 7 from rfl]
 rw [← hcs]
 simp [List.set_append_right,digA]
set_option maxHeartbeats 4000000 in
theorem fb_tail2 (hlo:lo ≤ hp.length) (p r:List AV) (n u:Nat) (hn:2 ≤ n) (hu:u < 100) (f:List AV) (hf:f.length = 2) :
   ∃ fr,evalC G0 (callD G0 IP) (loopD G0 IP lo) lo fbTail ⟨frB hp p.length n u 2 ++ [(20,.bool false)],HB hp (p ++ (f ++ r))⟩ = some (.normal,⟨fr,HB hp (p ++ (digA (digN 2 u) ++ r))⟩) := by
 have w0 : IntKind.wrap .u32 (u:Int) = u := by simp [IntKind.wrap,IntKind.signed,IntKind.bits]; omega
 have q5 : (u:Int).tmod 100 = ((u % 100 : Nat) : Int) := rfl
 have q6 : (u:Int).tdiv 100 = ((u / 100 : Nat) : Int) := rfl
 have hd3 := Nat.div_add_mod u 100
 have hb5 : u % 100 < 100 := Nat.mod_lt _ (by omega)
 have hb6 : u / 100 < 1 := by omega
 generalize hz : u % 100 = c0 at *
 generalize ht : u / 100 = c1 at *
 have wc : IntKind.wrap .u32 (c1:Int) = c1 := by simp [IntKind.wrap,IntKind.signed,IntKind.bits]; omega
 have w32 : ∀ x : Nat,x < 100 → IntKind.wrap .u32 (x:Int) = x := fun x h => by simp [IntKind.wrap,IntKind.signed,IntKind.bits]; omega
 have w32b : ∀ x : Nat,x < 100 → IntKind.wrap .u32 ((x:Int) * 2) = (x:Int) * 2 := fun x h => by simp [IntKind.wrap,IntKind.signed,IntKind.bits]; omega
 have w32c : ∀ x : Nat,x < 100 → IntKind.wrap .u32 ((x:Int) * 2 + 1) = (x:Int) * 2 + 1 := fun x h => by simp [IntKind.wrap,IntKind.signed,IntKind.bits]; omega
 have t1 : ∀ x : Nat,((x:Int) * 2).toNat = 2 * x := fun x => by omega
 have t2 : ∀ x : Nat,((x:Int) * 2 + 1).toNat = 2 * x + 1 := fun x => by omega
 have t3 : ∀ x : Nat,(0:Int) ≤ (x:Int) * 2 := fun x => by omega
 have t4 : ∀ x : Nat,(0:Int) ≤ (x:Int) * 2 + 1 := fun x => by omega
 have s1 : ∀ x : Nat,x < 100 → smalls2[2 * x]? = some (dig (x / 10)) := fun x h => (smalls2_at x h).1
 have s2 : ∀ x : Nat,x < 100 → smalls2[2 * x + 1]? = some (dig (x % 10)) := fun x h => (smalls2_at x h).2
 have p0 : (0:Int) < n := by omega
 have pn0 : 0 < n := by omega
 have p1 : (1:Int) < n := by omega
 have pn1 : 1 < n := by omega
 match f,hf with
 | [x0,x1],_ =>
 generalize hcs : p ++ ([x0,x1] ++ r) = cs
 have hcl : p.length + 2 ≤ cs.length := by rw [← hcs]; simp
 have b0 : p.length < cs.length := by omega
 have e0 : p.length + 1 ≤ cs.length := by omega
 have b1 : p.length + 1 < cs.length := by omega
 have e1 : p.length + 1 + 1 ≤ cs.length := by omega
 have hdig : digN 2 u = [dig (c0 / 10),dig (c0 % 10)] := by
   have z0 : u % 10 = c0 % 10 := by omega
   have z1 : u / 10 % 10 = c0 / 10 := by omega
   simp [digN,z0,z1]
 rw [hdig]
 simp [-put,fbTail,i_isc_formatBase10,q5,q6,hb5,wc,w0,w32,w32b,w32c,t1,t2,t3,t4,s1,s2,hlo,put_set,p0,pn0,p1,pn1,b0,e0,b1,e1,show IntKind.wrap .i64 0 = 0 from rfl,show IntKind.wrap .i64 1 = 1 from rfl,show IntKind.wrap .i64 2 = 2 from rfl,show IntKind.wrap .i64 3 = 3 from rfl,show IntKind.wrap .i64 4 = 4 from rfl,show IntKind.wrap .i64 5 = 5 from rfl,show IntKind.wrap .i64 6 = 6 from rfl,show IntKind.wrap .i64 7 = 7 from rfl]
 rw [← hcs]
 simp [List.set_append_right,digA]
set_option maxHeartbeats 4000000 in
theorem fb_tail3 (hlo:lo ≤ hp.length) (p r:List AV) (n u:Nat) (hn:3 ≤ n) (hu:u < 1000) (f:List AV) (hf:f.length = 3) :
   ∃ fr,evalC G0 (callD G0 IP) (loopD G0 IP lo) lo fbTail ⟨frB hp p.length n u 3 ++ [(20,.bool false)],HB hp (p ++ (f ++ r))⟩ = some (.normal,⟨fr,HB hp (p ++ (digA (digN 3 u) ++ r))⟩) := by
 have w0 : IntKind.wrap .u32 (u:Int) = u := by simp [IntKind.wrap,IntKind.signed,IntKind.bits]; omega
 have q5 : (u:Int).tmod 100 = ((u % 100 : Nat) : Int) := rfl
 have q6 : (u:Int).tdiv 100 = ((u / 100 : Nat) : Int) := rfl
 have hd3 := Nat.div_add_mod u 100
 have hb5 : u % 100 < 100 := Nat.mod_lt _ (by omega)
 have hb6 : u / 100 < 10 := by omega
 generalize hz : u % 100 = c0 at *
 generalize ht : u / 100 = c1 at *
 have wc : IntKind.wrap .u32 (c1:Int) = c1 := by simp [IntKind.wrap,IntKind.signed,IntKind.bits]; omega
 have l1 := conv8 c1 (by omega)
 have l2 := add48 c1 (by omega)
 have w32 : ∀ x : Nat,x < 100 → IntKind.wrap .u32 (x:Int) = x := fun x h => by simp [IntKind.wrap,IntKind.signed,IntKind.bits]; omega
 have w32b : ∀ x : Nat,x < 100 → IntKind.wrap .u32 ((x:Int) * 2) = (x:Int) * 2 := fun x h => by simp [IntKind.wrap,IntKind.signed,IntKind.bits]; omega
 have w32c : ∀ x : Nat,x < 100 → IntKind.wrap .u32 ((x:Int) * 2 + 1) = (x:Int) * 2 + 1 := fun x h => by simp [IntKind.wrap,IntKind.signed,IntKind.bits]; omega
 have t1 : ∀ x : Nat,((x:Int) * 2).toNat = 2 * x := fun x => by omega
 have t2 : ∀ x : Nat,((x:Int) * 2 + 1).toNat = 2 * x + 1 := fun x => by omega
 have t3 : ∀ x : Nat,(0:Int) ≤ (x:Int) * 2 := fun x => by omega
 have t4 : ∀ x : Nat,(0:Int) ≤ (x:Int) * 2 + 1 := fun x => by omega
 have s1 : ∀ x : Nat,x < 100 → smalls2[2 * x]? = some (dig (x / 10)) := fun x h => (smalls2_at x h).1
 have s2 : ∀ x : Nat,x < 100 → smalls2[2 * x + 1]? = some (dig (x % 10)) := fun x h => (smalls2_at x h).2
 have p0 : (0:Int) < n := by omega
 have pn0 : 0 < n := by omega
 have p1 : (1:Int) < n := by omega
 have pn1 : 1 < n := by omega
 have p2 : (2:Int) < n := by omega
 have pn2 : 2 < n := by omega
 match f,hf with
 | [x0,x1,x2],_ =>
 generalize hcs : p ++ ([x0,x1,x2] ++ r) = cs
 have hcl : p.length + 3 ≤ cs.length := by rw [← hcs]; simp
 have b0 : p.length < cs.length := by omega
 have e0 : p.length + 1 ≤ cs.length := by omega
 have b1 : p.length + 1 < cs.length := by omega
 have e1 : p.length + 1 + 1 ≤ cs.length := by omega
 have b2 : p.length + 2 < cs.length := by omega
 have e2 : p.length + 2 + 1 ≤ cs.length := by omega
 have hdig : digN 3 u = [dig c1,dig (c0 / 10),dig (c0 % 10)] := by
   have z0 : u % 10 = c0 % 10 := by omega
   have z1 : u / 10 % 10 = c0 / 10 := by omega
   have z2 : u / 10 / 10 % 10 = c1 := by omega
   simp [digN,z0,z1,z2]
 rw [hdig]
 simp [-put,fbTail,i_isc_formatBase10,q5,q6,hb5,wc,l1,l2,w0,w32,w32b,w32c,t1,t2,t3,t4,s1,s2,hlo,put_set,p0,pn0,p1,pn1,p2,pn2,b0,e0,b1,e1,b2,e2,show IntKind.wrap .i64 0 = 0 from rfl,show IntKind.wrap .i64 1 = 1 from rfl,show IntKind.wrap .i64 2 = 2 from rfl,show IntKind.wrap .i64 3 = 3 from rfl,show IntKind.wrap .i64 4 = 4 from rfl,show IntKind.wrap .i64 5 = 5 from rfl,show IntKind.wrap .i64 6 = 6 from rfl,show IntKind.wrap .i64 7 = 7 from rfl]
 rw [← hcs]
 simp [List.set_append_right,digA]
set_option maxHeartbeats 4000000 in
theorem fb_tail4 (hlo:lo ≤ hp.length) (p r:List AV) (n u:Nat) (hn:4 ≤ n) (hu:u < 10000) (f:List AV) (hf:f.length = 4) :
   ∃ fr,evalC G0 (callD G0 IP) (loopD G0 IP lo) lo fbTail ⟨frB hp p.length n u 4 ++ [(20,.bool false)],HB hp (p ++ (f ++ r))⟩ = some (.normal,⟨fr,HB hp (p ++ (digA (digN 4 u) ++ r))⟩) := by
 have w0 : IntKind.wrap .u32 (u:Int) = u := by simp [IntKind.wrap,IntKind.signed,IntKind.bits]; omega
 have q1 : (u:Int).tmod 10000 = ((u % 10000 : Nat) : Int) := rfl
 have q2 : (u:Int).tdiv 10000 = ((u / 10000 : Nat) : Int) := rfl
 have hd1 := Nat.div_add_mod u 10000
 have hb1 : u % 10000 < 10000 := Nat.mod_lt _ (by omega)
 have hb2 : u / 10000 < 1 := by omega
 generalize hv : u % 10000 = v at *
 generalize hw : u / 10000 = w at *
 have q3 : (v:Int).tdiv 100 = ((v / 100 : Nat) : Int) := rfl
 have q4 : (v:Int).tmod 100 = ((v % 100 : Nat) : Int) := rfl
 have hd2 := Nat.div_add_mod v 100
 have hb3 : v % 100 < 100 := Nat.mod_lt _ (by omega)
 have hb4 : v / 100 < 100 := by omega
 generalize hx : v / 100 = a1 at *
 generalize hy : v % 100 = a0 at *
 have ww : IntKind.wrap .u32 (w:Int) = w := by simp [IntKind.wrap,IntKind.signed,IntKind.bits]; omega
 have w32 : ∀ x : Nat,x < 100 → IntKind.wrap .u32 (x:Int) = x := fun x h => by simp [IntKind.wrap,IntKind.signed,IntKind.bits]; omega
 have w32b : ∀ x : Nat,x < 100 → IntKind.wrap .u32 ((x:Int) * 2) = (x:Int) * 2 := fun x h => by simp [IntKind.wrap,IntKind.signed,IntKind.bits]; omega
 have w32c : ∀ x : Nat,x < 100 → IntKind.wrap .u32 ((x:Int) * 2 + 1) = (x:Int) * 2 + 1 := fun x h => by simp [IntKind.wrap,IntKind.signed,IntKind.bits]; omega
 have t1 : ∀ x : Nat,((x:Int) * 2).toNat = 2 * x := fun x => by omega
 have t2 : ∀ x : Nat,((x:Int) * 2 + 1).toNat = 2 * x + 1 := fun x => by omega
 have t3 : ∀ x : Nat,(0:Int) ≤ (x:Int) * 2 := fun x => by omega
 have t4 : ∀ x : Nat,(0:Int) ≤ (x:Int) * 2 + 1 := fun x => by omega
 have s1 : ∀ x : Nat,x < 100 → smalls2[2 * x]? = some (dig (x / 10)) := fun x h => (smalls2_at x h).1
 have s2 : ∀ x : Nat,x < 100 → smalls2[2 * x + 1]? = some (dig (x % 10)) := fun x h => (smalls2_at x h).2
 have p0 : (0:Int) < n := by omega
 have pn0 : 0 < n := by omega
 have p1 : (1:Int) < n := by omega
 have pn1 : 1 < n := by omega
 have p2 : (2:Int) < n := by omega
 have pn2 : 2 < n := by omega
 have p3 : (3:Int) < n := by omega
 have pn3 : 3 < n := by omega
 match f,hf with
 | [x0,x1,x2,x3],_ =>
 generalize hcs : p ++ ([x0,x1,x2,x3] ++ r) = cs
 have hcl : p.length + 4 ≤ cs.length := by rw [← hcs]; simp
 have b0 : p.length < cs.length := by omega
 have e0 : p.length + 1 ≤ cs.length := by omega
 have b1 : p.length + 1 < cs.length := by omega
 have e1 : p.length + 1 + 1 ≤ cs.length := by omega
 have b2 : p.length + 2 < cs.length := by omega
 have e2 : p.length + 2 + 1 ≤ cs.length := by omega
 have b3 : p.length + 3 < cs.length := by omega
 have e3 : p.length + 3 + 1 ≤ cs.length := by omega
 have hdig : digN 4 u = [dig (a1 / 10),dig (a1 % 10),dig (a0 / 10),dig (a0 % 10)] := by
   have z0 : u % 10 = a0 % 10 := by omega
   have z1 : u / 10 % 10 = a0 / 10 := by omega
   have z2 : u / 10 / 10 % 10 = a1 % 10 := by omega
   have z3 : u / 10 / 10 / 10 % 10 = a1 / 10 := by omega
   simp [digN,z0,z1,z2,z3]
 rw [hdig]
 simp [-put,fbTail,i_isc_formatBase10,q1,q2,q3,q4,hb3,hb4,ww,w0,w32,w32b,w32c,t1,t2,t3,t4,s1,s2,hlo,put_set,p0,pn0,p1,pn1,p2,pn2,p3,pn3,b0,e0,b1,e1,b2,e2,b3,e3,show IntKind.wrap .i64 0 = 0 from rfl,show IntKind.wrap .i64 1 = 1 from rfl,show IntKind.wrap .i64 2 = 2 from rfl,show IntKind.wrap .i64 3 = 3 from rfl,show IntKind.wrap .i64 4 = 4 from rfl,show IntKind.wrap .i64 5 = 5 from rfl,show IntKind.wrap .i64 6 = 6 from rfl,show IntKind.wrap .i64 7 = 7 from rfl]
 rw [← hcs]
 simp [List.set_append_right,digA]
set_option maxHeartbeats 4000000 in
theorem fb_tail5 (hlo:lo ≤ hp.length) (p r:List AV) (n u:Nat) (hn:5 ≤ n) (hu:u < 100000) (f:List AV) (hf:f.length = 5) :
   ∃ fr,evalC G0 (callD G0 IP) (loopD G0 IP lo) lo fbTail ⟨frB hp p.length n u 5 ++ [(20,.bool false)],HB hp (p ++ (f ++ r))⟩ = some (.normal,⟨fr,HB hp (p ++ (digA (digN 5 u) ++ r))⟩) := by
 have w0 : IntKind.wrap .u32 (u:Int) = u := by simp [IntKind.wrap,IntKind.signed,IntKind.bits]; omega
 have q1 : (u:Int).tmod 10000 = ((u % 10000 : Nat) : Int) := rfl
 have q2 : (u:Int).tdiv 10000 = ((u / 10000 : Nat) : Int) := rfl
 have hd1 := Nat.div_add_mod u 10000
 have hb1 : u % 10000 < 10000 := Nat.mod_lt _ (by omega)
 have hb2 : u / 10000 < 10 := by omega
 generalize hv : u % 10000 = v at *
 generalize hw : u / 10000 = w at *
 have q3 : (v:Int).tdiv 100 = ((v / 100 : Nat) : Int) := rfl
 have q4 : (v:Int).tmod 100 = ((v % 100 : Nat) : Int) := rfl
 have hd2 := Nat.div_add_mod v 100
 have hb3 : v % 100 < 100 := Nat.mod_lt _ (by omega)
 have hb4 : v / 100 < 100 := by omega
 generalize hx : v / 100 = a1 at *
 generalize hy : v % 100 = a0 at *
 have ww : IntKind.wrap .u32 (w:Int) = w := by simp [IntKind.wrap,IntKind.signed,IntKind.bits]; omega
 have l1 := conv8 w (by omega)
 have l2 := add48 w (by omega)
 have w32 : ∀ x : Nat,x < 100 → IntKind.wrap .u32 (x:Int) = x := fun x h => by simp [IntKind.wrap,IntKind.signed,IntKind.bits]; omega
 have w32b : ∀ x : Nat,x < 100 → IntKind.wrap .u32 ((x:Int) * 2) = (x:Int) * 2 := fun x h => by simp [IntKind.wrap,IntKind.signed,IntKind.bits]; omega
 have w32c : ∀ x : Nat,x < 100 → IntKind.wrap .u32 ((x:Int) * 2 + 1) = (x:Int) * 2 + 1 := fun x h => by simp [IntKind.wrap,IntKind.signed,IntKind.bits]; omega
 have t1 : ∀ x : Nat,((x:Int) * 2).toNat = 2 * x := fun x => by omega
 have t2 : ∀ x : Nat,((x:Int) * 2 + 1).toNat = 2 * x + 1 := fun x => by omega
 have t3 : ∀ x : Nat,(0:Int) ≤ (x:Int) * 2 := fun x => by omega
 have t4 : ∀ x : Nat,(0:Int) ≤ (x:Int) * 2 + 1 := fun x => by omega
 have s1 : ∀ x : Nat,x < 100 → smalls2[2 * x]? = some (dig (x / 10)) := fun x h => (smalls2_at x h).1
 have s2 : ∀ x : Nat,x < 100 → smalls2[2 * x + 1]? = some (dig (x % 10)) := fun x h => (smalls2_at x h).2
 have p0 : (0:Int) < n := by omega
 have pn0 : 0 < n := by omega
 have p1 : (1:Int) < n := by omega
 have pn1 : 1 < n := by omega
 have p2 : (2:Int) < n := by omega
 have pn2 : 2 < n := by omega
 have p3 : (3:Int) < n := by omega
 have pn3 : 3 < n := by omega
 have p4 : (4:Int) < n := by omega
 have pn4 : 4 < n := by omega
 match f,hf with
 | [x0,x1,x2,x3,x4],_ =>
 generalize hcs : p ++ ([x0,x1,x2,x3,x4] ++ r) = cs
 have hcl : p.length + 5 ≤ cs.length := by rw [← hcs]; simp
 have b0 : p.length < cs.length := by omega
 have e0 : p.length + 1 ≤ cs.length := by omega
 have b1 : p.length + 1 < cs.length := by omega
 have e1 : p.length + 1 + 1 ≤ cs.length := by omega
 have b2 : p.length + 2 < cs.length := by omega
 have e2 : p.length + 2 + 1 ≤ cs.length := by omega
 have b3 : p.length + 3 < cs.length := by omega
 have e3 : p.length + 3 + 1 ≤ cs.length := by omega
 have b4 : p.length + 4 < cs.length := by omega
 have e4 : p.length + 4 + 1 ≤ cs.length := by omega
 have hdig : digN 5 u = [dig w,dig (a1 / 10),dig (a1 % 10),dig (a0 / 10),dig (a0 % 10)] := by
   have z0 : u % 10 = a0 % 10 := by omega
   have z1 : u / 10 % 10 = a0 / 10 := by omega
   have z2 : u / 10 / 10 % 10 = a1 % 10 := by omega
   have z3 : u / 10 / 10 / 10 % 10 = a1 / 10 := by omega
   have z4 : u / 10 / 10 / 10 / 10 % 10 = w := by omega
   simp [digN,z0,z1,z2,z3,z4]
 rw [hdig]
 simp [-put,fbTail,i_isc_formatBase10,q1,q2,q3,q4,hb3,hb4,ww,l1,l2,w0,w32,w32b,w32c,t1,t2,t3,t4,s1,s2,hlo,put_set,p0,pn0,p1,pn1,p2,pn2,p3,pn3,p4,pn4,b0,e0,b1,e1,b2,e2,b3,e3,b4,e4,show IntKind.wrap .i64 0 = 0 from rfl,show IntKind.wrap .i64 1 = 1 from rfl,show IntKind.wrap .i64 2 = 2 from rfl,show IntKind.wrap .i64 3 = 3 from rfl,show IntKind.wrap .i64 4 = 4 from rfl,show IntKind.wrap .i64 5 = 5 from rfl,show IntKind.wrap .i64 6 = 6 from rfl,show IntKind.wrap .i64 7 = 7 from rfl]
 rw [← hcs]
 simp [List.set_append_right,digA]
set_option maxHeartbeats 4000000 in
theorem fb_tail6 (hlo:lo ≤ hp.length) (p r:List AV) (n u:Nat) (hn:6 ≤ n) (hu:u < 1000000) (f:List AV) (hf:f.length = 6) :
   ∃ fr,evalC G0 (callD G0 IP) (loopD G0 IP lo) lo fbTail ⟨frB hp p.length n u 6 ++ [(20,.bool false)],HB hp (p ++ (f ++ r))⟩ = some (.normal,⟨fr,HB hp (p ++ (digA (digN 6 u) ++ r))⟩) := by
 have w0 : IntKind.wrap .u32 (u:Int) = u := by simp [IntKind.wrap,IntKind.signed,IntKind.bits]; omega
 have q1 : (u:Int).tmod 10000 = ((u % 10000 : Nat) : Int) := rfl
 have q2 : (u:Int).tdiv 10000 = ((u / 10000 : Nat) : Int) := rfl
 have hd1 := Nat.div_add_mod u 10000
 have hb1 : u % 10000 < 10000 := Nat.mod_lt _ (by omega)
 have hb2 : u / 10000 < 100 := by omega
 generalize hv : u % 10000 = v at *
 generalize hw : u / 10000 = w at *
 have q3 : (v:Int).tdiv 100 = ((v / 100 : Nat) : Int) := rfl
 have q4 : (v:Int).tmod 100 = ((v % 100 : Nat) : Int) := rfl
 have hd2 := Nat.div_add_mod v 100
 have hb3 : v % 100 < 100 := Nat.mod_lt _ (by omega)
 have hb4 : v / 100 < 100 := by omega
 generalize hx : v / 100 = a1 at *
 generalize hy : v % 100 = a0 at *
 have ww : IntKind.wrap .u32 (w:Int) = w := by simp [IntKind.wrap,IntKind.signed,IntKind.bits]; omega
 have q5 : (w:Int).tmod 100 = ((w % 100 : Nat) : Int) := rfl
 have q6 : (w:Int).tdiv 100 = ((w / 100 : Nat) : Int) := rfl
 have hd3 := Nat.div_add_mod w 100
 have hb5 : w % 100 < 100 := Nat.mod_lt _ (by omega)
 have hb6 : w / 100 < 1 := by omega
 generalize hz : w % 100 = c0 at *
 generalize ht : w / 100 = c1 at *
 have wc : IntKind.wrap .u32 (c1:Int) = c1 := by simp [IntKind.wrap,IntKind.signed,IntKind.bits]; omega
 have w32 : ∀ x : Nat,x < 100 → IntKind.wrap .u32 (x:Int) = x := fun x h => by simp [IntKind.wrap,IntKind.signed,IntKind.bits]; omega
 have w32b : ∀ x : Nat,x < 100 → IntKind.wrap .u32 ((x:Int) * 2) = (x:Int) * 2 := fun x h => by simp [IntKind.wrap,IntKind.signed,IntKind.bits]; omega
 have w32c : ∀ x : Nat,x < 100 → IntKind.wrap .u32 ((x:Int) * 2 + 1) = (x:Int) * 2 + 1 := fun x h => by simp [IntKind.wrap,IntKind.signed,IntKind.bits]; omega
 have t1 : ∀ x : Nat,((x:Int) * 2).toNat = 2 * x := fun x => by omega
 have t2 : ∀ x : Nat,((x:Int) * 2 + 1).toNat = 2 * x + 1 := fun x => by omega
 have t3 : ∀ x : Nat,(0:Int) ≤ (x:Int) * 2 := fun x => by omega
 have t4 : ∀ x : Nat,(0:Int) ≤ (x:Int) * 2 + 1 := fun x => by omega
 have s1 : ∀ x : Nat,x < 100 → smalls2[2 * x]? = some (dig (x / 10)) := fun x h => (smalls2_at x h).1
 have s2 : ∀ x : Nat,x < 100 → smalls2[2 * x + 1]? = some (dig (x % 10)) := fun x h => (smalls2_at x h).2
 have p0 : (0:Int) < n := by omega
 have pn0 : 0 < n := by omega
 have p1 : (1:Int) < n := by omega
 have pn1 : 1 < n := by omega
 have p2 : (2:Int) < n := by omega
 have pn2 : 2 < n := by omega
 have p3 : (3:Int) < n := by omega
 have pn3 : 3 < n := by omega
 have p4 : (4:Int) < n := by omega
 have pn4 : 4 < n := by omega
 have p5 : (5:Int) < n := by omega
 have pn5 : 5 < n := by omega
 match f,hf with
 | [x0,x1,x2,x3,x4,x5],_ =>
 generalize hcs : p ++ ([x0,x1,x2,x3,x4,x5] ++ r) = cs
 have hcl : p.length + 6 ≤ cs.length := by rw [← hcs]; simp
 have b0 : p.length < cs.length := by omega
 have e0 : p.length + 1 ≤ cs.length := by omega
 have b1 : p.length + 1 < cs.length := by omega
 have e1 : p.length + 1 + 1 ≤ cs.length := by omega
 have b2 : p.length + 2 < cs.length := by omega
 have e2 : p.length + 2 + 1 ≤ cs.length := by omega
 have b3 : p.length + 3 < cs.length := by omega
 have e3 : p.length + 3 + 1 ≤ cs.length := by omega
 have b4 : p.length + 4 < cs.length := by omega
 have e4 : p.length + 4 + 1 ≤ cs.length := by omega
 have b5 : p.length + 5 < cs.length := by omega
 have e5 : p.length + 5 + 1 ≤ cs.length := by omega
 have hdig : digN 6 u = [dig (c0 / 10),dig (c0 % 10),dig (a1 / 10),dig (a1 % 10),dig (a0 / 10),dig (a0 % 10)] := by
   have z0 : u % 10 = a0 % 10 := by omega
   have z1 : u / 10 % 10 = a0 / 10 := by omega
   have z2 : u / 10 / 10 % 10 = a1 % 10 := by omega
   have z3 : u / 10 / 10 / 10 % 10 = a1 / 10 := by omega
   have z4 : u / 10 / 10 / 10 / 10 % 10 = c0 % 10 := by omega
   have z5 : u / 10 / 10 / 10 / 10 / 10 % 10 = c0 / 10 := by omega
   simp [digN,z0,z1,z2,z3,z4,z5]
 rw [hdig]
 simp [-put,fbTail,i_isc_formatBase10,q1,q2,q3,q4,hb3,hb4,ww,q5,q6,hb5,wc,w0,w32,w32b,w32c,t1,t2,t3,t4,s1,s2,hlo,put_set,p0,pn0,p1,pn1,p2,pn2,p3,pn3,p4,pn4,p5,pn5,b0,e0,b1,e1,b2,e2,b3,e3,b4,e4,b5,e5,show IntKind.wrap .i64 0 = 0 from rfl,show IntKind.wrap .i64 1 = 1 from rfl,show IntKind.wrap .i64 2 = 2 from rfl,show IntKind.wrap .i64 3 = 3 from rfl,show IntKind.wrap .i64 4 = 4 from rfl,show IntKind.wrap .i64 5 = 5 from rfl,show IntKind.wrap .i64 6 = 6 from rfl,show IntKind.wrap .i64 7 = 7 from rfl]
 rw [← hcs]
 simp [List.set_append_right,digA]
set_option maxHeartbeats 4000000 in
theorem fb_tail7 (hlo:lo ≤ hp.length) (p r:List AV) (n u:Nat) (hn:7 ≤ n) (hu:u < 10000000) (f:List AV) (hf:f.length = 7) :
   ∃ fr,evalC G0 (callD G0 IP) (loopD G0 IP lo) lo fbTail ⟨frB hp p.length n u 7 ++ [(20,.bool false)],HB hp (p ++ (f ++ r))⟩ = some (.normal,⟨fr,HB hp (p ++ (digA (digN 7 u) ++ r))⟩) := by
 have w0 : IntKind.wrap .u32 (u:Int) = u := by simp [IntKind.wrap,IntKind.signed,IntKind.bits]; omega
 have q1 : (u:Int).tmod 10000 = ((u % 10000 : Nat) : Int) := rfl
 have q2 : (u:Int).tdiv 10000 = ((u / 10000 : Nat) : Int) := rfl
 have hd1 := Nat.div_add_mod u 10000
 have hb1 : u % 10000 < 10000 := Nat.mod_lt _ (by omega)
 have hb2 : u / 10000 < 1000 := by omega
 generalize hv : u % 10000 = v at *
 generalize hw : u / 10000 = w at *
 have q3 : (v:Int).tdiv 100 = ((v / 100 : Nat) : Int) := rfl
 have q4 : (v:Int).tmod 100 = ((v % 100 : Nat) : Int) := rfl
 have hd2 := Nat.div_add_mod v 100
 have hb3 : v % 100 < 100 := Nat.mod_lt _ (by omega)
 have hb4 : v / 100 < 100 := by omega
 generalize hx : v / 100 = a1 at *
 generalize hy : v % 100 = a0 at *
 have ww : IntKind.wrap .u32 (w:Int) = w := by simp [IntKind.wrap,IntKind.signed,IntKind.bits]; omega
 have q5 : (w:Int).tmod 100 = ((w % 100 : Nat) : Int) := rfl
 have q6 : (w:Int).tdiv 100 = ((w / 100 : Nat) : Int) := rfl
 have hd3 := Nat.div_add_mod w 100
 have hb5 : w % 100 < 100 := Nat.mod_lt _ (by omega)
 have hb6 : w / 100 < 10 := by omega
 generalize hz : w % 100 = c0 at *
 generalize ht : w / 100 = c1 at *
 have wc : IntKind.wrap .u32 (c1:Int) = c1 := by simp [IntKind.wrap,IntKind.signed,IntKind.bits]; omega
 have l1 := conv8 c1 (by omega)
 have l2 := add48 c1 (by omega)
 have w32 : ∀ x : Nat,x < 100 → IntKind.wrap .u32 (x:Int) = x := fun x h => by simp [IntKind.wrap,IntKind.signed,IntKind.bits]; omega
 have w32b : ∀ x : Nat,x < 100 → IntKind.wrap .u32 ((x:Int) * 2) = (x:Int) * 2 := fun x h => by simp [IntKind.wrap,IntKind.signed,IntKind.bits]; omega
 have w32c : ∀ x : Nat,x < 100 → IntKind.wrap .u32 ((x:Int) * 2 + 1) = (x:Int) * 2 + 1 := fun x h => by simp [IntKind.wrap,IntKind.signed,IntKind.bits]; omega
 have t1 : ∀ x : Nat,((x:Int) * 2).toNat = 2 * x := fun x => by omega
 have t2 : ∀ x : Nat,((x:Int) * 2 + 1).toNat = 2 * x + 1 := fun x => by omega
 have t3 : ∀ x : Nat,(0:Int) ≤ (x:Int) * 2 := fun x => by omega
 have t4 : ∀ x : Nat,(0:Int) ≤ (x:Int) * 2 + 1 := fun x => by omega
 have s1 : ∀ x : Nat,x < 100 → smalls2[2 * x]? = some (dig (x / 10)) := fun x h => (smalls2_at x h).1
 have s2 : ∀ x : Nat,x < 100 → smalls2[2 * x + 1]? = some (dig (x % 10)) := fun x h => (smalls2_at x h).2
 have p0 : (0:Int) < n := by omega
 have pn0 : 0 < n := by omega
 have p1 : (1:Int) < n := by omega
 have pn1 : 1 < n := by omega
 have p2 : (2:Int) < n := by omega
 have pn2 : 2 < n := by omega
 have p3 : (3:Int) < n := by omega
 have pn3 : 3 < n := by omega
 have p4 : (4:Int) < n := by omega
 have pn4 : 4 < n := by omega
 have p5 : (5:Int) < n := by omega
 have pn5 : 5 < n := by omega
 have p6 : (6:Int) < n := by omega
 have pn6 : 6 < n := by omega
 match f,hf with
 | [x0,x1,x2,x3,x4,x5,x6],_ =>
 generalize hcs : p ++ ([x0,x1,x2,x3,x4,x5,x6] ++ r) = cs
 have hcl : p.length + 7 ≤ cs.length := by rw [← hcs]; simp
 have b0 : p.length < cs.length := by omega
 have e0 : p.length + 1 ≤ cs.length := by omega
 have b1 : p.length + 1 < cs.length := by omega
 have e1 : p.length + 1 + 1 ≤ cs.length := by omega
 have b2 : p.length + 2 < cs.length := by omega
 have e2 : p.length + 2 + 1 ≤ cs.length := by omega
 have b3 : p.length + 3 < cs.length := by omega
 have e3 : p.length + 3 + 1 ≤ cs.length := by omega
 have b4 : p.length + 4 < cs.length := by omega
 have e4 : p.length + 4 + 1 ≤ cs.length := by omega
 have b5 : p.length + 5 < cs.length := by omega
 have e5 : p.length + 5 + 1 ≤ cs.length := by omega
 have b6 : p.length + 6 < cs.length := by omega
 have e6 : p.length + 6 + 1 ≤ cs.length := by omega
 have hdig : digN 7 u = [dig c1,dig (c0 / 10),dig (c0 % 10),dig (a1 / 10),dig (a1 % 10),dig (a0 / 10),dig (a0 % 10)] := by
   have z0 : u % 10 = a0 % 10 := by omega
   have z1 : u / 10 % 10 = a0 / 10 := by omega
   have z2 : u / 10 / 10 % 10 = a1 % 10 := by omega
   have z3 : u / 10 / 10 / 10 % 10 = a1 / 10 := by omega
   have z4 : u / 10 / 10 / 10 / 10 % 10 = c0 % 10 := by omega
   have z5 : u / 10 / 10 / 10 / 10 / 10 % 10 = c0 / 10 := by omega
   have z6 : u / 10 / 10 / 10 / 10 / 10 / 10 % 10 = c1 := by omega
   simp [digN,z0,z1,z2,z3,z4,z5,z6]
 rw [hdig]
 simp [-put,fbTail,i_isc_formatBase10,q1,q2,q3,q4,hb3,hb4,ww,q5,q6,hb5,wc,l1,l2,w0,w32,w32b,w32c,t1,t2,t3,t4,s1,s2,hlo,put_set,p0,pn0,p1,pn1,p2,pn2,p3,pn3,p4,pn4,p5,pn5,p6,pn6,b0,e0,b1,e1,b2,e2,b3,e3,b4,e4,b5,e5,b6,e6,show IntKind.wrap .i64 0 = 0 from rfl,show IntKind.wrap .i64 1 = 1 from rfl,show IntKind.wrap .i64 2 = 2 from rfl,show IntKind.wrap .i64 3 = 3 from rfl,show IntKind.wrap .i64 4 = 4 from rfl,show IntKind.wrap .i64 5 = 5 from rfl,show IntKind.wrap .i64 6 = 6 from rfl,show IntKind.wrap .i64 7 = 7 from rfl]
 rw [← hcs]
 simp [List.set_append_right,digA]
end
end Go.Proofs.YtkofimhnehkdoaaGreatDoor.Rf
end
section
namespace Go.Proofs.YtkofimhnehkdoaaGreatDoor.Rf
@[simp] theorem cp_data (xs:List AV) (e:Nat) : AV.cp (.data xs e) = .data xs e := rfl
abbrev bytesA (bs:List UInt8) : List AV := bs.map fun b => AV.int .u8 (b.toNat : Int)
def BW (hp:List HObj) (bs:List UInt8) : List HObj := hp ++ [.cells 110 [.ptr hp.length 0,.list (bytesA bs) (.own 1 5)]]
def B0 (hp:List HObj) : List HObj := hp ++ [.cells 110 [.nilp,.list [] .nil]]
def BH (hp:List HObj) (bs:List UInt8) : List HObj := if bs = [] then B0 hp else BW hp bs
section
variable {hp:List HObj} {lo:Nat}
@[simp] theorem BW_get (bs:List UInt8) : (BW hp bs)[hp.length]? = some (.cells 110 [.ptr hp.length 0,.list (bytesA bs) (.own 1 5)]) := by simp [BW]
@[simp] theorem B0_get : (B0 hp)[hp.length]? = some (.cells 110 [.nilp,.list [] .nil]) := by simp [B0]
@[simp] theorem okSize_bytes (bs:List UInt8) : okSize 1 (bytesA bs) = true := by cases bs <;> simp [bytesA]
theorem copyW_D (hlo:lo ≤ hp.length) (bs:List UInt8) : callD G0 IP n_sb_copyCheck [.ptr hp.length 0] (BW hp bs) lo false = some (.ret (.tup []) (BW hp bs)) := by
 rw [callD_eq]
 simp [IP_sb_copyCheck,i_sb_copyCheck]
theorem copy0_D (hlo:lo ≤ hp.length) : callD G0 IP n_sb_copyCheck [.ptr hp.length 0] (B0 hp) lo false = some (.ret (.tup []) (hp ++ [.cells 110 [.ptr hp.length 0,.list [] .nil]])) := by
 rw [callD_eq]
 simp [IP_sb_copyCheck,i_sb_copyCheck,hlo]
 simp [B0]
theorem wbyte_D (hlo:lo ≤ hp.length) (bs:List UInt8) (c:UInt8) (hb:bs.length + 1 ≤ 140737488355328) : callD G0 IP n_sb_WriteByte [.ptr hp.length 0,.int .u8 c.toNat] (BH hp bs) lo false = some (.ret .nili (BH hp (bs ++ [c]))) := by
 rw [callD_eq]
 have h63 : bs.length + 1 ≤ 9223372036854775807 := by omega
 by_cases h0 : bs = []
 · subst h0
   have e1 := copy0_D (hp := hp) (lo := lo) hlo
   simp [IP_sb_WriteByte,i_sb_WriteByte,BH,e1,hlo]
   simp [BW]
 · have e1 := copyW_D (hp := hp) (lo := lo) hlo bs
   simp [IP_sb_WriteByte,i_sb_WriteByte,BH,h0,e1,hlo,hb,h63]
   simp [BW]
theorem wstr_D (hlo:lo ≤ hp.length) (bs cs:List UInt8) (hc:cs ≠ []) (hb:bs.length + cs.length ≤ 140737488355328) : callD G0 IP n_sb_WriteString [.ptr hp.length 0,.str cs] (BH hp bs) lo false = some (.ret (.tup [.int .i64 cs.length,.nili]) (BH hp (bs ++ cs))) := by
 rw [callD_eq]
 have h63 : bs.length + cs.length ≤ 9223372036854775807 := by omega
 by_cases h0 : bs = []
 · subst h0
   have e1 := copy0_D (hp := hp) (lo := lo) hlo
   have hb' : cs.length ≤ 140737488355328 := by simpa using hb
   have h63' : cs.length ≤ 9223372036854775807 := by omega
   simp [IP_sb_WriteString,i_sb_WriteString,BH,e1,hlo,hc,hb',h63']
   simp [BW]
 · have e1 := copyW_D (hp := hp) (lo := lo) hlo bs
   simp [IP_sb_WriteString,i_sb_WriteString,BH,h0,hc,e1,hlo,hb,h63]
   simp [BW]
theorem bytesOf_bytes : ∀ bs : List UInt8,bytesOf (bytesA bs) = some bs
 | [] => rfl
 | b :: r => by
   have h := bytesOf_bytes r
   have h1 : (b.toNat : Int) < 256 := by have := b.toNat_lt; omega
   simp only [bytesA,List.map_cons,bytesOf]
   rw [if_pos ⟨by omega,h1⟩]
   simp only [bytesA] at h
   rw [h]; simp
theorem bstr_D (hlo:lo ≤ hp.length) (bs:List UInt8) (hb:bs.length ≤ 140737488355328) : callD G0 IP n_sb_String [.ptr hp.length 0] (BH hp bs) lo false = some (.ret (.str bs) (BH hp bs)) := by
 rw [callD_eq]
 have h63 : (bs.length : Int) ≤ 9223372036854775807 := by omega
 by_cases h0 : bs = []
 · subst h0
   simp [IP_sb_String,i_sb_String,BH]
 · have h1 := bytesOf_bytes bs
   simp only [bytesA] at h1
   simp [IP_sb_String,i_sb_String,BH,h0,Own.cp_own,Own.cp_view,h1,h63]
end
mutual
def S.text : S → List UInt8
 | .mk a _ l => if a = [] then 40 :: (S.texts true l ++ [41]) else a
def S.texts : Bool → List S → List UInt8
 | _,[] => []
 | b,t :: r => (if b then [] else [32]) ++ (t.text ++ S.texts false r)
end
theorem S.text_eq (t:S) : t.text = if t.atom = [] then 40 :: (S.texts true t.list ++ [41]) else t.atom := by cases t; rfl
theorem S.text_ne (t:S) : t.text ≠ [] := by
 rw [S.text_eq]; split <;> simp_all
theorem S.texts_app (b:Bool) : ∀ (l:List S) (t:S),S.texts b (l ++ [t]) = S.texts b l ++ ((if b && l.isEmpty then [] else [32]) ++ t.text)
 | [],t => by cases b <;> simp [S.texts]
 | u :: r,t => by
   rw [List.cons_append]
   simp only [S.texts]
   rw [S.texts_app false r t]
   simp
section
variable {hp:List HObj} {lo:Nat}
theorem texts_take_len {b:Bool} {l:List S} {i:Nat} (h:i < l.length) : S.texts b (l.take (i + 1)) = S.texts b (l.take i) ++ ((if b && decide (i = 0) then [] else [32]) ++ l[i].text) := by
 rw [List.take_succ_eq_append_getElem h,S.texts_app]
 have : (l.take i).isEmpty = decide (i = 0) := by
   cases i with
   | zero => simp
   | succ i => cases l with
     | nil => simp at h
     | cons x r => simp
 rw [this]
theorem texts_le {b:Bool} (l:List S) (i:Nat) : (S.texts b (l.take i)).length ≤ (S.texts b l).length := by
 have : ∀ (l:List S) (b:Bool) (i:Nat),(S.texts b (l.take i)).length ≤ (S.texts b l).length := by
   intro l
   induction l with
   | nil => intro b i; simp
   | cons x r ih =>
     intro b i
     cases i with
     | zero => simp [S.texts]
     | succ i =>
       simp only [List.take_succ_cons,S.texts,List.length_append]
       have := ih false i
       omega
 exact this l b i
theorem write_D (t:S) : t.wf → ∀ {hp:List HObj} {lo:Nat},lo ≤ hp.length → ∀ (bs:List UInt8),bs.length + t.text.length ≤ 140737488355328 → callD G0 IP n_sx_write [.ptr hp.length 0,t.av] (BH hp bs) lo false = some (.ret (.tup []) (BH hp (bs ++ t.text))) := by
 induction t using S.ind with | h t ih =>
 intro hw hp lo hlo bs hb
 rw [S.wf_eq] at hw
 obtain ⟨_,hl,_,hws⟩ := hw
 rw [callD_eq]
 have ht := S.text_eq t
 by_cases ha : t.atom = []
 · rw [if_pos ha] at ht
   rw [ht] at hb ⊢
   simp only [List.length_cons,List.length_append,List.length_nil] at hb
   have e1 := wbyte_D (hp := hp) (lo := lo) hlo bs 40 (by omega)
   have e2 := wbyte_D (hp := hp) (lo := lo) hlo (bs ++ 40 :: S.texts true t.list) 41 (by simp; omega)
   have hloop := loop_iter (G := G0) (IP := IP) (lo := lo) (b := l_sx_write_0)
     (fun i => ⟨[(0,.ptr hp.length 0),(16,.list (S.avs t.list) (ownB t.o)),(17,.int .i64 t.list.length),(18,.int .i64 i)],BH hp (bs ++ 40 :: S.texts true (t.list.take i))⟩) t.list.length
     (r := (.exit 0,⟨[(0,.ptr hp.length 0),(16,.list (S.avs t.list) (ownB t.o)),(17,.int .i64 t.list.length),(18,.int .i64 t.list.length),(19,.bool false)],BH hp (bs ++ 40 :: S.texts true t.list)⟩)) (fun i hi => by
       have hle := texts_le (b := true) t.list (i + 1)
       rw [texts_take_len hi] at hle
       simp only [List.length_append] at hle
       have hw := wrap_succ hi hl
       have hiI : (i:Int) < (t.list.length : Int) := by omega
       by_cases h0 : i = 0
       · subst h0
         have e3 := ih t.list[0] (List.getElem_mem hi) (hws _ (List.getElem_mem hi)) hlo (bs ++ [40]) (by simp at hle ⊢; omega)
         rw [S.av_eq] at e3
         rw [texts_take_len hi]
         simp [l_sx_write_0,hi,S.av_eq t.list[0],S.texts] at e3 ⊢
         simp [e3,show IntKind.wrap .i64 1 = 1 from rfl]
       · have h0' : 0 < i := by omega
         have hle2 : ((if true && decide (i = 0) then ([] : List UInt8) else [32])).length = 1 := by simp [h0]
         rw [hle2] at hle
         have e4 := wbyte_D (hp := hp) (lo := lo) hlo (bs ++ 40 :: S.texts true (t.list.take i)) 32 (by simp; omega)
         have e3 := ih t.list[i] (List.getElem_mem hi) (hws _ (List.getElem_mem hi)) hlo (bs ++ 40 :: S.texts true (t.list.take i) ++ [32]) (by simp; omega)
         rw [S.av_eq] at e3
         rw [texts_take_len hi,← hw]
         simp at e3 e4
         simp [l_sx_write_0,hi,hiI,h0,h0',S.av_eq t.list[i],e3,e4])
     (by simp [l_sx_write_0]) (by simp)
   simp [S.texts] at hloop
   simp at e1 e2
   rw [S.av_eq t]
   simp [IP_sx_write,i_sx_write,ha,e1,e2,hloop]
 · rw [if_neg ha] at ht
   rw [ht] at hb ⊢
   have e1 := wstr_D (hp := hp) (lo := lo) hlo bs t.atom ha hb
   rw [S.av_eq t]
   simp [IP_sx_write,i_sx_write,ha,e1]
end
end Go.Proofs.YtkofimhnehkdoaaGreatDoor.Rf
end
section
namespace Go.Proofs.YtkofimhnehkdoaaGreatDoor.Rf
section
variable {hp:List HObj} {lo:Nat}
theorem fb_tail (hlo:lo ≤ hp.length) (p r:List AV) (n u i:Nat) (hi:i ≤ 7) (hn:i ≤ n) (hu:u < 10 ^ i) (f:List AV) (hf:f.length = i) :
   ∃ fr,evalC G0 (callD G0 IP) (loopD G0 IP lo) lo fbTail ⟨frB hp p.length n u i ++ [(20,.bool false)],HB hp (p ++ (f ++ r))⟩ = some (.normal,⟨fr,HB hp (p ++ (digA (digN i u) ++ r))⟩) := by
 match i,hi with
 | 0,_ => exact fb_tail0 hlo p r n u hn hu f hf
 | 1,_ => exact fb_tail1 hlo p r n u hn hu f hf
 | 2,_ => exact fb_tail2 hlo p r n u hn hu f hf
 | 3,_ => exact fb_tail3 hlo p r n u hn hu f hf
 | 4,_ => exact fb_tail4 hlo p r n u hn hu f hf
 | 5,_ => exact fb_tail5 hlo p r n u hn hu f hf
 | 6,_ => exact fb_tail6 hlo p r n u hn hu f hf
 | 7,_ => exact fb_tail7 hlo p r n u hn hu f hf
theorem fb_body : i_isc_formatBase10.body = .seq (.region [oO 17 (.mv (tU 0)),oO 18 (.len (tU 17) .list),oO 4 (.mv (tV 18))] [0,1,4]) (.seq (.block 0 (.loop l_isc_formatBase10_0)) fbTail) := rfl
theorem formatBase10_D (hlo:lo ≤ hp.length) (p f r:List AV) (n u:Nat) (hf:f.length = n) (hn:n ≤ 20) (hu:u < 10 ^ n) (hu2:u < 18446744073709551616) :
   callD G0 IP n_isc_formatBase10 [.sref hp.length p.length n 1,.int .u64 u] (HB hp (p ++ (f ++ r))) lo false = some (.ret (.tup []) (HB hp (p ++ (digA (digN n u) ++ r)))) := by
 have h1 := fb_loop (hp := hp) (lo := lo) hlo p r n (by omega) n f [] u hf (by simp) hu2
 simp only [digA,List.map_nil,List.nil_append,List.append_nil] at h1
 have hsum : n % 8 + 8 * (n / 8) = n := by omega
 have hu3 : u / 10 ^ (8 * (n / 8)) < 10 ^ (n % 8) := by
   rw [Nat.div_lt_iff_lt_mul (Nat.pow_pos (by omega)),← Nat.pow_add,hsum]; exact hu
 obtain ⟨fr,h2⟩ := fb_tail (hp := hp) (lo := lo) hlo p (digA (digN (8 * (n / 8)) u) ++ r) n (u / 10 ^ (8 * (n / 8))) (n % 8) (by omega) (by omega) hu3 (f.take (n % 8)) (by simp; omega)
 have h3 : digA (digN n u) = digA (digN (n % 8) (u / 10 ^ (8 * (n / 8)))) ++ digA (digN (8 * (n / 8)) u) := by
   rw [← digA_app,← digN_app,hsum]
 rw [h3]
 simp only [digA] at h2 ⊢
 clear h3 hsum hu3
 generalize u / 10 ^ (8 * (n / 8)) = w at *
 generalize n % 8 = m at *
 rw [callD_eq]
 have g1 : i_isc_formatBase10.arity = 2 := rfl
 have g2 : i_isc_formatBase10.res = [] := rfl
 have g3 : i_isc_formatBase10.rcv = none := rfl
 have g4 : i_isc_formatBase10.dfr = none := rfl
 have g5 : i_isc_formatBase10.frz = [] := rfl
 have g6 : i_isc_formatBase10.still = false := rfl
 simp only [List.cons_append,List.nil_append] at h2
 simp [IP_isc_formatBase10,g1,g2,g3,g4,g5,g6,fb_body,hf,h1,h2]
theorem bytesOf_digA (l:List UInt8) : bytesOf (l.map fun c => AV.int .u8 (c.toNat : Int)) = some l := bytesOf_bytes l
abbrev Z24 : List AV := [.int .u8 0,.int .u8 0,.int .u8 0,.int .u8 0,.int .u8 0,.int .u8 0,.int .u8 0,.int .u8 0,.int .u8 0,.int .u8 0,.int .u8 0,.int .u8 0,.int .u8 0,.int .u8 0,.int .u8 0,.int .u8 0,.int .u8 0,.int .u8 0,.int .u8 0,.int .u8 0,.int .u8 0,.int .u8 0,.int .u8 0,.int .u8 0]
theorem formatUint_D (u:Nat) (hu:u < 18446744073709551616) (hp:List HObj) (lo:Nat) (q:Bool) : callD G0 IP n_isc_FormatUint [.int .u64 u,.int .i64 10] hp lo q = some (.ret (.str (dec u)) hp) := by
 rw [callD_eq]
 by_cases h : u < 100
 · have h' : (u:Int) < 100 := by omega
   have hw : IntKind.wrap .i64 (u:Int) = u := wrap_small (by omega) (by omega)
   have e := fun hp lo q => small_D (hp := hp) (lo := lo) q u h
   simp [IP_isc_FormatUint,i_isc_FormatUint,h',hw,e]
 · have h' : ¬ (u:Int) < 100 := by omega
   obtain ⟨n,n1,n2,n3,n4⟩ := numDigits_D u (by omega) hu
   have hd : digN (n + 1) u = dec u := digN_dec n u n3 (.inr n2)
   have e1 := formatBase10_D (hp := hp) (lo := hp.length) (Nat.le_refl _) [] (Z24.take (n + 1)) (Z24.drop (n + 1)) (n + 1) u (by simp; omega) (by omega) n3 hu
   rw [List.take_append_drop,hd] at e1
   have k1 : (0:Int) ≤ (n:Int) + 1 := by omega
   have k2 : n + 1 ≤ 24 := by omega
   have k3 : ((n:Int) + 1).toNat = n + 1 := by omega
   have hl : (dec u).length = n + 1 := by rw [← hd,digN_len]
   simp [digA] at e1
   have k4 : 24 ≤ (dec u).length + (23 - n) := by omega
   have k5 : ∀ X,List.take (n + 1) (((dec u).map fun c => AV.int .u8 (c.toNat : Int)) ++ X) = (dec u).map fun c => AV.int .u8 (c.toNat : Int) := fun X => List.take_left' (by simp; omega)
   have k6 : n + 1 ≤ (dec u).length + (23 - n) := by omega
   simp [IP_isc_FormatUint,i_isc_FormatUint,h',n4,k1,k2,k3,k4,k5,k6,bytesOf_digA,e1]
theorem formatUintS_D (u:Nat) (hu:u < 18446744073709551616) (hp:List HObj) (lo:Nat) (q:Bool) : callD G0 IP n_sc_FormatUint [.int .u64 u,.int .i64 10] hp lo q = some (.ret (.str (dec u)) hp) := by
 rw [callD_eq]
 simp [IP_sc_FormatUint,i_sc_FormatUint,formatUint_D u hu]
theorem decT_D (v:Int) (h0:0 ≤ v) (hv:v < 18446744073709551616) (hp:List HObj) (lo:Nat) (q:Bool) : callD G0 IP n_digits_Dec [.int .u64 v] hp lo q = some (.ret (.str (decI v)) hp) := by
 have e := formatUintS_D v.toNat (by omega)
 rw [Int.toNat_of_nonneg h0] at e
 rw [callD_eq]
 simp [IP_digits_Dec,i_digits_Dec,e,decI]
theorem intT_D (w:Int) (h0:0 ≤ w) (hw:w ≤ 64) (hp:List HObj) (lo:Nat) (q:Bool) : callD G0 IP n_digits_Int [.int .i64 w] hp lo q = some (.ret (.str (decI w)) hp) := by
 have e1 := fun hp lo q => small_D (hp := hp) (lo := lo) q w.toNat (by omega)
 rw [Int.toNat_of_nonneg h0] at e1
 have k : w < 100 := by omega
 have e2 : ∀ hp lo q,callD G0 IP n_isc_FormatInt [.int .i64 w,.int .i64 10] hp lo q = some (.ret (.str (decI w)) hp) := fun hp lo q => by
   rw [callD_eq]; simp [IP_isc_FormatInt,i_isc_FormatInt,h0,k,e1,decI]
 have e3 : ∀ hp lo q,callD G0 IP n_isc_Itoa [.int .i64 w] hp lo q = some (.ret (.str (decI w)) hp) := fun hp lo q => by
   rw [callD_eq]; simp [IP_isc_Itoa,i_isc_Itoa,e2]
 have e4 : ∀ hp lo q,callD G0 IP n_sc_Itoa [.int .i64 w] hp lo q = some (.ret (.str (decI w)) hp) := fun hp lo q => by
   rw [callD_eq]; simp [IP_sc_Itoa,i_sc_Itoa,e3]
 rw [callD_eq]
 simp [IP_digits_Int,i_digits_Int,e4]
def d16 : List UInt8 := [48,49,50,51,52,53,54,55,56,57,97,98,99,100,101,102]
theorem d16_at (d:Nat) (h:d < 10) : (d16.take (d + 1)).drop d = [dig d] := by
 have : ∀ d : Fin 10,(d16.take (d.val + 1)).drop d.val = [dig d.val] := by decide +kernel
 exact this ⟨d,h⟩
theorem write2_L (hp:List HObj) (lo:Nat) : ∀ (u:Nat) (s:List UInt8),u < 18446744073709551616 → s.length + (dec u).length ≤ 1000 →
   ∃ u' : Nat,loopD G0 IP lo l_sr02_write_0 ⟨[(0,.int .u64 u),(1,.int .u64 10),(5,.str (dig (u % 10) :: s))],hp⟩ = some (.exit 0,⟨[(0,.int .u64 u'),(1,.int .u64 10),(5,.str (dec u ++ s)),(16,.bool false)],hp⟩) := by
 intro u
 induction u using Nat.strongRecOn with
 | _ u ih =>
   intro s hu hs
   rw [loopD_eq,loopBody]
   by_cases h : u < 10
   · have h' : ¬ (10:Int) ≤ (u:Int) := by omega
     have e : u % 10 = u := by omega
     refine ⟨u,?_⟩
     rw [dec_small h,e]
     simp [l_sr02_write_0,h']
   · have h' : (10:Int) ≤ (u:Int) := by omega
     have hb := dec_big (n := u) (by omega)
     have hl := congrArg List.length hb
     simp at hl
     obtain ⟨u',e⟩ := ih (u / 10) (by omega) (dig (u % 10) :: s) (by omega) (by simp; omega)
     have q1 : (u:Int).tdiv 10 = ((u / 10 : Nat) : Int) := rfl
     have w1 : IntKind.wrap .u64 ((u / 10 : Nat) : Int) = ((u / 10 : Nat) : Int) := by simp [IntKind.wrap,IntKind.signed,IntKind.bits]; omega
     have hm : u / 10 % 10 < 10 := Nat.mod_lt _ (by omega)
     have q2 : ((u / 10 : Nat) : Int).tmod 10 = ((u / 10 % 10 : Nat) : Int) := rfl
     have hat := d16_at (u / 10 % 10) hm
     rw [hb,List.append_assoc]
     refine ⟨u',?_⟩
     rw [show [dig (u % 10)] ++ s = dig (u % 10) :: s from rfl]
     generalize dig (u % 10) = c at *
     generalize u / 10 = v at *
     generalize v % 10 = m at *
     have w2 : IntKind.wrap .u64 ((m:Int) + 1) = (m:Int) + 1 := by simp [IntKind.wrap,IntKind.signed,IntKind.bits]; omega
     have k1 : (0:Int) ≤ (m:Int) + 1 := by omega
     have k2 : m + 1 ≤ 16 := by omega
     have k3 : ((m:Int) + 1).toNat = m + 1 := toNat_add m 1
     simp [d16] at hat
     have k4 : 1 + (s.length + 1) ≤ 9223372036854775807 := by omega
     simp [l_sr02_write_0,h',q1,w1,q2,w2,k1,k2,k3,k4,hat]
     exact e
theorem dec2_D (v:Int) (h0:0 ≤ v) (hv:v < 18446744073709551616) (hp:List HObj) (lo:Nat) (q:Bool) : callD G0 IP n_sr02_Dec [.int .u64 v] hp lo q = some (.ret (.str (decI v)) hp) := by
 have ew : ∀ hp lo q,callD G0 IP n_sr02_write [.int .u64 v,.int .u64 10] hp lo q = some (.ret (.str (decI v)) hp) := fun hp lo q => by
   obtain ⟨u,rfl⟩ : ∃ u : Nat,v = u := ⟨v.toNat,by omega⟩
   have hu : u < 18446744073709551616 := by omega
   obtain ⟨u',e⟩ := write2_L hp hp.length u [] hu (by have := dec_len20 hu; simp; omega)
   have hm : u % 10 < 10 := Nat.mod_lt _ (by omega)
   have q2 : (u:Int).tmod 10 = ((u % 10 : Nat) : Int) := rfl
   have hat := d16_at (u % 10) hm
   have hI : decI (u:Int) = dec u := rfl
   rw [callD_eq,hI]
   rw [List.append_nil] at e
   generalize u % 10 = m at *
   have w2 : IntKind.wrap .u64 ((m:Int) + 1) = (m:Int) + 1 := by simp [IntKind.wrap,IntKind.signed,IntKind.bits]; omega
   have k1 : (0:Int) ≤ (m:Int) + 1 := by omega
   have k2 : m + 1 ≤ 16 := by omega
   have k3 : ((m:Int) + 1).toNat = m + 1 := toNat_add m 1
   simp [d16] at hat
   simp [IP_sr02_write,i_sr02_write,q2,w2,k1,k2,k3,hat,e]
 rw [callD_eq]
 simp [IP_sr02_Dec,i_sr02_Dec,ew]
theorem int2_D (w:Int) (h0:0 ≤ w) (hw:w ≤ 64) (hp:List HObj) (lo:Nat) (q:Bool) : callD G0 IP n_sr02_Int [.int .i64 w] hp lo q = some (.ret (.str (decI w)) hp) := by
 have e := dec2_D w h0 (by omega)
 have hw' : IntKind.wrap .u64 w = w := by simp [IntKind.wrap,IntKind.signed,IntKind.bits]; omega
 rw [callD_eq]
 simp [IP_sr02_Int,i_sr02_Int,h0,hw',e]
end
end Go.Proofs.YtkofimhnehkdoaaGreatDoor.Rf
end
section
namespace Go.Proofs.YtkofimhnehkdoaaGreatDoor.Rf
def decZ (n:Int) : List UInt8 := if 0 ≤ n then decI n else 45 :: decI (-n)
section
variable {hp:List HObj} {lo:Nat}
set_option maxHeartbeats 1000000 in
theorem formatInt_D (w:Int) (h0:-9223372036854775808 ≤ w) (h1:w ≤ 9223372036854775807) (hp:List HObj) (lo:Nat) (q:Bool) : callD G0 IP n_isc_FormatInt [.int .i64 w,.int .i64 10] hp lo q = some (.ret (.str (decZ w)) hp) := by
 rw [callD_eq]
 by_cases hs : 0 ≤ w ∧ w < 100
 · have e1 := fun hp lo q => small_D (hp := hp) (lo := lo) q w.toNat (by omega)
   rw [Int.toNat_of_nonneg hs.1] at e1
   simp [IP_isc_FormatInt,i_isc_FormatInt,hs.1,hs.2,e1,decZ,decI]
 · by_cases hn : 0 ≤ w
   · have h100 : ¬ w < 100 := by omega
     have hneg : ¬ w < 0 := by omega
     have hwu : IntKind.wrap .u64 w = w := by simp [IntKind.wrap,IntKind.signed,IntKind.bits]; omega
     obtain ⟨u,rfl⟩ : ∃ u : Nat,w = u := ⟨w.toNat,by omega⟩
     obtain ⟨n,n1,n2,n3,n4⟩ := numDigits_D u (by omega) (by omega)
     have hd : digN (n + 1) u = dec u := digN_dec n u n3 (.inr n2)
     have e1 := formatBase10_D (hp := hp) (lo := hp.length) (Nat.le_refl _) [.int .u8 0] ((Z24.drop 1).take (n + 1)) ((Z24.drop 1).drop (n + 1)) (n + 1) u (by simp; omega) (by omega) n3 (by omega)
     rw [List.take_append_drop,hd] at e1
     have k1 : (0:Int) ≤ 1 + ((n:Int) + 1) := by omega
     have k2 : n + 2 ≤ 24 := by omega
     have k3 : (1 + ((n:Int) + 1)).toNat = n + 2 := by omega
     have hl : (dec u).length = n + 1 := by rw [← hd,digN_len]
     have hw2 : IntKind.wrap .i64 (1 + ((n:Int) + 1)) = 1 + ((n:Int) + 1) := wrap_small (by omega) (by omega)
     have hz : decZ (u:Int) = dec u := by simp [decZ,decI]
     rw [hz]
     have k4 : 23 ≤ (dec u).length + (22 - n) := by omega
     have k5 : ∀ X,List.take (n + 1) (((dec u).map fun c => AV.int .u8 (c.toNat : Int)) ++ X) = (dec u).map fun c => AV.int .u8 (c.toNat : Int) := fun X => List.take_left' (by simp; omega)
     have k6 : 1 + (n + 1) ≤ (dec u).length + (22 - n) + 1 := by omega
     have k7 : n + 1 ≤ (dec u).length + (22 - n) := by omega
     have k8 : n + 2 ≤ (dec u).length + (22 - n) + 1 := by omega
     simp [digA] at e1
     simp [IP_isc_FormatInt,i_isc_FormatInt,h100,hneg,hwu,n4,k1,k2,k3,k4,k5,k6,k7,k8,hw2,bytesOf_digA,e1]
   · have hneg : w < 0 := by omega
     obtain ⟨u,hu⟩ : ∃ u : Nat,w = -(u:Int) := ⟨(-w).toNat,by omega⟩
     subst hu
     have hwu : IntKind.wrap .u64 (-(u:Int)) = 18446744073709551616 - (u:Int) := by simp [IntKind.wrap,IntKind.signed,IntKind.bits]; omega
     have hwn : IntKind.wrap .u64 (-(18446744073709551616 - (u:Int))) = u := by simp [IntKind.wrap,IntKind.signed,IntKind.bits]; omega
     obtain ⟨n,n1,n2,n3,n4⟩ := numDigits_D u (by omega) (by omega)
     have hd : digN (n + 1) u = dec u := digN_dec n u n3 (.inr n2)
     have e1 := formatBase10_D (hp := hp) (lo := hp.length) (Nat.le_refl _) [.int .u8 0] ((Z24.drop 1).take (n + 1)) ((Z24.drop 1).drop (n + 1)) (n + 1) u (by simp; omega) (by omega) n3 (by omega)
     rw [List.take_append_drop,hd] at e1
     have k1 : (0:Int) ≤ 1 + ((n:Int) + 1) := by omega
     have k2 : n + 2 ≤ 24 := by omega
     have k3 : (1 + ((n:Int) + 1)).toNat = n + 2 := by omega
     have hl : (dec u).length = n + 1 := by rw [← hd,digN_len]
     have hw2 : IntKind.wrap .i64 (1 + ((n:Int) + 1)) = 1 + ((n:Int) + 1) := wrap_small (by omega) (by omega)
     have hz : decZ (-(u:Int)) = 45 :: dec u := by simp [decZ,decI]; omega
     have hb45 : AV.int .u8 45 = AV.int .u8 (((45:UInt8).toNat : Nat) : Int) := rfl
     have hu0 : 0 < u := by omega
     have hu1 : ¬ u = 0 := by omega
     rw [hz]
     have k4 : 23 ≤ (dec u).length + (22 - n) := by omega
     have k5 : ∀ X,List.take (n + 1) (((dec u).map fun c => AV.int .u8 (c.toNat : Int)) ++ X) = (dec u).map fun c => AV.int .u8 (c.toNat : Int) := fun X => List.take_left' (by simp; omega)
     have k6 : 1 + (n + 1) ≤ (dec u).length + (22 - n) + 1 := by omega
     have k7 : n + 1 ≤ (dec u).length + (22 - n) := by omega
     have k8 : n + 2 ≤ (dec u).length + (22 - n) + 1 := by omega
     have hb : bytesOf (AV.int .u8 45 :: (dec u).map fun c => AV.int .u8 (c.toNat : Int)) = some (45 :: dec u) := bytesOf_digA (45 :: dec u)
     simp [digA] at e1
     simp [IP_isc_FormatInt,i_isc_FormatInt,hneg,hu0,hu1,hwu,hwn,n4,k1,k2,k3,k4,k5,k6,k7,k8,hw2,hb,e1]
theorem itoa_D (w:Int) (h0:-9223372036854775808 ≤ w) (h1:w ≤ 9223372036854775807) (hp:List HObj) (lo:Nat) (q:Bool) : callD G0 IP n_digits_Int [.int .i64 w] hp lo q = some (.ret (.str (decZ w)) hp) := by
 have e2 := formatInt_D w h0 h1
 have e3 : ∀ hp lo q,callD G0 IP n_isc_Itoa [.int .i64 w] hp lo q = some (.ret (.str (decZ w)) hp) := fun hp lo q => by
   rw [callD_eq]; simp [IP_isc_Itoa,i_isc_Itoa,e2]
 have e4 : ∀ hp lo q,callD G0 IP n_sc_Itoa [.int .i64 w] hp lo q = some (.ret (.str (decZ w)) hp) := fun hp lo q => by
   rw [callD_eq]; simp [IP_sc_Itoa,i_sc_Itoa,e3]
 rw [callD_eq]
 simp [IP_digits_Int,i_digits_Int,e4]
theorem intZ2_D (w:Int) (h0:-9223372036854775808 ≤ w) (h1:w ≤ 9223372036854775807) (hp:List HObj) (lo:Nat) (q:Bool) : callD G0 IP n_sr02_Int [.int .i64 w] hp lo q = some (.ret (.str (decZ w)) hp) := by
 rw [callD_eq]
 by_cases hn : 0 ≤ w
 · have e := dec2_D w hn (by omega)
   have hw' : IntKind.wrap .u64 w = w := by simp [IntKind.wrap,IntKind.signed,IntKind.bits]; omega
   simp [IP_sr02_Int,i_sr02_Int,hn,hw',e,decZ]
 · have e := dec2_D (-w) (by omega) (by omega)
   have a1 : IntKind.wrap .i64 (w + 1) = w + 1 := by simp [IntKind.wrap,IntKind.signed,IntKind.bits]; omega
   have a2 : IntKind.wrap .i64 (-(w + 1)) = -(w + 1) := by simp [IntKind.wrap,IntKind.signed,IntKind.bits]; omega
   have a3 : IntKind.wrap .u64 (-(w + 1)) = -(w + 1) := by simp [IntKind.wrap,IntKind.signed,IntKind.bits]; omega
   have a4 : IntKind.wrap .u64 (-(w + 1) + 1) = -w := by simp [IntKind.wrap,IntKind.signed,IntKind.bits]; omega
   have hl := dec_len20 (n := (-w).toNat) (by omega)
   have b1 : 1 + (decI (-w)).length ≤ 9223372036854775807 := by unfold decI; omega
   simp [IP_sr02_Int,i_sr02_Int,hn,a1,a2,a3,a4,e,decZ,b1]
end
end Go.Proofs.YtkofimhnehkdoaaGreatDoor.Rf
end
