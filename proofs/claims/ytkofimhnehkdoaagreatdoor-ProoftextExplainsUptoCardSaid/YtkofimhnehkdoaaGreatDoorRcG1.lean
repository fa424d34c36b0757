/- A part of the proof: see the last text. -/
import GoSem.Dispatch
import Derived.Calls
import Derived.RowKit
import Derived.Laws.World
import Derived.Laws.Sem
set_option linter.unusedVariables false
set_option linter.unusedSimpArgs false
section
namespace Go.Proofs.YtkofimhnehkdoaaGreatDoor.Rf
inductive Own where
 | no | nil | own (sz e:Nat) | view (e:Nat) | tight
 deriving DecidableEq
def Own.vw : Own → Nat
 | .own _ e => e
 | .view e => e
 | _ => 0
def Own.cp : Own → Own
 | .nil => .nil
 | o => if o.vw = 0 then .no else .view o.vw
def ownE (sz e:Nat) : Own := if e = 999999 then .tight else .own sz e
inductive AV where
 | none
 | bool (b:Bool)
 | int (k:IntKind) (n:Int)
 | str (s:List UInt8)
 | agg (cs:List AV)
 | list (xs:List AV) (o:Own)
 | pend (xs:List AV) (sz:Nat)
 | room (n e:Nat)
 | ptr (id off:Nat)
 | nilp
 | lref (s off:Nat)
 | sref (id off n sz:Nat)
 | box (cs:List AV)
 | eref (x:AV) (off:Nat)
 | data (xs:List AV) (e:Nat)
 | lastr (s:Nat)
 | map (id:Nat)
 | nilm
 | func (f:Nat) (caps:List AV)
 | nilf
 | iface (t:Nat) (v:AV)
 | nili
 | tup (vs:List AV)
 | glob (g off:Nat)
instance : Inhabited AV := ⟨.none⟩
def AV.cells : AV → List AV
 | .agg cs => cs
 | v => [v]
def AV.cp1 : AV → AV
 | .list xs o => .list xs o.cp
 | .pend _ _ | .room _ _ => .none
 | v => v
def AV.cpA : AV → AV
 | .agg cs => .agg (cs.map AV.cp1)
 | v => v.cp1
def AV.cp : AV → AV
 | .tup vs => .tup (vs.map AV.cpA)
 | v => v.cpA
def Own.ck : Own → Own
 | .tight => .tight
 | o => o.cp
def AV.ck1 : AV → AV
 | .list xs o => .list xs o.ck
 | v => v.cp1
def AV.spread : AV → List AV
 | .agg cs => cs.map AV.ck1
 | v => [v]
def AV.keep1 : AV → AV
 | .list xs o => .list xs o
 | v => v.cp
def AV.plain : AV → Bool
 | .none | .tup _ | .pend _ _ | .room _ _ | .lref _ _ | .box _ | .eref _ _ | .data _ _ | .lastr _ => false
 | _ => true
def plains (vs:List AV) : Bool := vs.all AV.plain
abbrev Fr := List (Nat × AV)
def Fr.get : Fr → Nat → AV
 | [],_ => .none
 | (t,v) :: r,s => if t = s then v else Fr.get r s
def Fr.set : Fr → Nat → AV → Fr
 | [],s,v => [(s,v)]
 | (t,u) :: r,s,v => if t = s then (s,v) :: r else (t,u) :: Fr.set r s v
def Fr.keepOk (fr:Fr) : List Nat → List Nat → Bool
 | [],_ => true
 | s :: r,live => (match fr.get s with | .lref t _ => live.contains t | .lastr t => live.contains t | _ => true) && Fr.keepOk fr r live
def Fr.keep (fr:Fr) (live:List Nat) : Fr := live.map fun s => (s,fr.get s)
def AV.husk : AV → AV
 | .box cs => .box (cs.map fun _ => .none)
 | _ => .none
def Fr.husk : Fr → Fr
 | [] => []
 | (t,v) :: r => (t,v.husk) :: Fr.husk r
def Fr.noLast (fr:Fr) (s:Nat) : Bool := fr.all fun e => match fr.get e.1 with | .lastr t => !(t == s) | _ => true
inductive HObj where
 | cells (ty:Nat) (cs:List AV)
 | map (es:List (AV × AV))
 | dead
def HObj.live : HObj → Bool
 | .dead => false
 | _ => true
structure St where
 fr : Fr
 hp : List HObj
inductive Opd where
 | t (s:Nat) (take:Bool)
 | c (v:AV)
 | g (g:Nat)
 | f (f:Nat)
inductive EqK where
 | bool | ptr | iface | func | map | slice | ifaceT (t:Nat)
 deriving DecidableEq
inductive KeyK where
 | int | str | bool
 deriving DecidableEq
inductive Mem where
 | loc (r:Nat) | heap | elem | last (r:Nat)
 deriving DecidableEq
inductive LenK where
 | list | str | map
 deriving DecidableEq
inductive IOp where
 | mv (x:Opd)
 | pick (c a b:Opd)
 | alloc (heap:Bool) (ty:Nat) (cs:List AV)
 | box (heap:Bool) (x:Opd)
 | build (zs:List AV) (ps:List (Nat × Nat × Opd))
 | bslice (z:AV) (e n:Nat) (ps:List (Nat × Opd))
 | load (x:Opd) (m:Mem) (n:Nat) (agg take:Bool)
 | store (x:Opd) (m:Mem) (v:Opd) (n:Nat)
 | nilchk (x:Opd)
 | bin (op:BinOp) (x y:Opd)
 | eq (neg:Bool) (k:EqK) (x y:Opd)
 | un (op:UnOp) (x:Opd)
 | conv (k:IntKind) (x:Opd)
 | mkiface (t:Nat) (x:Opd)
 | mkfunc (f:Nat) (caps:List Opd)
 | mkmap
 | faddr (x:Opd) (off:Nat)
 | field (x:Opd) (off n:Nat) (agg:Bool)
 | iaddrL (x i:Opd) (sz:Nat)
 | iaddrA (x i:Opd) (len sz:Nat)
 | idxS (x i:Opd)
 | slcS (x:Opd) (lo hi:Option Opd)
 | slcL (x:Opd) (lo hi:Option Opd) (sz:Nat)
 | lookup (kd:KeyK) (m k:Opd) (z:AV) (ok take:Bool)
 | mapset (kd:KeyK) (m k v:Opd) (z:AV)
 | len (x:Opd) (kd:LenK)
 | sconv (x:Opd)
 | konst (v:AV)
 | append (x y:Opd) (sz e bytes:Nat) (pend:Bool)
 | min (x y:Opd)
 | max (x y:Opd)
 | extract (x:Opd) (i:Nat)
 | assert (x:Opd) (t:Nat) (z:AV) (ok:Bool)
 | panic (x:Opd)
 | call (f:Opd) (args:List Opd) (quiet:Bool)
 | sdata (x:Opd) (e:Nat)
 | ustr (p n:Opd) (e:Nat)
 | uptr (x:Opd) (u n:Nat)
 | ident (f:Nat) (x:Opd)
 | mkslice (z:AV) (e:Nat) (n c:Opd) (bytes:Nat)
 | mkbuf (z:AV) (e:Nat) (n c:Opd) (bytes:Nat)
 | slcA (x:Opd) (lo hi:Option Opd) (len sz:Nat)
 | strL (x:Opd)
 | bytesS (x:Opd)
 | idxB (f:Nat) (x c:Opd)
 | copyS (x y:Opd)
 | appR (x y:Opd) (sz bytes:Nat)
 | mkroom (f e:Nat) (x:Opd)
 | slcR (s:Nat) (b:Opd)
 | capN (x:Opd)
 | copyN (x y:Opd)
structure IOper where
 dst : Option Nat
 op : IOp
 guard : Option (Nat × Bool)
inductive ICode where
 | skip
 | region (ops:List IOper) (live:List Nat)
 | draw (ops:List IOper) (ord:List Nat) (pans live:List Nat)
 | seq (a b:ICode)
 | cond (c:Opd) (a b:ICode)
 | block (id:Nat) (body:ICode)
 | loop (body:ICode)
 | exit (id:Nat)
 | ret
 | stuck
inductive IRes where
 | tmp (s:Nat)
 | cell (s n:Nat) (agg:Bool)
structure DSpec where
 f : Nat
 caps : List Nat
 t : Nat
 rest : ICode
structure IFun where
 still : Bool
 arity : Nat
 body : ICode
 res : List IRes
 rcv : Option Nat := none
 dfr : Option DSpec := none
 frz : List (Nat × Nat × Nat × Bool) := []
inductive COut where
 | ret (v:AV) (hp:List HObj)
 | pan (v:AV) (hp:List HObj)
abbrev CallF := Nat → List AV → List HObj → Nat → Bool → Option COut
inductive Ex where
 | normal
 | exit (id:Nat)
 | ret
 | pan (v:AV)
inductive OpR where
 | val (v:AV) (st:St)
 | pan (v:AV) (st:St)
def opd (fr:Fr) : Opd → AV × Fr
 | .t s take =>
   match fr.get s with
   | .box _ => (.lref s 0,fr)
   | .pend _ _ | .room _ _ => (.none,fr)
   | v => if take then (v,fr.set s v.cp) else (v.cp,fr)
 | .c v => (v,fr)
 | .g g => (.glob g 0,fr)
 | .f f => (.func f [],fr)
def opds (fr:Fr) : List Opd → List AV × Fr
 | [] => ([],fr)
 | x :: r =>
   let (v,fr1) := opd fr x
   let (vs,fr2) := opds fr1 r
   (v :: vs,fr2)
def cut (cs:List AV) (off n:Nat) : Option (List AV) := if off + n ≤ cs.length then some ((cs.drop off).take n) else none
def put (cs:List AV) (off:Nat) (vs:List AV) : List AV := cs.take off ++ vs ++ cs.drop (off + vs.length)
def behind (G:Nat → Option (List AV)) (st:St) : AV → Option (List AV × Nat)
 | .lref s off => match st.fr.get s with | .box cs => some (cs,off) | _ => none
 | .ptr id off => match st.hp[id]? with | some (.cells _ cs) => some (cs,off) | _ => none
 | .eref x off => some (x.cells,off)
 | .glob g off => (G g).map fun cs => (cs,off)
 | _ => none
def behindPut (lo:Nat) (st:St) (cs:List AV) : AV → Option St
 | .lref s _ => some { st with fr := st.fr.set s (.box cs) }
 | .ptr id _ => if lo ≤ id then match st.hp[id]? with | some (.cells ty _) => some { st with hp := st.hp.set id (.cells ty cs) } | _ => none else none
 | _ => none
def memOk (m:Mem) (p:AV) : Bool :=
 match m,p with
 | .loc r,.lref s _ => Nat.beq s r
 | .heap,.ptr _ _ => true
 | .heap,.glob _ _ => true
 | .elem,.eref _ _ => true
 | .last r,.lastr s => Nat.beq s r
 | _,_ => false
def ofCells (agg:Bool) (cs:List AV) : AV := if agg then .agg cs else cs.headD .none
def intBin (op:BinOp) (k:IntKind) (a b:Int) : Option AV :=
 match op with
 | .add => some (.int k (k.wrap (a + b)))
 | .sub => some (.int k (k.wrap (a - b)))
 | .mul => some (.int k (k.wrap (a * b)))
 | .quo => if b = 0 then none else some (.int k (k.wrap (a.tdiv b)))
 | .rem => if b = 0 then none else some (.int k (a.tmod b))
 | .and => some (.int k (k.wrap (BitVec.ofInt k.bits a &&& BitVec.ofInt k.bits b).toNat))
 | .or => some (.int k (k.wrap (BitVec.ofInt k.bits a ||| BitVec.ofInt k.bits b).toNat))
 | .xor => some (.int k (k.wrap (BitVec.ofInt k.bits a ^^^ BitVec.ofInt k.bits b).toNat))
 | .andNot => some (.int k (k.wrap (BitVec.ofInt k.bits a &&& ~~~ BitVec.ofInt k.bits b).toNat))
 | .eql => some (.bool (a == b))
 | .neq => some (.bool (a != b))
 | .lss => some (.bool (decide (a < b)))
 | .leq => some (.bool (decide (a ≤ b)))
 | .gtr => some (.bool (decide (a > b)))
 | .geq => some (.bool (decide (a ≥ b)))
 | _ => none
def strBin (op:BinOp) (a b:List UInt8) : Option AV :=
 match op with
 | .add => if a.length + b.length ≤ 9223372036854775807 then some (.str (a ++ b)) else none
 | .eql => some (.bool (a == b))
 | .neq => some (.bool (!(a == b)))
 | .lss => some (.bool (Go.Op.bytesLess a b))
 | .leq => some (.bool (Go.Op.bytesLess a b || a == b))
 | .gtr => some (.bool (!(Go.Op.bytesLess a b || a == b)))
 | .geq => some (.bool (!Go.Op.bytesLess a b))
 | _ => none
def shiftBin (op:BinOp) (k:IntKind) (a b:Int) : Option AV :=
 if b < 0 then none else
 match op with
 | .shl => some (.int k (k.wrap (a * 2 ^ (min b.toNat k.bits))))
 | .shr => some (.int k (a.fdiv (2 ^ (min b.toNat k.bits))))
 | _ => none
def eqAV : EqK → AV → AV → Option Bool
 | .bool,.bool a,.bool b => some (a == b)
 | .ptr,.nilp,.nilp => some true
 | .ptr,.nilp,.ptr _ _ => some false
 | .ptr,.ptr _ _,.nilp => some false
 | .ptr,.ptr i o,.ptr j p => if i = j then some (o == p) else none
 | .iface,.nili,.nili => some true
 | .iface,.nili,.iface _ _ => some false
 | .iface,.iface _ _,.nili => some false
 | .ifaceT t,.iface t1 (.int k a),.iface t2 (.int k' b) => if t1 = t2 then (if t1 = t ∧ k = k' then some (a == b) else none) else some false
 | .ifaceT _,.nili,.nili => none
 | .ifaceT _,.nili,.iface _ _ => some false
 | .ifaceT _,.iface _ _,.nili => some false
 | .func,.nilf,.nilf => some true
 | .func,.nilf,.func _ _ => some false
 | .func,.func _ _,.nilf => some false
 | .map,.nilm,.nilm => some true
 | .map,.nilm,.map _ => some false
 | .map,.map _,.nilm => some false
 | .slice,.list [] .nil,.list [] .nil => some true
 | .slice,.list (_ :: _) _,.list [] .nil => some false
 | _,_,_ => none
def binAV (op:BinOp) (x y:AV) : Option AV :=
 match x,y with
 | .int k a,.int k' b =>
   match op with
   | .shl | .shr => shiftBin op k a b
   | _ => if k = k' then intBin op k a b else none
 | .str a,.str b => strBin op a b
 | _,_ => none
def unAV (op:UnOp) (x:AV) : Option AV :=
 match op,x with
 | .neg,.int k n => some (.int k (k.wrap (0 - n)))
 | .xor,.int k n => intBin .xor k (if k.signed then -1 else k.max) n
 | .not,.bool b => some (.bool !b)
 | _,_ => none
def keyEq : KeyK → AV → AV → Option Bool
 | .int,.int k a,.int k' b => if k = k' then some (a == b) else none
 | .str,.str a,.str b => some (a == b)
 | .bool,.bool a,.bool b => some (a == b)
 | _,_,_ => none
def findKey (kd:KeyK) (k:AV) : List (AV × AV) → Nat → Option (Option (Nat × AV))
 | [],_ => some none
 | e :: es,i =>
   match keyEq kd k e.1 with
   | some true => some (some (i,e.2))
   | some false => findKey kd k es (i + 1)
   | none => none
def AV.flat : AV → Bool
 | .bool _ | .int _ _ | .str _ | .nilp | .nilm | .nilf | .nili => true
 | _ => false
mutual
def AV.closed (n:Nat) : AV → Bool
 | .none => true
 | .bool _ | .int _ _ | .str _ | .nilp | .nilm | .nilf | .nili | .glob _ _ => true
 | .agg cs => AV.closedL n cs
 | .list xs _ => AV.closedL n xs
 | .ptr id _ => Nat.blt id n
 | .sref id _ _ _ => Nat.blt id n
 | .map id => Nat.blt id n
 | .func _ cs => AV.closedL n cs
 | .iface _ v => AV.closed n v
 | .tup vs => AV.closedL n vs
 | .pend _ _ | .room _ _ | .lref _ _ | .box _ | .eref _ _ | .data _ _ | .lastr _ => false
def AV.closedL (n:Nat) : List AV → Bool
 | [] => true
 | v :: r => AV.closed n v && AV.closedL n r
end
def buildCells : List AV → List (Nat × Nat × AV) → Option (List AV)
 | cs,[] => some cs
 | cs,(off,n,v) :: r => if v.spread.length = n ∧ off + n ≤ cs.length then buildCells (put cs off v.spread) r else none
def fillElems (n:Nat) : List AV → List (Nat × AV) → Option (List AV)
 | xs,[] => some xs
 | xs,(i,v) :: r => if v.cells.length = n ∧ i < xs.length then fillElems n (xs.set i v) r else none
def bytesOf : List AV → Option (List UInt8)
 | [] => some []
 | .int .u8 n :: r => if 0 ≤ n ∧ n < 256 then (bytesOf r).map (UInt8.ofNat n.toNat :: ·) else none
 | _ :: _ => none
def okSize (sz:Nat) : List AV → Bool
 | [] => true
 | x :: _ => x.cells.length == sz
def idxB : List UInt8 → UInt8 → Int
 | [],_ => -1
 | b :: l,c => if b == c then 0 else if idxB l c == -1 then -1 else idxB l c + 1
def bound (fr:Fr) (d:Nat) : Option Opd → Option Nat
 | none => some d
 | some x => match (opd fr x).1 with | .int _ i => if 0 ≤ i then some i.toNat else none | _ => none
def ret1 (v:AV) (st:St) : Option OpR := some (.val v st)
def evalOp (G : Nat → Option (List AV)) (call:CallF) (lo:Nat) (o:IOp) (st:St) : Option OpR :=
 match o with
 | .mv x => let (v,fr) := opd st.fr x; ret1 v { st with fr }
 | .pick c a b =>
   match (opd st.fr c).1 with
   | .bool t => ret1 (if t then (opd st.fr a).1.cp else (opd st.fr b).1.cp) st
   | _ => none
 | .konst v => ret1 v st
 | .alloc heap ty cs =>
   if heap then ret1 (.ptr st.hp.length 0) { st with hp := st.hp ++ [.cells ty cs] } else ret1 (.box cs) st
 | .box heap x =>
   let (v,fr) := opd st.fr x
   if v.plain = false then none else
   if heap then ret1 (.ptr st.hp.length 0) { st with fr,hp := st.hp ++ [.cells 0 v.spread] } else ret1 (.box v.spread) { st with fr }
 | .build zs ps =>
   let (vs,fr) := opds st.fr (ps.map (·.2.2))
   if plains vs = false then none else
   match buildCells zs ((ps.zip vs).map fun (p,v) => (p.1,p.2.1,v)) with
   | some cs => ret1 (.agg cs) { st with fr }
   | none => none
 | .bslice z e n ps =>
   let (vs,fr) := opds st.fr (ps.map (·.2))
   if plains vs = false then none else
   match fillElems z.cells.length (List.replicate n z) ((ps.zip vs).map fun (p,v) => (p.1,v.cp)) with
   | some xs => ret1 (.list xs (ownE z.cells.length e)) { st with fr }
   | none => none
 | .load x m n agg take =>
   if memOk m (opd st.fr x).1 = false then none else
   match behind G st (opd st.fr x).1 with
   | some (cs,off) =>
     match cut cs off n with
     | some l =>
       if take then
         if agg = false ∧ n = 1 then
           match behindPut lo st (put cs off (l.map AV.cp1)) (opd st.fr x).1 with
           | some st' => ret1 (ofCells agg l) st'
           | none => none
         else none
       else ret1 (ofCells agg (l.map AV.cp1)) st
     | none => none
   | none => none
 | .store x m v n =>
   let (u,fr) := opd st.fr v
   if u.plain = false ∨ memOk m (opd fr x).1 = false then none else
   match (opd fr x).1 with
   | .lastr s =>
     match x,fr.get s with
     | .t p _,.pend xs sz =>
       if u.spread.length = n ∧ n = sz ∧ p ≠ s ∧ (fr.set p .none).noLast s = true then ret1 (.tup []) { st with fr := (fr.set p .none).set s (.list (xs ++ [u.cp]) (.own sz 0)) } else none
     | _,_ => none
   | p =>
     match behind G { st with fr } p with
     | some (cs,off) =>
       if u.spread.length = n ∧ off + n ≤ cs.length then
         match behindPut lo { st with fr } (put cs off u.spread) p with
         | some st' => ret1 (.tup []) st'
         | none => none
       else none
     | none => none
 | .nilchk x =>
   match (opd st.fr x).1 with
   | .ptr i o => ret1 (.ptr i o) st
   | .lref s o => ret1 (.lref s o) st
   | .glob g o => ret1 (.glob g o) st
   | _ => none
 | .bin op x y => match binAV op (opd st.fr x).1 (opd st.fr y).1 with | some v => ret1 v st | none => none
 | .eq neg k x y => match eqAV k (opd st.fr x).1 (opd st.fr y).1 with | some b => ret1 (.bool (if neg then !b else b)) st | none => none
 | .un op x => match unAV op (opd st.fr x).1 with | some v => ret1 v st | none => none
 | .conv k x => match (opd st.fr x).1 with | .int _ n => ret1 (.int k (k.wrap n)) st | _ => none
 | .mkiface t x =>
   let (v,fr) := opd st.fr x
   if v.plain then ret1 (.iface t v.cp) { st with fr } else none
 | .mkfunc f caps =>
   let (vs,fr) := opds st.fr caps
   if plains vs then ret1 (.func f (vs.map AV.cp)) { st with fr } else none
 | .mkmap => ret1 (.map st.hp.length) { st with hp := st.hp ++ [.map []] }
 | .faddr x off =>
   match (opd st.fr x).1 with
   | .ptr i o => ret1 (.ptr i (o + off)) st
   | .lref s o => ret1 (.lref s (o + off)) st
   | .eref v o => ret1 (.eref v (o + off)) st
   | .glob g o => ret1 (.glob g (o + off)) st
   | _ => none
 | .field x off n agg =>
   match (opd st.fr x).1 with
   | .agg cs => match cut cs off n with | some l => ret1 (ofCells agg (l.map AV.cp1)) st | none => none
   | _ => none
 | .iaddrL x i sz =>
   match x,(opd st.fr x).1,(opd st.fr i).1 with
   | _, .list xs _,.int _ j =>
     if 0 ≤ j ∧ j < xs.length then
       match xs[j.toNat]? with
       | some e => if e.cells.length = sz then ret1 (.eref e 0) st else none
       | none => none
     else none
   | _,.sref id o n s,.int _ j => if 0 ≤ j ∧ j < n ∧ s = sz then ret1 (.ptr id (o + j.toNat * sz)) st else none
   | .t s _,_,.int _ j =>
     match st.fr.get s with
     | .pend xs sz' => if j = xs.length ∧ sz' = sz then ret1 (.lastr s) st else none
     | _ => none
   | _,_,_ => none
 | .iaddrA x i len sz =>
   match (opd st.fr x).1,(opd st.fr i).1 with
   | .ptr id o,.int _ j => if 0 ≤ j ∧ j < len then ret1 (.ptr id (o + j.toNat * sz)) st else none
   | .lref s o,.int _ j => if 0 ≤ j ∧ j < len then ret1 (.lref s (o + j.toNat * sz)) st else none
   | .eref v o,.int _ j => if 0 ≤ j ∧ j < len then ret1 (.eref v (o + j.toNat * sz)) st else none
   | .glob g o,.int _ j => if 0 ≤ j ∧ j < len then ret1 (.glob g (o + j.toNat * sz)) st else none
   | _,_ => none
 | .idxS x i =>
   match (opd st.fr x).1,(opd st.fr i).1 with
   | .str s,.int _ j => if 0 ≤ j then match s[j.toNat]? with | some b => ret1 (.int .u8 b.toNat) st | none => none else none
   | _,_ => none
 | .slcS x a b =>
   match (opd st.fr x).1 with
   | .str s =>
     match bound st.fr 0 a,bound st.fr s.length b with
     | some l,some h => if l ≤ h ∧ h ≤ s.length then ret1 (.str ((s.take h).drop l)) st else none
     | _,_ => none
   | _ => none
 | .slcL x a b sz =>
   match (opd st.fr x).1 with
   | .list xs _ =>
     match bound st.fr 0 a,bound st.fr xs.length b with
     | some l,some h => if l ≤ h ∧ h ≤ xs.length ∧ okSize sz xs = true then ret1 (.list ((xs.take h).drop l) .no) st else none
     | _,_ => none
   | .sref id o n s =>
     match bound st.fr 0 a,bound st.fr n b with
     | some l,some h => if l ≤ h ∧ h ≤ n ∧ s = sz then ret1 (.sref id (o + l * sz) (h - l) sz) st else none
     | _,_ => none
   | _ => none
 | .lookup kd m k z ok take =>
   let found (es:List (AV × AV)) (id:Option Nat) : Option OpR :=
     if (opd st.fr k).1.plain = false then none else
     match findKey kd (opd st.fr k).1 es 0 with
     | some (some (i,v)) =>
       if take then
         match id with
         | some id => if lo ≤ id ∧ v.plain = true then ret1 (if ok then .tup [v,.bool true] else v) { st with hp := st.hp.set id (.map (es.set i ((es.getD i default).1,v.cp))) } else none
         | none => none
       else ret1 (if ok then .tup [v.cp,.bool true] else v.cp) st
     | some none => ret1 (if ok then .tup [z,.bool false] else z) st
     | none => none
   match (opd st.fr m).1 with
   | .map id => match st.hp[id]? with | some (.map es) => found es (some id) | _ => none
   | .nilm => found [] none
   | _ => none
 | .mapset kd m k v _ =>
   let (u,fr) := opd st.fr v
   if u.plain = false ∨ (opd fr k).1.plain = false then none else
   match (opd fr m).1 with
   | .map id =>
     match st.hp[id]? with
     | some (.map es) =>
       if lo ≤ id then
         match findKey kd (opd fr k).1 es 0 with
         | some (some (i,_)) => ret1 (.tup []) { st with fr,hp := st.hp.set id (.map (es.set i ((es.getD i default).1,u.keep1))) }
         | some none => ret1 (.tup []) { st with fr,hp := st.hp.set id (.map (es ++ [((opd fr k).1,u.keep1)])) }
         | none => none
       else none
     | _ => none
   | _ => none
 | .len x kd =>
   match kd,(opd st.fr x).1 with
   | .list,.list xs _ => ret1 (.int .i64 xs.length) st
   | .list,.sref _ _ n _ => ret1 (.int .i64 n) st
   | .str,.str s => ret1 (.int .i64 s.length) st
   | .map,.nilm => ret1 (.int .i64 0) st
   | .map,.map id => match st.hp[id]? with | some (.map es) => ret1 (.int .i64 es.length) st | _ => none
   | _,_ => none
 | .sconv x => match (opd st.fr x).1 with | .str s => ret1 (.str s) st | _ => none
 | .append x y sz e bytes pend =>
   let (a,fr) := opd st.fr x
   match a with
   | .list xs o =>
     if ((o = .nil ∨ o = .own sz e) ∨ (o = .tight ∧ e = 0)) ∧ okSize sz xs = true then
       match (opd fr y).1 with
       | .list ys _ =>
         if okSize sz ys = true ∧ (xs.length + ys.length) * bytes ≤ 140737488355328 ∧ (xs.length + ys.length) ≤ 9223372036854775807 then
           if pend then
             if ys.length = 1 ∧ e = 0 then ret1 (.pend xs sz) { st with fr } else none
           else ret1 (.list (xs ++ ys) (.own sz e)) { st with fr }
         else none
       | .str s =>
         if sz = 1 ∧ (xs.length + s.length) * bytes ≤ 140737488355328 ∧ pend = false ∧ (xs.length + s.length) ≤ 9223372036854775807 then
           ret1 (.list (xs ++ s.map fun b => .int .u8 b.toNat) (.own sz e)) { st with fr }
         else none
       | _ => none
     else none
   | _ => none
 | .min x y =>
   match (opd st.fr x).1,(opd st.fr y).1 with
   | .int k a,.int _ b => ret1 (.int k (if b < a then b else a)) st
   | _,_ => none
 | .max x y =>
   match (opd st.fr x).1,(opd st.fr y).1 with
   | .int k a,.int _ b => ret1 (.int k (if b > a then b else a)) st
   | _,_ => none
 | .extract x i =>
   let (v,fr) := opd st.fr x
   match v with
   | .tup vs => match vs[i]? with | some u => if u.plain then ret1 u { st with fr } else none | none => none
   | _ => none
 | .assert x t z ok =>
   match (opd st.fr x).1 with
   | .iface u v => if u = t then ret1 (if ok then .tup [v.cp,.bool true] else v.cp) st else if ok then ret1 (.tup [z,.bool false]) st else none
   | .nili => if ok then ret1 (.tup [z,.bool false]) st else none
   | _ => none
 | .panic x =>
   match (opd st.fr x).1 with
   | .iface t v => some (.pan (.iface t v) st)
   | _ => none
 | .call f args q =>
   let (vs,fr) := opds st.fr args
   if plains vs = false then none else
   match (opd fr f).1 with
   | .func f caps =>
     if plains caps = false then none else
     match call f (vs ++ caps.map AV.cp) st.hp lo q with
     | some (.ret v hp) => ret1 v { fr,hp }
     | some (.pan v hp) => some (.pan v { fr,hp })
     | none => none
   | _ => none
 | .sdata x e =>
   match (opd st.fr x).1 with
   | .list _ .nil => ret1 .nilp st
   | .list xs (.view e') => if xs.isEmpty = false ∧ e' = e ∧ e ≠ 0 ∧ okSize 1 xs = true then ret1 (.data xs e) st else none
   | _ => none
 | .ustr p n e =>
   match (opd st.fr p).1,(opd st.fr n).1 with
   | .nilp,.int .i64 m => if m = 0 then ret1 (.str []) st else none
   | .ptr id o,.int .i64 m =>
     match st.hp[id]? with
     | some (.cells t cs) =>
       if (lo ≤ id ∧ o = 0) ∧ (t = e ∧ e ≠ 0) ∧ (0 < m ∧ m ≤ 9223372036854775807) then
         match cut cs 0 m.toNat with
         | some l =>
           match bytesOf l with
           | some bs => ret1 (.str bs) { st with hp := st.hp.set id .dead }
           | none => none
         | none => none
       else none
     | _ => none
   | .data xs e',.int .i64 m =>
     match bytesOf xs with
     | some bs => if m = xs.length ∧ xs.isEmpty = false ∧ e' = e ∧ m ≤ 9223372036854775807 then ret1 (.str bs) st else none
     | none => none
   | _,_ => none
 | .uptr x u n =>
   match (opd st.fr x).1 with
   | .ptr i o => match st.hp[i]? with | some (.cells ty cs) => if o = 0 ∧ ty = u ∧ u ≠ 0 ∧ cs.length = n ∧ n ≠ 0 then ret1 (.ptr i o) st else none | _ => none
   | _ => none
 | .ident _ x =>
   match (opd st.fr x).1 with
   | .ptr i o => ret1 (.ptr i o) st
   | _ => none
 | .mkslice z e n c bytes =>
   match (opd st.fr n).1,(opd st.fr c).1 with
   | .int .i64 a,.int .i64 b => if 0 ≤ a ∧ a ≤ b ∧ b.toNat * bytes ≤ 140737488355328 ∧ b ≤ 9223372036854775807 then ret1 (.list (List.replicate a.toNat z) (.own z.cells.length e)) st else none
   | _,_ => none
 | .mkbuf z e n c bytes =>
   match (opd st.fr n).1,(opd st.fr c).1 with
   | .int .i64 a,.int .i64 b => if 0 ≤ a ∧ a ≤ b ∧ b.toNat * bytes ≤ 140737488355328 ∧ b ≤ 9223372036854775807 then ret1 (.sref st.hp.length 0 a.toNat z.cells.length) { st with hp := st.hp ++ [.cells e (List.replicate b.toNat z.cells).flatten] } else none
   | _,_ => none
 | .slcA x a b len sz =>
   match (opd st.fr x).1 with
   | .ptr id o =>
     match st.hp[id]?,bound st.fr 0 a,bound st.fr len b with
     | some (.cells _ cs),some l,some h => if l ≤ h ∧ h ≤ len ∧ o + len * sz ≤ cs.length ∧ len ≤ 9223372036854775807 then ret1 (.sref id (o + l * sz) (h - l) sz) st else none
     | _,_,_ => none
   | _ => none
 | .strL x =>
   match (opd st.fr x).1 with
   | .list xs _ => match bytesOf xs with | some bs => ret1 (.str bs) st | none => none
   | .sref id o n sz =>
     match st.hp[id]? with
     | some (.cells _ cs) =>
       if sz = 1 then
         match cut cs o n with
         | some l =>
           match bytesOf l with
           | some bs => ret1 (.str bs) st
           | none => none
         | none => none
       else none
     | _ => none
   | _ => none
 | .bytesS x =>
   match (opd st.fr x).1 with
   | .str s => if s.length ≤ 140737488355328 then ret1 (.list (s.map fun b => .int .u8 b.toNat) .no) st else none
   | _ => none
 | .idxB _ x c =>
   match (opd st.fr x).1,(opd st.fr c).1 with
   | .str s,.int .u8 n => ret1 (.int .i64 (idxB s (UInt8.ofNat n.toNat))) st
   | _,_ => none
 | .copyS x y =>
   match (opd st.fr x).1,(opd st.fr y).1 with
   | .sref id o n sz,.str s =>
     if min s.length n = 0 then none else
     match st.hp[id]? with
     | some (.cells t cs) =>
       if lo ≤ id ∧ sz = 1 ∧ o + min s.length n ≤ cs.length then
         ret1 (.int .i64 (min s.length n : Nat)) { st with hp := st.hp.set id (.cells t (put cs o ((s.take (min s.length n)).map fun b => .int .u8 b.toNat))) }
       else none
     | _ => none
   | _,_ => none
 | .appR x y sz bytes =>
   match (opd st.fr x).1,(opd st.fr y).1 with
   | .list [] .nil,.list ys _ =>
     if ys.isEmpty = false ∧ okSize sz ys = true ∧ ys.length * bytes ≤ 140737488355328 ∧ ys.length ≤ 9223372036854775807 then
       ret1 (.sref st.hp.length 0 ys.length sz) { st with hp := st.hp ++ [.cells 0 ((ys.map AV.cells).flatten.map AV.cp1)] }
     else none
   | .sref id o n s,.list ys _ =>
     match st.hp[id]? with
     | some (.cells _ cs) =>
       if (lo ≤ id ∧ o = 0 ∧ s = sz) ∧ n * sz ≤ cs.length ∧ okSize sz ys = true ∧ (n + ys.length) * bytes ≤ 140737488355328 ∧ (n + ys.length) ≤ 9223372036854775807 then
         ret1 (.sref st.hp.length 0 (n + ys.length) sz) { st with hp := st.hp.set id .dead ++ [.cells 0 ((cs.take (n * sz) ++ (ys.map AV.cells).flatten).map AV.cp1)] }
       else none
     | _ => none
   | _,_ => none
 | .mkroom _ e x =>
   match (opd st.fr x).1 with
   | .int .i64 n => if 0 ≤ n ∧ n ≤ 140737488355328 then ret1 (.room n.toNat e) st else none
   | _ => none
 | .slcR s b =>
   match st.fr.get s,(opd st.fr b).1 with
   | .room _ e,.int _ i => if i = 0 then ret1 (.list [] (.own 1 e)) { st with fr := st.fr.set s .none } else none
   | _,_ => none
 | .capN x =>
   match (opd st.fr x).1 with
   | .list [] .nil => ret1 (.int .i64 0) st
   | _ => none
 | .copyN x y =>
   match (opd st.fr x).1,(opd st.fr y).1 with
   | .list [] _,.list [] _ => ret1 (.int .i64 0) st
   | _,_ => none
def AV.loose : AV → Bool
 | .box _ | .pend _ _ | .room _ _ => false
 | _ => true
def St.put (st:St) (dst:Option Nat) (v:AV) : Option St :=
 match dst with
 | some d => if (st.fr.get d).loose then some { st with fr := st.fr.set d v } else none
 | none => some st
def wanted (fr:Fr) : Option (Nat × Bool) → Option Bool
 | none => some true
 | some (s,b) =>
   match fr.get s with
   | .bool t => some (t == b)
   | .tup [] => some false
   | _ => none
def evalOps (G:Nat → Option (List AV)) (call:CallF) (lo:Nat) : List IOper → St → Option (Ex × St)
 | [],st => some (.normal,st)
 | o :: r,st =>
   match wanted st.fr o.guard with
   | some true =>
     match evalOp G call lo o.op st with
     | some (.val v st') => match st'.put o.dst v with | some st'' => evalOps G call lo r st'' | none => none
     | some (.pan v st') => some (.pan v,st')
     | none => none
   | some false => match st.put o.dst (.tup []) with | some st'' => evalOps G call lo r st'' | none => none
   | none => none
def evalDraw (G:Nat → Option (List AV)) (call:CallF) (lo:Nat) (ops:List IOper) (pans:List Nat) : List Nat → St → Option (Ex × St)
 | [],st => some (.normal,st)
 | i :: r,st =>
   match ops[i]? with
   | none => none
   | some o =>
     match evalOps G call lo [o] st with
     | some (.normal,st') => evalDraw G call lo ops pans r st'
     | some (.pan v,st') => if pans.contains i then some (.pan v,⟨[],st'.hp⟩) else none
     | _ => none
abbrev LoopF := ICode → St → Option (Ex × St)
def evalC (G:Nat → Option (List AV)) (call:CallF) (loop:LoopF) (lo:Nat) : ICode → St → Option (Ex × St)
 | .skip,st => some (.normal,st)
 | .region ops live,st =>
   match evalOps G call lo ops st with
   | some (.normal,st') => if st'.fr.keepOk live live then some (.normal,{ st' with fr := st'.fr.keep live }) else none
   | r => r
 | .draw ops ord pans live,st =>
   match evalDraw G call lo ops pans ord st with
   | some (.normal,st') => if st'.fr.keepOk live live then some (.normal,{ st' with fr := st'.fr.keep live }) else none
   | some (ex,st') => some (ex,⟨st.fr.husk,st'.hp⟩)
   | none => none
 | .seq a b,st =>
   match evalC G call loop lo a st with
   | some (.normal,st') => evalC G call loop lo b st'
   | r => r
 | .cond c a b,st =>
   match (opd st.fr c).1 with
   | .bool t => if t = true then evalC G call loop lo a st else evalC G call loop lo b st
   | _ => none
 | .block id body,st =>
   match evalC G call loop lo body st with
   | some (.exit i,st') => if i = id then some (.normal,st') else some (.exit i,st')
   | r => r
 | .loop body,st => loop body st
 | .exit id,st => some (.exit id,st)
 | .ret,st => some (.ret,st)
 | .stuck,_ => none
def evalRes1 (st:St) : IRes → Option AV
 | .tmp s => if (st.fr.get s).plain then some (st.fr.get s) else none
 | .cell s n agg =>
   match st.fr.get s with
   | .box cs => if cs.length = n ∧ (ofCells agg cs).plain = true then some (ofCells agg cs) else none
   | .ptr id o =>
     match st.hp[id]? with
     | some (.cells _ cs) => match cut cs o n with | some l => if (ofCells agg (l.map AV.cp1)).plain = true then some (ofCells agg (l.map AV.cp1)) else none | none => none
     | _ => none
   | _ => none
def evalRess (st:St) : List IRes → Option (List AV)
 | [] => some []
 | r :: rs => match evalRes1 st r,evalRess st rs with | some v,some vs => some (v :: vs) | _,_ => none
def chunks (sz:Nat) (agg:Bool) : Nat → List AV → List AV
 | 0,_ => []
 | n + 1,l => (if agg then .agg ((l.take sz).map AV.cp1) else (l.headD .none).cp1) :: chunks sz agg n (l.drop sz)
def frz1 (lo : Nat) (st:St) (s i sz:Nat) (agg:Bool) : Option St :=
 match st.fr.get s with
 | .box cs =>
   match cs[i]? with
   | some (.sref id o n z) =>
     match st.hp[id]? with
     | some (.cells _ ds) =>
       if lo ≤ id ∧ z = sz ∧ (agg = true ∨ sz = 1) ∧ o + n * sz ≤ ds.length then
         some { fr := st.fr.set s (.box (cs.set i (.list (chunks sz agg n (ds.drop o)) .no))),hp := st.hp.set id .dead }
       else none
     | _ => none
   | some _ => some st
   | none => none
 | _ => none
def frzs (lo:Nat) : List (Nat × Nat × Nat × Bool) → St → Option St
 | [],st => some st
 | (s,i,sz,agg) :: r,st => match frz1 lo st s i sz agg with | some st' => frzs lo r st' | none => none
def tupOf : List AV → AV
 | [v] => v
 | vs => .tup vs
def enter : Nat → List AV → Fr
 | _,[] => []
 | i,v :: r => (i,v) :: enter (i + 1) r
abbrev IProg := Nat → Option IFun
def evalRecv (G:Nat → Option (List AV)) (IP:IProg) (call:CallF) (loop:LoopF) (lo:Nat) (f:Nat) (caps:List AV) (hp:List HObj) (m:AV) : Option (List HObj) :=
 match IP f with
 | none => none
 | some fn =>
   match fn.rcv,fn.dfr with
   | some s,none =>
     if Nat.beq caps.length fn.arity = false ∨ fn.res.isEmpty = false ∨ s < fn.arity then none else
     match evalC G call loop lo fn.body { fr := (enter 0 (caps.map AV.cp)).set s m.cp,hp } with
     | some (.normal,st) => some st.hp
     | some (.ret,st) => some st.hp
     | _ => none
   | _,_ => none
def toHeap (fr:Fr) : List Nat → List HObj → Option (List HObj)
 | [],hp => some hp
 | s :: r,hp => match fr.get s with | .box cs => toHeap fr r (hp ++ [.cells 0 cs]) | _ => none
def ptrsFrom : Nat → List Nat → List AV
 | _,[] => []
 | n,_ :: r => .ptr n 0 :: ptrsFrom (n + 1) r
def setPtrs : Nat → List Nat → Fr
 | _,[] => []
 | n,s :: r => (s,.ptr n 0) :: setPtrs (n + 1) r
def evalFin1 (G:Nat → Option (List AV)) (IP:IProg) (call:CallF) (loop:LoopF) (lo:Nat) (d:DSpec) (s3:St) (m:AV) : Option (Ex × St) :=
 match toHeap s3.fr d.caps s3.hp with
 | some hp1 =>
   match evalRecv G IP call loop lo d.f (ptrsFrom s3.hp.length d.caps) hp1 m with
   | some hp2 => some (.ret,⟨setPtrs s3.hp.length d.caps,hp2⟩)
   | none => none
 | none => none
def evalFin (G:Nat → Option (List AV)) (IP:IProg) (call:CallF) (loop:LoopF) (lo:Nat) (d:DSpec) : Option (Ex × St) → Option (Ex × St)
 | some (.normal,s3) => evalFin1 G IP call loop lo d s3 .nili
 | some (.ret,s3) => evalFin1 G IP call loop lo d s3 .nili
 | some (.pan v,s3) => evalFin1 G IP call loop lo d s3 v
 | _ => none
def evalF (G:Nat → Option (List AV)) (IP:IProg) (call:CallF) (loop:LoopF) (lo:Nat) (fn:IFun) (st:St) : Option (Ex × St) :=
 match fn.dfr with
 | none => evalC G call loop lo fn.body st
 | some d =>
   match evalC G call loop lo fn.body st with
   | some (.normal,s1) => if (s1.fr.get d.t).loose = true then evalFin G IP call loop lo d (evalC G call loop lo d.rest { s1 with fr := s1.fr.set d.t .none }) else none
   | r => r
def callBody (G:Nat → Option (List AV)) (IP:IProg) (call:CallF) (loop:Nat → LoopF) : CallF := fun f args hp lo q =>
 match IP f with
 | none => none
 | some fn =>
   if ((q && !fn.still) || !Nat.beq args.length fn.arity || fn.rcv.isSome) = true then none else
   let lo' := if fn.still then hp.length else lo
   match evalF G IP call (loop lo') lo' fn { fr := enter 0 args,hp } with
   | some (.normal,st0) | some (.ret,st0) =>
     match frzs lo' fn.frz st0 with
     | some st =>
       match evalRess st fn.res with
       | some vs =>
         if fn.still then
           if AV.closed hp.length (tupOf vs) = true then some (.ret (tupOf vs) hp) else none
         else some (.ret (tupOf vs) st.hp)
       | none => none
     | none => none
   | some (.pan v,st) =>
     if fn.still then
       if AV.closed hp.length v = true then some (.pan v hp) else none
     else some (.pan v st.hp)
   | _ => none
def loopBody (G:Nat → Option (List AV)) (call:CallF) (loop:Nat → LoopF) : Nat → LoopF := fun lo body st =>
 match evalC G call (loop lo) lo body st with
 | some (.normal,st') => loop lo body st'
 | r => r
def run (G:Nat → Option (List AV)) (IP:IProg) : Nat → CallF × (Nat → LoopF)
 | 0 => (fun _ _ _ _ _ => none,fun _ _ _ => none)
 | k + 1 => let r := run G IP k; (callBody G IP r.1 r.2,loopBody G r.1 r.2)
end Go.Proofs.YtkofimhnehkdoaaGreatDoor.Rf
end
section
namespace Go.Proofs.YtkofimhnehkdoaaGreatDoor.Rf
inductive Root where
 | fr (s:Nat)
 | arg (j:Nat)
 | ob (id:Nat)
 | mp (id i:Nat)
 deriving DecidableEq
inductive Tag where
 | out | imm | elt
 | box (r:Root)
 | obj (id:Nat)
 | tail (r:Root) (i:Nat)
 deriving DecidableEq
def Tag.ro : Tag → Prop
 | .imm | .elt => True
 | _ => False
structure Gh where
 ow : Nat → Nat → Tag
 hb : List Nat
 bx : Root → Nat
def Ones (vs:List Value) : Prop := ∀ u,u ∈ vs → u.oneCell' = true
def Row0 (w:World) (b e n:Nat) : Prop := ∃ cs hi,w.heap[b]? = some (.cells cs e (0,hi)) ∧ cs.size = n
def View (g:Gh) (w:World) (m e:Nat) (a:Addr) : Prop := a.off = 0 ∧ a.spot = none ∧ (∃ n,Row0 w a.block e n ∧ m ≤ n) ∧ ∀ o,o < m → g.ow a.block o = .elt
section
variable (g:Gh) (w:World)
mutual
def V : AV → Value → Prop
 | .none,_ => True
 | .bool b,cv => cv = .bool b
 | .int k n,cv => cv = .int k n
 | .str s,cv => cv = .string ⟨s.toArray⟩
 | .agg cs,cv => ∃ vs : List Value,cv = .agg vs.toArray ∧ VS cs vs ∧ Ones vs
 | .list xs o,cv => ∃ A c,cv = .slice A xs.length c ∧ xs.length ≤ c ∧ c ≤ 9223372036854775807 ∧ ((o = .nil → A = none) ∧ (o = .tight → c = xs.length)) ∧
     (A = none → c = 0) ∧ ∀ a,A = some a → ((o ≠ .no ∨ 0 < c) → a.spot = none) ∧ (o.vw ≠ 0 → View g w xs.length o.vw a) ∧ ∃ sz,VE sz xs a.block a.off
 | .ptr id off,cv => ∃ b,g.hb[id]? = some b ∧ cv = .pointer (some ⟨b,off,none⟩)
 | .sref id off n sz,cv => ∃ b o c,(g.hb[id]? = some b ∧ (n ≤ c ∧ c ≤ 9223372036854775807) ∧ (0 < c → o = off) ∧ ∃ e m,Row0 w b e m ∧ o + c * sz ≤ m) ∧ cv = .slice (some ⟨b,o,none⟩) n c
 | .nilp,cv => cv = .pointer none
 | .map id,cv => ∃ b,g.hb[id]? = some b ∧ cv = .map (some b)
 | .nilm,cv => cv = .map none
 | .func f caps,cv => ∃ vs : List Value,cv = .func (.func f) #[] vs.toArray ∧ VS caps vs
 | .nilf,cv => cv = .nilFunc
 | .iface t v,cv => ∃ u,cv = .iface t u ∧ V v u
 | .nili,cv => cv = .nilIface
 | .tup vs,cv => ∃ us : List Value,cv = .tuple us.toArray ∧ VS vs us
 | .glob b off,cv => cv = .pointer (some ⟨b,off,none⟩)
 | .pend _ _,_ | .room _ _,_ | .lref _ _,_ | .box _,_ | .eref _ _,_ | .data _ _,_ | .lastr _,_ => False
def VS : List AV → List Value → Prop
 | [],us => us = []
 | v :: vs,us => ∃ u r,us = u :: r ∧ V v u ∧ VS vs r
def VC : List AV → Nat → Nat → Prop
 | [],_,_ => True
 | c :: cs,b,off => ((g.ow b off).ro ∧ ∃ cv,w.cell? ⟨b,off,none⟩ = some cv ∧ cv.oneCell' = true ∧ V c cv) ∧ VC cs b (off + 1)
def VE (sz:Nat) : List AV → Nat → Nat → Prop
 | [],_,_ => True
 | .agg cs :: xs,b,off => (cs.length = sz ∧ VC cs b off) ∧ VE sz xs b (off + sz)
 | v :: xs,b,off => (1 = sz ∧ (g.ow b off).ro ∧ ∃ cv,w.cell? ⟨b,off,none⟩ = some cv ∧ cv.oneCell' = true ∧ V v cv) ∧ VE sz xs b (off + sz)
end
def Tail (r:Root) (i:Nat) (xs:List AV) (sz:Nat) (cv:Value) : Prop :=
 ∀ a n c,cv = .slice (some a) n c → VE g w sz xs a.block a.off ∧
   ∀ o,a.off + xs.length * sz ≤ o → o < a.off + c * sz → g.ow a.block o = .tail r i ∧ (∃ u,w.cell? ⟨a.block,o,none⟩ = some u) ∧ w.frozen? ⟨a.block,o,none⟩ = false
def OwnsL (r:Root) (cs:List AV) (vs:List Value) : Prop :=
 ∀ (i:Nat) xs sz e cv,cs[i]? = some (AV.list xs (.own sz e)) → vs[i]? = some cv → Tail g w r i xs sz cv
def Owns (r:Root) (v:AV) (cv:Value) : Prop :=
 match v with
 | .list xs (.own sz _) => Tail g w r 0 xs sz cv
 | .tup vs => ∀ us : List Value,cv = .tuple us.toArray → OwnsL g w r vs us
 | _ => True
def VX (fr:Fr) (tm:Array Value) (v:AV) (cv:Value) : Prop :=
 match v with
 | .lref t off => cv = .pointer (some ⟨g.bx (.fr t),off,none⟩) ∧ ∃ cs,fr.get t = .box cs
 | .eref x off => ∃ b o0,cv = .pointer (some ⟨b,o0 + off,none⟩) ∧ VC g w x.cells b o0
 | .data xs e => ∃ a,cv = .pointer (some a) ∧ View g w xs.length e a ∧ VE g w 1 xs a.block 0
 | .lastr t => ∃ xs sz a c,fr.get t = .pend xs sz ∧ tm.getD t undef = .slice (some a) (xs.length + 1) c ∧ cv = .pointer (some ⟨a.block,a.off + xs.length * sz,none⟩)
 | v => V g w v cv
def VF (fr:Fr) (tm:Array Value) (r:Root) (v:AV) (cv:Value) : Prop :=
 match v with
 | .box cs => ∃ (vs:List Value) (ty:TypeId),cv = .pointer (some ⟨g.bx r,0,none⟩) ∧ w.heap[g.bx r]? = some (.cells vs.toArray ty (0,0)) ∧
     (VS g w cs vs ∧ Ones vs) ∧ (∀ o,g.ow (g.bx r) o = .box r) ∧ OwnsL g w r cs vs
 | .pend xs sz => ∃ a c,cv = .slice (some a) (xs.length + 1) c ∧ xs.length + 1 ≤ c ∧ c ≤ 9223372036854775807 ∧ a.spot = none ∧ Tail g w r 0 xs sz (.slice (some a) (xs.length + 1) c)
 | .room n e => ∃ a c,cv = .slice (some a) n c ∧ n ≤ c ∧ c ≤ 9223372036854775807 ∧ View g w 0 e a ∧ Tail g w r 0 [] 1 (.slice (some a) n c)
 | v => VX g w fr tm v cv ∧ Owns g w r v cv
def ObjRel (id b:Nat) : HObj → Prop
 | .dead => False
 | .cells t cs => ∃ (vs sp:List Value) (ty:TypeId),w.heap[b]? = some (.cells (vs ++ sp).toArray ty (0,0)) ∧ (VS g w cs vs ∧ Ones vs) ∧ OwnsL g w (.ob id) cs vs ∧ (t ≠ 0 → ty = t ∧ sp = [])
 | .map es => ∃ (ents:Array MapEntry) (clock:Nat),w.heap[b]? = some (.map ents clock) ∧ ents.size = es.length ∧
     ∀ (i:Nat) k v,es[i]? = some (k,v) → ∃ e,ents[i]? = some e ∧ V g w k e.key ∧ V g w v e.val ∧ Owns g w (.mp id i) v e.val
structure HeapRel (hp:List HObj) : Prop where
 len : g.hb.length = hp.length
 obj : ∀ (id:Nat) o,hp[id]? = some o → o.live = true → ∃ b,g.hb[id]? = some b ∧ (∀ i,g.ow b i = .obj id) ∧ ObjRel g w id b o
end
def GlobRel (G:Nat → Option (List AV)) (g:Gh) (w:World) : Prop :=
 ∀ b cs,G b = some cs → ∃ (vs:List Value) (ty:TypeId),w.heap[b]? = some (.cells vs.toArray ty (0,0)) ∧ (VS g w cs vs ∧ Ones vs) ∧ ∀ o,g.ow b o = .imm
structure Rel (G:Nat → Option (List AV)) (g:Gh) (st:St) (ps:List (AV × Value)) (tm:Array Value) (w:World) : Prop where
 fr : ∀ s,VF g w st.fr tm (.fr s) (st.fr.get s) (tm.getD s undef)
 ps : ∀ (j:Nat) v cv,ps[j]? = some (v,cv) → VF g w st.fr tm (.arg j) v cv
 hp : HeapRel g w st.hp
 fresh : ∀ b o,w.heap.size ≤ b → g.ow b o = .out
 gl : GlobRel G g w
structure Same (T:Tag → Prop) (g:Gh) (w:World) (g' : Gh) (w' : World) : Prop where
 ow : ∀ b o,b < w.heap.size → T (g.ow b o) → g'.ow b o = g.ow b o
 cell : ∀ b o,b < w.heap.size → T (g.ow b o) → w'.cell? ⟨b,o,none⟩ = w.cell? ⟨b,o,none⟩
 frz : ∀ b o,b < w.heap.size → T (g.ow b o) → g.ow b o ≠ .elt → w'.frozen? ⟨b,o,none⟩ = w.frozen? ⟨b,o,none⟩
 blk : ∀ b,b < w.heap.size → (∀ o,T (g.ow b o) ∧ g.ow b o ≠ .elt) → w'.heap[b]? = w.heap[b]?
 row : ∀ b e n,Row0 w b e n → Row0 w' b e n
 te : T .imm → T .elt
 hb : ∀ (i b:Nat),g.hb[i]? = some b → g'.hb[i]? = some b
def Tag.kept : Tag → Prop
 | .out | .imm | .elt => True
 | _ => False
structure Stay (g:Gh) (w:World) (g' : Gh) (w' : World) : Prop extends Same Tag.kept g w g' w' where
 os : w'.os = w.os
 tape : w'.tape = w.tape
 output : w'.output = w.output
 size : w.heap.size ≤ w'.heap.size
section mono
variable {g g' : Gh} {w w' : World}
structure Ext (g:Gh) (w:World) (g' : Gh) (w' : World) : Prop where
 imm : ∀ b o,b < w.heap.size → (g.ow b o).ro → g'.ow b o = g.ow b o ∧ w'.cell? ⟨b,o,none⟩ = w.cell? ⟨b,o,none⟩
 row : ∀ b e n,Row0 w b e n → Row0 w' b e n
 hb : ∀ (i b:Nat),g.hb[i]? = some b → g'.hb[i]? = some b
theorem Row0.lt {b e n:Nat} (h:Row0 w b e n) : b < w.heap.size := by
 obtain ⟨cs,hi,h,_⟩ := h; exact (Array.getElem?_eq_some_iff.1 h).1
theorem View.mono (e:Ext g w g' w') {m t:Nat} {a:Addr} (h:View g w m t a) : View g' w' m t a := by
 obtain ⟨h1,h2,⟨n,h3,h4⟩,h5⟩ := h
 exact ⟨h1,h2,⟨n,e.row _ _ _ h3,h4⟩,fun o ho => by
   have := h5 o ho
   rw [(e.imm a.block o h3.lt (by rw [this]; trivial)).1]; exact this⟩
mutual
theorem V.mono (e:Ext g w g' w') : ∀ (v:AV) (cv:Value),V g w v cv → V g' w' v cv
 | .none,_ => fun _ => by simp [V]
 | .bool _,_ => by simp only [V]; exact id
 | .int _ _,_ => by simp only [V]; exact id
 | .str _,_ => by simp only [V]; exact id
 | .agg cs,_ => by simp only [V]; rintro ⟨vs,h,k,l⟩; exact ⟨vs,h,VS.mono e cs vs k,l⟩
 | .list xs o,_ => by
   simp only [V]; rintro ⟨A,c,h1,h2,h3,h4,h5,h6⟩
   refine ⟨A,c,h1,h2,h3,h4,h5,fun a ha => ?_⟩
   obtain ⟨hs,hw,sz,hv⟩ := h6 a ha
   exact ⟨hs,fun hn => (hw hn).mono e,sz,VE.mono e sz xs _ _ hv⟩
 | .ptr _ _,_ => by simp only [V]; rintro ⟨b,h,k⟩; exact ⟨b,e.hb _ _ h,k⟩
 | .sref _ _ _ _,_ => by simp only [V]; rintro ⟨b,o,c,⟨h,h2,h5,t,m,h3,h4⟩,k⟩; exact ⟨b,o,c,⟨e.hb _ _ h,h2,h5,t,m,e.row _ _ _ h3,h4⟩,k⟩
 | .nilp,_ => by simp only [V]; exact id
 | .map _,_ => by simp only [V]; rintro ⟨b,h,k⟩; exact ⟨b,e.hb _ _ h,k⟩
 | .nilm,_ => by simp only [V]; exact id
 | .func _ cs,_ => by simp only [V]; rintro ⟨vs,h,k⟩; exact ⟨vs,h,VS.mono e cs vs k⟩
 | .nilf,_ => by simp only [V]; exact id
 | .iface _ v,_ => by simp only [V]; rintro ⟨u,h,k⟩; exact ⟨u,h,V.mono e v u k⟩
 | .nili,_ => by simp only [V]; exact id
 | .tup cs,_ => by simp only [V]; rintro ⟨vs,h,k⟩; exact ⟨vs,h,VS.mono e cs vs k⟩
 | .glob _ _,_ => by simp only [V]; exact id
 | .pend _ _,_ => by simp only [V]; exact id
 | .room _ _,_ => by simp only [V]; exact id
 | .lref _ _,_ => by simp only [V]; exact id
 | .box _,_ => by simp only [V]; exact id
 | .eref _ _,_ => by simp only [V]; exact id
 | .data _ _,_ => by simp only [V]; exact id
 | .lastr _,_ => by simp only [V]; exact id
theorem VS.mono (e:Ext g w g' w') : ∀ (vs:List AV) (us:List Value),VS g w vs us → VS g' w' vs us
 | [],_ => by simp only [VS]; exact id
 | v :: vs,_ => by simp only [VS]; rintro ⟨u,r,h,k,l⟩; exact ⟨u,r,h,V.mono e v u k,VS.mono e vs r l⟩
theorem VC.mono (e:Ext g w g' w') : ∀ (vs:List AV) (b off:Nat),VC g w vs b off → VC g' w' vs b off
 | [],_,_ => by simp only [VC]; exact id
 | v :: vs,b,off => by
   simp only [VC]; rintro ⟨⟨h,cv,k,l0,l⟩,m⟩
   have hl := World.block_lt_of_cell? w ⟨b,off,none⟩ k
   exact ⟨⟨by rw [(e.imm _ _ hl h).1]; exact h,cv,(e.imm _ _ hl h).2.trans k,l0,V.mono e v cv l⟩,VC.mono e vs _ _ m⟩
theorem VE.mono (e:Ext g w g' w') (sz:Nat) : ∀ (vs:List AV) (b off:Nat),VE g w sz vs b off → VE g' w' sz vs b off
 | [],_,_ => by simp only [VE]; exact id
 | .agg cs :: vs,b,off => by
   simp only [VE]; rintro ⟨⟨h,k⟩,m⟩
   exact ⟨⟨h,VC.mono e cs _ _ k⟩,VE.mono e sz vs _ _ m⟩
 | v :: vs,b,off => by
   intro h
   have hv := V.mono e v
   have hm := VE.mono e sz vs b (off + sz)
   cases v <;> simp only [VE] at h ⊢ <;> first
     | (obtain ⟨⟨h1,h2,cv,h3,h0,h4⟩,m⟩ := h
        have hl := World.block_lt_of_cell? w ⟨b,off,none⟩ h3
        exact ⟨⟨h1,by rw [(e.imm _ _ hl h2).1]; exact h2,cv,(e.imm _ _ hl h2).2.trans h3,h0,hv cv h4⟩,hm m⟩)
     | (obtain ⟨⟨h1,h2⟩,m⟩ := h; exact ⟨⟨h1,VC.mono e _ _ _ h2⟩,hm m⟩)
end
end mono
end Go.Proofs.YtkofimhnehkdoaaGreatDoor.Rf
end
