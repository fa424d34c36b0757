/- A part of the proof: see the last text. -/
import GoSem.Dispatch
import Derived.Calls
import Derived.RowKit
import Derived.Laws.World
import Derived.Laws.Sem
import Derived.Laws.CopyRow
set_option linter.unusedVariables false
set_option linter.unusedSimpArgs false
section
namespace Go.Proofs.YtkofimhnehkdoaaGreatDoor.Rf
inductive Own where
 | no | nil | own (sz e:Nat) | view (e:Nat) | tight
 deriving DecidableEq
def Own.vw : Own → Nat
 | .own _ e => e
 | .view e => e
 | _ => 0
def Own.cp : Own → Own
 | .nil => .nil
 | o => if o.vw = 0 then .no else .view o.vw
def ownE (sz e:Nat) : Own := if e = 999999 then .tight else .own sz e
inductive AV where
 | none
 | bool (b:Bool)
 | int (k:IntKind) (n:Int)
 | str (s:List UInt8)
 | agg (cs:List AV)
 | list (xs:List AV) (o:Own)
 | pend (xs:List AV) (sz:Nat)
 | ptr (id off:Nat)
 | nilp
 | lref (s off:Nat)
 | sref (id off n sz:Nat)
 | box (cs:List AV)
 | eref (x:AV) (off:Nat)
 | data (xs:List AV) (e:Nat)
 | lastr (s:Nat)
 | map (id:Nat)
 | nilm
 | func (f:Nat) (caps:List AV)
 | nilf
 | iface (t:Nat) (v:AV)
 | nili
 | tup (vs:List AV)
 | glob (g off:Nat)
instance : Inhabited AV := ⟨.none⟩
def AV.cells : AV → List AV
 | .agg cs => cs
 | v => [v]
def AV.cp1 : AV → AV
 | .list xs o => .list xs o.cp
 | .pend _ _ => .none
 | v => v
def AV.cpA : AV → AV
 | .agg cs => .agg (cs.map AV.cp1)
 | v => v.cp1
def AV.cp : AV → AV
 | .tup vs => .tup (vs.map AV.cpA)
 | v => v.cpA
def Own.ck : Own → Own
 | .tight => .tight
 | o => o.cp
def AV.ck1 : AV → AV
 | .list xs o => .list xs o.ck
 | v => v.cp1
def AV.spread : AV → List AV
 | .agg cs => cs.map AV.ck1
 | v => [v]
def AV.keep1 : AV → AV
 | .list xs o => .list xs o
 | v => v.cp
def AV.plain : AV → Bool
 | .none | .tup _ | .pend _ _ | .lref _ _ | .box _ | .eref _ _ | .data _ _ | .lastr _ => false
 | _ => true
def plains (vs:List AV) : Bool := vs.all AV.plain
abbrev Fr := List (Nat × AV)
def Fr.get : Fr → Nat → AV
 | [],_ => .none
 | (t,v) :: r,s => if t = s then v else Fr.get r s
def Fr.set : Fr → Nat → AV → Fr
 | [],s,v => [(s,v)]
 | (t,u) :: r,s,v => if t = s then (s,v) :: r else (t,u) :: Fr.set r s v
def Fr.keepOk (fr:Fr) : List Nat → List Nat → Bool
 | [],_ => true
 | s :: r,live => (match fr.get s with | .lref t _ => live.contains t | .lastr t => live.contains t | _ => true) && Fr.keepOk fr r live
def Fr.keep (fr:Fr) (live:List Nat) : Fr := live.map fun s => (s,fr.get s)
def AV.husk : AV → AV
 | .box cs => .box (cs.map fun _ => .none)
 | _ => .none
def Fr.husk : Fr → Fr
 | [] => []
 | (t,v) :: r => (t,v.husk) :: Fr.husk r
def Fr.noLast (fr:Fr) (s:Nat) : Bool := fr.all fun e => match fr.get e.1 with | .lastr t => !(t == s) | _ => true
inductive HObj where
 | cells (ty:Nat) (cs:List AV)
 | map (es:List (AV × AV))
 | dead
def HObj.live : HObj → Bool
 | .dead => false
 | _ => true
structure St where
 fr : Fr
 hp : List HObj
inductive Opd where
 | t (s:Nat) (take:Bool)
 | c (v:AV)
 | g (g:Nat)
 | f (f:Nat)
inductive EqK where
 | bool | ptr | iface | func | map | slice | ifaceT (t:Nat)
 deriving DecidableEq
inductive KeyK where
 | int | str | bool
 deriving DecidableEq
inductive Mem where
 | loc (r:Nat) | heap | elem | last (r:Nat)
 deriving DecidableEq
inductive LenK where
 | list | str | map
 deriving DecidableEq
inductive IOp where
 | mv (x:Opd)
 | pick (c a b:Opd)
 | alloc (heap:Bool) (ty:Nat) (cs:List AV)
 | box (heap:Bool) (x:Opd)
 | build (zs:List AV) (ps:List (Nat × Nat × Opd))
 | bslice (z:AV) (e n:Nat) (ps:List (Nat × Opd))
 | load (x:Opd) (m:Mem) (n:Nat) (agg take:Bool)
 | store (x:Opd) (m:Mem) (v:Opd) (n:Nat)
 | nilchk (x:Opd)
 | bin (op:BinOp) (x y:Opd)
 | eq (neg:Bool) (k:EqK) (x y:Opd)
 | un (op:UnOp) (x:Opd)
 | conv (k:IntKind) (x:Opd)
 | mkiface (t:Nat) (x:Opd)
 | mkfunc (f:Nat) (caps:List Opd)
 | mkmap
 | faddr (x:Opd) (off:Nat)
 | field (x:Opd) (off n:Nat) (agg:Bool)
 | iaddrL (x i:Opd) (sz:Nat)
 | iaddrA (x i:Opd) (len sz:Nat)
 | idxS (x i:Opd)
 | slcS (x:Opd) (lo hi:Option Opd)
 | slcL (x:Opd) (lo hi:Option Opd) (sz:Nat)
 | lookup (kd:KeyK) (m k:Opd) (z:AV) (ok take:Bool)
 | mapset (kd:KeyK) (m k v:Opd) (z:AV)
 | len (x:Opd) (kd:LenK)
 | sconv (x:Opd)
 | konst (v:AV)
 | append (x y:Opd) (sz e bytes:Nat) (pend:Bool)
 | min (x y:Opd)
 | max (x y:Opd)
 | extract (x:Opd) (i:Nat)
 | assert (x:Opd) (t:Nat) (z:AV) (ok:Bool)
 | panic (x:Opd)
 | call (f:Opd) (args:List Opd) (quiet:Bool)
 | sdata (x:Opd) (e:Nat)
 | ustr (p n:Opd) (e:Nat)
 | uptr (x:Opd) (u n:Nat)
 | ident (f:Nat) (x:Opd)
 | mkslice (z:AV) (e:Nat) (n c:Opd) (bytes:Nat)
 | mkbuf (z:AV) (e:Nat) (n c:Opd) (bytes:Nat)
 | slcA (x:Opd) (lo hi:Option Opd) (len sz:Nat)
 | strL (x:Opd)
 | bytesS (x:Opd)
 | idxB (f:Nat) (x c:Opd)
 | copyS (x y:Opd)
 | appR (x y:Opd) (sz bytes:Nat)
structure IOper where
 dst : Option Nat
 op : IOp
 guard : Option (Nat × Bool)
inductive ICode where
 | skip
 | region (ops:List IOper) (live:List Nat)
 | draw (ops:List IOper) (ord:List Nat) (pans live:List Nat)
 | seq (a b:ICode)
 | cond (c:Opd) (a b:ICode)
 | block (id:Nat) (body:ICode)
 | loop (body:ICode)
 | exit (id:Nat)
 | ret
 | stuck
inductive IRes where
 | tmp (s:Nat)
 | cell (s n:Nat) (agg:Bool)
structure DSpec where
 f : Nat
 caps : List Nat
 t : Nat
 rest : ICode
structure IFun where
 still : Bool
 arity : Nat
 body : ICode
 res : List IRes
 rcv : Option Nat := none
 dfr : Option DSpec := none
 frz : List (Nat × Nat × Nat × Bool) := []
inductive COut where
 | ret (v:AV) (hp:List HObj)
 | pan (v:AV) (hp:List HObj)
abbrev CallF := Nat → List AV → List HObj → Nat → Bool → Option COut
inductive Ex where
 | normal
 | exit (id:Nat)
 | ret
 | pan (v:AV)
inductive OpR where
 | val (v:AV) (st:St)
 | pan (v:AV) (st:St)
def opd (fr:Fr) : Opd → AV × Fr
 | .t s take =>
   match fr.get s with
   | .box _ => (.lref s 0,fr)
   | .pend _ _ => (.none,fr)
   | v => if take then (v,fr.set s v.cp) else (v.cp,fr)
 | .c v => (v,fr)
 | .g g => (.glob g 0,fr)
 | .f f => (.func f [],fr)
def opds (fr:Fr) : List Opd → List AV × Fr
 | [] => ([],fr)
 | x :: r =>
   let (v,fr1) := opd fr x
   let (vs,fr2) := opds fr1 r
   (v :: vs,fr2)
def cut (cs:List AV) (off n:Nat) : Option (List AV) := if off + n ≤ cs.length then some ((cs.drop off).take n) else none
def put (cs:List AV) (off:Nat) (vs:List AV) : List AV := cs.take off ++ vs ++ cs.drop (off + vs.length)
def behind (G:Nat → Option (List AV)) (st:St) : AV → Option (List AV × Nat)
 | .lref s off => match st.fr.get s with | .box cs => some (cs,off) | _ => none
 | .ptr id off => match st.hp[id]? with | some (.cells _ cs) => some (cs,off) | _ => none
 | .eref x off => some (x.cells,off)
 | .glob g off => (G g).map fun cs => (cs,off)
 | _ => none
def behindPut (lo:Nat) (st:St) (cs:List AV) : AV → Option St
 | .lref s _ => some { st with fr := st.fr.set s (.box cs) }
 | .ptr id _ => if lo ≤ id then match st.hp[id]? with | some (.cells ty _) => some { st with hp := st.hp.set id (.cells ty cs) } | _ => none else none
 | _ => none
def memOk (m:Mem) (p:AV) : Bool :=
 match m,p with
 | .loc r,.lref s _ => Nat.beq s r
 | .heap,.ptr _ _ => true
 | .heap,.glob _ _ => true
 | .elem,.eref _ _ => true
 | .last r,.lastr s => Nat.beq s r
 | _,_ => false
def ofCells (agg:Bool) (cs:List AV) : AV := if agg then .agg cs else cs.headD .none
def intBin (op:BinOp) (k:IntKind) (a b:Int) : Option AV :=
 match op with
 | .add => some (.int k (k.wrap (a + b)))
 | .sub => some (.int k (k.wrap (a - b)))
 | .mul => some (.int k (k.wrap (a * b)))
 | .quo => if b = 0 then none else some (.int k (k.wrap (a.tdiv b)))
 | .rem => if b = 0 then none else some (.int k (a.tmod b))
 | .and => some (.int k (k.wrap (BitVec.ofInt k.bits a &&& BitVec.ofInt k.bits b).toNat))
 | .or => some (.int k (k.wrap (BitVec.ofInt k.bits a ||| BitVec.ofInt k.bits b).toNat))
 | .xor => some (.int k (k.wrap (BitVec.ofInt k.bits a ^^^ BitVec.ofInt k.bits b).toNat))
 | .andNot => some (.int k (k.wrap (BitVec.ofInt k.bits a &&& ~~~ BitVec.ofInt k.bits b).toNat))
 | .eql => some (.bool (a == b))
 | .neq => some (.bool (a != b))
 | .lss => some (.bool (decide (a < b)))
 | .leq => some (.bool (decide (a ≤ b)))
 | .gtr => some (.bool (decide (a > b)))
 | .geq => some (.bool (decide (a ≥ b)))
 | _ => none
def strBin (op:BinOp) (a b:List UInt8) : Option AV :=
 match op with
 | .add => if a.length + b.length ≤ 9223372036854775807 then some (.str (a ++ b)) else none
 | .eql => some (.bool (a == b))
 | .neq => some (.bool (!(a == b)))
 | .lss => some (.bool (Go.Op.bytesLess a b))
 | .leq => some (.bool (Go.Op.bytesLess a b || a == b))
 | .gtr => some (.bool (!(Go.Op.bytesLess a b || a == b)))
 | .geq => some (.bool (!Go.Op.bytesLess a b))
 | _ => none
def shiftBin (op:BinOp) (k:IntKind) (a b:Int) : Option AV :=
 if b < 0 then none else
 match op with
 | .shl => some (.int k (k.wrap (a * 2 ^ (min b.toNat k.bits))))
 | .shr => some (.int k (a.fdiv (2 ^ (min b.toNat k.bits))))
 | _ => none
def eqAV : EqK → AV → AV → Option Bool
 | .bool,.bool a,.bool b => some (a == b)
 | .ptr,.nilp,.nilp => some true
 | .ptr,.nilp,.ptr _ _ => some false
 | .ptr,.ptr _ _,.nilp => some false
 | .ptr,.ptr i o,.ptr j p => if i = j then some (o == p) else none
 | .iface,.nili,.nili => some true
 | .iface,.nili,.iface _ _ => some false
 | .iface,.iface _ _,.nili => some false
 | .ifaceT t,.iface t1 (.int k a),.iface t2 (.int k' b) => if t1 = t2 then (if t1 = t ∧ k = k' then some (a == b) else none) else some false
 | .ifaceT _,.nili,.nili => none
 | .ifaceT _,.nili,.iface _ _ => some false
 | .ifaceT _,.iface _ _,.nili => some false
 | .func,.nilf,.nilf => some true
 | .func,.nilf,.func _ _ => some false
 | .func,.func _ _,.nilf => some false
 | .map,.nilm,.nilm => some true
 | .map,.nilm,.map _ => some false
 | .map,.map _,.nilm => some false
 | .slice,.list [] .nil,.list [] .nil => some true
 | .slice,.list (_ :: _) _,.list [] .nil => some false
 | _,_,_ => none
def binAV (op:BinOp) (x y:AV) : Option AV :=
 match x,y with
 | .int k a,.int k' b =>
   match op with
   | .shl | .shr => shiftBin op k a b
   | _ => if k = k' then intBin op k a b else none
 | .str a,.str b => strBin op a b
 | _,_ => none
def unAV (op:UnOp) (x:AV) : Option AV :=
 match op,x with
 | .neg,.int k n => some (.int k (k.wrap (0 - n)))
 | .xor,.int k n => intBin .xor k (if k.signed then -1 else k.max) n
 | .not,.bool b => some (.bool !b)
 | _,_ => none
def keyEq : KeyK → AV → AV → Option Bool
 | .int,.int k a,.int k' b => if k = k' then some (a == b) else none
 | .str,.str a,.str b => some (a == b)
 | .bool,.bool a,.bool b => some (a == b)
 | _,_,_ => none
def findKey (kd:KeyK) (k:AV) : List (AV × AV) → Nat → Option (Option (Nat × AV))
 | [],_ => some none
 | e :: es,i =>
   match keyEq kd k e.1 with
   | some true => some (some (i,e.2))
   | some false => findKey kd k es (i + 1)
   | none => none
def AV.flat : AV → Bool
 | .bool _ | .int _ _ | .str _ | .nilp | .nilm | .nilf | .nili => true
 | _ => false
mutual
def AV.closed (n:Nat) : AV → Bool
 | .none => true
 | .bool _ | .int _ _ | .str _ | .nilp | .nilm | .nilf | .nili | .glob _ _ => true
 | .agg cs => AV.closedL n cs
 | .list xs _ => AV.closedL n xs
 | .ptr id _ => Nat.blt id n
 | .sref id _ _ _ => Nat.blt id n
 | .map id => Nat.blt id n
 | .func _ cs => AV.closedL n cs
 | .iface _ v => AV.closed n v
 | .tup vs => AV.closedL n vs
 | .pend _ _ | .lref _ _ | .box _ | .eref _ _ | .data _ _ | .lastr _ => false
def AV.closedL (n:Nat) : List AV → Bool
 | [] => true
 | v :: r => AV.closed n v && AV.closedL n r
end
def buildCells : List AV → List (Nat × Nat × AV) → Option (List AV)
 | cs,[] => some cs
 | cs,(off,n,v) :: r => if v.spread.length = n ∧ off + n ≤ cs.length then buildCells (put cs off v.spread) r else none
def fillElems (n:Nat) : List AV → List (Nat × AV) → Option (List AV)
 | xs,[] => some xs
 | xs,(i,v) :: r => if v.cells.length = n ∧ i < xs.length then fillElems n (xs.set i v) r else none
def bytesOf : List AV → Option (List UInt8)
 | [] => some []
 | .int .u8 n :: r => if 0 ≤ n ∧ n < 256 then (bytesOf r).map (UInt8.ofNat n.toNat :: ·) else none
 | _ :: _ => none
def okSize (sz:Nat) : List AV → Bool
 | [] => true
 | x :: _ => x.cells.length == sz
def idxB : List UInt8 → UInt8 → Int
 | [],_ => -1
 | b :: l,c => if b == c then 0 else if idxB l c == -1 then -1 else idxB l c + 1
def bound (fr:Fr) (d:Nat) : Option Opd → Option Nat
 | none => some d
 | some x => match (opd fr x).1 with | .int _ i => if 0 ≤ i then some i.toNat else none | _ => none
def ret1 (v:AV) (st:St) : Option OpR := some (.val v st)
def evalOp (G : Nat → Option (List AV)) (call:CallF) (lo:Nat) (o:IOp) (st:St) : Option OpR :=
 match o with
 | .mv x => let (v,fr) := opd st.fr x; ret1 v { st with fr }
 | .pick c a b =>
   match (opd st.fr c).1 with
   | .bool t => ret1 (if t then (opd st.fr a).1.cp else (opd st.fr b).1.cp) st
   | _ => none
 | .konst v => ret1 v st
 | .alloc heap ty cs =>
   if heap then ret1 (.ptr st.hp.length 0) { st with hp := st.hp ++ [.cells ty cs] } else ret1 (.box cs) st
 | .box heap x =>
   let (v,fr) := opd st.fr x
   if v.plain = false then none else
   if heap then ret1 (.ptr st.hp.length 0) { st with fr,hp := st.hp ++ [.cells 0 v.spread] } else ret1 (.box v.spread) { st with fr }
 | .build zs ps =>
   let (vs,fr) := opds st.fr (ps.map (·.2.2))
   if plains vs = false then none else
   match buildCells zs ((ps.zip vs).map fun (p,v) => (p.1,p.2.1,v)) with
   | some cs => ret1 (.agg cs) { st with fr }
   | none => none
 | .bslice z e n ps =>
   let (vs,fr) := opds st.fr (ps.map (·.2))
   if plains vs = false then none else
   match fillElems z.cells.length (List.replicate n z) ((ps.zip vs).map fun (p,v) => (p.1,v.cp)) with
   | some xs => ret1 (.list xs (ownE z.cells.length e)) { st with fr }
   | none => none
 | .load x m n agg take =>
   if memOk m (opd st.fr x).1 = false then none else
   match behind G st (opd st.fr x).1 with
   | some (cs,off) =>
     match cut cs off n with
     | some l =>
       if take then
         if agg = false ∧ n = 1 then
           match behindPut lo st (put cs off (l.map AV.cp1)) (opd st.fr x).1 with
           | some st' => ret1 (ofCells agg l) st'
           | none => none
         else none
       else ret1 (ofCells agg (l.map AV.cp1)) st
     | none => none
   | none => none
 | .store x m v n =>
   let (u,fr) := opd st.fr v
   if u.plain = false ∨ memOk m (opd fr x).1 = false then none else
   match (opd fr x).1 with
   | .lastr s =>
     match x,fr.get s with
     | .t p _,.pend xs sz =>
       if u.spread.length = n ∧ n = sz ∧ p ≠ s ∧ (fr.set p .none).noLast s = true then ret1 (.tup []) { st with fr := (fr.set p .none).set s (.list (xs ++ [u.cp]) (.own sz 0)) } else none
     | _,_ => none
   | p =>
     match behind G { st with fr } p with
     | some (cs,off) =>
       if u.spread.length = n ∧ off + n ≤ cs.length then
         match behindPut lo { st with fr } (put cs off u.spread) p with
         | some st' => ret1 (.tup []) st'
         | none => none
       else none
     | none => none
 | .nilchk x =>
   match (opd st.fr x).1 with
   | .ptr i o => ret1 (.ptr i o) st
   | .lref s o => ret1 (.lref s o) st
   | .glob g o => ret1 (.glob g o) st
   | _ => none
 | .bin op x y => match binAV op (opd st.fr x).1 (opd st.fr y).1 with | some v => ret1 v st | none => none
 | .eq neg k x y => match eqAV k (opd st.fr x).1 (opd st.fr y).1 with | some b => ret1 (.bool (if neg then !b else b)) st | none => none
 | .un op x => match unAV op (opd st.fr x).1 with | some v => ret1 v st | none => none
 | .conv k x => match (opd st.fr x).1 with | .int _ n => ret1 (.int k (k.wrap n)) st | _ => none
 | .mkiface t x =>
   let (v,fr) := opd st.fr x
   if v.plain then ret1 (.iface t v.cp) { st with fr } else none
 | .mkfunc f caps =>
   let (vs,fr) := opds st.fr caps
   if plains vs then ret1 (.func f (vs.map AV.cp)) { st with fr } else none
 | .mkmap => ret1 (.map st.hp.length) { st with hp := st.hp ++ [.map []] }
 | .faddr x off =>
   match (opd st.fr x).1 with
   | .ptr i o => ret1 (.ptr i (o + off)) st
   | .lref s o => ret1 (.lref s (o + off)) st
   | .eref v o => ret1 (.eref v (o + off)) st
   | .glob g o => ret1 (.glob g (o + off)) st
   | _ => none
 | .field x off n agg =>
   match (opd st.fr x).1 with
   | .agg cs => match cut cs off n with | some l => ret1 (ofCells agg (l.map AV.cp1)) st | none => none
   | _ => none
 | .iaddrL x i sz =>
   match x,(opd st.fr x).1,(opd st.fr i).1 with
   | _, .list xs _,.int _ j =>
     if 0 ≤ j ∧ j < xs.length then
       match xs[j.toNat]? with
       | some e => if e.cells.length = sz then ret1 (.eref e 0) st else none
       | none => none
     else none
   | _,.sref id o n s,.int _ j => if 0 ≤ j ∧ j < n ∧ s = sz then ret1 (.ptr id (o + j.toNat * sz)) st else none
   | .t s _,_,.int _ j =>
     match st.fr.get s with
     | .pend xs sz' => if j = xs.length ∧ sz' = sz then ret1 (.lastr s) st else none
     | _ => none
   | _,_,_ => none
 | .iaddrA x i len sz =>
   match (opd st.fr x).1,(opd st.fr i).1 with
   | .ptr id o,.int _ j => if 0 ≤ j ∧ j < len then ret1 (.ptr id (o + j.toNat * sz)) st else none
   | .lref s o,.int _ j => if 0 ≤ j ∧ j < len then ret1 (.lref s (o + j.toNat * sz)) st else none
   | .eref v o,.int _ j => if 0 ≤ j ∧ j < len then ret1 (.eref v (o + j.toNat * sz)) st else none
   | .glob g o,.int _ j => if 0 ≤ j ∧ j < len then ret1 (.glob g (o + j.toNat * sz)) st else none
   | _,_ => none
 | .idxS x i =>
   match (opd st.fr x).1,(opd st.fr i).1 with
   | .str s,.int _ j => if 0 ≤ j then match s[j.toNat]? with | some b => ret1 (.int .u8 b.toNat) st | none => none else none
   | _,_ => none
 | .slcS x a b =>
   match (opd st.fr x).1 with
   | .str s =>
     match bound st.fr 0 a,bound st.fr s.length b with
     | some l,some h => if l ≤ h ∧ h ≤ s.length then ret1 (.str ((s.take h).drop l)) st else none
     | _,_ => none
   | _ => none
 | .slcL x a b sz =>
   match (opd st.fr x).1 with
   | .list xs _ =>
     match bound st.fr 0 a,bound st.fr xs.length b with
     | some l,some h => if l ≤ h ∧ h ≤ xs.length ∧ okSize sz xs = true then ret1 (.list ((xs.take h).drop l) .no) st else none
     | _,_ => none
   | .sref id o n s =>
     match bound st.fr 0 a,bound st.fr n b with
     | some l,some h => if l ≤ h ∧ h ≤ n ∧ s = sz then ret1 (.sref id (o + l * sz) (h - l) sz) st else none
     | _,_ => none
   | _ => none
 | .lookup kd m k z ok take =>
   let found (es:List (AV × AV)) (id:Option Nat) : Option OpR :=
     if (opd st.fr k).1.plain = false then none else
     match findKey kd (opd st.fr k).1 es 0 with
     | some (some (i,v)) =>
       if take then
         match id with
         | some id => if lo ≤ id ∧ v.plain = true then ret1 (if ok then .tup [v,.bool true] else v) { st with hp := st.hp.set id (.map (es.set i ((es.getD i default).1,v.cp))) } else none
         | none => none
       else ret1 (if ok then .tup [v.cp,.bool true] else v.cp) st
     | some none => ret1 (if ok then .tup [z,.bool false] else z) st
     | none => none
   match (opd st.fr m).1 with
   | .map id => match st.hp[id]? with | some (.map es) => found es (some id) | _ => none
   | .nilm => found [] none
   | _ => none
 | .mapset kd m k v _ =>
   let (u,fr) := opd st.fr v
   if u.plain = false ∨ (opd fr k).1.plain = false then none else
   match (opd fr m).1 with
   | .map id =>
     match st.hp[id]? with
     | some (.map es) =>
       if lo ≤ id then
         match findKey kd (opd fr k).1 es 0 with
         | some (some (i,_)) => ret1 (.tup []) { st with fr,hp := st.hp.set id (.map (es.set i ((es.getD i default).1,u.keep1))) }
         | some none => ret1 (.tup []) { st with fr,hp := st.hp.set id (.map (es ++ [((opd fr k).1,u.keep1)])) }
         | none => none
       else none
     | _ => none
   | _ => none
 | .len x kd =>
   match kd,(opd st.fr x).1 with
   | .list,.list xs _ => ret1 (.int .i64 xs.length) st
   | .list,.sref _ _ n _ => ret1 (.int .i64 n) st
   | .str,.str s => ret1 (.int .i64 s.length) st
   | .map,.nilm => ret1 (.int .i64 0) st
   | .map,.map id => match st.hp[id]? with | some (.map es) => ret1 (.int .i64 es.length) st | _ => none
   | _,_ => none
 | .sconv x => match (opd st.fr x).1 with | .str s => ret1 (.str s) st | _ => none
 | .append x y sz e bytes pend =>
   let (a,fr) := opd st.fr x
   match a with
   | .list xs o =>
     if ((o = .nil ∨ o = .own sz e) ∨ (o = .tight ∧ e = 0)) ∧ okSize sz xs = true then
       match (opd fr y).1 with
       | .list ys _ =>
         if okSize sz ys = true ∧ (xs.length + ys.length) * bytes ≤ 140737488355328 ∧ (xs.length + ys.length) ≤ 9223372036854775807 then
           if pend then
             if ys.length = 1 ∧ e = 0 then ret1 (.pend xs sz) { st with fr } else none
           else ret1 (.list (xs ++ ys) (.own sz e)) { st with fr }
         else none
       | .str s =>
         if sz = 1 ∧ (xs.length + s.length) * bytes ≤ 140737488355328 ∧ pend = false ∧ (xs.length + s.length) ≤ 9223372036854775807 then
           ret1 (.list (xs ++ s.map fun b => .int .u8 b.toNat) (.own sz e)) { st with fr }
         else none
       | _ => none
     else none
   | _ => none
 | .min x y =>
   match (opd st.fr x).1,(opd st.fr y).1 with
   | .int k a,.int _ b => ret1 (.int k (if b < a then b else a)) st
   | _,_ => none
 | .max x y =>
   match (opd st.fr x).1,(opd st.fr y).1 with
   | .int k a,.int _ b => ret1 (.int k (if b > a then b else a)) st
   | _,_ => none
 | .extract x i =>
   let (v,fr) := opd st.fr x
   match v with
   | .tup vs => match vs[i]? with | some u => if u.plain then ret1 u { st with fr } else none | none => none
   | _ => none
 | .assert x t z ok =>
   match (opd st.fr x).1 with
   | .iface u v => if u = t then ret1 (if ok then .tup [v.cp,.bool true] else v.cp) st else if ok then ret1 (.tup [z,.bool false]) st else none
   | .nili => if ok then ret1 (.tup [z,.bool false]) st else none
   | _ => none
 | .panic x =>
   match (opd st.fr x).1 with
   | .iface t v => some (.pan (.iface t v) st)
   | _ => none
 | .call f args q =>
   let (vs,fr) := opds st.fr args
   if plains vs = false then none else
   match (opd fr f).1 with
   | .func f caps =>
     if plains caps = false then none else
     match call f (vs ++ caps.map AV.cp) st.hp lo q with
     | some (.ret v hp) => ret1 v { fr,hp }
     | some (.pan v hp) => some (.pan v { fr,hp })
     | none => none
   | _ => none
 | .sdata x e =>
   match (opd st.fr x).1 with
   | .list _ .nil => ret1 .nilp st
   | .list xs (.view e') => if xs.isEmpty = false ∧ e' = e ∧ e ≠ 0 ∧ okSize 1 xs = true then ret1 (.data xs e) st else none
   | _ => none
 | .ustr p n e =>
   match (opd st.fr p).1,(opd st.fr n).1 with
   | .nilp,.int .i64 m => if m = 0 then ret1 (.str []) st else none
   | .ptr id o,.int .i64 m =>
     match st.hp[id]? with
     | some (.cells t cs) =>
       if (lo ≤ id ∧ o = 0) ∧ (t = e ∧ e ≠ 0) ∧ (0 < m ∧ m ≤ 9223372036854775807) then
         match cut cs 0 m.toNat with
         | some l =>
           match bytesOf l with
           | some bs => ret1 (.str bs) { st with hp := st.hp.set id .dead }
           | none => none
         | none => none
       else none
     | _ => none
   | .data xs e',.int .i64 m =>
     match bytesOf xs with
     | some bs => if m = xs.length ∧ xs.isEmpty = false ∧ e' = e ∧ m ≤ 9223372036854775807 then ret1 (.str bs) st else none
     | none => none
   | _,_ => none
 | .uptr x u n =>
   match (opd st.fr x).1 with
   | .ptr i o => match st.hp[i]? with | some (.cells ty cs) => if o = 0 ∧ ty = u ∧ u ≠ 0 ∧ cs.length = n ∧ n ≠ 0 then ret1 (.ptr i o) st else none | _ => none
   | _ => none
 | .ident _ x =>
   match (opd st.fr x).1 with
   | .ptr i o => ret1 (.ptr i o) st
   | _ => none
 | .mkslice z e n c bytes =>
   match (opd st.fr n).1,(opd st.fr c).1 with
   | .int .i64 a,.int .i64 b => if 0 ≤ a ∧ a ≤ b ∧ b.toNat * bytes ≤ 140737488355328 ∧ b ≤ 9223372036854775807 then ret1 (.list (List.replicate a.toNat z) (.own z.cells.length e)) st else none
   | _,_ => none
 | .mkbuf z e n c bytes =>
   match (opd st.fr n).1,(opd st.fr c).1 with
   | .int .i64 a,.int .i64 b => if 0 ≤ a ∧ a ≤ b ∧ b.toNat * bytes ≤ 140737488355328 ∧ b ≤ 9223372036854775807 then ret1 (.sref st.hp.length 0 a.toNat z.cells.length) { st with hp := st.hp ++ [.cells e (List.replicate b.toNat z.cells).flatten] } else none
   | _,_ => none
 | .slcA x a b len sz =>
   match (opd st.fr x).1 with
   | .ptr id o =>
     match st.hp[id]?,bound st.fr 0 a,bound st.fr len b with
     | some (.cells _ cs),some l,some h => if l ≤ h ∧ h ≤ len ∧ o + len * sz ≤ cs.length ∧ len ≤ 9223372036854775807 then ret1 (.sref id (o + l * sz) (h - l) sz) st else none
     | _,_,_ => none
   | _ => none
 | .strL x =>
   match (opd st.fr x).1 with
   | .list xs _ => match bytesOf xs with | some bs => ret1 (.str bs) st | none => none
   | .sref id o n sz =>
     match st.hp[id]? with
     | some (.cells _ cs) =>
       if sz = 1 then
         match cut cs o n with
         | some l =>
           match bytesOf l with
           | some bs => ret1 (.str bs) st
           | none => none
         | none => none
       else none
     | _ => none
   | _ => none
 | .bytesS x =>
   match (opd st.fr x).1 with
   | .str s => if s.length ≤ 140737488355328 then ret1 (.list (s.map fun b => .int .u8 b.toNat) .no) st else none
   | _ => none
 | .idxB _ x c =>
   match (opd st.fr x).1,(opd st.fr c).1 with
   | .str s,.int .u8 n => ret1 (.int .i64 (idxB s (UInt8.ofNat n.toNat))) st
   | _,_ => none
 | .copyS x y =>
   match (opd st.fr x).1,(opd st.fr y).1 with
   | .sref id o n sz,.str s =>
     if min s.length n = 0 then none else
     match st.hp[id]? with
     | some (.cells t cs) =>
       if lo ≤ id ∧ sz = 1 ∧ o + min s.length n ≤ cs.length then
         ret1 (.int .i64 (min s.length n : Nat)) { st with hp := st.hp.set id (.cells t (put cs o ((s.take (min s.length n)).map fun b => .int .u8 b.toNat))) }
       else none
     | _ => none
   | _,_ => none
 | .appR x y sz bytes =>
   match (opd st.fr x).1,(opd st.fr y).1 with
   | .list [] .nil,.list ys _ =>
     if ys.isEmpty = false ∧ okSize sz ys = true ∧ ys.length * bytes ≤ 140737488355328 ∧ ys.length ≤ 9223372036854775807 then
       ret1 (.sref st.hp.length 0 ys.length sz) { st with hp := st.hp ++ [.cells 0 ((ys.map AV.cells).flatten.map AV.cp1)] }
     else none
   | .sref id o n s,.list ys _ =>
     match st.hp[id]? with
     | some (.cells _ cs) =>
       if (lo ≤ id ∧ o = 0 ∧ s = sz) ∧ n * sz ≤ cs.length ∧ okSize sz ys = true ∧ (n + ys.length) * bytes ≤ 140737488355328 ∧ (n + ys.length) ≤ 9223372036854775807 then
         ret1 (.sref st.hp.length 0 (n + ys.length) sz) { st with hp := st.hp.set id .dead ++ [.cells 0 ((cs.take (n * sz) ++ (ys.map AV.cells).flatten).map AV.cp1)] }
       else none
     | _ => none
   | _,_ => none
def AV.loose : AV → Bool
 | .box _ | .pend _ _ => false
 | _ => true
def St.put (st:St) (dst:Option Nat) (v:AV) : Option St :=
 match dst with
 | some d => if (st.fr.get d).loose then some { st with fr := st.fr.set d v } else none
 | none => some st
def wanted (fr:Fr) : Option (Nat × Bool) → Option Bool
 | none => some true
 | some (s,b) =>
   match fr.get s with
   | .bool t => some (t == b)
   | .tup [] => some false
   | _ => none
def evalOps (G:Nat → Option (List AV)) (call:CallF) (lo:Nat) : List IOper → St → Option (Ex × St)
 | [],st => some (.normal,st)
 | o :: r,st =>
   match wanted st.fr o.guard with
   | some true =>
     match evalOp G call lo o.op st with
     | some (.val v st') => match st'.put o.dst v with | some st'' => evalOps G call lo r st'' | none => none
     | some (.pan v st') => some (.pan v,st')
     | none => none
   | some false => match st.put o.dst (.tup []) with | some st'' => evalOps G call lo r st'' | none => none
   | none => none
def evalDraw (G:Nat → Option (List AV)) (call:CallF) (lo:Nat) (ops:List IOper) (pans:List Nat) : List Nat → St → Option (Ex × St)
 | [],st => some (.normal,st)
 | i :: r,st =>
   match ops[i]? with
   | none => none
   | some o =>
     match evalOps G call lo [o] st with
     | some (.normal,st') => evalDraw G call lo ops pans r st'
     | some (.pan v,st') => if pans.contains i then some (.pan v,⟨[],st'.hp⟩) else none
     | _ => none
abbrev LoopF := ICode → St → Option (Ex × St)
def evalC (G:Nat → Option (List AV)) (call:CallF) (loop:LoopF) (lo:Nat) : ICode → St → Option (Ex × St)
 | .skip,st => some (.normal,st)
 | .region ops live,st =>
   match evalOps G call lo ops st with
   | some (.normal,st') => if st'.fr.keepOk live live then some (.normal,{ st' with fr := st'.fr.keep live }) else none
   | r => r
 | .draw ops ord pans live,st =>
   match evalDraw G call lo ops pans ord st with
   | some (.normal,st') => if st'.fr.keepOk live live then some (.normal,{ st' with fr := st'.fr.keep live }) else none
   | some (ex,st') => some (ex,⟨st.fr.husk,st'.hp⟩)
   | none => none
 | .seq a b,st =>
   match evalC G call loop lo a st with
   | some (.normal,st') => evalC G call loop lo b st'
   | r => r
 | .cond c a b,st =>
   match (opd st.fr c).1 with
   | .bool t => if t = true then evalC G call loop lo a st else evalC G call loop lo b st
   | _ => none
 | .block id body,st =>
   match evalC G call loop lo body st with
   | some (.exit i,st') => if i = id then some (.normal,st') else some (.exit i,st')
   | r => r
 | .loop body,st => loop body st
 | .exit id,st => some (.exit id,st)
 | .ret,st => some (.ret,st)
 | .stuck,_ => none
def evalRes1 (st:St) : IRes → Option AV
 | .tmp s => if (st.fr.get s).plain then some (st.fr.get s) else none
 | .cell s n agg =>
   match st.fr.get s with
   | .box cs => if cs.length = n ∧ (ofCells agg cs).plain = true then some (ofCells agg cs) else none
   | .ptr id o =>
     match st.hp[id]? with
     | some (.cells _ cs) => match cut cs o n with | some l => if (ofCells agg (l.map AV.cp1)).plain = true then some (ofCells agg (l.map AV.cp1)) else none | none => none
     | _ => none
   | _ => none
def evalRess (st:St) : List IRes → Option (List AV)
 | [] => some []
 | r :: rs => match evalRes1 st r,evalRess st rs with | some v,some vs => some (v :: vs) | _,_ => none
def chunks (sz:Nat) (agg:Bool) : Nat → List AV → List AV
 | 0,_ => []
 | n + 1,l => (if agg then .agg ((l.take sz).map AV.cp1) else (l.headD .none).cp1) :: chunks sz agg n (l.drop sz)
def frz1 (lo : Nat) (st:St) (s i sz:Nat) (agg:Bool) : Option St :=
 match st.fr.get s with
 | .box cs =>
   match cs[i]? with
   | some (.sref id o n z) =>
     match st.hp[id]? with
     | some (.cells _ ds) =>
       if lo ≤ id ∧ z = sz ∧ (agg = true ∨ sz = 1) ∧ o + n * sz ≤ ds.length then
         some { fr := st.fr.set s (.box (cs.set i (.list (chunks sz agg n (ds.drop o)) .no))),hp := st.hp.set id .dead }
       else none
     | _ => none
   | some _ => some st
   | none => none
 | _ => none
def frzs (lo:Nat) : List (Nat × Nat × Nat × Bool) → St → Option St
 | [],st => some st
 | (s,i,sz,agg) :: r,st => match frz1 lo st s i sz agg with | some st' => frzs lo r st' | none => none
def tupOf : List AV → AV
 | [v] => v
 | vs => .tup vs
def enter : Nat → List AV → Fr
 | _,[] => []
 | i,v :: r => (i,v) :: enter (i + 1) r
abbrev IProg := Nat → Option IFun
def evalRecv (G:Nat → Option (List AV)) (IP:IProg) (call:CallF) (loop:LoopF) (lo:Nat) (f:Nat) (caps:List AV) (hp:List HObj) (m:AV) : Option (List HObj) :=
 match IP f with
 | none => none
 | some fn =>
   match fn.rcv,fn.dfr with
   | some s,none =>
     if Nat.beq caps.length fn.arity = false ∨ fn.res.isEmpty = false ∨ s < fn.arity then none else
     match evalC G call loop lo fn.body { fr := (enter 0 (caps.map AV.cp)).set s m.cp,hp } with
     | some (.normal,st) => some st.hp
     | some (.ret,st) => some st.hp
     | _ => none
   | _,_ => none
def toHeap (fr:Fr) : List Nat → List HObj → Option (List HObj)
 | [],hp => some hp
 | s :: r,hp => match fr.get s with | .box cs => toHeap fr r (hp ++ [.cells 0 cs]) | _ => none
def ptrsFrom : Nat → List Nat → List AV
 | _,[] => []
 | n,_ :: r => .ptr n 0 :: ptrsFrom (n + 1) r
def setPtrs : Nat → List Nat → Fr
 | _,[] => []
 | n,s :: r => (s,.ptr n 0) :: setPtrs (n + 1) r
def evalFin1 (G:Nat → Option (List AV)) (IP:IProg) (call:CallF) (loop:LoopF) (lo:Nat) (d:DSpec) (s3:St) (m:AV) : Option (Ex × St) :=
 match toHeap s3.fr d.caps s3.hp with
 | some hp1 =>
   match evalRecv G IP call loop lo d.f (ptrsFrom s3.hp.length d.caps) hp1 m with
   | some hp2 => some (.ret,⟨setPtrs s3.hp.length d.caps,hp2⟩)
   | none => none
 | none => none
def evalFin (G:Nat → Option (List AV)) (IP:IProg) (call:CallF) (loop:LoopF) (lo:Nat) (d:DSpec) : Option (Ex × St) → Option (Ex × St)
 | some (.normal,s3) => evalFin1 G IP call loop lo d s3 .nili
 | some (.ret,s3) => evalFin1 G IP call loop lo d s3 .nili
 | some (.pan v,s3) => evalFin1 G IP call loop lo d s3 v
 | _ => none
def evalF (G:Nat → Option (List AV)) (IP:IProg) (call:CallF) (loop:LoopF) (lo:Nat) (fn:IFun) (st:St) : Option (Ex × St) :=
 match fn.dfr with
 | none => evalC G call loop lo fn.body st
 | some d =>
   match evalC G call loop lo fn.body st with
   | some (.normal,s1) => if (s1.fr.get d.t).loose = true then evalFin G IP call loop lo d (evalC G call loop lo d.rest { s1 with fr := s1.fr.set d.t .none }) else none
   | r => r
def callBody (G:Nat → Option (List AV)) (IP:IProg) (call:CallF) (loop:Nat → LoopF) : CallF := fun f args hp lo q =>
 match IP f with
 | none => none
 | some fn =>
   if ((q && !fn.still) || !Nat.beq args.length fn.arity || fn.rcv.isSome) = true then none else
   let lo' := if fn.still then hp.length else lo
   match evalF G IP call (loop lo') lo' fn { fr := enter 0 args,hp } with
   | some (.normal,st0) | some (.ret,st0) =>
     match frzs lo' fn.frz st0 with
     | some st =>
       match evalRess st fn.res with
       | some vs =>
         if fn.still then
           if AV.closed hp.length (tupOf vs) = true then some (.ret (tupOf vs) hp) else none
         else some (.ret (tupOf vs) st.hp)
       | none => none
     | none => none
   | some (.pan v,st) =>
     if fn.still then
       if AV.closed hp.length v = true then some (.pan v hp) else none
     else some (.pan v st.hp)
   | _ => none
def loopBody (G:Nat → Option (List AV)) (call:CallF) (loop:Nat → LoopF) : Nat → LoopF := fun lo body st =>
 match evalC G call (loop lo) lo body st with
 | some (.normal,st') => loop lo body st'
 | r => r
def run (G:Nat → Option (List AV)) (IP:IProg) : Nat → CallF × (Nat → LoopF)
 | 0 => (fun _ _ _ _ _ => none,fun _ _ _ => none)
 | k + 1 => let r := run G IP k; (callBody G IP r.1 r.2,loopBody G r.1 r.2)
end Go.Proofs.YtkofimhnehkdoaaGreatDoor.Rf
end
section
namespace Go.Proofs.YtkofimhnehkdoaaGreatDoor.Rf
inductive Root where
 | fr (s:Nat)
 | arg (j:Nat)
 | ob (id:Nat)
 | mp (id i:Nat)
 deriving DecidableEq
inductive Tag where
 | out | imm | elt
 | box (r:Root)
 | obj (id:Nat)
 | tail (r:Root) (i:Nat)
 deriving DecidableEq
def Tag.ro : Tag → Prop
 | .imm | .elt => True
 | _ => False
structure Gh where
 ow : Nat → Nat → Tag
 hb : List Nat
 bx : Root → Nat
def Ones (vs:List Value) : Prop := ∀ u,u ∈ vs → u.oneCell' = true
def Row0 (w:World) (b e n:Nat) : Prop := ∃ cs hi,w.heap[b]? = some (.cells cs e (0,hi)) ∧ cs.size = n
def View (g:Gh) (w:World) (m e:Nat) (a:Addr) : Prop := a.off = 0 ∧ a.spot = none ∧ (∃ n,Row0 w a.block e n ∧ m ≤ n) ∧ ∀ o,o < m → g.ow a.block o = .elt
section
variable (g:Gh) (w:World)
mutual
def V : AV → Value → Prop
 | .none,_ => True
 | .bool b,cv => cv = .bool b
 | .int k n,cv => cv = .int k n
 | .str s,cv => cv = .string ⟨s.toArray⟩
 | .agg cs,cv => ∃ vs : List Value,cv = .agg vs.toArray ∧ VS cs vs ∧ Ones vs
 | .list xs o,cv => ∃ A c,cv = .slice A xs.length c ∧ xs.length ≤ c ∧ c ≤ 9223372036854775807 ∧ ((o = .nil → A = none) ∧ (o = .tight → c = xs.length)) ∧
     (A = none → c = 0) ∧ ∀ a,A = some a → ((o ≠ .no ∨ 0 < c) → a.spot = none) ∧ (o.vw ≠ 0 → View g w xs.length o.vw a) ∧ ∃ sz,VE sz xs a.block a.off
 | .ptr id off,cv => ∃ b,g.hb[id]? = some b ∧ cv = .pointer (some ⟨b,off,none⟩)
 | .sref id off n sz,cv => ∃ b o c,(g.hb[id]? = some b ∧ (n ≤ c ∧ c ≤ 9223372036854775807) ∧ (0 < c → o = off) ∧ ∃ e m,Row0 w b e m ∧ o + c * sz ≤ m) ∧ cv = .slice (some ⟨b,o,none⟩) n c
 | .nilp,cv => cv = .pointer none
 | .map id,cv => ∃ b,g.hb[id]? = some b ∧ cv = .map (some b)
 | .nilm,cv => cv = .map none
 | .func f caps,cv => ∃ vs : List Value,cv = .func (.func f) #[] vs.toArray ∧ VS caps vs
 | .nilf,cv => cv = .nilFunc
 | .iface t v,cv => ∃ u,cv = .iface t u ∧ V v u
 | .nili,cv => cv = .nilIface
 | .tup vs,cv => ∃ us : List Value,cv = .tuple us.toArray ∧ VS vs us
 | .glob b off,cv => cv = .pointer (some ⟨b,off,none⟩)
 | .pend _ _,_ | .lref _ _,_ | .box _,_ | .eref _ _,_ | .data _ _,_ | .lastr _,_ => False
def VS : List AV → List Value → Prop
 | [],us => us = []
 | v :: vs,us => ∃ u r,us = u :: r ∧ V v u ∧ VS vs r
def VC : List AV → Nat → Nat → Prop
 | [],_,_ => True
 | c :: cs,b,off => ((g.ow b off).ro ∧ ∃ cv,w.cell? ⟨b,off,none⟩ = some cv ∧ cv.oneCell' = true ∧ V c cv) ∧ VC cs b (off + 1)
def VE (sz:Nat) : List AV → Nat → Nat → Prop
 | [],_,_ => True
 | .agg cs :: xs,b,off => (cs.length = sz ∧ VC cs b off) ∧ VE sz xs b (off + sz)
 | v :: xs,b,off => (1 = sz ∧ (g.ow b off).ro ∧ ∃ cv,w.cell? ⟨b,off,none⟩ = some cv ∧ cv.oneCell' = true ∧ V v cv) ∧ VE sz xs b (off + sz)
end
def Tail (r:Root) (i:Nat) (xs:List AV) (sz:Nat) (cv:Value) : Prop :=
 ∀ a n c,cv = .slice (some a) n c → VE g w sz xs a.block a.off ∧
   ∀ o,a.off + xs.length * sz ≤ o → o < a.off + c * sz → g.ow a.block o = .tail r i ∧ (∃ u,w.cell? ⟨a.block,o,none⟩ = some u) ∧ w.frozen? ⟨a.block,o,none⟩ = false
def OwnsL (r:Root) (cs:List AV) (vs:List Value) : Prop :=
 ∀ (i:Nat) xs sz e cv,cs[i]? = some (AV.list xs (.own sz e)) → vs[i]? = some cv → Tail g w r i xs sz cv
def Owns (r:Root) (v:AV) (cv:Value) : Prop :=
 match v with
 | .list xs (.own sz _) => Tail g w r 0 xs sz cv
 | .tup vs => ∀ us : List Value,cv = .tuple us.toArray → OwnsL g w r vs us
 | _ => True
def VX (fr:Fr) (tm:Array Value) (v:AV) (cv:Value) : Prop :=
 match v with
 | .lref t off => cv = .pointer (some ⟨g.bx (.fr t),off,none⟩) ∧ ∃ cs,fr.get t = .box cs
 | .eref x off => ∃ b o0,cv = .pointer (some ⟨b,o0 + off,none⟩) ∧ VC g w x.cells b o0
 | .data xs e => ∃ a,cv = .pointer (some a) ∧ View g w xs.length e a ∧ VE g w 1 xs a.block 0
 | .lastr t => ∃ xs sz a c,fr.get t = .pend xs sz ∧ tm.getD t undef = .slice (some a) (xs.length + 1) c ∧ cv = .pointer (some ⟨a.block,a.off + xs.length * sz,none⟩)
 | v => V g w v cv
def VF (fr:Fr) (tm:Array Value) (r:Root) (v:AV) (cv:Value) : Prop :=
 match v with
 | .box cs => ∃ (vs:List Value) (ty:TypeId),cv = .pointer (some ⟨g.bx r,0,none⟩) ∧ w.heap[g.bx r]? = some (.cells vs.toArray ty (0,0)) ∧
     (VS g w cs vs ∧ Ones vs) ∧ (∀ o,g.ow (g.bx r) o = .box r) ∧ OwnsL g w r cs vs
 | .pend xs sz => ∃ a c,cv = .slice (some a) (xs.length + 1) c ∧ xs.length + 1 ≤ c ∧ c ≤ 9223372036854775807 ∧ a.spot = none ∧ Tail g w r 0 xs sz (.slice (some a) (xs.length + 1) c)
 | v => VX g w fr tm v cv ∧ Owns g w r v cv
def ObjRel (id b:Nat) : HObj → Prop
 | .dead => False
 | .cells t cs => ∃ (vs sp:List Value) (ty:TypeId),w.heap[b]? = some (.cells (vs ++ sp).toArray ty (0,0)) ∧ (VS g w cs vs ∧ Ones vs) ∧ OwnsL g w (.ob id) cs vs ∧ (t ≠ 0 → ty = t ∧ sp = [])
 | .map es => ∃ (ents:Array MapEntry) (clock:Nat),w.heap[b]? = some (.map ents clock) ∧ ents.size = es.length ∧
     ∀ (i:Nat) k v,es[i]? = some (k,v) → ∃ e,ents[i]? = some e ∧ V g w k e.key ∧ V g w v e.val ∧ Owns g w (.mp id i) v e.val
structure HeapRel (hp:List HObj) : Prop where
 len : g.hb.length = hp.length
 obj : ∀ (id:Nat) o,hp[id]? = some o → o.live = true → ∃ b,g.hb[id]? = some b ∧ (∀ i,g.ow b i = .obj id) ∧ ObjRel g w id b o
end
def GlobRel (G:Nat → Option (List AV)) (g:Gh) (w:World) : Prop :=
 ∀ b cs,G b = some cs → ∃ (vs:List Value) (ty:TypeId),w.heap[b]? = some (.cells vs.toArray ty (0,0)) ∧ (VS g w cs vs ∧ Ones vs) ∧ ∀ o,g.ow b o = .imm
structure Rel (G:Nat → Option (List AV)) (g:Gh) (st:St) (ps:List (AV × Value)) (tm:Array Value) (w:World) : Prop where
 fr : ∀ s,VF g w st.fr tm (.fr s) (st.fr.get s) (tm.getD s undef)
 ps : ∀ (j:Nat) v cv,ps[j]? = some (v,cv) → VF g w st.fr tm (.arg j) v cv
 hp : HeapRel g w st.hp
 fresh : ∀ b o,w.heap.size ≤ b → g.ow b o = .out
 gl : GlobRel G g w
structure Same (T:Tag → Prop) (g:Gh) (w:World) (g' : Gh) (w' : World) : Prop where
 ow : ∀ b o,b < w.heap.size → T (g.ow b o) → g'.ow b o = g.ow b o
 cell : ∀ b o,b < w.heap.size → T (g.ow b o) → w'.cell? ⟨b,o,none⟩ = w.cell? ⟨b,o,none⟩
 frz : ∀ b o,b < w.heap.size → T (g.ow b o) → g.ow b o ≠ .elt → w'.frozen? ⟨b,o,none⟩ = w.frozen? ⟨b,o,none⟩
 blk : ∀ b,b < w.heap.size → (∀ o,T (g.ow b o) ∧ g.ow b o ≠ .elt) → w'.heap[b]? = w.heap[b]?
 row : ∀ b e n,Row0 w b e n → Row0 w' b e n
 te : T .imm → T .elt
 hb : ∀ (i b:Nat),g.hb[i]? = some b → g'.hb[i]? = some b
def Tag.kept : Tag → Prop
 | .out | .imm | .elt => True
 | _ => False
structure Stay (g:Gh) (w:World) (g' : Gh) (w' : World) : Prop extends Same Tag.kept g w g' w' where
 os : w'.os = w.os
 tape : w'.tape = w.tape
 output : w'.output = w.output
 size : w.heap.size ≤ w'.heap.size
section mono
variable {g g' : Gh} {w w' : World}
structure Ext (g:Gh) (w:World) (g' : Gh) (w' : World) : Prop where
 imm : ∀ b o,b < w.heap.size → (g.ow b o).ro → g'.ow b o = g.ow b o ∧ w'.cell? ⟨b,o,none⟩ = w.cell? ⟨b,o,none⟩
 row : ∀ b e n,Row0 w b e n → Row0 w' b e n
 hb : ∀ (i b:Nat),g.hb[i]? = some b → g'.hb[i]? = some b
theorem Row0.lt {b e n:Nat} (h:Row0 w b e n) : b < w.heap.size := by
 obtain ⟨cs,hi,h,_⟩ := h; exact (Array.getElem?_eq_some_iff.1 h).1
theorem View.mono (e:Ext g w g' w') {m t:Nat} {a:Addr} (h:View g w m t a) : View g' w' m t a := by
 obtain ⟨h1,h2,⟨n,h3,h4⟩,h5⟩ := h
 exact ⟨h1,h2,⟨n,e.row _ _ _ h3,h4⟩,fun o ho => by
   have := h5 o ho
   rw [(e.imm a.block o h3.lt (by rw [this]; trivial)).1]; exact this⟩
mutual
theorem V.mono (e:Ext g w g' w') : ∀ (v:AV) (cv:Value),V g w v cv → V g' w' v cv
 | .none,_ => fun _ => by simp [V]
 | .bool _,_ => by simp only [V]; exact id
 | .int _ _,_ => by simp only [V]; exact id
 | .str _,_ => by simp only [V]; exact id
 | .agg cs,_ => by simp only [V]; rintro ⟨vs,h,k,l⟩; exact ⟨vs,h,VS.mono e cs vs k,l⟩
 | .list xs o,_ => by
   simp only [V]; rintro ⟨A,c,h1,h2,h3,h4,h5,h6⟩
   refine ⟨A,c,h1,h2,h3,h4,h5,fun a ha => ?_⟩
   obtain ⟨hs,hw,sz,hv⟩ := h6 a ha
   exact ⟨hs,fun hn => (hw hn).mono e,sz,VE.mono e sz xs _ _ hv⟩
 | .ptr _ _,_ => by simp only [V]; rintro ⟨b,h,k⟩; exact ⟨b,e.hb _ _ h,k⟩
 | .sref _ _ _ _,_ => by simp only [V]; rintro ⟨b,o,c,⟨h,h2,h5,t,m,h3,h4⟩,k⟩; exact ⟨b,o,c,⟨e.hb _ _ h,h2,h5,t,m,e.row _ _ _ h3,h4⟩,k⟩
 | .nilp,_ => by simp only [V]; exact id
 | .map _,_ => by simp only [V]; rintro ⟨b,h,k⟩; exact ⟨b,e.hb _ _ h,k⟩
 | .nilm,_ => by simp only [V]; exact id
 | .func _ cs,_ => by simp only [V]; rintro ⟨vs,h,k⟩; exact ⟨vs,h,VS.mono e cs vs k⟩
 | .nilf,_ => by simp only [V]; exact id
 | .iface _ v,_ => by simp only [V]; rintro ⟨u,h,k⟩; exact ⟨u,h,V.mono e v u k⟩
 | .nili,_ => by simp only [V]; exact id
 | .tup cs,_ => by simp only [V]; rintro ⟨vs,h,k⟩; exact ⟨vs,h,VS.mono e cs vs k⟩
 | .glob _ _,_ => by simp only [V]; exact id
 | .pend _ _,_ => by simp only [V]; exact id
 | .lref _ _,_ => by simp only [V]; exact id
 | .box _,_ => by simp only [V]; exact id
 | .eref _ _,_ => by simp only [V]; exact id
 | .data _ _,_ => by simp only [V]; exact id
 | .lastr _,_ => by simp only [V]; exact id
theorem VS.mono (e:Ext g w g' w') : ∀ (vs:List AV) (us:List Value),VS g w vs us → VS g' w' vs us
 | [],_ => by simp only [VS]; exact id
 | v :: vs,_ => by simp only [VS]; rintro ⟨u,r,h,k,l⟩; exact ⟨u,r,h,V.mono e v u k,VS.mono e vs r l⟩
theorem VC.mono (e:Ext g w g' w') : ∀ (vs:List AV) (b off:Nat),VC g w vs b off → VC g' w' vs b off
 | [],_,_ => by simp only [VC]; exact id
 | v :: vs,b,off => by
   simp only [VC]; rintro ⟨⟨h,cv,k,l0,l⟩,m⟩
   have hl := World.block_lt_of_cell? w ⟨b,off,none⟩ k
   exact ⟨⟨by rw [(e.imm _ _ hl h).1]; exact h,cv,(e.imm _ _ hl h).2.trans k,l0,V.mono e v cv l⟩,VC.mono e vs _ _ m⟩
theorem VE.mono (e:Ext g w g' w') (sz:Nat) : ∀ (vs:List AV) (b off:Nat),VE g w sz vs b off → VE g' w' sz vs b off
 | [],_,_ => by simp only [VE]; exact id
 | .agg cs :: vs,b,off => by
   simp only [VE]; rintro ⟨⟨h,k⟩,m⟩
   exact ⟨⟨h,VC.mono e cs _ _ k⟩,VE.mono e sz vs _ _ m⟩
 | v :: vs,b,off => by
   intro h
   have hv := V.mono e v
   have hm := VE.mono e sz vs b (off + sz)
   cases v <;> simp only [VE] at h ⊢ <;> first
     | (obtain ⟨⟨h1,h2,cv,h3,h0,h4⟩,m⟩ := h
        have hl := World.block_lt_of_cell? w ⟨b,off,none⟩ h3
        exact ⟨⟨h1,by rw [(e.imm _ _ hl h2).1]; exact h2,cv,(e.imm _ _ hl h2).2.trans h3,h0,hv cv h4⟩,hm m⟩)
     | (obtain ⟨⟨h1,h2⟩,m⟩ := h; exact ⟨⟨h1,VC.mono e _ _ _ h2⟩,hm m⟩)
end
end mono
end Go.Proofs.YtkofimhnehkdoaaGreatDoor.Rf
end
section
namespace Go.Proofs.YtkofimhnehkdoaaGreatDoor.Rf
section
variable {g g' : Gh} {w w' : World}
theorem Same.ext {T:Tag → Prop} (h:Same T g w g' w') (hT:T .imm) : Ext g w g' w' :=
 have hro : ∀ t : Tag,t.ro → T t := fun t ht => by
   cases t <;> first | exact hT | exact h.te hT | exact ht.elim
 ⟨fun b o hl hi => ⟨h.ow b o hl (hro _ hi),h.cell b o hl (hro _ hi)⟩,h.row,h.hb⟩
theorem VS.len : ∀ {cs:List AV} {vs:List Value},VS g w cs vs → vs.length = cs.length
 | [],_,h => by simp only [VS] at h; simp [h]
 | _ :: cs,_,h => by simp only [VS] at h; obtain ⟨u,r,rfl,_,k⟩ := h; simp [VS.len k]
theorem VS.get : ∀ {cs:List AV} {vs:List Value},VS g w cs vs → ∀ {i:Nat} {v:AV},cs[i]? = some v → ∃ u,vs[i]? = some u ∧ V g w v u
 | [],_,_,_,_,h => by simp at h
 | c :: cs,_,h,0,v,hv => by simp only [VS] at h; obtain ⟨u,r,rfl,k,_⟩ := h; simp at hv; subst hv; exact ⟨u,rfl,k⟩
 | c :: cs,_,h,i + 1,v,hv => by simp only [VS] at h; obtain ⟨u,r,rfl,_,k⟩ := h; simp at hv; simpa using VS.get k hv
theorem VS.get' {cs:List AV} {vs:List Value} (h:VS g w cs vs) {i:Nat} {v:AV} {u:Value} (hv:cs[i]? = some v) (hu:vs[i]? = some u) : V g w v u := by
 obtain ⟨u',h1,h2⟩ := h.get hv; rw [hu] at h1; cases h1; exact h2
theorem VS.mk : ∀ {cs:List AV} {vs:List Value},vs.length = cs.length → (∀ (i:Nat) v u,cs[i]? = some v → vs[i]? = some u → V g w v u) → VS g w cs vs
 | [],[],_,_ => by simp [VS]
 | [],_ :: _,h,_ => by simp at h
 | _ :: _,[],h,_ => by simp at h
 | c :: cs,v :: vs,h,k => by
   simp only [VS]
   exact ⟨v,vs,rfl,k 0 c v rfl rfl,VS.mk (by simpa using h) fun i x y hx hy => k (i + 1) x y (by simpa using hx) (by simpa using hy)⟩
theorem VS.append : ∀ {cs ds:List AV} {vs us:List Value},VS g w cs vs → VS g w ds us → VS g w (cs ++ ds) (vs ++ us)
 | [],_,_,_,h,k => by simp only [VS] at h; subst h; simpa using k
 | _ :: _,_,_,_,h,k => by simp only [VS] at h; obtain ⟨u,r,rfl,l,m⟩ := h; simp only [List.cons_append,VS]; exact ⟨u,_,rfl,l,VS.append m k⟩
theorem VS.take {cs:List AV} {vs:List Value} (h:VS g w cs vs) (n:Nat) : VS g w (cs.take n) (vs.take n) :=
 VS.mk (by simp [h.len]) fun i v u hv hu => by
   rw [List.getElem?_take] at hv hu; split at hv
   · rename_i hi; rw [if_pos hi] at hu; exact h.get' hv hu
   · cases hv
theorem VS.drop {cs:List AV} {vs:List Value} (h:VS g w cs vs) (n:Nat) : VS g w (cs.drop n) (vs.drop n) :=
 VS.mk (by simp [h.len]) fun i v u hv hu => by rw [List.getElem?_drop] at hv hu; exact h.get' hv hu
theorem VS.set {cs:List AV} {vs:List Value} (h:VS g w cs vs) (n:Nat) {v:AV} {u:Value} (hv:V g w v u) : VS g w (cs.set n v) (vs.set n u) :=
 VS.mk (by simp [h.len]) fun i x y hx hy => by
   rw [List.getElem?_set] at hx hy
   by_cases hn : n = i
   · subst hn; simp only [if_true] at hx hy
     split at hx
     · rename_i h1; rw [if_pos (by rw [h.len]; exact h1)] at hy; cases hx; cases hy; exact hv
     · cases hx
   · rw [if_neg hn] at hx hy; exact h.get' hx hy
theorem Own.vw_cp (o:Own) : o.cp.vw = o.vw := by
 cases o with
 | no => rfl
 | nil => rfl
 | own sz e => by_cases h : e = 0 <;> simp [Own.cp,Own.vw,h]
 | view e => by_cases h : e = 0 <;> simp [Own.cp,Own.vw,h]
 | tight => simp [Own.cp,Own.vw]
theorem Own.cp_tight {o:Own} (h:o.cp = .tight) : o = .tight := by
 cases o with
 | no => simp [Own.cp,Own.vw] at h
 | nil => simp [Own.cp] at h
 | own sz e => by_cases h0 : e = 0 <;> simp [Own.cp,Own.vw,h0] at h
 | view e => by_cases h0 : e = 0 <;> simp [Own.cp,Own.vw,h0] at h
 | tight => rfl
theorem Own.cp_nil' {o:Own} (h:o.cp = .nil) : o = .nil := by
 cases o with
 | no => simp [Own.cp,Own.vw] at h
 | nil => rfl
 | own sz e => by_cases h0 : e = 0 <;> simp [Own.cp,Own.vw,h0] at h
 | view e => by_cases h0 : e = 0 <;> simp [Own.cp,Own.vw,h0] at h
 | tight => simp [Own.cp,Own.vw] at h
theorem Own.no_cp {o:Own} (h:o.cp ≠ .no) : o ≠ .no := fun e => by subst e; exact h rfl
theorem V.cp1 {v:AV} {cv:Value} (h:V g w v cv) : V g w v.cp1 cv := by
 cases v <;> simp only [AV.cp1] <;> try exact h
 case list xs o =>
   simp only [V] at h ⊢; obtain ⟨A,c,h1,h2,h3,h4,h5,h6⟩ := h
   refine ⟨A,c,h1,h2,h3,⟨fun e => h4.1 (Own.cp_nil' e),fun e => h4.2 (Own.cp_tight e)⟩,h5,fun a ha => ⟨fun hc => (h6 a ha).1 ?_,by rw [Own.vw_cp]; exact (h6 a ha).2.1,(h6 a ha).2.2⟩⟩
   rcases hc with hc | hc
   · exact .inl (Own.no_cp hc)
   · exact .inr hc
 case pend => simp [V]
theorem VS.cp1 : ∀ {cs:List AV} {vs:List Value},VS g w cs vs → VS g w (cs.map AV.cp1) vs
 | [],_,h => by simpa [VS] using h
 | _ :: _,_,h => by simp only [VS] at h; obtain ⟨u,r,rfl,l,m⟩ := h; simp only [List.map_cons,VS]; exact ⟨u,r,rfl,l.cp1,VS.cp1 m⟩
theorem Own.ck_eq {o:Own} (h:o ≠ .tight) : o.ck = o.cp := by
 cases o with
 | tight => exact absurd rfl h
 | no => rfl
 | nil => rfl
 | own sz e => rfl
 | view e => rfl
theorem V.ck1 {v:AV} {cv:Value} (h:V g w v cv) : V g w v.ck1 cv := by
 cases v <;> simp only [AV.ck1] <;> try exact h.cp1
 case list xs o =>
   by_cases ho : o = .tight
   · subst ho; exact h
   · rw [Own.ck_eq ho]; exact h.cp1
theorem VS.ck1 : ∀ {cs:List AV} {vs:List Value},VS g w cs vs → VS g w (cs.map AV.ck1) vs
 | [],_,h => by simpa [VS] using h
 | _ :: _,_,h => by simp only [VS] at h; obtain ⟨u,r,rfl,l,m⟩ := h; simp only [List.map_cons,VS]; exact ⟨u,r,rfl,l.ck1,VS.ck1 m⟩
theorem V.cpA {v:AV} {cv:Value} (h:V g w v cv) : V g w v.cpA cv := by
 cases v <;> simp only [AV.cpA] <;> try exact h.cp1
 case agg cs => simp only [V] at h ⊢; obtain ⟨vs,h1,h2,h3⟩ := h; exact ⟨vs,h1,h2.cp1,h3⟩
theorem VS.cpA : ∀ {cs:List AV} {vs:List Value},VS g w cs vs → VS g w (cs.map AV.cpA) vs
 | [],_,h => by simpa [VS] using h
 | _ :: _,_,h => by simp only [VS] at h; obtain ⟨u,r,rfl,l,m⟩ := h; simp only [List.map_cons,VS]; exact ⟨u,r,rfl,l.cpA,VS.cpA m⟩
theorem V.cp {v:AV} {cv:Value} (h:V g w v cv) : V g w v.cp cv := by
 cases v <;> simp only [AV.cp] <;> try exact h.cpA
 case tup cs => simp only [V] at h ⊢; obtain ⟨vs,h1,h2⟩ := h; exact ⟨vs,h1,h2.cpA⟩
theorem Own.cp_not_own (o:Own) (sz e:Nat) : o.cp ≠ .own sz e := by
 cases o with
 | no => simp [Own.cp,Own.vw]
 | nil => simp [Own.cp]
 | own s f => by_cases h0 : f = 0 <;> simp [Own.cp,Own.vw,h0]
 | view f => by_cases h0 : f = 0 <;> simp [Own.cp,Own.vw,h0]
 | tight => simp [Own.cp,Own.vw]
theorem AV.cp1_not_own (v:AV) (xs:List AV) (sz e:Nat) : v.cp1 ≠ .list xs (.own sz e) := by
 cases v <;> simp only [AV.cp1] <;> try (intro h; cases h; done)
 case list ys o => intro h; injection h with _ h; exact Own.cp_not_own o sz e h
theorem AV.ck1_not_own (v:AV) (xs:List AV) (sz e:Nat) : v.ck1 ≠ .list xs (.own sz e) := by
 cases v <;> simp only [AV.ck1] <;> try exact AV.cp1_not_own _ _ _ _
 case list ys o =>
   intro h; injection h with _ h
   by_cases ho : o = .tight
   · subst ho; cases h
   · rw [Own.ck_eq ho] at h; exact Own.cp_not_own o sz e h
theorem AV.cpA_not_own (v:AV) (xs:List AV) (sz e:Nat) : v.cpA ≠ .list xs (.own sz e) := by
 cases v <;> simp only [AV.cpA] <;> first | exact AV.cp1_not_own _ _ _ _ | (intro h; cases h; done)
theorem OwnsL.none {r:Root} {cs:List AV} {vs:List Value} (h:∀ (i:Nat) xs sz e,cs[i]? ≠ some (AV.list xs (.own sz e))) : OwnsL g w r cs vs := fun i xs sz e _ hx _ => absurd hx (h i xs sz e)
theorem OwnsL.ck1 {r:Root} {cs:List AV} {vs:List Value} : OwnsL g w r (cs.map AV.ck1) vs :=
 OwnsL.none fun i xs sz e h => by
   rw [List.getElem?_map] at h
   cases hc : cs[i]? with
   | none => simp [hc] at h
   | some v => simp [hc] at h; exact AV.ck1_not_own v xs sz e h
theorem OwnsL.cp1 {r:Root} {cs:List AV} {vs:List Value} : OwnsL g w r (cs.map AV.cp1) vs :=
 OwnsL.none fun i xs sz e h => by
   rw [List.getElem?_map] at h
   cases hc : cs[i]? <;> rw [hc] at h <;> simp at h
   exact AV.cp1_not_own _ _ _ _ h
theorem OwnsL.cpA {r:Root} {cs:List AV} {vs:List Value} : OwnsL g w r (cs.map AV.cpA) vs :=
 OwnsL.none fun i xs sz e h => by
   rw [List.getElem?_map] at h
   cases hc : cs[i]? <;> rw [hc] at h <;> simp at h
   exact AV.cpA_not_own _ _ _ _ h
theorem Owns.cp {r:Root} {v:AV} {cv:Value} : Owns g w r v.cp cv := by
 cases v <;> simp only [AV.cp,AV.cpA,AV.cp1,Owns]
 case list xs o => cases h : o.cp <;> simp only [Owns]; exact absurd h (Own.cp_not_own _ _ _)
 case tup vs => intro us _; exact OwnsL.cpA
variable {T:Tag → Prop}
theorem Tail.same (h:Same T g w g' w') (hi:T .imm) {r:Root} {i:Nat} (ht:T (.tail r i)) {xs:List AV} {sz:Nat} {cv:Value} (k:Tail g w r i xs sz cv) : Tail g' w' r i xs sz cv := by
 intro a n c e
 obtain ⟨h1,h2⟩ := k a n c e
 refine ⟨VE.mono (h.ext hi) _ _ _ _ h1,fun o ho ho' => ?_⟩
 obtain ⟨p,⟨u,q⟩,s⟩ := h2 o ho ho'
 have hl := World.block_lt_of_cell? w ⟨a.block,o,none⟩ q
 exact ⟨(h.ow _ _ hl (by rw [p]; exact ht)).trans p,⟨u,by rw [h.cell _ _ hl (by rw [p]; exact ht)]; exact q⟩,(h.frz _ _ hl (by rw [p]; exact ht) (by rw [p]; simp)).trans s⟩
theorem OwnsL.same (h:Same T g w g' w') (hi:T .imm) {r:Root} (ht:∀ i,T (.tail r i)) {cs:List AV} {vs:List Value} (k:OwnsL g w r cs vs) : OwnsL g' w' r cs vs :=
 fun i xs sz e cv h1 h2 => (k i xs sz e cv h1 h2).same h hi (ht i)
theorem Owns.same (h:Same T g w g' w') (hi:T .imm) {r:Root} (ht:∀ i,T (.tail r i)) {v:AV} {cv:Value} (k:Owns g w r v cv) : Owns g' w' r v cv := by
 unfold Owns at *
 split
 · exact k.same h hi (ht 0)
 · exact fun us e => (k us e).same h hi ht
 · trivial
theorem VX.same (h:Same T g w g' w') (hi:T .imm) {fr:Fr} {tm:Array Value} (hb:∀ t cs,fr.get t = .box cs → g'.bx (.fr t) = g.bx (.fr t)) {v:AV} {cv:Value} (k:VX g w fr tm v cv) : VX g' w' fr tm v cv := by
 cases v <;> simp only [VX] at k ⊢ <;> try exact V.mono (h.ext hi) _ _ k
 case lref t off => obtain ⟨k1,cs,k2⟩ := k; exact ⟨by rw [hb t cs k2]; exact k1,cs,k2⟩
 case eref x off => obtain ⟨b,o0,k1,k2⟩ := k; exact ⟨b,o0,k1,VC.mono (h.ext hi) _ _ _ k2⟩
 case data xs e => obtain ⟨a,k1,k2,k3⟩ := k; exact ⟨a,k1,k2.mono (h.ext hi),VE.mono (h.ext hi) _ _ _ _ k3⟩
 case lastr t => exact k
theorem VF.same (h:Same T g w g' w') (hi:T .imm) {fr:Fr} {tm:Array Value} (hb:∀ t cs,fr.get t = .box cs → g'.bx (.fr t) = g.bx (.fr t)) {r:Root} (hr:∀ i,T (.tail r i)) (hx:T (.box r)) (hrb:g'.bx r = g.bx r)
   {v:AV} {cv:Value} (k:VF g w fr tm r v cv) : VF g' w' fr tm r v cv := by
 cases v <;> simp only [VF] at k ⊢ <;> try exact ⟨VX.same h hi hb k.1,k.2.same h hi hr⟩
 case box cs =>
   obtain ⟨vs,ty,k1,k2,k3,k4,k5⟩ := k
   have hlt : g.bx r < w.heap.size := (Array.getElem?_eq_some_iff.1 k2).1
   refine ⟨vs,ty,by rw [hrb]; exact k1,?_,⟨VS.mono (h.ext hi) _ _ k3.1,k3.2⟩,fun o => ?_,k5.same h hi hr⟩
   · rw [hrb,h.blk _ hlt (fun o => by rw [k4 o]; exact ⟨hx,by simp⟩)]; exact k2
   · rw [hrb,h.ow _ _ hlt (by rw [k4 o]; exact hx)]; exact k4 o
 case pend xs sz => obtain ⟨a,c,k1,k2,k3,k4,k5⟩ := k; exact ⟨a,c,k1,k2,k3,k4,k5.same h hi (hr 0)⟩
theorem ObjRel.lt {id b:Nat} {o:HObj} (k:ObjRel g w id b o) : b < w.heap.size := by
 cases o with
 | dead => exact k.elim
 | cells t cs => simp only [ObjRel] at k; obtain ⟨vs,sp,ty,e,_⟩ := k; exact (Array.getElem?_eq_some_iff.1 e).1
 | map es => simp only [ObjRel] at k; obtain ⟨vs,ty,e,_⟩ := k; exact (Array.getElem?_eq_some_iff.1 e).1
theorem ObjRel.same (h:Same T g w g' w') (hi:T .imm) {id b:Nat} (ho:∀ i,g.ow b i = .obj id) (hx:T (.obj id)) (hr:∀ i,T (.tail (.ob id) i)) (hm:∀ i j,T (.tail (.mp id i) j)) {o:HObj} (k:ObjRel g w id b o) : ObjRel g' w' id b o := by
 cases o with
 | dead => exact k.elim
 | cells t cs =>
   simp only [ObjRel] at k ⊢
   obtain ⟨vs,sp,ty,k1,k2,k3,k4⟩ := k
   have hlt : b < w.heap.size := (Array.getElem?_eq_some_iff.1 k1).1
   exact ⟨vs,sp,ty,by rw [h.blk b hlt (fun o => by rw [ho o]; exact ⟨hx,by simp⟩)]; exact k1,⟨VS.mono (h.ext hi) _ _ k2.1,k2.2⟩,k3.same h hi hr,k4⟩
 | map es =>
   simp only [ObjRel] at k ⊢
   obtain ⟨ents,clock,k1,k2,k3⟩ := k
   have hlt : b < w.heap.size := (Array.getElem?_eq_some_iff.1 k1).1
   refine ⟨ents,clock,by rw [h.blk b hlt (fun o => by rw [ho o]; exact ⟨hx,by simp⟩)]; exact k1,k2,fun i kk v he => ?_⟩
   obtain ⟨e,e1,e2,e3,e4⟩ := k3 i kk v he
   exact ⟨e,e1,V.mono (h.ext hi) _ _ e2,V.mono (h.ext hi) _ _ e3,e4.same h hi (hm i)⟩
theorem HeapRel.same (h:Same T g w g' w') (hi:T .imm) (hx:∀ id,T (.obj id)) (hr:∀ id i,T (.tail (.ob id) i)) (hm:∀ id i j,T (.tail (.mp id i) j)) (hb:g'.hb = g.hb) {hp:List HObj} (k:HeapRel g w hp) : HeapRel g' w' hp :=
 ⟨by rw [hb]; exact k.len,fun id o ho hl => by
   obtain ⟨b,k1,k2,k3⟩ := k.obj id o ho hl
   have hlt : b < w.heap.size := by
     exact k3.lt
   exact ⟨b,by rw [hb]; exact k1,fun i => (h.ow _ _ hlt (by rw [k2 i]; exact hx id)).trans (k2 i),k3.same h hi k2 (hx id) (hr id) (hm id)⟩⟩
theorem GlobRel.same (h:Same T g w g' w') (hi:T .imm) (ho:T .out) {G:Nat → Option (List AV)} (k:GlobRel G g w) : GlobRel G g' w' := by
 intro b cs hb
 obtain ⟨vs,ty,k1,k2,k3⟩ := k b cs hb
 have hlt : b < w.heap.size := (Array.getElem?_eq_some_iff.1 k1).1
 exact ⟨vs,ty,by rw [h.blk b hlt (fun o => by rw [k3 o]; exact ⟨hi,by simp⟩)]; exact k1,⟨VS.mono (h.ext hi) _ _ k2.1,k2.2⟩,fun o => (h.ow _ _ hlt (by rw [k3 o]; exact hi)).trans (k3 o)⟩
theorem Rel.same {G:Nat → Option (List AV)} {st:St} {ps:List (AV × Value)} {tm:Array Value} (h:Same (fun _ => True) g w g' w') (hb:g'.hb = g.hb) (hx:∀ r,g'.bx r = g.bx r) (hf:∀ b o,w'.heap.size ≤ b → g'.ow b o = .out)
   (k:Rel G g st ps tm w) : Rel G g' st ps tm w' :=
 ⟨fun s => (k.fr s).same h trivial (fun _ _ _ => hx _) (fun _ => trivial) trivial (hx _),fun j v cv hj => (k.ps j v cv hj).same h trivial (fun _ _ _ => hx _) (fun _ => trivial) trivial (hx _),
   k.hp.same h trivial (fun _ => trivial) (fun _ _ => trivial) (fun _ _ _ => trivial) hb,hf,k.gl.same h trivial trivial⟩
end
def Tag.mv (r q:Root) : Tag → Tag
 | .box x => if x = r then .box q else if x = q then .out else .box x
 | .tail x i => if x = r then .tail q i else if x = q then .out else .tail x i
 | t => t
def Gh.mv (g:Gh) (r q:Root) : Gh := { ow := fun b o => (g.ow b o).mv r q,hb := g.hb,bx := fun x => if x = q then g.bx r else g.bx x }
def Tag.offRoots (r q:Root) : Tag → Prop
 | .box x => x ≠ r ∧ x ≠ q
 | .tail x _ => x ≠ r ∧ x ≠ q
 | _ => True
theorem Tag.mv_off {r q:Root} {t:Tag} (h:t.offRoots r q) : t.mv r q = t := by
 cases t <;> simp_all [Tag.mv,Tag.offRoots]
theorem Gh.mv_same (g:Gh) (w:World) (r q:Root) : Same (Tag.offRoots r q) g w (g.mv r q) w :=
 ⟨fun _ _ _ h => Tag.mv_off h,fun _ _ _ _ => rfl,fun _ _ _ _ _ => rfl,fun _ _ _ => rfl,fun _ _ _ h => h,fun _ => trivial,fun _ _ h => h⟩
theorem Gh.mv_stay (g:Gh) (w:World) (r q:Root) : Stay g w (g.mv r q) w :=
 { ow := fun b o _ h => by
     show (g.ow b o).mv r q = g.ow b o
     revert h; cases g.ow b o <;> simp [Tag.kept,Tag.mv]
   cell := fun _ _ _ _ => rfl,frz := fun _ _ _ _ _ => rfl,blk := fun _ _ _ => rfl,row := fun _ _ _ h => h,te := fun _ => trivial,hb := fun _ _ h => h,os := rfl,tape := rfl,output := rfl,size := Nat.le_refl _ }
theorem Gh.mv_ext (g:Gh) (w:World) (r q:Root) : Ext g w (g.mv r q) w := (Gh.mv_same g w r q).ext trivial
section
variable {g:Gh} {w:World} {r q:Root}
theorem Tail.mv {i:Nat} {xs:List AV} {sz:Nat} {cv:Value} (k:Tail g w r i xs sz cv) : Tail (g.mv r q) w q i xs sz cv := by
 intro a n c e
 obtain ⟨h1,h2⟩ := k a n c e
 refine ⟨VE.mono (g.mv_ext w r q) _ _ _ _ h1,fun o ho ho' => ?_⟩
 obtain ⟨p,s,t⟩ := h2 o ho ho'
 exact ⟨by show (g.ow _ _).mv r q = _; rw [p]; simp [Tag.mv],s,t⟩
theorem OwnsL.mv {cs:List AV} {vs:List Value} (k:OwnsL g w r cs vs) : OwnsL (g.mv r q) w q cs vs := fun i xs sz e cv h1 h2 => (k i xs sz e cv h1 h2).mv
theorem Owns.mv {v:AV} {cv:Value} (k:Owns g w r v cv) : Owns (g.mv r q) w q v cv := by
 unfold Owns at *
 split
 · exact k.mv
 · exact fun us e => (k us e).mv
 · trivial
theorem VF.mv {fr fr' : Fr} {tm tm' : Array Value} {v:AV} {cv:Value} (hv:∀ v cv,VX g w fr tm v cv → VX (g.mv r q) w fr' tm' v cv) (k:VF g w fr tm r v cv) : VF (g.mv r q) w fr' tm' q v cv := by
 cases v <;> simp only [VF] at k ⊢ <;> try exact ⟨hv _ _ k.1,k.2.mv⟩
 case box cs =>
   obtain ⟨vs,ty,k1,k2,k3,k4,k5⟩ := k
   have hq : (g.mv r q).bx q = g.bx r := by simp [Gh.mv]
   refine ⟨vs,ty,by rw [hq]; exact k1,by rw [hq]; exact k2,⟨VS.mono (g.mv_ext w r q) _ _ k3.1,k3.2⟩,fun o => ?_,k5.mv⟩
   rw [hq]; show (g.ow _ _).mv r q = _; rw [k4 o]; simp [Tag.mv]
 case pend xs sz => obtain ⟨a,c,k1,k2,k3,k4,k5⟩ := k; exact ⟨a,c,k1,k2,k3,k4,k5.mv⟩
end
end Go.Proofs.YtkofimhnehkdoaaGreatDoor.Rf
end
section
namespace Go.Proofs.YtkofimhnehkdoaaGreatDoor.Rf
theorem Fr.get_set (fr:Fr) (s:Nat) (v:AV) (t:Nat) : (fr.set s v).get t = if s = t then v else fr.get t := by
 induction fr with
 | nil => simp only [Fr.set,Fr.get]
 | cons p r ih =>
   obtain ⟨u,x⟩ := p
   simp only [Fr.set]
   by_cases h : u = s
   · subst h; simp only [if_true,Fr.get]; split <;> rfl
   · simp only [if_neg h,Fr.get,ih]
     by_cases h2 : u = t
     · subst h2; rw [if_pos rfl,if_neg (fun e => h e.symm),if_pos rfl]
     · simp [if_neg h2]
theorem Fr.get_keep (fr:Fr) (live:List Nat) (t:Nat) : (fr.keep live).get t = if t ∈ live then fr.get t else .none := by
 unfold Fr.keep
 induction live with
 | nil => simp [Fr.get]
 | cons s r ih =>
   simp only [List.map_cons,Fr.get,ih,List.mem_cons]
   by_cases h : s = t
   · subst h; simp
   · simp [if_neg h,show ¬ t = s from fun e => h e.symm]
def Act.opd (tm:Array Value) : Operand → Value
 | .tmp t => tm.getD t undef
 | .const v => v
 | .global g => .pointer (some ⟨g,0,none⟩)
 | .func f => .func (.func f) #[] #[]
theorem Act.eval_eq (a:Act) (x:Operand) : a.eval x = Act.opd a.tmps x := by cases x <;> rfl
mutual
def same : AV → Value → Bool
 | .bool b,.bool c => b == c
 | .int k n,.int k' m => decide (k = k') && decide (n = m)
 | .str s,.string b => decide (s = b.data.toList)
 | .list [] .nil,.slice .none 0 0 => true
 | .nilp,.pointer .none => true
 | .nilm,.map .none => true
 | .nilf,.nilFunc => true
 | .nili,.nilIface => true
 | .agg cs,.agg ⟨vs⟩ => sames cs vs && vs.all Value.oneCell'
 | .iface t v,.iface u x => decide (t = u) && same v x
 | .func f [],.func (.func h) ⟨[]⟩ ⟨[]⟩ => decide (f = h)
 | _,_ => false
def sames : List AV → List Value → Bool
 | [],[] => true
 | v :: vs,u :: us => same v u && sames vs us
 | _,_ => false
end
def opdOk : Opd → Operand → Bool
 | .t s _,.tmp t => decide (s = t)
 | .c v,.const u => same v u
 | .g a,.global b => decide (a = b)
 | .f a,.func b => decide (a = b)
 | _,_ => false
def opdsOk : List Opd → List Operand → Bool
 | [],[] => true
 | x :: xs,y :: ys => opdOk x y && opdsOk xs ys
 | _,_ => false
section
variable {g:Gh} {w:World}
theorem V.of_same_str {s:List UInt8} {b:ByteArray} (h:s = b.data.toList) : (Value.string b) = .string ⟨s.toArray⟩ := by
 subst h; cases b; rfl
set_option maxHeartbeats 1000000 in
mutual
theorem V.of_same : ∀ (v:AV) (u:Value),same v u = true → V g w v u
 | .none,_,h => by simp [same] at h
 | .bool b,u,h => by cases u <;> simp [same] at h; subst h; simp [V]
 | .int k n,u,h => by cases u <;> simp [same] at h; obtain ⟨rfl,rfl⟩ := h; simp [V]
 | .str s,u,h => by cases u <;> simp [same] at h; simp only [V]; exact V.of_same_str h
 | .list xs o,u,h => by
   cases xs <;> cases o <;> try (simp [same] at h; done)
   cases u <;> try (simp [same] at h; done)
   rename_i A n c
   cases A <;> cases n <;> cases c <;> try (simp [same] at h; done)
   simp only [V]; exact ⟨none,0,rfl,Nat.le_refl _,by decide,⟨fun _ => rfl,fun _ => rfl⟩,fun _ => rfl,fun a e => by cases e⟩
 | .nilp, u, h => by cases u <;> try (simp [same] at h; done)
                     rename_i A; cases A <;> simp [same] at h; simp [V]
 | .nilm, u, h => by cases u <;> try (simp [same] at h; done)
                     rename_i A; cases A <;> simp [same] at h; simp [V]
 | .nilf,u,h => by cases u <;> simp [same] at h; simp [V]
 | .nili,u,h => by cases u <;> simp [same] at h; simp [V]
 | .agg cs,u,h => by
   cases u <;> try (simp [same] at h; done)
   rename_i a; obtain ⟨vs⟩ := a
   simp only [same,Bool.and_eq_true,List.all_eq_true] at h; simp only [V]; exact ⟨vs,rfl,VS.of_same cs vs h.1,h.2⟩
 | .tup _,_,h => by simp [same] at h
 | .iface t v,u,h => by
   cases u <;> try (simp [same] at h; done)
   rename_i t' x
   simp only [same,Bool.and_eq_true,decide_eq_true_eq] at h; obtain ⟨rfl,h⟩ := h
   simp only [V]; exact ⟨x,rfl,V.of_same v x h⟩
 | .func f cs,u,h => by
   cases cs <;> try (simp [same] at h; done)
   cases u <;> try (simp [same] at h; done)
   rename_i fn a b; obtain ⟨a⟩ := a; obtain ⟨b⟩ := b
   cases fn <;> cases a <;> cases b <;> simp [same] at h
   subst h; simp only [V]; exact ⟨[],rfl,by simp [VS]⟩
 | .pend _ _,_,h => by simp [same] at h
 | .lref _ _,_,h => by simp [same] at h
 | .sref _ _ _ _,_,h => by simp [same] at h
 | .box _,_,h => by simp [same] at h
 | .eref _ _,_,h => by simp [same] at h
 | .data _ _,_,h => by simp [same] at h
 | .lastr _,_,h => by simp [same] at h
 | .ptr _ _,_,h => by simp [same] at h
 | .map _,_,h => by simp [same] at h
 | .glob _ _,_,h => by simp [same] at h
theorem VS.of_same : ∀ (vs:List AV) (us:List Value),sames vs us = true → VS g w vs us
 | [],us,h => by cases us <;> simp [sames] at h; simp [VS]
 | v :: vs,us,h => by
   cases us <;> simp [sames] at h
   rename_i u us; simp only [VS]; exact ⟨u,us,rfl,V.of_same v u h.1,VS.of_same vs us h.2⟩
end
theorem AV.plain_of_same {v:AV} {u:Value} (h:same v u = true) : v.plain = true := by
 cases v <;> simp [same,AV.plain] at h ⊢
theorem AV.loose_of_plain {v:AV} (h:v.plain = true) : v.loose = true := by cases v <;> simp_all [AV.plain,AV.loose]
theorem VX_plain {fr:Fr} {tm:Array Value} {v:AV} {cv:Value} (h:v.plain = true) : VX g w fr tm v cv = V g w v cv := by
 cases v <;> simp_all [AV.plain,VX]
theorem VX_of_V {fr:Fr} {tm:Array Value} {v:AV} {cv:Value} (h:V g w v cv) : VX g w fr tm v cv := by
 cases v <;> simp only [VX] <;> first | exact h | (simp only [V] at h)
theorem VF_loose {fr:Fr} {tm:Array Value} {r:Root} {v:AV} {cv:Value} (h:v.loose = true) : VF g w fr tm r v cv = (VX g w fr tm v cv ∧ Owns g w r v cv) := by
 cases v <;> simp_all [AV.loose,VF]
theorem AV.cp_loose {v:AV} (h:v.loose = true) : v.cp.loose = true := by
 cases v <;> simp_all [AV.loose,AV.cp,AV.cpA,AV.cp1]
theorem VX.cp {fr:Fr} {tm:Array Value} {v:AV} {cv:Value} (h:VX g w fr tm v cv) : VX g w fr tm v.cp cv := by
 cases v <;> first
   | exact VX_of_V (V.cp (by simpa only [VX] using h))
   | exact h
theorem Owns.not_own {r:Root} {v:AV} {cv:Value} (h1:∀ xs sz e,v ≠ .list xs (.own sz e)) (h2:∀ vs,v ≠ .tup vs) : Owns g w r v cv := by
 cases v <;> try trivial
 case list xs o => cases o <;> first | trivial | exact absurd rfl (h1 _ _ _)
 case tup vs => exact absurd rfl (h2 vs)
theorem sames_not_own : ∀ {vs:List AV} {us:List Value},sames vs us = true → ∀ (i:Nat) xs sz e,vs[i]? ≠ some (AV.list xs (.own sz e))
 | [],_,_,_,_,_,_ => by simp
 | v :: vs,[],h,_,_,_,_ => by simp [sames] at h
 | v :: vs,u :: us,h,0,xs,sz,e => by
   simp only [sames,Bool.and_eq_true] at h
   intro e'; simp at e'; subst e'
   have := h.1
   cases xs <;> simp [same] at this
 | v :: vs,u :: us,h,i + 1,xs,sz,e => by
   simp only [sames,Bool.and_eq_true] at h
   simpa using sames_not_own h.2 i xs sz e
theorem Owns.of_same {r:Root} {v:AV} {u cv:Value} (h:Go.Proofs.YtkofimhnehkdoaaGreatDoor.Rf.same v u = true) : Owns g w r v cv := by
 cases v <;> try trivial
 case list xs o => cases o <;> first | trivial | (cases xs <;> simp [Go.Proofs.YtkofimhnehkdoaaGreatDoor.Rf.same] at h)
structure FrLike (fr:Fr) (tm:Array Value) (fr' : Fr) (tm' : Array Value) : Prop where
 box : ∀ t cs,fr.get t = .box cs → ∃ cs',fr'.get t = .box cs'
 pend : ∀ t xs sz,fr.get t = .pend xs sz → fr'.get t = .pend xs sz ∧ tm'.getD t undef = tm.getD t undef
theorem FrLike.refl (fr:Fr) (tm:Array Value) : FrLike fr tm fr tm := ⟨fun t cs h => ⟨cs,h⟩,fun t xs sz h => ⟨h,rfl⟩⟩
theorem VX.like {fr fr' : Fr} {tm tm' : Array Value} (l:FrLike fr tm fr' tm') {v:AV} {cv:Value} (h:VX g w fr tm v cv) : VX g w fr' tm' v cv := by
 cases v <;> simp only [VX] at h ⊢ <;> try exact h
 case lref t off => obtain ⟨h1,cs,h2⟩ := h; exact ⟨h1,l.box t cs h2⟩
 case lastr t => obtain ⟨xs,sz,a,c,h1,h2,h3⟩ := h; obtain ⟨p,q⟩ := l.pend t xs sz h1; exact ⟨xs,sz,a,c,p,q.trans h2,h3⟩
theorem VF.like {fr fr' : Fr} {tm tm' : Array Value} (l:FrLike fr tm fr' tm') {r:Root} {v:AV} {cv:Value} (h:VF g w fr tm r v cv) : VF g w fr' tm' r v cv := by
 cases v <;> simp only [VF] at h ⊢ <;> first | exact h | exact ⟨VX.like l h.1,h.2⟩
theorem FrLike.set {fr:Fr} {tm:Array Value} {s:Nat} {v:AV} (h:(fr.get s).loose = true) : FrLike fr tm (fr.set s v) tm :=
 ⟨fun t cs ht => by
     rw [Fr.get_set]; by_cases e : s = t
     · subst e; rw [ht] at h; simp [AV.loose] at h
     · rw [if_neg e]; exact ⟨cs,ht⟩,
  fun t xs sz ht => by
     rw [Fr.get_set]; by_cases e : s = t
     · subst e; rw [ht] at h; simp [AV.loose] at h
     · rw [if_neg e]; exact ⟨ht,rfl⟩⟩
variable {G:Nat → Option (List AV)} {st:St} {ps:List (AV × Value)} {tm:Array Value}
theorem Rel.read (k:Rel G g st ps tm w) {x:Opd} {o:Operand} (h:opdOk x o = true) : VX g w st.fr tm (opd st.fr x).1 (Act.opd tm o) := by
 cases x with
 | t s take =>
   cases o <;> simp [opdOk] at h
   subst h
   have f := k.fr s
   simp only [opd,Act.opd]
   cases hv : st.fr.get s <;> rw [hv] at f <;> simp only <;> try (cases take <;> simp only [if_true,if_false,Bool.false_eq_true] <;> simp only [VF] at f <;> first | exact f.1 | exact VX.cp f.1)
   case box cs => simp only [VF] at f; obtain ⟨vs,ty,f1,_⟩ := f; simp only [VX]; exact ⟨f1,cs,hv⟩
   case pend => simp [VX,V]
 | c v => cases o <;> simp [opdOk] at h; exact VX_of_V (V.of_same _ _ h)
 | g a => cases o <;> simp [opdOk] at h; subst h; simp [opd,VX,V,Act.opd]
 | f a => cases o <;> simp [opdOk] at h; subst h; simp only [opd,VX,V,Act.opd]; exact ⟨[],rfl,by simp [VS]⟩
theorem opd_loose (fr:Fr) {x:Opd} {o:Operand} (h:opdOk x o = true) : (opd fr x).1.loose = true := by
 cases x with
 | t s take =>
   simp only [opd]
   cases hv : fr.get s <;> simp only <;> try (cases take <;> simp only [if_true,if_false,Bool.false_eq_true] <;> first | rfl | exact AV.cp_loose rfl)
   all_goals rfl
 | c v => cases o <;> simp [opdOk] at h; exact AV.loose_of_plain (AV.plain_of_same h)
 | g a => rfl
 | f a => rfl
theorem Rel.push (k:Rel G g st ps tm w) {v:AV} {cv:Value} (h:VF g w st.fr tm (.arg ps.length) v cv) : Rel G g st (ps ++ [(v,cv)]) tm w :=
 ⟨k.fr, fun j u cu hj => by
     rw [List.getElem?_append] at hj
     split at hj
     · exact k.ps j u cu hj
     · rename_i hlt
       have e : j = ps.length := by
         obtain ⟨h1,_⟩ := List.getElem?_eq_some_iff.1 hj; simp at h1; omega
       subst e; simp at hj; obtain ⟨h1,h2⟩ := hj; subst h1; subst h2; exact h,k.hp,k.fresh,k.gl⟩
theorem Rel.less (k:Rel G g st ps tm w) : Rel G g st [] tm w := ⟨k.fr,fun j u cu hj => by simp at hj,k.hp,k.fresh,k.gl⟩
theorem Rel.mv {r q:Root} {fr' : Fr} {tm' : Array Value} {ps' : List (AV × Value)} (k:Rel G g st ps tm w)
   (hr:∀ id i,r ≠ .ob id ∧ q ≠ .ob id ∧ r ≠ .mp id i ∧ q ≠ .mp id i)
   (hbx:∀ t cs,st.fr.get t = .box cs → q ≠ .fr t)
   (l:FrLike st.fr tm fr' tm')
   (hfr:∀ s,(VF (g.mv r q) w fr' tm' (.fr s) (fr'.get s) (tm'.getD s undef)) ∨ (Root.fr s ≠ r ∧ Root.fr s ≠ q ∧ fr'.get s = st.fr.get s ∧ tm'.getD s undef = tm.getD s undef))
   (hps:∀ (j:Nat) v cv,ps'[j]? = some (v,cv) → (VF (g.mv r q) w fr' tm' (.arg j) v cv) ∨ (Root.arg j ≠ r ∧ Root.arg j ≠ q ∧ ps[j]? = some (v,cv))) :
   Rel G (g.mv r q) { st with fr := fr' } ps' tm' w := by
 have sm := g.mv_same w r q
 have hb : ∀ t cs,st.fr.get t = .box cs → (g.mv r q).bx (.fr t) = g.bx (.fr t) := fun t cs h => by simp only [Gh.mv]; rw [if_neg (fun e => hbx t cs h e.symm)]
 have one : ∀ {x:Root} {v:AV} {cv:Value},x ≠ r → x ≠ q → VF g w st.fr tm x v cv → VF (g.mv r q) w fr' tm' x v cv := fun h1 h2 h =>
   VF.like l (h.same sm trivial hb (fun i => ⟨h1,h2⟩) ⟨h1,h2⟩ (by simp only [Gh.mv]; rw [if_neg h2]))
 refine ⟨fun s => ?_,fun j v cv hj => ?_,?_,fun b o h => ?_,?_⟩
 · rcases hfr s with h | ⟨h1,h2,h3,h4⟩
   · exact h
   · simp only; rw [h3,h4]; exact one h1 h2 (k.fr s)
 · rcases hps j v cv hj with h | ⟨h1,h2,h3⟩
   · exact h
   · exact one h1 h2 (k.ps j v cv h3)
 · exact k.hp.same sm trivial (fun _ => trivial) (fun id i => ⟨(hr id 0).1.symm,(hr id 0).2.1.symm⟩) (fun id i j => ⟨(hr id i).2.2.1.symm,(hr id i).2.2.2.symm⟩) rfl
 · show (g.ow b o).mv r q = _; rw [k.fresh b o h]; rfl
 · exact k.gl.same sm trivial trivial
theorem Rel.take (k:Rel G g st ps tm w) {x:Opd} {o:Operand} (h:opdOk x o = true) :
   ∃ g',Rel G g' { st with fr := (opd st.fr x).2 } (ps ++ [((opd st.fr x).1,Act.opd tm o)]) tm w ∧ Stay g w g' w ∧ g'.hb = g.hb := by
 have hread := k.read h
 have stay0 : Stay g w g w := { ow := fun _ _ _ _ => rfl,cell := fun _ _ _ _ => rfl,frz := fun _ _ _ _ _ => rfl,blk := fun _ _ _ => rfl,row := fun _ _ _ h => h,te := fun _ => trivial,hb := fun _ _ h => h,os := rfl,tape := rfl,output := rfl,size := Nat.le_refl _ }
 -- nothing is taken
 have plainly : (opd st.fr x).2 = st.fr → Owns g w (.arg ps.length) (opd st.fr x).1 (Act.opd tm o) → ∃ g',Rel G g' { st with fr := (opd st.fr x).2 } (ps ++ [((opd st.fr x).1,Act.opd tm o)]) tm w ∧ Stay g w g' w ∧ g'.hb = g.hb := fun e ho => by
   refine ⟨g,?_,stay0,rfl⟩
   rw [e]
   exact k.push (by rw [VF_loose (opd_loose st.fr h)]; exact ⟨hread,ho⟩)
 cases x with
 | c v => 
   refine plainly rfl ?_
   cases o <;> simp [opdOk] at h
   exact Owns.of_same h
 | g a => exact plainly rfl trivial
 | f a => exact plainly rfl trivial
 | t s tk =>
   cases o <;> simp [opdOk] at h
   rename_i t0; subst h
   have f := k.fr s
   by_cases hl : (st.fr.get s).loose = true
   · cases tk with
     | false =>
       have e1 : opd st.fr (.t s false) = ((st.fr.get s).cp,st.fr) := by
         simp only [opd]; cases hv : st.fr.get s <;> first | rfl | (rw [hv] at hl; simp [AV.loose] at hl)
       exact plainly (by rw [e1]) (by rw [e1]; exact Owns.cp)
     | true =>
       have e1 : opd st.fr (.t s true) = (st.fr.get s,st.fr.set s (st.fr.get s).cp) := by
         simp only [opd]; cases hv : st.fr.get s <;> first | rfl | (rw [hv] at hl; simp [AV.loose] at hl)
       rw [e1]
       rw [VF_loose hl] at f
       have l := FrLike.set (tm := tm) (s := s) (v := (st.fr.get s).cp) hl
       refine ⟨g.mv (.fr s) (.arg ps.length),Rel.mv k (fun _ _ => ⟨by simp,by simp,by simp,by simp⟩) (fun t cs _ => by simp) l (fun u => ?_) (fun j v cv hj => ?_),Gh.mv_stay g w _ _,rfl⟩
       · by_cases hu : s = u
         · subst hu; left
           rw [Fr.get_set,if_pos rfl,VF_loose (AV.cp_loose hl)]
           exact ⟨VX.like l ((VX.cp f.1).same (g.mv_same w _ _) trivial (fun t cs ht => by simp [Gh.mv])),Owns.cp⟩
         · right; exact ⟨by simpa using fun e => hu e.symm,by simp,by rw [Fr.get_set,if_neg hu],rfl⟩
       · rw [List.getElem?_append] at hj
         split at hj
         · rename_i hlt; right; exact ⟨by simp,by simp; omega,hj⟩
         · have : j = ps.length := by
             have := List.getElem?_eq_some_iff.1 hj
             obtain ⟨h1,_⟩ := this; simp at h1; omega
           subst this; simp at hj; obtain ⟨rfl,rfl⟩ := hj; left
           rw [VF_loose hl]
           exact ⟨VX.like l (f.1.same (g.mv_same w _ _) trivial (fun t cs ht => by simp [Gh.mv])),f.2.mv⟩
   · have e2 : (opd st.fr (.t s tk)).2 = st.fr := by
       simp only [opd]; cases hv : st.fr.get s <;> first | rfl | (rw [hv] at hl; simp [AV.loose] at hl)
     refine plainly e2 ?_
     simp only [opd]; cases hv : st.fr.get s <;> first | (rw [hv] at hl; simp [AV.loose] at hl; done) | trivial
theorem Stay.refl (g:Gh) (w:World) : Stay g w g w :=
 { ow := fun _ _ _ _ => rfl,cell := fun _ _ _ _ => rfl,frz := fun _ _ _ _ _ => rfl,blk := fun _ _ _ => rfl,row := fun _ _ _ h => h,te := fun _ => trivial,hb := fun _ _ h => h,os := rfl,tape := rfl,output := rfl,size := Nat.le_refl _ }
theorem Stay.trans {g g1 g2:Gh} {w w1 w2:World} (h:Stay g w g1 w1) (k:Stay g1 w1 g2 w2) : Stay g w g2 w2 :=
 { ow := fun b o hl ht => (k.ow b o (Nat.lt_of_lt_of_le hl h.size) (by rw [h.ow b o hl ht]; exact ht)).trans (h.ow b o hl ht)
   cell := fun b o hl ht => (k.cell b o (Nat.lt_of_lt_of_le hl h.size) (by rw [h.ow b o hl ht]; exact ht)).trans (h.cell b o hl ht)
   frz := fun b o hl ht hn => (k.frz b o (Nat.lt_of_lt_of_le hl h.size) (by rw [h.ow b o hl ht]; exact ht) (by rw [h.ow b o hl ht]; exact hn)).trans (h.frz b o hl ht hn)
   blk := fun b hl ht => (k.blk b (Nat.lt_of_lt_of_le hl h.size) (fun o => by rw [h.ow b o hl (ht o).1]; exact ht o)).trans (h.blk b hl ht)
   row := fun b e n hr => k.row _ _ _ (h.row _ _ _ hr),te := fun _ => trivial
   hb := fun i b e => k.hb i b (h.hb i b e),os := k.os.trans h.os,tape := k.tape.trans h.tape,output := k.output.trans h.output,size := Nat.le_trans h.size k.size }
theorem Rel.takes (k:Rel G g st ps tm w) {xs:List Opd} {os:List Operand} (h:opdsOk xs os = true) :
   ∃ g',Rel G g' { st with fr := (opds st.fr xs).2 } (ps ++ (opds st.fr xs).1.zip (os.map (Act.opd tm))) tm w ∧ Stay g w g' w ∧ g'.hb = g.hb ∧ (opds st.fr xs).1.length = os.length := by
 induction xs generalizing g st ps os with
 | nil =>
   cases os <;> simp [opdsOk] at h
   exact ⟨g,by simpa [opds] using k,Stay.refl g w,rfl,rfl⟩
 | cons x xs ih =>
   cases os with
   | nil => simp [opdsOk] at h
   | cons o os =>
     simp only [opdsOk,Bool.and_eq_true] at h
     obtain ⟨g1,k1,s1,hb1⟩ := k.take h.1
     obtain ⟨g2,k2,s2,hb2,hl2⟩ := ih k1 h.2
     refine ⟨g2,?_,s1.trans s2,hb2.trans hb1,?_⟩
     · simp only [opds,List.map_cons,List.zip_cons_cons]
       rw [List.append_assoc] at k2; exact k2
     · simp only [opds,List.length_cons]; exact congrArg (· + 1) hl2
theorem Rel.into {v:AV} {cv:Value} (k:Rel G g st [(v,cv)] tm w) {d:Nat} (hd:(st.fr.get d).loose = true) (hs:d < tm.size) :
   ∃ g',Rel G g' { st with fr := st.fr.set d v } [] (tm.setIfInBounds d cv) w ∧ Stay g w g' w ∧ g'.hb = g.hb := by
 have hg : ∀ t,(tm.setIfInBounds d cv).getD t undef = if d = t then cv else tm.getD t undef := fun t => by
   simp only [Array.getD_eq_getD_getElem?,Array.getElem?_setIfInBounds]
   by_cases e : d = t
   · subst e; simp [hs]
   · simp [e]
 have l : FrLike st.fr tm (st.fr.set d v) (tm.setIfInBounds d cv) :=
   ⟨(FrLike.set (tm := tm) hd).box,fun t xs sz ht => ⟨((FrLike.set (tm := tm) (v := v) hd).pend t xs sz ht).1,by
     rw [hg]; by_cases e : d = t
     · subst e; rw [ht] at hd; simp [AV.loose] at hd
     · rw [if_neg e]⟩⟩
 have nb : ∀ t cs,st.fr.get t = .box cs → Root.fr d ≠ .fr t := fun t cs ht e => by
   cases e; rw [ht] at hd; simp [AV.loose] at hd
 refine ⟨g.mv (.arg 0) (.fr d),Rel.mv k (fun _ _ => ⟨by simp,by simp,by simp,by simp⟩) nb l (fun u => ?_) (fun j v cv hj => by simp at hj),Gh.mv_stay g w _ _,rfl⟩
 by_cases hu : d = u
 · subst hu; left
   rw [Fr.get_set,if_pos rfl,hg,if_pos rfl]
   exact VF.mv (fun v cv h => VX.like l (h.same (g.mv_same w _ _) trivial (fun t cs ht => by simp only [Gh.mv]; rw [if_neg (fun e => nb t cs ht e.symm)]))) (k.ps 0 v cv rfl)
 · right; exact ⟨by simp,by simpa using fun e => hu e.symm,by rw [Fr.get_set,if_neg hu],by rw [hg,if_neg hu]⟩
end
end Go.Proofs.YtkofimhnehkdoaaGreatDoor.Rf
end
section
namespace Go.Proofs.YtkofimhnehkdoaaGreatDoor.Rf
section
variable {g g' : Gh} {w w' : World}
theorem cell?_of_block' {b o:Nat} (h:w'.heap[b]? = w.heap[b]?) : w'.cell? ⟨b,o,none⟩ = w.cell? ⟨b,o,none⟩ := by simp only [World.cell?,h]
theorem frozen?_of_block' {b o:Nat} (h:w'.heap[b]? = w.heap[b]?) : w'.frozen? ⟨b,o,none⟩ = w.frozen? ⟨b,o,none⟩ := by simp only [World.frozen?,h]
theorem Same.grow {T:Tag → Prop} (hh:∀ b,b < w.heap.size → w'.heap[b]? = w.heap[b]?) (ho:∀ b o,b < w.heap.size → T (g.ow b o) → g'.ow b o = g.ow b o) (hb:∀ (i b:Nat),g.hb[i]? = some b → g'.hb[i]? = some b) (te:T .imm → T .elt := by first | exact fun _ => trivial | simp) : Same T g w g' w' :=
 ⟨ho,fun b o hl _ => cell?_of_block' (hh b hl),fun b o hl _ _ => frozen?_of_block' (hh b hl),fun b hl _ => hh b hl,fun b e n ⟨cs,hi,h1,h2⟩ => ⟨cs,hi,by rw [hh b (Array.getElem?_eq_some_iff.1 h1).1]; exact h1,h2⟩,te,hb⟩
theorem heap_alloc_old (w:World) (o:Obj) (b:Nat) (h:b < w.heap.size) : (w.alloc o).heap[b]? = w.heap[b]? := by
 show (w.heap.push o)[b]? = _
 rw [Array.getElem?_push,if_neg (by omega)]
theorem heap_alloc_new (w:World) (o:Obj) : (w.alloc o).heap[w.heap.size]? = some o := by
 show (w.heap.push o)[_]? = _
 rw [Array.getElem?_push,if_pos rfl]
theorem Rel.draws {G:Nat → Option (List AV)} {st:St} {ps:List (AV × Value)} {tm:Array Value} (k:Rel G g st ps tm w) (h:w'.heap = w.heap) : Rel G g st ps tm w' :=
 k.same (Same.grow (fun b _ => by rw [h]) (fun _ _ _ _ => rfl) (fun _ _ h => h)) rfl (fun _ => rfl) (fun b o hb => k.fresh b o (by rw [← h]; exact hb))
theorem V.cells {v:AV} {cv:Value} (hp:v.plain = true) (h:V g w v cv) : VS g w v.spread cv.cells.toList ∧ Ones cv.cells.toList := by
 cases v <;> simp only [AV.plain,Bool.false_eq_true] at hp <;> simp only [AV.spread]
 case agg cs => simp only [V] at h; obtain ⟨vs,rfl,h,h0⟩ := h; exact ⟨by simpa [Value.cells] using h.ck1,by simpa [Value.cells] using h0⟩
 all_goals
   have h' := h
   simp only [V] at h'
   first
     | (subst h'; exact ⟨⟨_,[],rfl,h,rfl⟩,by simp [Ones,Value.cells,Value.oneCell']⟩)
     | (obtain ⟨_,rfl,_⟩ := h'; exact ⟨⟨_,[],rfl,h,rfl⟩,by simp [Ones,Value.cells,Value.oneCell']⟩)
     | (obtain ⟨_,_,_,_,rfl⟩ := h'; exact ⟨⟨_,[],rfl,h,rfl⟩,by simp [Ones,Value.cells,Value.oneCell']⟩)
     | (obtain ⟨_,_,rfl⟩ := h'; exact ⟨⟨_,[],rfl,h,rfl⟩,by simp [Ones,Value.cells,Value.oneCell']⟩)
     | (obtain ⟨_,_,rfl,_⟩ := h'; exact ⟨⟨_,[],rfl,h,rfl⟩,by simp [Ones,Value.cells,Value.oneCell']⟩)
theorem spread_own {r:Root} {v:AV} {cv:Value} (hp:v.plain = true) (hv:V g w v cv) (h:Owns g w r v cv) : OwnsL g w r v.spread cv.cells.toList := by
 cases v <;> simp only [AV.spread] <;> try exact OwnsL.ck1
 case list xs o =>
   simp only [V] at hv; obtain ⟨A,c,rfl,_⟩ := hv
   intro i ys sz e cu h1 h2
   cases i with
   | zero => simp [Value.cells] at h1 h2; obtain ⟨rfl,rfl⟩ := h1; subst h2; exact h
   | succ i => simp at h1
 all_goals
   refine OwnsL.none fun i xs sz e h => ?_
   cases i with
   | zero => simp at h
   | succ i => simp at h
variable {G:Nat → Option (List AV)} {st:St} {ps:List (AV × Value)} {tm:Array Value}
def Gh.newbox (g:Gh) (n:Nat) (r:Root) : Gh := { ow := fun b o => if b = n then .box r else g.ow b o,hb := g.hb,bx := fun x => if x = r then n else g.bx x }
theorem Rel.newbox (k:Rel G g st ps tm w) {cs:List AV} {vs:List Value} (hv:VS g w cs vs ∧ Ones vs) (ho:OwnsL g w (.arg 0) cs vs) (ty:TypeId) :
   ∃ g',Rel G g' st [(.box cs,.pointer (some ⟨w.heap.size,0,none⟩))] tm (w.alloc (.cells vs.toArray ty)) ∧ Stay g w g' (w.alloc (.cells vs.toArray ty)) ∧ g'.hb = g.hb := by
 have sm : Same (fun _ => True) g w (g.newbox w.heap.size (.arg 0)) (w.alloc (.cells vs.toArray ty)) :=
   Same.grow (fun b h => heap_alloc_old w _ b h) (fun b o h _ => by simp only [Gh.newbox]; rw [if_neg (by omega)]) (fun _ _ h => h)
 refine ⟨g.newbox w.heap.size (.arg 0),⟨fun s => ?_,fun j v cv hj => ?_,?_,fun b o hb => ?_,?_⟩,?_,rfl⟩
 · exact (k.fr s).same sm trivial (fun t _ _ => by simp [Gh.newbox]) (fun _ => trivial) trivial (by simp [Gh.newbox])
 · cases j with
   | succ j => simp at hj
   | zero =>
     simp at hj; obtain ⟨rfl,rfl⟩ := hj
     simp only [VF]
     refine ⟨vs,ty,by simp [Gh.newbox],?_,⟨VS.mono (sm.ext trivial) _ _ hv.1,hv.2⟩,fun o => by simp [Gh.newbox],ho.same sm trivial (fun _ => trivial)⟩
     have : (g.newbox w.heap.size (.arg 0)).bx (.arg 0) = w.heap.size := by simp [Gh.newbox]
     rw [this]; exact heap_alloc_new w _
 · exact k.hp.same sm trivial (fun _ => trivial) (fun _ _ => trivial) (fun _ _ _ => trivial) rfl
 · simp only [Gh.newbox]; simp at hb; rw [if_neg (by omega)]; exact k.fresh b o (by omega)
 · exact k.gl.same sm trivial trivial
 · exact { ow := fun b o hl _ => sm.ow b o hl trivial,cell := fun b o hl _ => sm.cell b o hl trivial,frz := fun b o hl _ hn => sm.frz b o hl trivial hn,blk := fun b hl h => sm.blk b hl (fun o => ⟨trivial,(h o).2⟩),row := sm.row,te := fun _ => trivial,hb := sm.hb,os := rfl,tape := rfl,output := rfl,size := by simp }
def Gh.newobj (g:Gh) (n:Nat) (id:Nat) : Gh := { ow := fun b o => if b = n then .obj id else (g.ow b o).mv (.arg 0) (.ob id),hb := g.hb ++ [n],bx := g.bx }
theorem Rel.newobj (k:Rel G g st ps tm w) {o:HObj} {obj:Obj} (hr:∀ g1 w1,Same (Tag.offRoots (.arg 0) (.ob st.hp.length)) g w g1 w1 → (∀ i xs sz cv,Tail g w (.arg 0) i xs sz cv → Tail g1 w1 (.ob st.hp.length) i xs sz cv) →
     w1.heap[w.heap.size]? = some obj → ObjRel g1 w1 st.hp.length w.heap.size o) :
   ∃ g',Rel G g' { st with hp := st.hp ++ [o] } [] tm (w.alloc obj) ∧ Stay g w g' (w.alloc obj) ∧ g'.hb = g.hb ++ [w.heap.size] := by
 have sm : Same (Tag.offRoots (.arg 0) (.ob st.hp.length)) g w (g.newobj w.heap.size st.hp.length) (w.alloc obj) :=
   Same.grow (fun b h => heap_alloc_old w _ b h) (fun b o h ht => by simp only [Gh.newobj]; rw [if_neg (by omega)]; exact Tag.mv_off ht) (fun i b h => by simp only [Gh.newobj]; rw [List.getElem?_append,if_pos (List.getElem?_eq_some_iff.1 h).1]; exact h)
 have ht : ∀ i xs sz cv,Tail g w (.arg 0) i xs sz cv → Tail (g.newobj w.heap.size st.hp.length) (w.alloc obj) (.ob st.hp.length) i xs sz cv := fun i xs sz cv h a n c e => by
   obtain ⟨h1,h2⟩ := h a n c e
   refine ⟨VE.mono (sm.ext trivial) _ _ _ _ h1,fun o ho ho' => ?_⟩
   obtain ⟨p,⟨u,q⟩,s⟩ := h2 o ho ho'
   have hl := World.block_lt_of_cell? w ⟨a.block,o,none⟩ q
   refine ⟨?_,⟨u,by rw [cell?_of_block' (heap_alloc_old w _ _ hl)]; exact q⟩,by rw [frozen?_of_block' (heap_alloc_old w _ _ hl)]; exact s⟩
   simp only [Gh.newobj]; rw [if_neg (by simp at hl; omega),p]; simp [Tag.mv]
 have hlen := k.hp.len
 refine ⟨g.newobj w.heap.size st.hp.length,⟨fun s => ?_,fun j v cv hj => by simp at hj,⟨?_,fun id x hx hlive => ?_⟩,fun b o hb => ?_,?_⟩,?_,rfl⟩
 · exact (k.fr s).same sm trivial (fun t _ _ => rfl) (fun i => ⟨by simp,by simp⟩) ⟨by simp,by simp⟩ rfl
 · simp [Gh.newobj,hlen]
 · rw [List.getElem?_append] at hx
   split at hx
   · rename_i hlt
     obtain ⟨b,k1,k2,k3⟩ := k.hp.obj id x hx hlive
     have hbl : b < w.heap.size := by
       exact k3.lt
     have hne : id ≠ st.hp.length := by omega
     refine ⟨b,sm.hb _ _ k1,fun i => ?_,k3.same sm trivial k2 trivial (fun i => ⟨by simp,by simpa using hne⟩) (fun i j => ⟨by simp,by simp⟩)⟩
     rw [sm.ow b i hbl (by rw [k2]; trivial)]; exact k2 i
   · have : id = st.hp.length := by
       obtain ⟨h1,_⟩ := List.getElem?_eq_some_iff.1 hx; simp at h1; omega
     subst this; simp at hx; subst hx
     refine ⟨w.heap.size,?_,fun i => by simp [Gh.newobj],hr _ _ sm ht (heap_alloc_new w _)⟩
     simp only [Gh.newobj]; rw [List.getElem?_append,if_neg (by omega)]; simp [hlen]
 · simp at hb
   simp only [Gh.newobj]; rw [if_neg (by omega),k.fresh b o (by omega)]; rfl
 · exact k.gl.same sm trivial trivial
 · exact { ow := fun b o hl ht => sm.ow b o hl (by revert ht; cases g.ow b o <;> simp [Tag.kept,Tag.offRoots]),cell := fun b o hl _ => cell?_of_block' (heap_alloc_old w _ b hl),frz := fun b o hl _ _ => frozen?_of_block' (heap_alloc_old w _ b hl),blk := fun b hl _ => heap_alloc_old w _ b hl,row := sm.row,te := fun _ => trivial,hb := sm.hb,os := rfl,tape := rfl,output := rfl,size := by simp }
end
end Go.Proofs.YtkofimhnehkdoaaGreatDoor.Rf
end
section
namespace Go.Proofs.YtkofimhnehkdoaaGreatDoor.Rf
def Fits (P:Program) (G:Nat → Option (List AV)) (g:Gh) (st:St) (r:OpR) (o:Oper) (a:Act) (w:World) : Prop :=
 ∀ next Q,(∀ g' w' v st' cv,r = .val v st' → Rel G g' st' [(v,cv)] a.tmps w' → Stay g w g' w' → next (a.put o.dst cv) w') →
   (∀ g' w' v st' cv,r = .pan v st' → V g' w' v cv → v.plain = true → Rel G g' st' [] a.tmps w' → Stay g w g' w' → Q (.panic [{ v := cv,recovered := false }]) a w') → o.wp P a w next Q
section
variable {P:Program} {G:Nat → Option (List AV)} {g:Gh} {st:St} {a:Act} {w:World} {o:Oper}
theorem fits_value {v:AV} {st' : St} {cv:Value} {w' : World} {g' : Gh} (hrun:(execOp a.eval o).run P w = .ok (.value cv) w') (hr:Rel G g' st' [(v,cv)] a.tmps w') (hs:Stay g w g' w') : Fits P G g st (.val v st') o a w := by
 intro next Q h _
 unfold Oper.wp; rw [hrun]
 exact h g' w' v st' cv rfl hr hs
theorem fits_skip {v:AV} {st' : St} {w' : World} {g' : Gh} (hrun:(execOp a.eval o).run P w = .ok .skip w') (hr:Rel G g' st' [(v,undef)] a.tmps w') (hs:Stay g w g' w') : Fits P G g st (.val v st') o a w := by
 intro next Q h _
 unfold Oper.wp; rw [hrun]
 exact h g' w' v st' undef rfl hr hs
theorem Rel.push0 {tm:Array Value} (k:Rel G g st [] tm w) {v:AV} {cv:Value} (h:VF g w st.fr tm (.arg 0) v cv) : Rel G g st [(v,cv)] tm w := by
 have := k.push (ps := []) h; simpa using this
theorem fits_pure (k:Rel G g st [] a.tmps w) {v:AV} {cv:Value} (hrun:(execOp a.eval o).run P w = .ok (.value cv) w) (hv:VF g w st.fr a.tmps (.arg 0) v cv) : Fits P G g st (.val v st) o a w :=
 fits_value hrun (k.push0 hv) (Stay.refl g w)
theorem VF_scalar {fr:Fr} {tm:Array Value} {r:Root} {v:AV} {cv:Value} (h1:v.loose = true) (h2:VX g w fr tm v cv) (h3:∀ xs sz e,v ≠ .list xs (.own sz e)) (h4:∀ vs,v ≠ .tup vs) : VF g w fr tm r v cv := by
 rw [VF_loose h1]; exact ⟨h2,Owns.not_own h3 h4⟩
theorem VF_cp {fr:Fr} {tm:Array Value} {r:Root} {v:AV} {cv:Value} (h1:v.loose = true) (h2:VX g w fr tm v cv) : VF g w fr tm r v.cp cv := by
 rw [VF_loose (AV.cp_loose h1)]; exact ⟨h2.cp,Owns.cp⟩
theorem fits_mv (k:Rel G g st [] a.tmps w) {x:Opd} {y:Operand} (hx:opdOk x y = true) (ho:o.op = .move y ∨ o.op = .assign y) :
   Fits P G g st (.val (opd st.fr x).1 { st with fr := (opd st.fr x).2 }) o a w := by
 obtain ⟨g',k',s,_⟩ := k.take hx
 refine fits_value (g' := g') (w' := w) (cv := Act.opd a.tmps y) ?_ (by simpa using k') s
 rcases ho with ho | ho <;> simp [execOp,ho,Act.eval_eq]
theorem fits_pick (k:Rel G g st [] a.tmps w) {x y z:Opd} {x' y' z' : Operand} (hx:opdOk x x' = true) (hy:opdOk y y' = true) (hz:opdOk z z' = true) (ho:o.op = .pick x' y' z') {t:Bool} (ht:(opd st.fr x).1 = .bool t) :
   Fits P G g st (.val (if t then (opd st.fr y).1.cp else (opd st.fr z).1.cp) st) o a w := by
 have h1 := k.read hx; rw [ht] at h1; simp only [VX,V] at h1
 refine fits_pure k (cv := if t then Act.opd a.tmps y' else Act.opd a.tmps z') ?_ ?_
 · simp [execOp,ho,Act.eval_eq,h1,asBool]
 · cases t
   · exact VF_cp (opd_loose st.fr hz) (k.read hz)
   · exact VF_cp (opd_loose st.fr hy) (k.read hy)
def zeroOk (P:Program) (t:TypeId) (cs:List AV) : Bool :=
 match P.info? t with
 | some i => match i.zero with | some z => sames cs z.cells.toList && z.cells.toList.all Value.oneCell' | none => false
 | none => false
theorem zeroOk_run {t:TypeId} {cs:List AV} (h:zeroOk P t cs = true) : ∃ z,(∀ w,(zeroValue t).run P w = .ok z w) ∧ sames cs z.cells.toList = true ∧ Ones z.cells.toList := by
 unfold zeroOk at h
 cases hi : P.info? t with
 | none => simp [hi] at h
 | some i =>
   simp only [hi] at h
   cases hz : i.zero with
   | none => simp [hz] at h
   | some z => exact ⟨z,fun w => by simp [zeroValue,typeInfo,hi,hz],by simp only [hz,Bool.and_eq_true,List.all_eq_true] at h; exact h⟩
theorem sames_plain : ∀ {cs:List AV} {vs:List Value},sames cs vs = true → OwnsL g w (.arg 0) cs vs := fun h => OwnsL.none (sames_not_own h)
theorem fits_alloc (k:Rel G g st [] a.tmps w) {t:TypeId} {cs:List AV} (hz:zeroOk P t cs = true) (ho:o.op = .alloc t) {ty:Nat} (hty:ty ≠ 0 → t = ty) (heap:Bool) :
   Fits P G g st (if heap then .val (.ptr st.hp.length 0) { st with hp := st.hp ++ [.cells ty cs] } else .val (.box cs) st) o a w := by
 obtain ⟨z,hz1,hz2,hz3⟩ := zeroOk_run hz
 have hrun : (execOp a.eval o).run P w = .ok (.value (.pointer (some ⟨w.heap.size,0,none⟩))) (w.alloc (.cells z.cells t)) := by
   simp [execOp,ho,Instr.alloc,hz1,newVar,newRow]
 have e : z.cells = z.cells.toList.toArray := by simp
 cases heap with
 | false =>
   obtain ⟨g',k',s,_⟩ := Rel.newbox k ⟨VS.of_same cs _ hz2,hz3⟩ (sames_plain hz2) t
   rw [← e] at k' s
   exact fits_value hrun k' s
 | true =>
   obtain ⟨g',k',s,hb⟩ := Rel.newobj k (o := .cells ty cs) (obj := .cells z.cells t) (fun g1 w1 _ _ h1 => by
     simp only [ObjRel]; exact ⟨z.cells.toList,[],t,by rw [List.append_nil,← e]; exact h1,⟨VS.of_same cs _ hz2,hz3⟩,OwnsL.none (sames_not_own hz2),fun h => ⟨hty h,rfl⟩⟩)
   refine fits_value hrun (k'.push0 (v := .ptr st.hp.length 0) (cv := .pointer (some ⟨w.heap.size,0,none⟩)) ?_) s
   exact VF_scalar rfl (VX_of_V (by simp only [V]; exact ⟨w.heap.size,by rw [hb,List.getElem?_append,if_neg (by rw [k.hp.len]; omega),k.hp.len]; simp,rfl⟩)) (by simp) (by simp)
theorem fits_box (k:Rel G g st [] a.tmps w) {t:TypeId} {x:Opd} {y:Operand} (hx:opdOk x y = true) (ho:o.op = .box t y) (hp:(opd st.fr x).1.plain = true) (heap:Bool) :
   Fits P G g st (if heap then .val (.ptr st.hp.length 0) { fr := (opd st.fr x).2,hp := st.hp ++ [.cells 0 (opd st.fr x).1.spread] } else .val (.box (opd st.fr x).1.spread) { st with fr := (opd st.fr x).2 }) o a w := by
 obtain ⟨g1,k1,s1,hb1⟩ := k.take hx
 have hrun : (execOp a.eval o).run P w = .ok (.value (.pointer (some ⟨w.heap.size,0,none⟩))) (w.alloc (.cells (Act.opd a.tmps y).cells t)) := by
   simp [execOp,ho,Instr.box,newVar,newRow,Act.eval_eq]
 have f := k1.ps 0 _ _ rfl
 have hl := AV.loose_of_plain hp
 rw [VF_loose hl,VX_plain hp] at f
 have e : (Act.opd a.tmps y).cells = (Act.opd a.tmps y).cells.toList.toArray := by simp
 cases heap with
 | false =>
   obtain ⟨g',k',s,_⟩ := Rel.newbox k1 (V.cells hp f.1) (spread_own hp f.1 f.2) t
   rw [← e] at k' s
   exact fits_value hrun k' (s1.trans s)
 | true =>
   obtain ⟨g',k',s,hb⟩ := Rel.newobj k1 (o := .cells 0 (opd st.fr x).1.spread) (obj := .cells (Act.opd a.tmps y).cells t) (fun g2 w2 sm mv h1 => by
     simp only [ObjRel]
     exact ⟨(Act.opd a.tmps y).cells.toList,[],t,by rw [List.append_nil,← e]; exact h1,⟨VS.mono (sm.ext trivial) _ _ (V.cells hp f.1).1,(V.cells hp f.1).2⟩,fun i xs sz e cv h2 h3 => mv _ _ _ _ (spread_own hp f.1 f.2 i xs sz e cv h2 h3),fun h => absurd rfl h⟩)
   refine fits_value hrun (k'.push0 (v := .ptr st.hp.length 0) (cv := .pointer (some ⟨w.heap.size,0,none⟩)) ?_) (s1.trans s)
   exact VF_scalar rfl (VX_of_V (by simp only [V]; exact ⟨w.heap.size,by rw [hb,List.getElem?_append,if_neg (by rw [k1.hp.len]; simp),k1.hp.len]; simp,rfl⟩)) (by simp) (by simp)
theorem fits_nilchk (k:Rel G g st [] a.tmps w) {x:Opd} {y:Operand} (hx:opdOk x y = true) (ho:o.op = .nilCheck y) {v:AV} (hv:(opd st.fr x).1 = v)
   (hk:(∃ i n,v = .ptr i n) ∨ (∃ i n,v = .lref i n) ∨ ∃ i n,v = .glob i n) : Fits P G g st (.val v st) o a w := by
 have h1 := k.read hx; rw [hv] at h1
 refine fits_pure k (cv := Act.opd a.tmps y) ?_ ?_
 · rcases hk with ⟨i,n,rfl⟩ | ⟨i,n,rfl⟩ | ⟨i,n,rfl⟩ <;> simp only [VX,V] at h1
   · obtain ⟨b,_,h1⟩ := h1; simp [execOp,ho,Act.eval_eq,h1]
   · obtain ⟨h1,_⟩ := h1; simp [execOp,ho,Act.eval_eq,h1]
   · simp [execOp,ho,Act.eval_eq,h1]
 · rcases hk with ⟨i,n,rfl⟩ | ⟨i,n,rfl⟩ | ⟨i,n,rfl⟩ <;> exact VF_scalar rfl h1 (by simp) (by simp)
end
end Go.Proofs.YtkofimhnehkdoaaGreatDoor.Rf
end
section
namespace Go.Proofs.YtkofimhnehkdoaaGreatDoor.Rf
section
variable {P:Program} {G:Nat → Option (List AV)} {g:Gh} {st:St} {a:Act} {w:World} {o:Oper} {tm:Array Value} {ps:List (AV × Value)}
theorem VC.get : ∀ {cs:List AV} {b off:Nat},VC g w cs b off → ∀ {i:Nat} {c:AV},cs[i]? = some c → (g.ow b (off + i)).ro ∧ ∃ cv,w.cell? ⟨b,off + i,none⟩ = some cv ∧ cv.oneCell' = true ∧ V g w c cv
 | [],_,_,_,_,_,h => by simp at h
 | c :: cs,b,off,h,0,d,hd => by simp only [VC] at h; simp at hd; subst hd; exact h.1
 | c :: cs,b,off,h,i + 1,d,hd => by
   simp only [VC] at h
   have := VC.get h.2 (i := i) (by simpa using hd)
   rwa [show off + 1 + i = off + (i + 1) by omega] at this
theorem V.loose {v:AV} {cv:Value} (h:V g w v cv) : v.loose = true := by
 cases v <;> first | rfl | (simp only [V] at h)
theorem Rel.behind (k:Rel G g st ps tm w) {p:AV} {cv:Value} (hp:VX g w st.fr tm p cv) {cs:List AV} {off:Nat} (h:behind G st p = some (cs,off)) :
   ∃ b o0,cv = .pointer (some ⟨b,o0 + off,none⟩) ∧ ∀ (i:Nat) c,cs[i]? = some c → ∃ u,w.cell? ⟨b,o0 + i,none⟩ = some u ∧ u.oneCell' = true ∧ V g w c u := by
 have rows : ∀ {b:Nat} {vs:List Value} {ty:TypeId},w.heap[b]? = some (.cells vs.toArray ty (0,0)) → (VS g w cs vs ∧ Ones vs) → ∀ (i:Nat) c,cs[i]? = some c → ∃ u,w.cell? ⟨b,0 + i,none⟩ = some u ∧ u.oneCell' = true ∧ V g w c u := by
   intro b vs ty hb hv i c hc
   obtain ⟨u,hu,hv'⟩ := hv.1.get hc
   exact ⟨u,by rw [Nat.zero_add]; simp [World.cell?,hb,hu],hv.2 u (List.mem_of_getElem? hu),hv'⟩
 have rowsA : ∀ {b:Nat} {vs sp:List Value} {ty:TypeId},w.heap[b]? = some (.cells (vs ++ sp).toArray ty (0,0)) → (VS g w cs vs ∧ Ones vs) → ∀ (i:Nat) c,cs[i]? = some c → ∃ cv,w.cell? ⟨b,0 + i,none⟩ = some cv ∧ cv.oneCell' = true ∧ V g w c cv := by
   intro b vs sp ty hb hv i c hc
   obtain ⟨u,hu,hv'⟩ := hv.1.get hc
   have hu' : (vs ++ sp)[i]? = some u := by rw [List.getElem?_append,if_pos (List.getElem?_eq_some_iff.1 hu).1]; exact hu
   exact ⟨u,by rw [Nat.zero_add]; simp [World.cell?,hb,hu'],hv.2 u (List.mem_of_getElem? hu),hv'⟩
 cases p <;> simp only [Rf.behind] at h <;> try (cases h; done)
 case ptr id off' =>
   cases ho : st.hp[id]? with
   | none => simp [ho] at h
   | some x =>
     cases x with
     | dead => simp [ho] at h
     | map es => simp [ho] at h
     | cells t0 ds =>
       simp [ho] at h; obtain ⟨rfl,rfl⟩ := h
       obtain ⟨b,k1,k2,k3⟩ := k.hp.obj id _ ho rfl
       simp only [ObjRel] at k3; obtain ⟨vs,sp,ty,k4,k5,_⟩ := k3
       simp only [VX,V] at hp; obtain ⟨b',h1,h2⟩ := hp
       rw [k1] at h1; cases h1
       exact ⟨b,0,by simpa using h2,rowsA k4 k5⟩
 case lref s off' =>
   have f := k.fr s
   cases hf : st.fr.get s <;> simp [hf] at h
   rw [hf] at f; obtain ⟨rfl,rfl⟩ := h
   simp only [VF] at f; obtain ⟨vs,ty,f1,f2,f3,_⟩ := f
   simp only [VX] at hp
   exact ⟨_,0,by simpa using hp.1,rows f2 f3⟩
 case eref x off' =>
   simp at h; obtain ⟨rfl,rfl⟩ := h
   simp only [VX] at hp; obtain ⟨b,o0,h1,h2⟩ := hp
   exact ⟨b,o0,h1,fun i c hc => (h2.get hc).2⟩
 case glob b off' =>
   cases hG : G b with
   | none => simp [hG] at h
   | some ds =>
     simp [hG] at h; obtain ⟨rfl,rfl⟩ := h
     obtain ⟨vs,ty,h1,h2,_⟩ := k.gl b ds hG
     simp only [VX,V] at hp
     exact ⟨b,0,by simpa using hp,rows h1 h2⟩
def tyOk (P:Program) (t:TypeId) (n:Nat) (agg:Bool) : Bool :=
 match P.info? t,P.underlying t with
 | some i,some d => decide (i.size = n) && decide (0 < n) && (match d with | .struct _ | .array _ _ => agg | _ => !agg && decide (n = 1))
 | _,_ => false
theorem run_loadVar_at {t:TypeId} {n:Nat} {agg:Bool} (h:tyOk P t n agg = true) {b off:Nat} {us:List Value} (hl:us.length = n) (hc:∀ (i:Nat) u,us[i]? = some u → w.cell? ⟨b,off + i,none⟩ = some u) :
   (loadVar t ⟨b,off,none⟩).run P w = .ok (if agg then .agg us.toArray else us.headD undef) w := by
 unfold tyOk at h
 cases hi : P.info? t with
 | none => simp [hi] at h
 | some i =>
   cases hu : P.underlying t with
   | none => simp [hi,hu] at h
   | some d =>
     simp only [hi,hu,Bool.and_eq_true,decide_eq_true_eq] at h
     obtain ⟨⟨h1,h0⟩,h2⟩ := h
     have hcs : (loadCells ⟨b,off,none⟩ us.length).run P w = .ok us.toArray w := run_loadCells_list (P := P) w ⟨b,off,none⟩ us (fun j v hv => by rw [Addr.add_lit]; exact hc j v hv)
     have hagg : (isAgg t).run P w = .ok agg w := by
       unfold isAgg
       rw [Sem.run_bind,run_underlying hu w]
       cases d <;> simp_all
     cases agg with
     | true => simp [loadVar,hagg,sizeOf,typeInfo,hi,h1,← hl,hcs]
     | false =>
       have hn : n = 1 := by cases d <;> simp_all
       subst hn
       match us,hl with
       | [u],_ =>
         have h3 := hc 0 u rfl
         rw [Nat.add_zero] at h3
         simp [loadVar,hagg,load,Sem.run,h3]
theorem cut_get {cs l:List AV} {off n:Nat} (h:cut cs off n = some l) : l.length = n ∧ ∀ (i:Nat) c,l[i]? = some c → cs[off + i]? = some c := by
 unfold cut at h
 split at h
 · rename_i hle
   simp at h; subst h
   refine ⟨by simp; omega,fun i c hc => ?_⟩
   rw [List.getElem?_take] at hc
   split at hc
   · rw [List.getElem?_drop] at hc; exact hc
   · cases hc
 · cases h
theorem Rel.cutAt (k:Rel G g st ps tm w) {p:AV} {cv:Value} (hp:VX g w st.fr tm p cv) {cs l:List AV} {off n:Nat} (h:Rf.behind G st p = some (cs,off)) (hl:cut cs off n = some l) :
   ∃ b q,cv = .pointer (some ⟨b,q,none⟩) ∧ ∃ us : List Value,us.length = n ∧ (∀ (i:Nat) u,us[i]? = some u → w.cell? ⟨b,q + i,none⟩ = some u) ∧ VS g w l us ∧ Ones us := by
 obtain ⟨b,o0,h1,h2⟩ := k.behind hp h
 obtain ⟨hn,hg⟩ := cut_get hl
 have hall : ∀ i : Nat,i < n → ∃ u,w.cell? ⟨b,o0 + off + i,none⟩ = some u ∧ u.oneCell' = true ∧ ∀ c,l[i]? = some c → V g w c u := by
   intro i hi
   have hc : l[i]? = some l[i] := List.getElem?_eq_getElem (by omega)
   obtain ⟨u,e1,e2,e3⟩ := h2 (off + i) _ (hg i _ hc)
   exact ⟨u,by rw [← e1]; congr 2; omega,e2,fun c hc' => by rw [hc] at hc'; cases hc'; exact e3⟩
 have hf : ∃ f : Nat → Value,∀ i,i < n → w.cell? ⟨b,o0 + off + i,none⟩ = some (f i) ∧ (f i).oneCell' = true ∧ ∀ c,l[i]? = some c → V g w c (f i) := by
   classical
   exact ⟨fun i => if h : i < n then (hall i h).choose else undef,fun i hi => by simp only [dif_pos hi]; exact (hall i hi).choose_spec⟩
 obtain ⟨f,hf⟩ := hf
 refine ⟨b,o0 + off,h1,(List.range n).map f,by simp,fun i u hu => ?_,VS.mk (by simp [hn]) fun i v u hv hu => ?_,fun u hu => ?_⟩
 · obtain ⟨hi,e⟩ := List.getElem?_eq_some_iff.1 hu
   simp at hi e; subst e; exact (hf i hi).1
 · obtain ⟨hi,e⟩ := List.getElem?_eq_some_iff.1 hu
   simp at hi e; subst e; exact (hf i hi).2.2 v hv
 · simp at hu; obtain ⟨i,hi,rfl⟩ := hu; exact (hf i hi).2.1
theorem VF_ofCells {r:Root} {agg:Bool} {l:List AV} {us:List Value} {fr:Fr} (hv:VS g w l us) (h1:Ones us) (hn:agg = false → us.length = 1) (ho:agg = false → ∀ c u,l = [c] → us = [u] → Owns g w r c u) : VF g w fr tm r (ofCells agg l) (if agg then .agg us.toArray else us.headD undef) := by
 cases agg with
 | true => exact VF_scalar rfl (VX_of_V (by simp only [ofCells,if_true,V]; exact ⟨us,rfl,hv,h1⟩)) (by simp [ofCells]) (by simp [ofCells])
 | false =>
   have hu := hn rfl
   match us,hu with
   | [u],_ =>
     match l,hv.len with
     | [c],_ =>
       simp only [VS] at hv; obtain ⟨u',r',e,hv,_⟩ := hv; cases e
       simp only [ofCells,Bool.false_eq_true,if_false,List.headD]
       rw [VF_loose hv.loose]; exact ⟨VX_of_V hv,ho rfl c u rfl rfl⟩
theorem Owns.cp1 {r:Root} {v:AV} {cv:Value} (h:∀ vs,v ≠ .tup vs) : Owns g w r v.cp1 cv := by
 refine Owns.not_own (fun xs sz e h => AV.cp1_not_own v xs sz e h) fun vs e => ?_
 cases v <;> simp only [AV.cp1] at e <;> try (cases e; done)
 case tup us => exact h us rfl
theorem V.not_tup {v:AV} {cv:Value} (h:V g w v cv) (h1:cv.oneCell' = true) : ∀ vs,v ≠ .tup vs := by
 rintro vs rfl; simp only [V] at h; obtain ⟨us,rfl,_⟩ := h; simp [Value.oneCell'] at h1
theorem fits_load (k:Rel G g st [] a.tmps w) {x:Opd} {y:Operand} (hx:opdOk x y = true) {t:TypeId} {n:Nat} {agg:Bool} (ht:tyOk P t n agg = true) (ho:o.op = .load t y)
   {cs l:List AV} {off:Nat} (h:Rf.behind G st (opd st.fr x).1 = some (cs,off)) (hl:cut cs off n = some l) : Fits P G g st (.val (ofCells agg (l.map AV.cp1)) st) o a w := by
 have hr := k.read hx
 obtain ⟨b,q,h1,us,h2,h3,h4,h5⟩ := k.cutAt hr h hl
 have hn : agg = false → n = 1 := fun e => by
   subst e; unfold tyOk at ht
   cases hi : P.info? t <;> cases hu : P.underlying t <;> simp [hi,hu] at ht
   rename_i i d; cases d <;> simp_all
 refine fits_pure k (cv := if agg then .agg us.toArray else us.headD undef) ?_ (VF_ofCells h4.cp1 h5 (fun e => by rw [h2]; exact hn e) fun e c u e1 e2 => ?_)
 · simp [execOp,ho,Act.eval_eq,h1,Instr.loadAt,Instr.sureAddr,run_loadVar_at ht h2 h3]
 · cases l with
   | nil => simp at e1
   | cons d r =>
     simp at e1; obtain ⟨rfl,_⟩ := e1
     simp only [e2,VS] at h4; obtain ⟨u',r',e,hv,_⟩ := h4; cases e
     exact Owns.cp1 (hv.not_tup (h5 u (by rw [e2]; simp)))
end
end Go.Proofs.YtkofimhnehkdoaaGreatDoor.Rf
end
section
namespace Go.Proofs.YtkofimhnehkdoaaGreatDoor.Rf
def Tag.mvI (r:Root) (i:Nat) (q:Root) (j:Nat) : Tag → Tag
 | .tail x k => if x = r ∧ k = i then .tail q j else if x = q ∧ k = j then .out else .tail x k
 | t => t
def Gh.mvI (g:Gh) (r:Root) (i:Nat) (q:Root) (j:Nat) : Gh := { g with ow := fun b o => (g.ow b o).mvI r i q j }
section
variable {P:Program} {G:Nat → Option (List AV)} {g g' : Gh} {st:St} {a:Act} {w w' : World} {o:Oper} {tm:Array Value} {ps:List (AV × Value)}
theorem heap_setRow (w:World) (b:Nat) (cs:Array Value) {old:Array Value} {ty:TypeId} {fr:Nat × Nat} (h:w.heap[b]? = some (.cells old ty fr)) (k:Nat) :
   (w.setRow b cs).heap[k]? = if k = b then some (.cells cs ty fr) else w.heap[k]? := by
 simp only [World.setRow,Array.getElem?_modify]
 by_cases e : b = k
 · subst e; simp [h]
 · rw [if_neg e,if_neg (fun h => e h.symm)]
theorem size_setRow' (w:World) (b:Nat) (cs:Array Value) : (w.setRow b cs).heap.size = w.heap.size := by simp [World.setRow]
theorem row_setRow {b:Nat} {cs old:Array Value} {ty:TypeId} {fr:Nat × Nat} (h:w.heap[b]? = some (.cells old ty fr)) (hs:cs.size = old.size) (c e n:Nat) (k:Row0 w c e n) : Row0 (w.setRow b cs) c e n := by
 obtain ⟨ds,hi,k1,k2⟩ := k
 by_cases hc : c = b
 · subst hc
   rw [h] at k1; cases k1
   exact ⟨cs,hi,by rw [heap_setRow w c cs h,if_pos rfl],by omega⟩
 · exact ⟨ds,hi,by rw [heap_setRow w b cs h,if_neg hc]; exact k1,k2⟩
def offB (bt:Tag) (r:Root) (i:Nat) (q:Root) (j:Nat) : Tag → Prop := fun t => t ≠ bt ∧ t ≠ .tail r i ∧ t ≠ .tail q j
theorem Tag.mvI_off {bt:Tag} {r q:Root} {i j:Nat} {t:Tag} (h:offB bt r i q j t) : t.mvI r i q j = t := by
 cases t <;> try rfl
 case tail x k =>
   simp only [offB,ne_eq,Tag.tail.injEq] at h
   simp only [Tag.mvI]; rw [if_neg h.2.1,if_neg h.2.2]
theorem same_setRow {b:Nat} {bt:Tag} {r q:Root} {i j:Nat} (hb:∀ o,g.ow b o = bt) {cs old:Array Value} {ty:TypeId} {fr:Nat × Nat} (h:w.heap[b]? = some (.cells old ty fr)) (hsz:cs.size = old.size) (hbt:bt ≠ .elt) :
   Same (offB bt r i q j) g w (g.mvI r i q j) (w.setRow b cs) := by
 have hne : ∀ c o,offB bt r i q j (g.ow c o) → c ≠ b := fun c o ht e => by subst e; exact ht.1 (hb o)
 refine ⟨fun c o _ ht => Tag.mvI_off ht,fun c o _ ht => cell?_of_block' ?_,fun c o _ ht _ => frozen?_of_block' ?_,fun c _ ht => ?_,row_setRow h hsz,fun _ => ⟨fun e => hbt e.symm,by simp,by simp⟩,fun _ _ h => h⟩
 · rw [heap_setRow w b cs h,if_neg (hne c o ht)]
 · rw [heap_setRow w b cs h,if_neg (hne c o ht)]
 · rw [heap_setRow w b cs h,if_neg (hne c 0 (ht 0).1)]
theorem stay_setRow {b:Nat} {bt:Tag} {r q:Root} {i j:Nat} (hb:∀ o,g.ow b o = bt) (hk:¬ bt.kept) {cs old:Array Value} {ty:TypeId} {fr:Nat × Nat} (h:w.heap[b]? = some (.cells old ty fr)) (hsz:cs.size = old.size) :
   Stay g w (g.mvI r i q j) (w.setRow b cs) := by
 have hne : ∀ c o,(g.ow c o).kept → c ≠ b := fun c o ht e => by subst e; rw [hb] at ht; exact hk ht
 exact { ow := fun c o _ ht => by
           show (g.ow c o).mvI r i q j = _
           revert ht; cases g.ow c o <;> simp [Tag.kept,Tag.mvI]
         cell := fun c o _ ht => cell?_of_block' (by rw [heap_setRow w b cs h,if_neg (hne c o ht)])
         frz := fun c o _ ht _ => frozen?_of_block' (by rw [heap_setRow w b cs h,if_neg (hne c o ht)])
         blk := fun c _ ht => by rw [heap_setRow w b cs h,if_neg (hne c 0 (ht 0).1)]
         row := row_setRow h hsz,te := fun _ => trivial
         hb := fun _ _ h => h,os := rfl,tape := rfl,output := rfl,size := by rw [size_setRow']; exact Nat.le_refl _ }
theorem Tail.mvI {r q:Root} {i j:Nat} (hE:Ext g w (g.mvI r i q j) w') (hw:∀ c o,g.ow c o = .tail r i → w'.cell? ⟨c,o,none⟩ = w.cell? ⟨c,o,none⟩ ∧ w'.frozen? ⟨c,o,none⟩ = w.frozen? ⟨c,o,none⟩)
   {xs:List AV} {sz:Nat} {cv:Value} (k:Tail g w r i xs sz cv) : Tail (g.mvI r i q j) w' q j xs sz cv := by
 intro a n c e
 obtain ⟨h1,h2⟩ := k a n c e
 refine ⟨VE.mono hE _ _ _ _ h1,fun o ho ho' => ?_⟩
 obtain ⟨p,⟨u,s⟩,t⟩ := h2 o ho ho'
 exact ⟨by show (g.ow _ _).mvI r i q j = _; rw [p]; simp [Tag.mvI],⟨u,by rw [(hw _ _ p).1]; exact s⟩,by rw [(hw _ _ p).2]; exact t⟩
theorem VS.put {cs ns:List AV} {vs us:List Value} (h:VS g w cs vs) (k:VS g w ns us) (off:Nat) : VS g w (Rf.put cs off ns) (vs.take off ++ us ++ vs.drop (off + us.length)) := by
 unfold Rf.put
 have := k.len
 rw [this]
 exact ((h.take off).append k).append (h.drop _)
theorem Ones.put {vs us:List Value} (h:Ones vs) (k:Ones us) (off n:Nat) : Ones (vs.take off ++ us ++ vs.drop n) := by
 intro u hu
 simp only [List.mem_append] at hu
 rcases hu with (hu | hu) | hu
 · exact h u (List.mem_of_mem_take hu)
 · exact k u hu
 · exact h u (List.mem_of_mem_drop hu)
theorem put_get {α:Type} {cs ns:List α} {off i:Nat} {x:α} (hle:off ≤ cs.length) (h:(cs.take off ++ ns ++ cs.drop (off + ns.length))[i]? = some x) :
   (off ≤ i ∧ i < off + ns.length ∧ ns[i - off]? = some x) ∨ ((i < off ∨ off + ns.length ≤ i) ∧ cs[i]? = some x) := by
 rw [List.getElem?_append] at h
 split at h
 · rename_i h1
   simp at h1
   rw [List.getElem?_append] at h
   split at h
   · rename_i h2; simp at h2
     rw [List.getElem?_take] at h; split at h
     · exact .inr ⟨.inl (by omega),h⟩
     · cases h
   · rename_i h2; simp at h2
     simp only [List.length_take,Nat.min_eq_left hle] at h
     have : off ≤ i := by omega
     exact .inl ⟨this,by omega,h⟩
 · rename_i h1; simp at h1
   rw [List.getElem?_drop] at h
   simp only [List.length_append,List.length_take,Nat.min_eq_left hle] at h
   rw [show off + ns.length + (i - (off + ns.length)) = i by omega] at h
   exact .inr ⟨.inr (by omega),h⟩
theorem OwnsL.put {r:Root} {cs ns:List AV} {vs us:List Value} {off:Nat} (hl:vs.length = cs.length) (hn:us.length = ns.length) (hle:off ≤ cs.length)
   (h1:∀ (i:Nat) xs sz e cv,cs[i]? = some (AV.list xs (.own sz e)) → vs[i]? = some cv → (i < off ∨ off + ns.length ≤ i) → Tail g w r i xs sz cv)
   (h2:∀ (i:Nat) xs sz e cv,ns[i]? = some (AV.list xs (.own sz e)) → us[i]? = some cv → Tail g w r (off + i) xs sz cv) :
   OwnsL g w r (Rf.put cs off ns) (vs.take off ++ us ++ vs.drop (off + us.length)) := by
 intro i xs sz e cv hi hv
 unfold Rf.put at hi
 rcases put_get hle hi with ⟨p1,p2,p3⟩ | ⟨p1,p3⟩ <;> rcases put_get (by omega) hv with ⟨q1,q2,q3⟩ | ⟨q1,q3⟩
 · have := h2 (i - off) xs sz e cv p3 q3; rwa [show off + (i - off) = i by omega] at this
 · omega
 · omega
 · exact h1 i xs sz e cv p3 q3 p1
theorem Rel.setbox {u:AV} {cu:Value} (k:Rel G g st [(u,cu)] tm w) (hp:u.plain = true) {s:Nat} {cs:List AV} (hs:st.fr.get s = .box cs) {off:Nat} (hoff:off + u.spread.length ≤ cs.length) (hpos:0 < u.spread.length) :
   ∃ (vs:List Value) (ty:TypeId),w.heap[g.bx (.fr s)]? = some (.cells vs.toArray ty (0,0)) ∧ vs.length = cs.length ∧
     Rel G (g.mvI (.arg 0) 0 (.fr s) off) { st with fr := st.fr.set s (.box (Rf.put cs off u.spread)) } [] tm (w.setRow (g.bx (.fr s)) (vs.take off ++ cu.cells.toList ++ vs.drop (off + cu.cells.toList.length)).toArray) ∧
     Stay g w (g.mvI (.arg 0) 0 (.fr s) off) (w.setRow (g.bx (.fr s)) (vs.take off ++ cu.cells.toList ++ vs.drop (off + cu.cells.toList.length)).toArray) := by
 have f := k.fr s; rw [hs] at f; simp only [VF] at f
 obtain ⟨vs,ty,f1,f2,f3,f4,f5⟩ := f
 have fu := k.ps 0 _ _ rfl
 rw [VF_loose (AV.loose_of_plain hp),VX_plain hp] at fu
 have hc := V.cells hp fu.1
 have hlen : vs.length = cs.length := f3.1.len
 have hul : cu.cells.toList.length = u.spread.length := hc.1.len
 refine ⟨vs,ty,f2,hlen,?_⟩
 have hnl : (vs.take off ++ cu.cells.toList ++ vs.drop (off + cu.cells.toList.length)).length = vs.length := by simp; simp at hul; omega
 generalize hnew : (vs.take off ++ cu.cells.toList ++ vs.drop (off + cu.cells.toList.length)) = nv at hnl
 have sm := same_setRow (g := g) (w := w) (bt := .box (.fr s)) (r := .arg 0) (i := 0) (q := .fr s) (j := off) f4 (cs := nv.toArray) f2 (by simpa using hnl) (by simp)
 have hi : offB (.box (.fr s)) (.arg 0) 0 (.fr s) off .imm := ⟨by simp,by simp,by simp⟩
 have hstay : Stay g w (g.mvI (.arg 0) 0 (.fr s) off) (w.setRow (g.bx (.fr s)) nv.toArray) := stay_setRow f4 (by simp [Tag.kept]) f2 (by simpa using hnl)
 have hheap := heap_setRow w (g.bx (.fr s)) nv.toArray f2
 have hsize := size_setRow' w (g.bx (.fr s)) nv.toArray
 generalize w.setRow (g.bx (.fr s)) nv.toArray = w' at *
 refine ⟨⟨fun t => ?_,fun j v cv hj => by simp at hj,?_,fun b o hb => ?_,?_⟩,hstay⟩
 · have l : FrLike st.fr tm (st.fr.set s (.box (Rf.put cs off u.spread))) tm := ⟨fun x ds hx => by
       rw [Fr.get_set]; by_cases e : s = x
       · rw [if_pos e]; exact ⟨_,rfl⟩
       · rw [if_neg e]; exact ⟨ds,hx⟩,fun x xs sz hx => ⟨by
       rw [Fr.get_set]; by_cases e : s = x
       · subst e; rw [hs] at hx; cases hx
       · rw [if_neg e]; exact hx,rfl⟩⟩
   by_cases e : s = t
   · subst e
     simp only [Fr.get_set,if_true,VF]
     refine ⟨nv,ty,f1,?_,⟨?_,?_⟩,fun o => ?_,?_⟩
     · show w'.heap[g.bx (.fr s)]? = _
       rw [hheap,if_pos rfl]
     · rw [← hnew]; exact VS.put (VS.mono (sm.ext hi) _ _ f3.1) (VS.mono (sm.ext hi) _ _ hc.1) off
     · rw [← hnew]; exact Ones.put f3.2 hc.2 off _
     · show (g.ow _ _).mvI _ _ _ _ = _; rw [show (g.mvI (.arg 0) 0 (.fr s) off).bx (.fr s) = g.bx (.fr s) from rfl,f4 o]; rfl
     · rw [← hnew]
       refine OwnsL.put hlen hul (by omega) (fun i xs sz e cv h1 h2 h3 => ?_) (fun i xs sz e cv h1 h2 => ?_)
       · have ht := f5 i xs sz e cv h1 h2
         refine ht.same sm hi ⟨by simp,by simp,?_⟩
         simp; omega
       · have h0 : i = 0 := by
           cases i with
           | zero => rfl
           | succ i => cases u <;> simp [AV.spread] at h1; exact absurd h1 (by intro h; obtain ⟨x,_,h⟩ := h; exact AV.ck1_not_own _ _ _ _ h)
         subst h0
         have ht := spread_own hp fu.1 fu.2 0 xs sz e cv h1 h2
         rw [Nat.add_zero]
         refine ht.mvI (sm.ext hi) fun c o hc => ⟨cell?_of_block' ?_,frozen?_of_block' ?_⟩
         all_goals
           rw [hheap,if_neg]
           intro e; subst e; rw [f4 o] at hc; cases hc
   · have := k.fr t
     simp only [Fr.get_set,if_neg e]
     refine VF.like l (this.same sm hi (fun _ _ _ => rfl) (fun i => ⟨by simp,by simp,by simpa using fun h => absurd h.symm e⟩) ⟨by simpa using fun h => e h.symm,by simp,by simp⟩ rfl)
 · exact k.hp.same sm hi (fun _ => ⟨by simp,by simp,by simp⟩) (fun _ _ => ⟨by simp,by simp,by simp⟩) (fun _ _ _ => ⟨by simp,by simp,by simp⟩) rfl
 · rw [hsize] at hb
   show (g.ow b o).mvI _ _ _ _ = _; rw [k.fresh b o hb]; rfl
 · exact k.gl.same sm hi ⟨by simp,by simp,by simp⟩
theorem Rel.setobj {u:AV} {cu:Value} (k:Rel G g st [(u,cu)] tm w) (hp:u.plain = true) {id:Nat} {cs:List AV} {t0:Nat} (hs:st.hp[id]? = some (.cells t0 cs)) {off:Nat} (hoff:off + u.spread.length ≤ cs.length) (hpos:0 < u.spread.length) :
   ∃ (b:Nat) (vs:List Value) (ty:TypeId),g.hb[id]? = some b ∧ w.heap[b]? = some (.cells vs.toArray ty (0,0)) ∧ cs.length ≤ vs.length ∧
     Rel G (g.mvI (.arg 0) 0 (.ob id) off) { st with hp := st.hp.set id (.cells t0 (Rf.put cs off u.spread)) } [] tm (w.setRow b (vs.take off ++ cu.cells.toList ++ vs.drop (off + cu.cells.toList.length)).toArray) ∧
     Stay g w (g.mvI (.arg 0) 0 (.ob id) off) (w.setRow b (vs.take off ++ cu.cells.toList ++ vs.drop (off + cu.cells.toList.length)).toArray) := by
 obtain ⟨b,k1,f4,k3⟩ := k.hp.obj id _ hs rfl
 simp only [ObjRel] at k3
 obtain ⟨vs,sp,ty,f2,f3,f5,f6⟩ := k3
 have fu := k.ps 0 _ _ rfl
 rw [VF_loose (AV.loose_of_plain hp),VX_plain hp] at fu
 have hc := V.cells hp fu.1
 have hlen : vs.length = cs.length := f3.1.len
 have hul : cu.cells.toList.length = u.spread.length := hc.1.len
 refine ⟨b,vs ++ sp,ty,k1,f2,by simp; omega,?_⟩
 have hnl : (vs.take off ++ cu.cells.toList ++ vs.drop (off + cu.cells.toList.length)).length = vs.length := by simp; simp at hul; omega
 have hall : ((vs ++ sp).take off ++ cu.cells.toList ++ (vs ++ sp).drop (off + cu.cells.toList.length)) = (vs.take off ++ cu.cells.toList ++ vs.drop (off + cu.cells.toList.length)) ++ sp := by
   rw [List.take_append_of_le_length (by omega),List.drop_append_of_le_length (by omega)]; simp
 rw [hall]
 generalize hnew : (vs.take off ++ cu.cells.toList ++ vs.drop (off + cu.cells.toList.length)) = nv at hnl
 have hnl2 : (nv ++ sp).toArray.size = (vs ++ sp).toArray.size := by simp [hnl]
 have sm := same_setRow (g := g) (w := w) (bt := .obj id) (r := .arg 0) (i := 0) (q := .ob id) (j := off) f4 (cs := (nv ++ sp).toArray) f2 hnl2 (by simp)
 have hi : offB (.obj id) (.arg 0) 0 (.ob id) off .imm := ⟨by simp,by simp,by simp⟩
 have hstay : Stay g w (g.mvI (.arg 0) 0 (.ob id) off) (w.setRow b (nv ++ sp).toArray) := stay_setRow f4 (by simp [Tag.kept]) f2 hnl2
 have hheap := heap_setRow w b (nv ++ sp).toArray f2
 have hsize := size_setRow' w b (nv ++ sp).toArray
 generalize w.setRow b (nv ++ sp).toArray = w' at *
 refine ⟨⟨fun t => ?_,fun j v cv hj => by simp at hj,⟨by simp; exact k.hp.len,fun x ob hx hlive => ?_⟩,fun c o hb => ?_,?_⟩,hstay⟩
 · exact (k.fr t).same sm hi (fun _ _ _ => rfl) (fun i => ⟨by simp,by simp,by simp⟩) ⟨by simp,by simp,by simp⟩ rfl
 · simp only [List.getElem?_set] at hx
   by_cases e : id = x
   · subst e
     simp only [if_true] at hx
     split at hx
     · cases hx
       refine ⟨b,k1,fun i => ?_,?_⟩
       · show (g.ow _ _).mvI _ _ _ _ = _; rw [f4 i]; rfl
       · simp only [ObjRel]
         refine ⟨nv,sp,ty,?_,⟨?_,?_⟩,?_,f6⟩
         · rw [hheap,if_pos rfl]
         · rw [← hnew]; exact VS.put (VS.mono (sm.ext hi) _ _ f3.1) (VS.mono (sm.ext hi) _ _ hc.1) off
         · rw [← hnew]; exact Ones.put f3.2 hc.2 off _
         · rw [← hnew]
           refine OwnsL.put hlen hul (by omega) (fun i xs sz e cv h1 h2 h3 => ?_) (fun i xs sz e cv h1 h2 => ?_)
           · have ht := f5 i xs sz e cv h1 h2
             refine ht.same sm hi ⟨by simp,by simp,?_⟩
             simp; omega
           · have h0 : i = 0 := by
               cases i with
               | zero => rfl
               | succ i => cases u <;> simp [AV.spread] at h1; exact absurd h1 (by intro h; obtain ⟨x,_,h⟩ := h; exact AV.ck1_not_own _ _ _ _ h)
             subst h0
             have ht := spread_own hp fu.1 fu.2 0 xs sz e cv h1 h2
             rw [Nat.add_zero]
             refine ht.mvI (sm.ext hi) fun c o hc => ⟨cell?_of_block' ?_,frozen?_of_block' ?_⟩
             all_goals
               rw [hheap,if_neg]
               intro e; subst e; rw [f4 o] at hc; cases hc
     · cases hx
   · rw [if_neg e] at hx
     obtain ⟨b',e1,e2,e3⟩ := k.hp.obj x ob hx hlive
     have hbl : b' < w.heap.size := by
       exact e3.lt
     have hT : ∀ t,t = Tag.obj x → offB (.obj id) (.arg 0) 0 (.ob id) off t := fun t ht => by subst ht; exact ⟨by simpa using fun h => e h.symm,by simp,by simp⟩
     refine ⟨b',e1,fun i => (sm.ow b' i hbl (hT _ (e2 i))).trans (e2 i),e3.same sm hi e2 (hT _ rfl) (fun i => ⟨by simp,by simp,by simpa using fun h => absurd h.symm e⟩) (fun i j => ⟨by simp,by simp,by simp⟩)⟩
 · rw [hsize] at hb
   show (g.ow c o).mvI _ _ _ _ = _; rw [k.fresh c o hb]; rfl
 · exact k.gl.same sm hi ⟨by simp,by simp,by simp⟩
theorem run_storeVar_at {t:TypeId} {n:Nat} {agg:Bool} (h:tyOk P t n agg = true) {b off:Nat} {vs:List Value} {ty:TypeId} (hb:w.heap[b]? = some (.cells vs.toArray ty (0,0))) {cu:Value} (hn:cu.cells.toList.length = n) (h1:Ones cu.cells.toList) (hfit:off + n ≤ vs.length) :
   (storeVar t ⟨b,off,none⟩ cu).run P w = .ok () (w.setRow b (vs.take off ++ cu.cells.toList ++ vs.drop (off + cu.cells.toList.length)).toArray) := by
 have hsz : (sizeOf t).run P w = .ok n w := by
   unfold tyOk at h
   cases hi : P.info? t with
   | none => simp [hi] at h
   | some i =>
     cases hu : P.underlying t with
     | none => simp [hi,hu] at h
     | some d =>
       simp only [hi,hu,Bool.and_eq_true,decide_eq_true_eq] at h
       simp [sizeOf,typeInfo,hi,h.1.1]
 have hst := run_storeCells_at P b off ty cu.cells.toList 0 vs.toArray w hb (by simp at hn ⊢; omega) h1
 simp only [Nat.add_zero] at hst
 simp only [storeVar,Sem.run_bind,hsz,Result.andThen_ok]
 rw [if_neg (by simp at hn; simpa using hn)]
 simpa using hst
end
end Go.Proofs.YtkofimhnehkdoaaGreatDoor.Rf
end
