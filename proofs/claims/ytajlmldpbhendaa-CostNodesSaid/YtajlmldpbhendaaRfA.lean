/- The machine on plain values: abstract values, the IR and its evaluator. Nothing here speaks of the model's worlds. -/
import GoSem.Dispatch
namespace Go.Proofs.Ytajlmldpbhendaa.Rf

/-- May one append to the list that stands here? no; it is nil; yes (the size of an element in cells). -/
inductive Own where
  | no | nil | own (sz : Nat)
  deriving DecidableEq

inductive AV where
  | none
  | bool (b : Bool)
  | int (k : IntKind) (n : Int)
  | str (s : List UInt8)
  | agg (cs : List AV)
  | list (xs : List AV) (o : Own)
  | pend (xs : List AV) (sz : Nat)
  | ptr (id off : Nat)
  | nilp
  | lref (s off : Nat)
  | box (cs : List AV)
  | eref (x : AV) (off : Nat)
  | lastr (s : Nat)
  | map (id : Nat)
  | nilm
  | func (f : Nat) (caps : List AV)
  | nilf
  | iface (t : Nat) (v : AV)
  | nili
  | tup (vs : List AV)
  | glob (g off : Nat)

instance : Inhabited AV := ⟨.none⟩

def AV.cells : AV → List AV
  | .agg cs => cs
  | v => [v]

/-- A copy of what stands in one cell: it owns nothing. -/
def AV.cp1 : AV → AV
  | .list xs .nil => .list xs .nil
  | .list xs _ => .list xs .no
  | .pend _ _ => .none
  | v => v
def AV.cpA : AV → AV
  | .agg cs => .agg (cs.map AV.cp1)
  | v => v.cp1
def AV.cp : AV → AV
  | .tup vs => .tup (vs.map AV.cpA)
  | v => v.cpA

/-- What a value lays into cells: a struct's cells own nothing. -/
def AV.spread : AV → List AV
  | .agg cs => cs.map AV.cp1
  | v => [v]
/-- A value as it stands in a map's entry. -/
def AV.keep1 : AV → AV
  | .list xs o => .list xs o
  | v => v.cp
/-- No address in the frame, nothing that is pending. -/
def AV.plain : AV → Bool
  | .none | .tup _ | .pend _ _ | .lref _ _ | .box _ | .eref _ _ | .lastr _ => false
  | _ => true
def plains (vs : List AV) : Bool := vs.all AV.plain

abbrev Fr := List (Nat × AV)
def Fr.get : Fr → Nat → AV
  | [], _ => .none
  | (t, v) :: r, s => if t = s then v else Fr.get r s
def Fr.set : Fr → Nat → AV → Fr
  | [], s, v => [(s, v)]
  | (t, u) :: r, s, v => if t = s then (s, v) :: r else (t, u) :: Fr.set r s v
/-- No kept address leads to a slot that goes. -/
def Fr.keepOk (fr : Fr) : List Nat → List Nat → Bool
  | [], _ => true
  | s :: r, live => (match fr.get s with | .lref t _ => live.contains t | .lastr t => live.contains t | _ => true) && Fr.keepOk fr r live
def Fr.keep (fr : Fr) (live : List Nat) : Fr := live.map fun s => (s, fr.get s)

/-- Nothing waits for slot s. -/
def Fr.noLast (fr : Fr) (s : Nat) : Bool := fr.all fun e => match fr.get e.1 with | .lastr t => !(t == s) | _ => true

inductive HObj where
  | cells (cs : List AV)
  | map (es : List (AV × AV))

structure St where
  fr : Fr
  hp : List HObj

inductive Opd where
  | t (s : Nat) (take : Bool)
  | c (v : AV)
  | g (g : Nat)
  | f (f : Nat)

/-- What is compared by == beside numbers and strings. -/
inductive EqK where
  | bool | ptr | iface | func | map | slice
  deriving DecidableEq

/-- The kinds of a map's keys. -/
inductive KeyK where
  | int | str | bool
  deriving DecidableEq

/-- Where an address leads. -/
inductive Mem where
  | loc (r : Nat) | heap | elem | last (r : Nat)
  deriving DecidableEq

/-- What len measures. -/
inductive LenK where
  | list | str | map
  deriving DecidableEq

inductive IOp where
  | mv (x : Opd)
  | pick (c a b : Opd)
  | alloc (heap : Bool) (cs : List AV)
  | box (heap : Bool) (x : Opd)
  | build (zs : List AV) (ps : List (Nat × Nat × Opd))
  | bslice (z : AV) (n : Nat) (ps : List (Nat × Opd))
  | load (x : Opd) (m : Mem) (n : Nat) (agg take : Bool)
  | store (x : Opd) (m : Mem) (v : Opd) (n : Nat)
  | nilchk (x : Opd)
  | bin (op : BinOp) (x y : Opd)
  | eq (neg : Bool) (k : EqK) (x y : Opd)
  | un (op : UnOp) (x : Opd)
  | conv (k : IntKind) (x : Opd)
  | mkiface (t : Nat) (x : Opd)
  | mkfunc (f : Nat) (caps : List Opd)
  | mkmap
  | faddr (x : Opd) (off : Nat)
  | field (x : Opd) (off n : Nat) (agg : Bool)
  | iaddrL (x i : Opd) (sz : Nat)
  | iaddrA (x i : Opd) (len sz : Nat)
  | idxS (x i : Opd)
  | slcS (x : Opd) (lo hi : Option Opd)
  | slcL (x : Opd) (lo hi : Option Opd) (sz : Nat)
  | lookup (kd : KeyK) (m k : Opd) (z : AV) (ok take : Bool)
  | mapset (kd : KeyK) (m k v : Opd) (z : AV)
  | len (x : Opd) (kd : LenK)
  | sconv (x : Opd)
  | konst (v : AV)
  | append (x y : Opd) (sz bytes : Nat) (pend : Bool)
  | min (x y : Opd)
  | max (x y : Opd)
  | extract (x : Opd) (i : Nat)
  | assert (x : Opd) (t : Nat) (z : AV) (ok : Bool)
  | panic (x : Opd)
  | call (f : Opd) (args : List Opd) (quiet : Bool)

structure IOper where
  dst : Option Nat
  op : IOp
  guard : Option (Nat × Bool)

inductive ICode where
  | skip
  | region (ops : List IOper) (live : List Nat)
  | draw (ops : List IOper) (ord : List Nat) (pans live : List Nat)
  | seq (a b : ICode)
  | cond (c : Opd) (a b : ICode)
  | block (id : Nat) (body : ICode)
  | loop (body : ICode)
  | exit (id : Nat)
  | ret

inductive IRes where
  | tmp (s : Nat)
  | cell (s n : Nat) (agg : Bool)

structure IFun where
  still : Bool
  arity : Nat
  body : ICode
  res : List IRes

inductive COut where
  | ret (v : AV) (hp : List HObj)
  | pan (v : AV) (hp : List HObj)

/-- function, arguments, heap, how many of the heap's objects are not to be written; must the heap stay? -/
abbrev CallF := Nat → List AV → List HObj → Nat → Bool → Option COut

inductive Ex where
  | normal
  | exit (id : Nat)
  | ret
  | pan (v : AV)

inductive OpR where
  | val (v : AV) (st : St)
  | pan (v : AV) (st : St)

def opd (fr : Fr) : Opd → AV × Fr
  | .t s take =>
    match fr.get s with
    | .box _ => (.lref s 0, fr)
    | .pend _ _ => (.none, fr)
    | v => if take then (v, fr.set s v.cp) else (v.cp, fr)
  | .c v => (v, fr)
  | .g g => (.glob g 0, fr)
  | .f f => (.func f [], fr)

def opds (fr : Fr) : List Opd → List AV × Fr
  | [] => ([], fr)
  | x :: r =>
    let (v, fr1) := opd fr x
    let (vs, fr2) := opds fr1 r
    (v :: vs, fr2)

def cut (cs : List AV) (off n : Nat) : Option (List AV) := if off + n ≤ cs.length then some ((cs.drop off).take n) else none
def put (cs : List AV) (off : Nat) (vs : List AV) : List AV := cs.take off ++ vs ++ cs.drop (off + vs.length)

/-- The cells behind an address. -/
def behind (G : Nat → Option (List AV)) (st : St) : AV → Option (List AV × Nat)
  | .lref s off => match st.fr.get s with | .box cs => some (cs, off) | _ => none
  | .ptr id off => match st.hp[id]? with | some (.cells cs) => some (cs, off) | _ => none
  | .eref x off => some (x.cells, off)
  | .glob g off => (G g).map fun cs => (cs, off)
  | _ => none

/-- The state once the cells behind an address are others. -/
def behindPut (lo : Nat) (st : St) (cs : List AV) : AV → Option St
  | .lref s _ => some { st with fr := st.fr.set s (.box cs) }
  | .ptr id _ => if lo ≤ id then some { st with hp := st.hp.set id (.cells cs) } else none
  | _ => none

def memOk (m : Mem) (p : AV) : Bool :=
  match m, p with
  | .loc r, .lref s _ => Nat.beq s r
  | .heap, .ptr _ _ => true
  | .heap, .glob _ _ => true
  | .elem, .eref _ _ => true
  | .last r, .lastr s => Nat.beq s r
  | _, _ => false

def ofCells (agg : Bool) (cs : List AV) : AV := if agg then .agg cs else cs.headD .none

def maxI : Int := 9223372036854775807

def intBin (op : BinOp) (k : IntKind) (a b : Int) : Option AV :=
  match op with
  | .add => some (.int k (k.wrap (a + b)))
  | .sub => some (.int k (k.wrap (a - b)))
  | .mul => some (.int k (k.wrap (a * b)))
  | .quo => if b = 0 then none else some (.int k (k.wrap (a.tdiv b)))
  | .rem => if b = 0 then none else some (.int k (a.tmod b))
  | .and => some (.int k (k.wrap (BitVec.ofInt k.bits a &&& BitVec.ofInt k.bits b).toNat))
  | .or => some (.int k (k.wrap (BitVec.ofInt k.bits a ||| BitVec.ofInt k.bits b).toNat))
  | .xor => some (.int k (k.wrap (BitVec.ofInt k.bits a ^^^ BitVec.ofInt k.bits b).toNat))
  | .andNot => some (.int k (k.wrap (BitVec.ofInt k.bits a &&& ~~~ BitVec.ofInt k.bits b).toNat))
  | .eql => some (.bool (a == b))
  | .neq => some (.bool (a != b))
  | .lss => some (.bool (decide (a < b)))
  | .leq => some (.bool (decide (a ≤ b)))
  | .gtr => some (.bool (decide (a > b)))
  | .geq => some (.bool (decide (a ≥ b)))
  | _ => none

def strBin (op : BinOp) (a b : List UInt8) : Option AV :=
  match op with
  | .add => if a.length + b.length ≤ 9223372036854775807 then some (.str (a ++ b)) else none
  | .eql => some (.bool (a == b))
  | .neq => some (.bool (!(a == b)))
  | .lss => some (.bool (Go.Op.bytesLess a b))
  | .leq => some (.bool (Go.Op.bytesLess a b || a == b))
  | .gtr => some (.bool (!(Go.Op.bytesLess a b || a == b)))
  | .geq => some (.bool (!Go.Op.bytesLess a b))
  | _ => none

def shiftBin (op : BinOp) (k : IntKind) (a b : Int) : Option AV :=
  if b < 0 then none else
  match op with
  | .shl => some (.int k (k.wrap (a * 2 ^ (min b.toNat k.bits))))
  | .shr => some (.int k (a.fdiv (2 ^ (min b.toNat k.bits))))
  | _ => none

def eqAV : EqK → AV → AV → Option Bool
  | .bool, .bool a, .bool b => some (a == b)
  | .ptr, .nilp, .nilp => some true
  | .ptr, .nilp, .ptr _ _ => some false
  | .ptr, .ptr _ _, .nilp => some false
  | .ptr, .ptr i o, .ptr j p => if i = j then some (o == p) else none
  | .iface, .nili, .nili => some true
  | .iface, .nili, .iface _ _ => some false
  | .iface, .iface _ _, .nili => some false
  | .func, .nilf, .nilf => some true
  | .func, .nilf, .func _ _ => some false
  | .func, .func _ _, .nilf => some false
  | .map, .nilm, .nilm => some true
  | .map, .nilm, .map _ => some false
  | .map, .map _, .nilm => some false
  | .slice, .list [] .nil, .list [] .nil => some true
  | .slice, .list (_ :: _) _, .list [] .nil => some false
  | _, _, _ => none

def binAV (op : BinOp) (x y : AV) : Option AV :=
  match x, y with
  | .int k a, .int k' b =>
    match op with
    | .shl | .shr => shiftBin op k a b
    | _ => if k = k' then intBin op k a b else none
  | .str a, .str b => strBin op a b
  | _, _ => none

def unAV (op : UnOp) (x : AV) : Option AV :=
  match op, x with
  | .neg, .int k n => some (.int k (k.wrap (0 - n)))
  | .xor, .int k n => intBin .xor k (if k.signed then -1 else k.max) n
  | .not, .bool b => some (.bool !b)
  | _, _ => none

def keyEq : KeyK → AV → AV → Option Bool
  | .int, .int k a, .int k' b => if k = k' then some (a == b) else none
  | .str, .str a, .str b => some (a == b)
  | .bool, .bool a, .bool b => some (a == b)
  | _, _, _ => none

def findKey (kd : KeyK) (k : AV) : List (AV × AV) → Nat → Option (Option (Nat × AV))
  | [], _ => some none
  | e :: es, i =>
    match keyEq kd k e.1 with
    | some true => some (some (i, e.2))
    | some false => findKey kd k es (i + 1)
    | none => none

/-- No reference into the heap from n on. -/
def AV.flat : AV → Bool
  | .bool _ | .int _ _ | .str _ | .nilp | .nilm | .nilf | .nili => true
  | _ => false

mutual
def AV.closed (n : Nat) : AV → Bool
  | .none => true
  | .bool _ | .int _ _ | .str _ | .nilp | .nilm | .nilf | .nili | .glob _ _ => true
  | .agg cs => AV.closedL n cs
  | .list xs _ => AV.closedL n xs
  | .ptr id _ => Nat.blt id n
  | .map id => Nat.blt id n
  | .func _ cs => AV.closedL n cs
  | .iface _ v => AV.closed n v
  | .tup vs => AV.closedL n vs
  | .pend _ _ | .lref _ _ | .box _ | .eref _ _ | .lastr _ => false
def AV.closedL (n : Nat) : List AV → Bool
  | [] => true
  | v :: r => AV.closed n v && AV.closedL n r
end

def buildCells : List AV → List (Nat × Nat × AV) → Option (List AV)
  | cs, [] => some cs
  | cs, (off, n, v) :: r => if v.spread.length = n ∧ off + n ≤ cs.length then buildCells (put cs off v.spread) r else none

def fillElems (n : Nat) : List AV → List (Nat × AV) → Option (List AV)
  | xs, [] => some xs
  | xs, (i, v) :: r => if v.cells.length = n ∧ i < xs.length then fillElems n (xs.set i v) r else none

def okSize (sz : Nat) : List AV → Bool
  | [] => true
  | x :: _ => x.cells.length == sz

def bound (fr : Fr) (d : Nat) : Option Opd → Option Nat
  | none => some d
  | some x => match (opd fr x).1 with | .int _ i => if 0 ≤ i then some i.toNat else none | _ => none

def ret1 (v : AV) (st : St) : Option OpR := some (.val v st)

def evalOp (G : Nat → Option (List AV)) (call : CallF) (lo : Nat) (o : IOp) (st : St) : Option OpR :=
  match o with
  | .mv x => let (v, fr) := opd st.fr x; ret1 v { st with fr }
  | .pick c a b =>
    match (opd st.fr c).1 with
    | .bool t => ret1 (if t then (opd st.fr a).1.cp else (opd st.fr b).1.cp) st
    | _ => none
  | .konst v => ret1 v st
  | .alloc heap cs =>
    if heap then ret1 (.ptr st.hp.length 0) { st with hp := st.hp ++ [.cells cs] } else ret1 (.box cs) st
  | .box heap x =>
    let (v, fr) := opd st.fr x
    if v.plain = false then none else
    if heap then ret1 (.ptr st.hp.length 0) { st with fr, hp := st.hp ++ [.cells v.spread] } else ret1 (.box v.spread) { st with fr }
  | .build zs ps =>
    let (vs, fr) := opds st.fr (ps.map (·.2.2))
    if plains vs = false then none else
    match buildCells zs ((ps.zip vs).map fun (p, v) => (p.1, p.2.1, v)) with
    | some cs => ret1 (.agg cs) { st with fr }
    | none => none
  | .bslice z n ps =>
    let (vs, fr) := opds st.fr (ps.map (·.2))
    if plains vs = false then none else
    match fillElems z.cells.length (List.replicate n z) ((ps.zip vs).map fun (p, v) => (p.1, v.cp)) with
    | some xs => ret1 (.list xs (.own z.cells.length)) { st with fr }
    | none => none
  | .load x m n agg take =>
    if memOk m (opd st.fr x).1 = false then none else
    match behind G st (opd st.fr x).1 with
    | some (cs, off) =>
      match cut cs off n with
      | some l =>
        if take then
          if agg = false ∧ n = 1 then
            match behindPut lo st (put cs off (l.map AV.cp1)) (opd st.fr x).1 with
            | some st' => ret1 (ofCells agg l) st'
            | none => none
          else none
        else ret1 (ofCells agg (l.map AV.cp1)) st
      | none => none
    | none => none
  | .store x m v n =>
    let (u, fr) := opd st.fr v
    if u.plain = false ∨ memOk m (opd fr x).1 = false then none else
    match (opd fr x).1 with
    | .lastr s =>
      match x, fr.get s with
      | .t p _, .pend xs sz =>
        if u.spread.length = n ∧ n = sz ∧ p ≠ s ∧ (fr.set p .none).noLast s = true then ret1 (.tup []) { st with fr := (fr.set p .none).set s (.list (xs ++ [u.cp]) (.own sz)) } else none
      | _, _ => none
    | p =>
      match behind G { st with fr } p with
      | some (cs, off) =>
        if u.spread.length = n ∧ off + n ≤ cs.length then
          match behindPut lo { st with fr } (put cs off u.spread) p with
          | some st' => ret1 (.tup []) st'
          | none => none
        else none
      | none => none
  | .nilchk x =>
    match (opd st.fr x).1 with
    | .ptr i o => ret1 (.ptr i o) st
    | .lref s o => ret1 (.lref s o) st
    | .glob g o => ret1 (.glob g o) st
    | _ => none
  | .bin op x y => match binAV op (opd st.fr x).1 (opd st.fr y).1 with | some v => ret1 v st | none => none
  | .eq neg k x y => match eqAV k (opd st.fr x).1 (opd st.fr y).1 with | some b => ret1 (.bool (if neg then !b else b)) st | none => none
  | .un op x => match unAV op (opd st.fr x).1 with | some v => ret1 v st | none => none
  | .conv k x => match (opd st.fr x).1 with | .int _ n => ret1 (.int k (k.wrap n)) st | _ => none
  | .mkiface t x =>
    let (v, fr) := opd st.fr x
    if v.plain then ret1 (.iface t v.cp) { st with fr } else none
  | .mkfunc f caps =>
    let (vs, fr) := opds st.fr caps
    if plains vs then ret1 (.func f (vs.map AV.cp)) { st with fr } else none
  | .mkmap => ret1 (.map st.hp.length) { st with hp := st.hp ++ [.map []] }
  | .faddr x off =>
    match (opd st.fr x).1 with
    | .ptr i o => ret1 (.ptr i (o + off)) st
    | .lref s o => ret1 (.lref s (o + off)) st
    | .eref v o => ret1 (.eref v (o + off)) st
    | .glob g o => ret1 (.glob g (o + off)) st
    | _ => none
  | .field x off n agg =>
    match (opd st.fr x).1 with
    | .agg cs => match cut cs off n with | some l => ret1 (ofCells agg (l.map AV.cp1)) st | none => none
    | _ => none
  | .iaddrL x i sz =>
    match x, (opd st.fr x).1, (opd st.fr i).1 with
    | _, .list xs _, .int _ j =>
      if 0 ≤ j ∧ j < xs.length then
        match xs[j.toNat]? with
        | some e => if e.cells.length = sz then ret1 (.eref e 0) st else none
        | none => none
      else none
    | .t s _, _, .int _ j =>
      match st.fr.get s with
      | .pend xs sz' => if j = xs.length ∧ sz' = sz then ret1 (.lastr s) st else none
      | _ => none
    | _, _, _ => none
  | .iaddrA x i len sz =>
    match (opd st.fr x).1, (opd st.fr i).1 with
    | .ptr id o, .int _ j => if 0 ≤ j ∧ j < len then ret1 (.ptr id (o + j.toNat * sz)) st else none
    | .lref s o, .int _ j => if 0 ≤ j ∧ j < len then ret1 (.lref s (o + j.toNat * sz)) st else none
    | .eref v o, .int _ j => if 0 ≤ j ∧ j < len then ret1 (.eref v (o + j.toNat * sz)) st else none
    | .glob g o, .int _ j => if 0 ≤ j ∧ j < len then ret1 (.glob g (o + j.toNat * sz)) st else none
    | _, _ => none
  | .idxS x i =>
    match (opd st.fr x).1, (opd st.fr i).1 with
    | .str s, .int _ j => if 0 ≤ j then match s[j.toNat]? with | some b => ret1 (.int .u8 b.toNat) st | none => none else none
    | _, _ => none
  | .slcS x a b =>
    match (opd st.fr x).1 with
    | .str s =>
      match bound st.fr 0 a, bound st.fr s.length b with
      | some l, some h => if l ≤ h ∧ h ≤ s.length then ret1 (.str ((s.take h).drop l)) st else none
      | _, _ => none
    | _ => none
  | .slcL x a b sz =>
    match (opd st.fr x).1 with
    | .list xs _ =>
      match bound st.fr 0 a, bound st.fr xs.length b with
      | some l, some h => if l ≤ h ∧ h ≤ xs.length ∧ okSize sz xs = true then ret1 (.list ((xs.take h).drop l) .no) st else none
      | _, _ => none
    | _ => none
  | .lookup kd m k z ok take =>
    let found (es : List (AV × AV)) (id : Option Nat) : Option OpR :=
      if (opd st.fr k).1.plain = false then none else
      match findKey kd (opd st.fr k).1 es 0 with
      | some (some (i, v)) =>
        if take then
          match id with
          | some id => if lo ≤ id ∧ v.plain = true then ret1 (if ok then .tup [v, .bool true] else v) { st with hp := st.hp.set id (.map (es.set i ((es.getD i default).1, v.cp))) } else none
          | none => none
        else ret1 (if ok then .tup [v.cp, .bool true] else v.cp) st
      | some none => ret1 (if ok then .tup [z, .bool false] else z) st
      | none => none
    match (opd st.fr m).1 with
    | .map id => match st.hp[id]? with | some (.map es) => found es (some id) | _ => none
    | .nilm => found [] none
    | _ => none
  | .mapset kd m k v _ =>
    let (u, fr) := opd st.fr v
    if u.plain = false ∨ (opd fr k).1.plain = false then none else
    match (opd fr m).1 with
    | .map id =>
      match st.hp[id]? with
      | some (.map es) =>
        if lo ≤ id then
          match findKey kd (opd fr k).1 es 0 with
          | some (some (i, _)) => ret1 (.tup []) { st with fr, hp := st.hp.set id (.map (es.set i ((es.getD i default).1, u.keep1))) }
          | some none => ret1 (.tup []) { st with fr, hp := st.hp.set id (.map (es ++ [((opd fr k).1, u.keep1)])) }
          | none => none
        else none
      | _ => none
    | _ => none
  | .len x kd =>
    match kd, (opd st.fr x).1 with
    | .list, .list xs _ => ret1 (.int .i64 xs.length) st
    | .str, .str s => ret1 (.int .i64 s.length) st
    | .map, .nilm => ret1 (.int .i64 0) st
    | .map, .map id => match st.hp[id]? with | some (.map es) => ret1 (.int .i64 es.length) st | _ => none
    | _, _ => none
  | .sconv x => match (opd st.fr x).1 with | .str s => ret1 (.str s) st | _ => none
  | .append x y sz bytes pend =>
    let (a, fr) := opd st.fr x
    match a with
    | .list xs o =>
      if (o = .nil ∨ o = .own sz) ∧ okSize sz xs = true then
        match (opd fr y).1 with
        | .list ys _ =>
          if okSize sz ys = true ∧ (xs.length + ys.length) * bytes ≤ 140737488355328 ∧ (xs.length + ys.length) ≤ 9223372036854775807 then
            if pend then
              if ys.length = 1 then ret1 (.pend xs sz) { st with fr } else none
            else ret1 (.list (xs ++ ys) (.own sz)) { st with fr }
          else none
        | .str s =>
          if sz = 1 ∧ (xs.length + s.length) * bytes ≤ 140737488355328 ∧ pend = false ∧ (xs.length + s.length) ≤ 9223372036854775807 then
            ret1 (.list (xs ++ s.map fun b => .int .u8 b.toNat) (.own sz)) { st with fr }
          else none
        | _ => none
      else none
    | _ => none
  | .min x y =>
    match (opd st.fr x).1, (opd st.fr y).1 with
    | .int k a, .int _ b => ret1 (.int k (if b < a then b else a)) st
    | _, _ => none
  | .max x y =>
    match (opd st.fr x).1, (opd st.fr y).1 with
    | .int k a, .int _ b => ret1 (.int k (if b > a then b else a)) st
    | _, _ => none
  | .extract x i =>
    let (v, fr) := opd st.fr x
    match v with
    | .tup vs => match vs[i]? with | some u => if u.plain then ret1 u { st with fr } else none | none => none
    | _ => none
  | .assert x t z ok =>
    match (opd st.fr x).1 with
    | .iface u v => if u = t then ret1 (if ok then .tup [v.cp, .bool true] else v.cp) st else if ok then ret1 (.tup [z, .bool false]) st else none
    | .nili => if ok then ret1 (.tup [z, .bool false]) st else none
    | _ => none
  | .panic x =>
    match (opd st.fr x).1 with
    | .iface t v => some (.pan (.iface t v) st)
    | _ => none
  | .call f args q =>
    let (vs, fr) := opds st.fr args
    if plains vs = false then none else
    match (opd fr f).1 with
    | .func f caps =>
      if plains caps = false then none else
      match call f (vs ++ caps.map AV.cp) st.hp lo q with
      | some (.ret v hp) => ret1 v { fr, hp }
      | some (.pan v hp) => some (.pan v { fr, hp })
      | none => none
    | _ => none

/-- Neither a box nor pending: the slot may be written. -/
def AV.loose : AV → Bool
  | .box _ | .pend _ _ => false
  | _ => true
def St.put (st : St) (dst : Option Nat) (v : AV) : Option St :=
  match dst with
  | some d => if (st.fr.get d).loose then some { st with fr := st.fr.set d v } else none
  | none => some st

/-- Is the operation wanted? -/
def wanted (fr : Fr) : Option (Nat × Bool) → Option Bool
  | none => some true
  | some (s, b) =>
    match fr.get s with
    | .bool t => some (t == b)
    | .tup [] => some false
    | _ => none

def evalOps (G : Nat → Option (List AV)) (call : CallF) (lo : Nat) : List IOper → St → Option (Ex × St)
  | [], st => some (.normal, st)
  | o :: r, st =>
    match wanted st.fr o.guard with
    | some true =>
      match evalOp G call lo o.op st with
      | some (.val v st') => match st'.put o.dst v with | some st'' => evalOps G call lo r st'' | none => none
      | some (.pan v st') => some (.pan v, st')
      | none => none
    | some false => match st.put o.dst (.tup []) with | some st'' => evalOps G call lo r st'' | none => none
    | none => none

/-- In the given order; only some may panic. -/
def evalDraw (G : Nat → Option (List AV)) (call : CallF) (lo : Nat) (ops : List IOper) (pans : List Nat) : List Nat → St → Option (Ex × St)
  | [], st => some (.normal, st)
  | i :: r, st =>
    match ops[i]? with
    | none => none
    | some o =>
      match evalOps G call lo [o] st with
      | some (.normal, st') => evalDraw G call lo ops pans r st'
      | some (.pan v, st') => if pans.contains i then some (.pan v, ⟨[], st'.hp⟩) else none
      | _ => none

abbrev LoopF := ICode → St → Option (Ex × St)

def evalC (G : Nat → Option (List AV)) (call : CallF) (loop : LoopF) (lo : Nat) : ICode → St → Option (Ex × St)
  | .skip, st => some (.normal, st)
  | .region ops live, st =>
    match evalOps G call lo ops st with
    | some (.normal, st') => if st'.fr.keepOk live live then some (.normal, { st' with fr := st'.fr.keep live }) else none
    | r => r
  | .draw ops ord pans live, st =>
    match evalDraw G call lo ops pans ord st with
    | some (.normal, st') => if st'.fr.keepOk live live then some (.normal, { st' with fr := st'.fr.keep live }) else none
    | r => r
  | .seq a b, st =>
    match evalC G call loop lo a st with
    | some (.normal, st') => evalC G call loop lo b st'
    | r => r
  | .cond c a b, st =>
    match (opd st.fr c).1 with
    | .bool t => if t = true then evalC G call loop lo a st else evalC G call loop lo b st
    | _ => none
  | .block id body, st =>
    match evalC G call loop lo body st with
    | some (.exit i, st') => if i = id then some (.normal, st') else some (.exit i, st')
    | r => r
  | .loop body, st => loop body st
  | .exit id, st => some (.exit id, st)
  | .ret, st => some (.ret, st)

def evalRes1 (st : St) : IRes → Option AV
  | .tmp s => if (st.fr.get s).plain then some (st.fr.get s) else none
  | .cell s n agg =>
    match st.fr.get s with
    | .box cs => if cs.length = n ∧ (ofCells agg cs).plain = true then some (ofCells agg cs) else none
    | .ptr id o =>
      match st.hp[id]? with
      | some (.cells cs) => match cut cs o n with | some l => if (ofCells agg (l.map AV.cp1)).plain = true then some (ofCells agg (l.map AV.cp1)) else none | none => none
      | _ => none
    | _ => none

def evalRess (st : St) : List IRes → Option (List AV)
  | [] => some []
  | r :: rs => match evalRes1 st r, evalRess st rs with | some v, some vs => some (v :: vs) | _, _ => none

def tupOf : List AV → AV
  | [v] => v
  | vs => .tup vs

def enter : Nat → List AV → Fr
  | _, [] => []
  | i, v :: r => (i, v) :: enter (i + 1) r

abbrev IProg := Nat → Option IFun

/-- One call, its callees and loops by 'call' and 'loop'. -/
def callBody (G : Nat → Option (List AV)) (IP : IProg) (call : CallF) (loop : Nat → LoopF) : CallF := fun f args hp lo q =>
  match IP f with
  | none => none
  | some fn =>
    if ((q && !fn.still) || !Nat.beq args.length fn.arity) = true then none else
    let lo' := if fn.still then hp.length else lo
    match evalC G call (loop lo') lo' fn.body { fr := enter 0 args, hp } with
    | some (.normal, st) | some (.ret, st) =>
      match evalRess st fn.res with
      | some vs =>
        if fn.still then
          if AV.closed hp.length (tupOf vs) = true then some (.ret (tupOf vs) hp) else none
        else some (.ret (tupOf vs) st.hp)
      | none => none
    | some (.pan v, st) =>
      if fn.still then
        if AV.closed hp.length v = true then some (.pan v hp) else none
      else some (.pan v st.hp)
    | _ => none

def loopBody (G : Nat → Option (List AV)) (call : CallF) (loop : Nat → LoopF) : Nat → LoopF := fun lo body st =>
  match evalC G call (loop lo) lo body st with
  | some (.normal, st') => loop lo body st'
  | r => r

/-- The machine with k rounds to go. -/
def run (G : Nat → Option (List AV)) (IP : IProg) : Nat → CallF × (Nat → LoopF)
  | 0 => (fun _ _ _ _ _ => none, fun _ _ _ => none)
  | k + 1 => let r := run G IP k; (callBody G IP r.1 r.2, loopBody G r.1 r.2)

end Go.Proofs.Ytajlmldpbhendaa.Rf
