/- One operation: the check that the plain one is the model's, and that it tells what the model does. -/
import Derived.Test.YtajlmldpbhendaaRfU
set_option linter.unusedSimpArgs false
set_option linter.unusedVariables false
namespace Go.Proofs.Ytajlmldpbhendaa.Rf

def isIface : Option TypeDesc → Bool
  | some (.interface _) => true
  | none => true
  | _ => false
def chkOp (P : Program) (i : IOp) (op : Op) : Bool :=
  match i with
  | .mv x => match op with | .move y => opdOk x y | .assign y => opdOk x y | _ => false
  | .pick c a b => match op with | .pick c' a' b' => opdOk c c' && opdOk a a' && opdOk b b' | _ => false
  | .alloc _ cs => match op with | .alloc t => zeroOk P t cs | _ => false
  | .box _ x => match op with | .box _ y => opdOk x y | _ => false
  | .build zs ps => match op with | .build t qs => zeroOk P t zs && (match placeOf P t with | some pl => partsOk pl ps qs.toList | none => false) && sizesOk P t | _ => false
  | .bslice z n ps => match op with | .buildSlice t m qs => bsliceOk P t z n && decide (n = m) && bpartsOk ps qs.toList | _ => false
  | .load x _ n agg tk => match op with | .load t y => opdOk x y && tyOk P t n agg | _ => false
  | .store x _ v n => match op with | .store t y u => opdOk x y && opdOk v u && (tyOk P t n true || tyOk P t n false) | _ => false
  | .nilchk x => match op with | .nilCheck y => opdOk x y | _ => false
  | .bin op' x y => match op with | .binOp o _ x' y' _ => decide (o = op') && opdOk x x' && opdOk y y' | _ => false
  | .eq neg k x y => match op with | .binOp o t x' y' _ => decide (o = if neg then .neq else .eql) && eqOk P k t x' y' && opdOk x x' && opdOk y y' | _ => false
  | .un op' x => match op with | .unOp o _ x' => decide (o = op') && opdOk x x' | _ => false
  | .conv k x => match op with | .convert s d x' => (match P.underlying s with | some (.int _) => true | _ => false) && (match P.underlying d with | some (.int k') => decide (k' = k) | _ => false) && opdOk x x' | _ => false
  | .sconv x => match op with | .convert s d x' => (match P.underlying s with | some .string => true | _ => false) && (match P.underlying d with | some .string => true | _ => false) && opdOk x x' | _ => false
  | .mkiface t x => match op with | .makeInterface t' x' => decide (t' = t) && !isIface (P.underlying t) && opdOk x x' | _ => false
  | .mkfunc f cs => match op with | .makeFunc fn first caps => (match fn with | .func f' => decide (f' = f) | _ => false) && decide (first.size = 0) && opdsOk cs caps.toList | _ => false
  | .mkmap => match op with | .makeMap _ r => r.isNone | _ => false
  | .faddr x off => match op with | .fieldAddr s y f => opdOk x y && (match P.underlying s with | some (.struct fs) => (match fs[f]? with | some x => (match P.info? x.type with | some i => fieldOk P s f off i.size | none => false) | none => false) | _ => false) | _ => false
  | .field x off n agg => match op with | .field s y f => opdOk x y && fieldOk2 P s f off n agg | _ => false
  | .iaddrL x i sz => match op with | .indexAddr t y u => opdOk x y && opdOk i u && sliceOk P t sz | _ => false
  | .iaddrA x i len sz => match op with | .indexAddr t y u => opdOk x y && opdOk i u && arrayOk P t len sz | _ => false
  | .idxS x i => match op with | .index t y u => opdOk x y && opdOk i u && (match P.underlying t with | some .string => true | _ => false) | _ => false
  | .slcS x l h => match op with | .slice t y l' h' m' => opdOk x y && optOk l l' && optOk h h' && m'.isNone && (match P.underlying t with | some .string => true | _ => false) | _ => false
  | .slcL x l h sz => match op with | .slice t y l' h' m' => opdOk x y && optOk l l' && optOk h h' && m'.isNone && sliceOk P t sz | _ => false
  | .lookup kd m k z ok tk => match op with | .lookup t m' k' ok' => opdOk m m' && opdOk k k' && mapOk P t kd z && decide (ok' = ok) | _ => false
  | .mapset kd m k v z => match op with | .mapUpdate t m' k' v' => opdOk m m' && opdOk k k' && opdOk v v' && mapOk P t kd z | _ => false
  | .len x kd => match op with | .call c => (match c.callee with | .builtin .len => (match c.args.toList, c.argTypes.toList with | [x'], [t] => opdOk x x' && (match kd, P.underlying t with | .list, some (.slice _) => true | .str, some .string => true | .map, some (.map _ _) => true | _, _ => false) | _, _ => false) | _ => false) | _ => false
  | .konst v => match op with | .call c => (match c.callee with | .builtin .len => (match c.args.toList, c.argTypes.toList with | [_], [t] => (match P.underlying t, v with | some (.array n _), .int .i64 m => decide (m = n) | _, _ => false) | _, _ => false) | _ => false) | _ => false
  | .append x y sz bytes _ => match op with | .call c => (match c.callee with | .builtin .append => (match c.args.toList, c.argTypes.toList with | [x', y'], [t, t2] => opdOk x x' && opdOk y y' && appendOk P t sz bytes && append2Ok P t2 | _, _ => false) | _ => false) | _ => false
  | .min x y => match op with | .call c => (match c.callee with | .builtin .min => (match c.args.toList with | [x', y'] => opdOk x x' && opdOk y y' | _ => false) | _ => false) | _ => false
  | .max x y => match op with | .call c => (match c.callee with | .builtin .max => (match c.args.toList with | [x', y'] => opdOk x x' && opdOk y y' | _ => false) | _ => false) | _ => false
  | .extract x i => match op with | .extract x' i' => decide (i' = i) && opdOk x x' | _ => false
  | .assert x t z ok => match op with | .typeAssert x' _ t' ok' => decide (t' = t) && decide (ok' = ok) && opdOk x x' && !isIface (P.underlying t) && zeroV P t z | _ => false
  | .panic x => match op with | .panic x' => opdOk x x' | _ => false
  | .call f xs _ => match op with | .call c => (match c.callee with | .value f' => opdOk f f' && opdsOk xs c.args.toList | _ => false) | _ => false

section
variable {P : Program} {G : Nat → Option (List AV)} {g : Gh} {st : St} {a : Act} {w : World} {o : Oper}

theorem isIface_no {d : Option TypeDesc} (h : (!isIface d) = true) : ∃ e, d = some e ∧ ∀ ms, e ≠ .interface ms := by
  cases d with
  | none => simp [isIface] at h
  | some e => exact ⟨e, rfl, fun ms he => by subst he; simp [isIface] at h⟩
theorem arr_of {α : Type} (x : Array α) {l : List α} (h : x.toList = l) : x = l.toArray := by rw [← h]
theorem call_eq {c : Call} {cal : Callee} {xs : List Operand} {ts : List TypeId} (h1 : c.callee = cal) (h2 : c.args.toList = xs) (h3 : c.argTypes.toList = ts) : c = { callee := cal, args := xs.toArray, argTypes := ts.toArray } := by
  cases c; simp only at h1 h2 h3; subst h1; rw [arr_of _ h2, arr_of _ h3]
theorem fits_sconv (k : Rel G g st [] a.tmps w) {x : Opd} {x' : Operand} (hx : opdOk x x' = true) {s d : TypeId} (hs : P.underlying s = some .string) (hd : P.underlying d = some .string) (ho : o.op = .convert s d x') {n : List UInt8} (h : (opd st.fr x).1 = .str n) : Fits P G g st (.val (.str n) st) o a w := by
  have h1 := k.read hx
  rw [h] at h1; simp only [VX, V] at h1
  exact fits_pure k (cv := .string ⟨n.toArray⟩) (by simp [execOp, ho, Act.eval_eq, h1, convert, run_underlying hs, run_underlying hd]) (VF_scalar rfl (by simp only [VX, V]) (by simp) (by simp))
theorem ret1_some {v : AV} {s : St} {r : OpR} (h : ret1 v s = some r) : r = .val v s := by simp [ret1] at h; exact h.symm
end
end Go.Proofs.Ytajlmldpbhendaa.Rf
