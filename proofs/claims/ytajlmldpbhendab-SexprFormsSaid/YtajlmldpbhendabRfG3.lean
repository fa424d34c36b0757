/- Cuts of strings and lists; fields of struct values. -/
import Derived.Test.YtajlmldpbhendabRfG2
import Derived.Laws.Slices
import Derived.Laws.Strings2
import Derived.Laws.Externs
import Derived.Laws.MakeOwn
import Derived.Lib.UnsafeStr
import Derived.Lib.Builder
import Derived.KernelRfl
import Derived.Orders
import Derived.LoopN
section
set_option linter.unusedSimpArgs false
set_option linter.unusedVariables false
namespace Go.Proofs.Ytajlmldpbhendab.Rf

section
variable {P : Program} {G : Nat → Option (List AV)} {g g' : Gh} {st : St} {a : Act} {w w' : World} {o : Oper} {tm : Array Value} {ps : List (AV × Value)}

def optOk : Option Opd → Option Operand → Bool
  | none, none => true
  | some x, some y => opdOk x y
  | _, _ => false
theorem bound_read (k : Rel G g st ps tm w) {x : Option Opd} {y : Option Operand} (h : optOk x y = true) {d n : Nat} (hb : bound st.fr d x = some n) :
    (y = none ∧ n = d) ∨ ∃ z kk, y = some z ∧ Act.opd tm z = .int kk n := by
  cases x with
  | none => cases y <;> simp [optOk] at h; simp [bound] at hb; exact .inl ⟨rfl, hb.symm⟩
  | some x =>
    cases y with
    | none => simp [optOk] at h
    | some z =>
      right
      have hr := k.read (x := x) (o := z) h
      simp only [bound] at hb
      cases hv : (opd st.fr x).1 <;> rw [hv] at hb hr <;> simp at hb
      rename_i kk i
      obtain ⟨h1, h2⟩ := hb
      simp only [VX, V] at hr
      exact ⟨z, kk, rfl, by rw [hr]; congr 1; omega⟩
theorem run_bounds (isSlice : Bool) {len cap l h : Nat} {lo hi : Option Value} (hl : (lo = none ∧ l = 0) ∨ ∃ k, lo = some (.int k l)) (hh : (hi = none ∧ h = len) ∨ ∃ k, hi = some (.int k h)) (h1 : l ≤ h) (h2 : h ≤ cap) :
    (Instr.sliceBounds isSlice len cap lo hi none).run P w = .ok (l, h, cap) w := by
  have e1 : ∀ k c, (Instr.sliceBound (.int k l) h c).run P w = .ok l w := fun k c => by
    rw [run_sliceBound _ k l h c (by omega) (by omega)]; simp
  have e2 : ∀ k c, (Instr.sliceBound (.int k h) cap c).run P w = .ok h w := fun k c => by
    rw [run_sliceBound _ k h cap c (by omega) (by omega)]; simp
  rcases hl with ⟨rfl, rfl⟩ | ⟨kl, rfl⟩ <;> rcases hh with ⟨rfl, rfl⟩ | ⟨kh, rfl⟩ <;> simp [Instr.sliceBounds, e1, e2]
theorem opt_vals (k : Rel G g st ps a.tmps w) {x : Option Opd} {y : Option Operand} (h : optOk x y = true) {d n : Nat} (hb : bound st.fr d x = some n) :
    (y.map a.eval = none ∧ n = d) ∨ ∃ kk, y.map a.eval = some (.int kk n) := by
  rcases bound_read k h hb with ⟨rfl, e⟩ | ⟨z, kk, rfl, e⟩
  · exact .inl ⟨rfl, e⟩
  · exact .inr ⟨kk, by simp [Act.eval_eq, e]⟩

theorem fits_slcS (k : Rel G g st [] a.tmps w) {x : Opd} {y : Operand} (hx : opdOk x y = true) {l h : Option Opd} {l' h' : Option Operand} (hl : optOk l l' = true) (hh : optOk h h' = true) {t : TypeId} (hu : P.underlying t = some .string) (ho : o.op = .slice t y l' h' none)
    {s : List UInt8} (hv : (opd st.fr x).1 = .str s) {m n : Nat} (hm : bound st.fr 0 l = some m) (hn : bound st.fr s.length h = some n) (h1 : m ≤ n) (h2 : n ≤ s.length) : Fits P G g st (.val (.str ((s.take n).drop m)) st) o a w := by
  have hr := k.read hx; rw [hv] at hr; simp only [VX, V] at hr
  have hb := run_bounds (P := P) (w := w) false (opt_vals k hl hm) (opt_vals k hh hn) h1 h2
  refine fits_pure k (cv := .string ⟨((s.take n).drop m).toArray⟩) ?_ (VF_scalar rfl (by simp only [VX, V]) (by simp) (by simp))
  have hsz : (ByteArray.mk s.toArray).size = s.length := by simp [ByteArray.size]
  have e : (ByteArray.mk s.toArray).extract m n = ByteArray.mk ((s.take n).drop m).toArray := by
    rw [ByteArray.extract_mk, List.drop_take]
  simp [execOp, ho, Act.eval_eq, hr, Instr.sliceAt, Sem.run_bind, run_underlying hu, Instr.slice, hsz]
  have hb' := hb
  simp only [show a.eval = Act.opd a.tmps from funext (Act.eval_eq a)] at hb'
  simp [show a.eval = Act.opd a.tmps from funext (Act.eval_eq a), hb', e]

theorem VE.drop {sz : Nat} : ∀ {xs : List AV} {b off : Nat} (n : Nat), n ≤ xs.length → VE g w sz xs b off → VE g w sz (xs.drop n) b (off + n * sz)
  | xs, b, off, 0, _, h => by simpa using h
  | [], b, off, n + 1, hn, _ => by simp at hn
  | x :: xs, b, off, n + 1, hn, h => by
    have := VE.drop (b := b) (off := off + sz) n (by simpa using hn) h.tail
    rw [show off + sz + n * sz = off + (n + 1) * sz by rw [Nat.succ_mul]; omega] at this
    simpa using this
theorem VE.take {sz : Nat} : ∀ {xs : List AV} {b off : Nat} (n : Nat), VE g w sz xs b off → VE g w sz (xs.take n) b off
  | xs, b, off, 0, _ => by simp [VE]
  | [], b, off, n + 1, _ => by simp [VE]
  | x :: xs, b, off, n + 1, h => by
    have h0 := VE.get h (j := 0) (x := x) rfl
    rw [Nat.zero_mul, Nat.add_zero] at h0
    rw [List.take_succ_cons]
    exact VE.cons_mk h0.1 h0.2 (VE.take n h.tail)
/-- type t is a slice of elements of sz cells -/
theorem sliceOk_run {t : TypeId} {sz : Nat} (h : sliceOk P t sz = true) : ∃ e, P.underlying t = some (.slice e) ∧ ∀ w, (sizeOf e).run P w = .ok sz w := by
  unfold sliceOk at h
  cases hu : P.underlying t with
  | none => simp [hu] at h
  | some d =>
    cases d <;> simp [hu] at h
    rename_i e
    cases hi : P.info? e with
    | none => simp [hi] at h
    | some i => simp [hi] at h; exact ⟨e, rfl, fun w => by simp [sizeOf, typeInfo, hi, h]⟩
def elemSize (P : Program) (t : TypeId) : Option Nat :=
  match P.underlying t with
  | some (.slice e) => (P.info? e).map (·.size)
  | _ => none
theorem elemSize_run {t : TypeId} {sz : Nat} (h : elemSize P t = some sz) : ∃ e, P.underlying t = some (.slice e) ∧ ∀ w, (sizeOf e).run P w = .ok sz w :=
  sliceOk_run (by
    unfold elemSize at h; unfold sliceOk
    cases hu : P.underlying t with
    | none => simp [hu] at h
    | some d =>
      cases d <;> simp [hu] at h ⊢
      rename_i e
      obtain ⟨i, hi, h⟩ := h
      simp [hi, h])
theorem fits_slcL (k : Rel G g st [] a.tmps w) {x : Opd} {y : Operand} (hx : opdOk x y = true) {l h : Option Opd} {l' h' : Option Operand} (hl : optOk l l' = true) (hh : optOk h h' = true) {t : TypeId} {sz : Nat} (hu : sliceOk P t sz = true) (ho : o.op = .slice t y l' h' none)
    {xs : List AV} {ow : Own} (hv : (opd st.fr x).1 = .list xs ow) (hsz : okSize sz xs = true) {m n : Nat} (hm : bound st.fr 0 l = some m) (hn : bound st.fr xs.length h = some n) (h1 : m ≤ n) (h2 : n ≤ xs.length) : Fits P G g st (.val (.list ((xs.take n).drop m) .no) st) o a w := by
  have hr := k.read hx; rw [hv] at hr; simp only [VX, V] at hr
  obtain ⟨A, c, r1, r2, r3, r4, r5, r6⟩ := hr
  obtain ⟨e, u1, u2⟩ := sliceOk_run hu
  have hb := run_bounds (P := P) (w := w) true (cap := c) (opt_vals k hl hm) (opt_vals k hh hn) h1 (by omega)
  have hb' := hb
  simp only [show a.eval = Act.opd a.tmps from funext (Act.eval_eq a)] at hb'
  have hlen : ((xs.take n).drop m).length = n - m := by simp; omega
  refine fits_pure k (cv := .slice (if c = m then A else A.map (·.add (m * sz))) (n - m) (c - m)) ?_ (VF_scalar rfl ?_ (by simp) (by simp))
  · simp [execOp, ho, Act.eval_eq, r1, Instr.sliceAt, Sem.run_bind, run_underlying u1, Instr.slice, show a.eval = Act.opd a.tmps from funext (Act.eval_eq a), hb', u2]
  · simp only [VX, V]
    refine ⟨_, c - m, by rw [hlen], by rw [hlen]; omega, by omega, (fun e => by cases e), fun e => ?_, fun ad e => ?_⟩
    · split at e
      · omega
      · cases A with
        | none => have := r5 rfl; omega
        | some ad => simp at e
    · split at e
      · rename_i hc
        have h0 : n = m := by omega
        subst h0
        have hnil : (xs.take n).drop n = [] := by apply List.drop_eq_nil_of_le; simp; omega
        rw [hnil]
        exact ⟨fun hc => absurd hc (by simp; omega), fun hn => absurd rfl hn, sz, by simp [VE]⟩
      · cases A with
        | none => simp at e
        | some ad0 =>
          simp at e
          obtain ⟨s1, _, s', s2⟩ := r6 ad0 rfl
          replace s1 := s1 (.inr (by omega))
          have s3 := okSize_VE hsz s2
          subst e
          have h5 := VE.drop m (by simp; omega) (VE.take n s3)
          have e3 : ad0.add (m * sz) = { ad0 with off := ad0.off + m * sz } := by
            obtain ⟨b, q, sp⟩ := ad0
            simp only at s1; subst s1
            exact Addr.add_lit b q (m * sz)
          rw [e3]
          exact ⟨fun _ => s1, fun hn => absurd rfl hn, sz, h5⟩

/-- the place of a field and its shape -/
def fieldOk2 (P : Program) (s : TypeId) (f off n : Nat) (agg : Bool) : Bool :=
  match P.underlying s with
  | some (.struct fs) => match fs[f]? with | some x => decide (x.offset = off) && tyOk P x.type n agg | none => false
  | _ => false
theorem fits_field (k : Rel G g st [] a.tmps w) {x : Opd} {y : Operand} (hx : opdOk x y = true) {s : TypeId} {f off n : Nat} {agg : Bool} (hf : fieldOk2 P s f off n agg = true) (ho : o.op = .field s y f)
    {cs l : List AV} (hv : (opd st.fr x).1 = .agg cs) (hl : cut cs off n = some l) : Fits P G g st (.val (ofCells agg (l.map AV.cp1)) st) o a w := by
  have hr := k.read hx; rw [hv] at hr; simp only [VX, V] at hr
  obtain ⟨vs, r1, r2, r3⟩ := hr
  obtain ⟨hn, hg⟩ := cut_get hl
  unfold fieldOk2 at hf
  cases hu : P.underlying s with
  | none => simp [hu] at hf
  | some d =>
    cases d <;> simp [hu] at hf
    rename_i fs
    cases hfx : fs[f]? with
    | none => simp [hfx] at hf
    | some fx =>
      simp [hfx] at hf
      obtain ⟨h1, h2⟩ := hf
      subst h1
      have hlen : fx.offset + n ≤ vs.length := by
        rw [r2.len]; unfold cut at hl; split at hl
        · assumption
        · cases hl
      have hus : VS g w l ((vs.drop fx.offset).take n) := by
        have e : l = (cs.drop fx.offset).take n := by unfold cut at hl; split at hl <;> simp at hl; exact hl.symm
        rw [e]; exact (r2.drop _).take _
      have hone : Ones ((vs.drop fx.offset).take n) := fun u hu => r3 u (List.mem_of_mem_drop (List.mem_of_mem_take hu))
      have hul : ((vs.drop fx.offset).take n).length = n := by simp; omega
      have hnn : agg = false → n = 1 := fun e => by
        subst e; unfold tyOk at h2
        cases hi : P.info? fx.type <;> cases hu : P.underlying fx.type <;> simp [hi, hu] at h2
        rename_i i d; cases d <;> simp_all
      refine fits_pure k (cv := if agg then .agg ((vs.drop fx.offset).take n).toArray else ((vs.drop fx.offset).take n).headD undef) ?_ (VF_ofCells hus.cp1 hone (fun e => by rw [hul]; exact hnn e) fun e c u e1 e2 => ?_)
      · have hp : (part fx.type vs.toArray fx.offset).run P w = .ok (if agg then .agg ((vs.drop fx.offset).take n).toArray else ((vs.drop fx.offset).take n).headD undef) w := by
          unfold tyOk at h2
          cases hi : P.info? fx.type with
          | none => simp [hi] at h2
          | some i =>
            cases hu : P.underlying fx.type with
            | none => simp [hi, hu] at h2
            | some d =>
              simp only [hi, hu, Bool.and_eq_true, decide_eq_true_eq] at h2
              obtain ⟨⟨h4, h0⟩, h3⟩ := h2
              have hagg : (isAgg fx.type).run P w = .ok agg w := by
                unfold isAgg
                rw [Sem.run_bind, run_underlying hu w]
                cases d <;> simp_all
              cases agg with
              | true =>
                simp [part, hagg, sizeOf, typeInfo, hi, h4]
              | false =>
                have hn1 := hnn rfl
                subst hn1
                have hget : vs[fx.offset]? = some vs[fx.offset] := List.getElem?_eq_getElem (by omega)
                have e1 : (vs.drop fx.offset).take 1 = [vs[fx.offset]] := by
                  rw [List.drop_eq_getElem_cons (by omega)]; rfl
                rw [e1]
                simp [part, hagg, hget]
        simp [execOp, ho, Act.eval_eq, Instr.field, Sem.run_bind, run_underlying hu, hfx, r1, asAgg, hp]
      · cases l with
        | nil => simp at e1
        | cons d r =>
          simp at e1; obtain ⟨rfl, _⟩ := e1
          have hv2 := hus
          rw [e2] at hv2
          simp only [VS] at hv2; obtain ⟨u', r', e, hv3, _⟩ := hv2; cases e
          exact Owns.cp1 (hv3.not_tup (hone u (by rw [e2]; simp)))
end
end Go.Proofs.Ytajlmldpbhendab.Rf
end
section
/- Calls, as the caller sees them. -/
set_option linter.unusedSimpArgs false
set_option linter.unusedVariables false
namespace Go.Proofs.Ytajlmldpbhendab.Rf

/-- What a call owes. -/
def Ret (G : Nat → Option (List AV)) (g : Gh) (w : World) (r : COut) : Ending → World → Prop
  | .returned cv, w' => ∃ g' v hp', r = .ret v hp' ∧ Rel G g' ⟨[], hp'⟩ [(v, cv)] #[] w' ∧ Stay g w g' w'
  | .panicked chain, w' => ∃ g' v hp' cv, r = .pan v hp' ∧ chain = [{ v := cv, recovered := false }] ∧ V g' w' v cv ∧ v.plain = true ∧ Rel G g' ⟨[], hp'⟩ [] #[] w' ∧ Stay g w g' w'
  | .outgrown, _ => False
def funOk (P : Program) (f : FuncId) : Bool :=
  match P.funcs[f]? with
  | some fn => fn.body.isSome && !(fn.name == "runtime.NumGoroutine")
  | none => false
def CallOK (P : Program) (G : Nat → Option (List AV)) (call : CallF) : Prop :=
  ∀ f vs hp lo q r g w (us : List Value), call f vs hp lo q = some r → us.length = vs.length → plains vs = true → Rel G g ⟨[], hp⟩ (vs.zip us) #[] w → funOk P f = true ∧ Calls P f us.toArray w (Ret G g w r)

section
variable {P : Program} {G : Nat → Option (List AV)} {g g' g1 g2 : Gh} {st : St} {a : Act} {w w' : World} {o : Oper} {tm : Array Value} {ps : List (AV × Value)}

/-- The caller's own tags sleep while it calls. -/
def Tag.slp : Tag → Tag
  | .box (.fr _) => .out
  | .tail (.fr _) _ => .out
  | t => t
def Gh.slp (g : Gh) : Gh := { g with ow := fun b o => (g.ow b o).slp }
def Tag.nofr : Tag → Prop
  | .box (.fr _) => False
  | .tail (.fr _) _ => False
  | _ => True
theorem Tag.slp_nofr {t : Tag} (h : t.nofr) : t.slp = t := by
  cases t <;> try rfl
  case box r => cases r <;> first | rfl | exact h.elim
  case tail r i => cases r <;> first | rfl | exact h.elim
theorem same_slp (g : Gh) (w : World) : Same Tag.nofr g w g.slp w :=
  ⟨fun _ _ _ h => Tag.slp_nofr h, fun _ _ _ _ => rfl, fun _ _ _ _ _ => rfl, fun _ _ _ => rfl, fun _ _ _ h => h, fun _ => trivial, fun _ _ h => h⟩
theorem VF.to_empty {r : Root} {fr fr' : Fr} {tm tm' : Array Value} {v : AV} {cv : Value} (hp : v.plain = true) (h : VF g w fr tm r v cv) : VF g w fr' tm' r v cv := by
  have hl := AV.loose_of_plain hp
  rw [VF_loose hl, VX_plain hp] at h ⊢; exact h
theorem zip_get {α β : Type} {l : List α} {m : List β} {j : Nat} {x : α} {y : β} (h : (l.zip m)[j]? = some (x, y)) : l[j]? = some x ∧ m[j]? = some y := by
  rw [List.getElem?_zip_eq_some] at h; exact h
theorem Rel.sleep {vs : List AV} {us : List Value} (k : Rel G g st (vs.zip us) tm w) (hp : plains vs = true) : Rel G g.slp ⟨[], st.hp⟩ (vs.zip us) #[] w := by
  have sm := same_slp g w
  refine ⟨fun s => by simp [Fr.get, VF, VX, V, Owns], fun j v cv hj => ?_, k.hp.same sm trivial (fun _ => trivial) (fun _ _ => trivial) (fun _ _ _ => trivial) rfl, fun b o h => ?_, k.gl.same sm trivial trivial⟩
  · have hv : v.plain = true := by
      simp only [plains, List.all_eq_true] at hp
      exact hp v (List.mem_of_getElem? (zip_get hj).1)
    have f := VF.to_empty (fr' := []) (tm' := #[]) hv (k.ps j v cv hj)
    exact VF.same (r := .arg j) sm trivial (fun t cs h => by simp [Fr.get] at h) (fun _ => trivial) trivial rfl f
  · show (g.ow b o).slp = _; rw [k.fresh b o h]; rfl

/-- They wake when it comes back. -/
def Gh.wake (g1 g' : Gh) (n : Nat) : Gh :=
  { ow := fun b o => if b < n ∧ (g1.ow b o).slp ≠ g1.ow b o then g1.ow b o else g'.ow b o
    hb := g'.hb
    bx := fun x => match x with | .fr s => g1.bx (.fr s) | x => g'.bx x }
def Tag.front : Tag → Prop
  | .out | .imm | .elt | .box (.fr _) | .tail (.fr _) _ => True
  | _ => False
theorem wake_same (s : Stay g1.slp w g' w') : Same Tag.front g1 w (g1.wake g' w.heap.size) w' := by
  have hk : ∀ b o, (g1.ow b o).front → (g1.slp.ow b o).kept := fun b o h => by
    show ((g1.ow b o).slp).kept
    revert h; cases g1.ow b o <;> simp only [Tag.front, Tag.slp, Tag.kept] <;> try exact id
    case box r => cases r <;> simp [Tag.front, Tag.slp, Tag.kept]
    case tail r i => cases r <;> simp [Tag.front, Tag.slp, Tag.kept]
  have hne : ∀ b o, g1.ow b o ≠ .elt → g1.slp.ow b o ≠ .elt := fun b o h => by
    show (g1.ow b o).slp ≠ .elt
    revert h; cases g1.ow b o <;> simp only [Tag.slp] <;> try (intro h; exact h)
    case box r => cases r <;> simp [Tag.slp]
    case tail r i => cases r <;> simp [Tag.slp]
  refine ⟨fun b o hl h => ?_, fun b o hl h => s.cell b o hl (hk b o h), fun b o hl h hn => s.frz b o hl (hk b o h) (hne b o hn), fun b hl h => s.blk b hl fun o => ⟨hk b o (h o).1, hne b o (h o).2⟩, s.row, fun _ => trivial, s.hb⟩
  simp only [Gh.wake]
  split
  · rfl
  · rename_i hn
    have e := s.ow b o hl (hk b o h)
    have e2 : (g1.ow b o).slp = g1.ow b o := by
      by_cases e3 : (g1.ow b o).slp = g1.ow b o
      · exact e3
      · exact absurd ⟨hl, e3⟩ hn
    rw [e]; exact e2
theorem wake_same' (s : Stay g1.slp w g' w') : Same (fun t => t ≠ .out) g' w' (g1.wake g' w.heap.size) w' := by
  refine ⟨fun b o hl h => ?_, fun _ _ _ _ => rfl, fun _ _ _ _ _ => rfl, fun _ _ _ => rfl, fun _ _ _ h => h, fun _ => by simp, fun _ _ h => h⟩
  simp only [Gh.wake]
  split
  · rename_i hc
    have hk : (g1.slp.ow b o).kept := by
      show ((g1.ow b o).slp).kept
      have h2 := hc.2
      revert h2; cases g1.ow b o <;> simp only [Tag.slp, Tag.kept] <;> try (intro h; exact absurd rfl h)
      case box r => cases r <;> simp [Tag.slp, Tag.kept]
      case tail r i => cases r <;> simp [Tag.slp, Tag.kept]
    have e := s.ow b o hc.1 hk
    have e3 : g1.slp.ow b o = .out := by
      show (g1.ow b o).slp = .out
      have h2 := hc.2
      revert h2; cases g1.ow b o <;> simp only [Tag.slp] <;> try (intro h; exact absurd rfl h)
      case box r => cases r <;> simp [Tag.slp]
      case tail r i => cases r <;> simp [Tag.slp]
    exact absurd (e.trans e3) h
  · rfl
/-- Back in the caller's frame. -/
theorem Rel.back {vs : List AV} {us : List Value} {hp' : List HObj} (k : Rel G g1 st (vs.zip us) tm w) (s : Stay g1.slp w g' w') {qs : List (AV × Value)} (k' : Rel G g' ⟨[], hp'⟩ qs #[] w') :
    Rel G (g1.wake g' w.heap.size) ⟨st.fr, hp'⟩ qs tm w' ∧ Stay g1 w (g1.wake g' w.heap.size) w' := by
  have s1 := wake_same s
  have s2 := wake_same' s
  refine ⟨⟨fun t => ?_, fun j v cv hj => ?_, ?_, fun b o hb => ?_, ?_⟩, ?_⟩
  · exact VF.same (r := .fr t) s1 trivial (fun u cs _ => rfl) (fun _ => trivial) trivial rfl (k.fr t)
  · have f := (k'.ps j v cv hj).same s2 (by simp) (fun t cs h => by simp [Fr.get] at h) (fun i => by simp) (by simp) rfl
    exact VF.like ⟨fun t cs h => by simp [Fr.get] at h, fun t xs sz h => by simp [Fr.get] at h⟩ f
  · exact k'.hp.same s2 (by simp) (fun _ => by simp) (fun _ _ => by simp) (fun _ _ _ => by simp) rfl
  · simp only [Gh.wake]; rw [if_neg (fun h => by have := s.size; omega)]; exact k'.fresh b o hb
  · exact k.gl.same s1 trivial trivial
  · exact { ow := fun b o hl h => s1.ow b o hl (by revert h; cases g1.ow b o <;> simp [Tag.kept, Tag.front])
            cell := fun b o hl h => s1.cell b o hl (by revert h; cases g1.ow b o <;> simp [Tag.kept, Tag.front])
            frz := fun b o hl h hn => s1.frz b o hl (by revert h; cases g1.ow b o <;> simp [Tag.kept, Tag.front]) hn
            blk := fun b hl h => s1.blk b hl fun o => ⟨by have := (h o).1; revert this; cases g1.ow b o <;> simp [Tag.kept, Tag.front], (h o).2⟩
            row := s1.row, te := fun _ => trivial
            hb := s1.hb, os := s.os, tape := s.tape, output := s.output, size := s.size }

def COut.op (fr : Fr) : COut → OpR
  | .ret v hp => .val v ⟨fr, hp⟩
  | .pan v hp => .pan v ⟨fr, hp⟩
theorem fits_call {call : CallF} (hc : CallOK P G call) (k : Rel G g st [] a.tmps w) {f : Opd} {xs : List Opd} {f' : Operand} {os : List Operand} (hf : opdOk f f' = true) (hx : opdsOk xs os = true) {ts : Array TypeId} (ho : o.op = .call { callee := .value f', args := os.toArray, argTypes := ts })
    (hp : plains (opds st.fr xs).1 = true) {fid : Nat} {caps : List AV} (hv : (opd (opds st.fr xs).2 f).1 = .func fid caps) (hpc : plains caps = true) {lo : Nat} {q : Bool} {r : COut} (hr : call fid ((opds st.fr xs).1 ++ caps.map AV.cp) st.hp lo q = some r) :
    Fits P G g st (r.op (opds st.fr xs).2) o a w := by
  obtain ⟨g1, k1, s1, hb1, hl⟩ := k.takes hx
  simp only [List.nil_append] at k1
  have hrd := k1.read hf
  simp only at hrd
  rw [hv] at hrd; simp only [VX, V] at hrd
  obtain ⟨cvs, h1, h2⟩ := hrd
  have hcv : VS g1 w (caps.map AV.cp) cvs := h2.cpAll
  -- the captured ones are laid beside
  have push : ∀ (cs : List AV) (cvs : List Value) (vs : List AV) (us : List Value), vs.length = us.length → plains cs = true → VS g1 w cs cvs → (∀ c, c ∈ cs → ∃ d : AV, c = d.cp) → Rel G g1 { st with fr := (opds st.fr xs).2 } (vs.zip us) a.tmps w → Rel G g1 { st with fr := (opds st.fr xs).2 } ((vs ++ cs).zip (us ++ cvs)) a.tmps w := by
    intro cs
    induction cs with
    | nil => intro cvs vs us hl _ hv _ k; simp only [VS] at hv; subst hv; simpa using k
    | cons c cs ih =>
      intro cvs vs us hl hp hv hd k
      simp only [VS] at hv; obtain ⟨u, r, rfl, h3, h4⟩ := hv
      simp only [plains, List.all_cons, Bool.and_eq_true] at hp
      have k2 := k.push (v := c) (cv := u) (by
        obtain ⟨d, rfl⟩ := hd c (by simp)
        rw [VF_loose (AV.loose_of_plain hp.1), VX_plain hp.1]; exact ⟨h3, Owns.cp⟩)
      have e : (vs ++ [c]).zip (us ++ [u]) = vs.zip us ++ [(c, u)] := by rw [List.zip_append hl]; rfl
      rw [← e] at k2
      have := ih r (vs ++ [c]) (us ++ [u]) (by simp [hl]) hp.2 h4 (fun x hx => hd x (by simp [hx])) k2
      simpa using this
  have hplc : plains (caps.map AV.cp) = true := by
    simp only [plains, List.all_eq_true] at hpc ⊢
    intro c hc; simp only [List.mem_map] at hc; obtain ⟨d, hd, rfl⟩ := hc; exact plain_cp (hpc d hd)
  have k2 := push _ cvs _ _ (by simpa using hl) hplc hcv (fun c hc => by simp only [List.mem_map] at hc; obtain ⟨d, _, rfl⟩ := hc; exact ⟨d, rfl⟩) k1
  have hpl : plains ((opds st.fr xs).1 ++ caps.map AV.cp) = true := by
    simp only [plains, List.all_append, Bool.and_eq_true] at hp hplc ⊢; exact ⟨hp, hplc⟩
  obtain ⟨hok, hcall⟩ := hc fid _ st.hp lo q r g1.slp w (os.map (Act.opd a.tmps) ++ cvs) hr (by simp [hl, hcv.len]) hpl (k2.sleep hpl)
  intro next Q hn hq
  have hrun : (execOp a.eval o).run P w = .ok (.enter fid (os.map (Act.opd a.tmps) ++ cvs).toArray) w := by
    unfold funOk at hok
    cases hfn : P.funcs[fid]? with
    | none => simp [hfn] at hok
    | some fn =>
      simp [hfn] at hok
      obtain ⟨b1, b2⟩ := hok
      cases hbd : fn.body with
      | none => simp [hbd] at b1
      | some bd => simp [execOp, ho, resolve, Deferred.ofValue, show a.eval = Act.opd a.tmps from funext (Act.eval_eq a), h1, invoke, callFunc, hfn, b2, hbd]
  unfold Oper.wp; rw [hrun, Oper.upon_enter]
  refine Calls.mono hcall fun e w1 hR => ?_
  cases e with
  | returned cv =>
    obtain ⟨g', v, hp', rfl, k3, s3⟩ := hR
    obtain ⟨k4, s4⟩ := k2.back s3 k3
    exact hn _ w1 v _ cv rfl k4 (s1.trans s4)
  | panicked chain =>
    obtain ⟨g', v, hp', cv, rfl, rfl, hvv, hpv, k3, s3⟩ := hR
    obtain ⟨k4, s4⟩ := k2.back s3 k3
    exact hq _ w1 v _ cv rfl (V.mono ((wake_same' s3).ext (by simp)) _ _ hvv) hpv k4 (s1.trans s4)
  | outgrown => exact hR.elim
end
end Go.Proofs.Ytajlmldpbhendab.Rf
end
section
/- Strings out of bytes; pointers without a type; rows made. -/
set_option linter.unusedSimpArgs false
set_option linter.unusedVariables false
namespace Go.Proofs.Ytajlmldpbhendab.Rf

section
variable {P : Program} {G : Nat → Option (List AV)} {g g' : Gh} {st : St} {a : Act} {w w' : World} {o : Oper} {tm : Array Value} {ps : List (AV × Value)}

theorem fits_sdata_nil (k : Rel G g st [] a.tmps w) {x : Opd} {x' : Operand} (hx : opdOk x x' = true) {ts : Array TypeId} (ho : o.op = .call { callee := .builtin .unsafeSliceData, args := #[x'], argTypes := ts })
    {xs : List AV} (h : (opd st.fr x).1 = .list xs .nil) : Fits P G g st (.val .nilp st) o a w := by
  have h1 := k.read hx; rw [h] at h1; simp only [VX, V] at h1
  obtain ⟨A, c, e1, e2, e3, e4, e5, e6⟩ := h1
  have hA : A = none := e4 trivial
  subst hA
  have hr := Lib.run_unsafeSliceData_nil (P := P) w ts o.type xs.length c
  refine fits_pure k (cv := .pointer none) ?_ (VF_scalar rfl (by simp only [VX, V]) (by simp) (by simp))
  simp [execOp, ho, resolve, Act.eval_eq, invoke, builtin, e1, hr]
theorem fits_sdata (k : Rel G g st [] a.tmps w) {x : Opd} {x' : Operand} (hx : opdOk x x' = true) {ts : Array TypeId} (ho : o.op = .call { callee := .builtin .unsafeSliceData, args := #[x'], argTypes := ts })
    {xs : List AV} {e : Nat} (h : (opd st.fr x).1 = .list xs (.view e)) (hxs : xs ≠ []) (he : e ≠ 0) (hs : okSize 1 xs = true) : Fits P G g st (.val (.data xs e) st) o a w := by
  have h1 := k.read hx; rw [h] at h1; simp only [VX, V] at h1
  obtain ⟨A, c, e1, e2, e3, e4, e5, e6⟩ := h1
  have hlen := List.length_pos_iff.2 hxs
  cases A with
  | none => have := e5 rfl; omega
  | some ad =>
    obtain ⟨_, f2, sz, f3⟩ := e6 ad rfl
    have hv := f2 he
    have hE := okSize_VE hs f3
    have hr := Lib.run_unsafeSliceData_row (P := P) w ts o.type ad xs.length c (by omega)
    refine fits_pure k (cv := .pointer (some ad)) ?_ (VF_scalar rfl ?_ (by simp) (by simp))
    · simp [execOp, ho, resolve, Act.eval_eq, invoke, builtin, e1, hr]
    · simp only [VX]
      exact ⟨ad, rfl, hv, by rw [hv.1] at hE; exact hE⟩

theorem bytesOf_cells {b : Nat} : ∀ {xs : List AV} {bs : List UInt8} {off : Nat}, bytesOf xs = some bs → VE g w 1 xs b off → bs.length = xs.length ∧ ∀ (j : Nat) x, bs[j]? = some x → w.cell? ⟨b, off + j, none⟩ = some (.int .u8 x.toNat)
  | [], bs, off, h, _ => by simp [bytesOf] at h; subst h; simp
  | v :: r, bs, off, h, hv => by
    cases v <;> try (simp [bytesOf] at h; done)
    rename_i k n
    cases k <;> try (simp [bytesOf] at h; done)
    simp only [bytesOf] at h
    split at h
    · rename_i hn
      cases hr : bytesOf r with
      | none => rw [hr] at h; simp at h
      | some cs =>
        rw [hr] at h; simp at h; subst h
        simp only [VE] at hv
        obtain ⟨⟨_, _, cv, c1, _, c2⟩, hv2⟩ := hv
        obtain ⟨i1, i2⟩ := bytesOf_cells hr hv2
        refine ⟨by simp [i1], fun j x hj => ?_⟩
        cases j with
        | zero =>
          simp at hj; subst hj
          simp only [V] at c2
          rw [Nat.add_zero, c1, c2]
          congr 2
          have : n.toNat < 256 := by omega
          simp [UInt8.toNat_ofNat', Nat.mod_eq_of_lt this]; omega
        | succ j =>
          simp at hj
          have := i2 j x hj
          rwa [show off + 1 + j = off + (j + 1) by omega] at this
    · cases h
theorem heap_freeze (w : World) (b n : Nat) (k : Nat) {cs : Array Value} {e hi : Nat} (h : w.heap[b]? = some (.cells cs e (0, hi))) (hn : n ≠ 0) : (w.freeze ⟨b, 0, none⟩ n).heap[k]? = if k = b then some (.cells cs e (0, max hi n)) else w.heap[k]? := by
  unfold World.freeze
  rw [if_neg hn]
  simp only [Array.getElem?_modify]
  by_cases hk : b = k
  · subst hk
    simp only [if_true, h, Option.map_some]
    by_cases hz : (0 == hi) = true
    · have : hi = 0 := (beq_iff_eq.1 hz).symm
      subst this; simp
    · simp [hz]
  · rw [if_neg hk, if_neg (fun e => hk e.symm)]
theorem size_freeze (w : World) (p : Addr) (n : Nat) : (w.freeze p n).heap.size = w.heap.size := by
  unfold World.freeze; split <;> simp
/-- Bytes of the program's own making are frozen. -/
theorem Rel.freeze (k : Rel G g st ps tm w) {m e : Nat} {ad : Addr} (hv : View g w m e ad) (hm : m ≠ 0) : Rel G g st ps tm (w.freeze ad m) ∧ Stay g w g (w.freeze ad m) := by
  obtain ⟨h1, h2, ⟨n, ⟨cs, hi, h3, h3'⟩, h4⟩, h5⟩ := hv
  obtain ⟨b, q, sp⟩ := ad
  simp only at h1 h2 h3 h5; subst h1; subst h2
  have hh := fun k => heap_freeze w b m k h3 hm
  have hsize := size_freeze w ⟨b, 0, none⟩ m
  have hos : (w.freeze ⟨b, 0, none⟩ m).os = w.os ∧ (w.freeze ⟨b, 0, none⟩ m).tape = w.tape ∧ (w.freeze ⟨b, 0, none⟩ m).output = w.output := by
    unfold World.freeze; rw [if_neg hm]; exact ⟨rfl, rfl, rfl⟩
  generalize w.freeze ⟨b, 0, none⟩ m = w' at *
  have cel : ∀ c o, w'.cell? ⟨c, o, none⟩ = w.cell? ⟨c, o, none⟩ := fun c o => by
    by_cases hc : c = b
    · subst hc; simp only [World.cell?, hh, if_true, h3]
    · exact cell?_of_block' (by rw [hh, if_neg hc])
  have frz : ∀ c o, g.ow c o ≠ .elt → w'.frozen? ⟨c, o, none⟩ = w.frozen? ⟨c, o, none⟩ := fun c o hn => by
    by_cases hc : c = b
    · subst hc
      have ho : m ≤ o := by
        refine Classical.byContradiction fun hlt => hn (h5 o (by omega))
      simp only [World.frozen?, hh, if_true, h3]
      simp; omega
    · exact frozen?_of_block' (by rw [hh, if_neg hc])
  have blk : ∀ c, (∀ o, g.ow c o ≠ .elt) → w'.heap[c]? = w.heap[c]? := fun c hn => by
    rw [hh, if_neg fun e => ?_]
    subst e; exact hn 0 (h5 0 (by omega))
  have row : ∀ c e n, Row0 w c e n → Row0 w' c e n := fun c e n ⟨ds, hj, r1, r2⟩ => by
    by_cases hc : c = b
    · subst hc; rw [h3] at r1; cases r1
      exact ⟨cs, max hi m, by rw [hh, if_pos rfl], r2⟩
    · exact ⟨ds, hj, by rw [hh, if_neg hc]; exact r1, r2⟩
  have sm : Same (fun _ => True) g w g w' := ⟨fun _ _ _ _ => rfl, fun c o _ _ => cel c o, fun c o _ _ hn => frz c o hn, fun c _ hn => blk c fun o => (hn o).2, row, fun _ => trivial, fun _ _ h => h⟩
  refine ⟨k.same sm rfl (fun _ => rfl) (fun c o hb => k.fresh c o (by omega)), ?_⟩
  exact { ow := fun _ _ _ _ => rfl, cell := fun c o _ _ => cel c o, frz := fun c o _ _ hn => frz c o hn, blk := fun c _ hn => blk c fun o => (hn o).2, row := row, te := fun _ => trivial, hb := fun _ _ h => h, os := hos.1, tape := hos.2.1, output := hos.2.2, size := by omega }
def ustrOk (P : Program) (ts : List TypeId) : Bool :=
  match ts with
  | [pt, _] => (match P.underlying pt with | some (.pointer e) => Nat.beq (P.cellsOf e) 1 | _ => false)
  | _ => false
theorem fits_ustr_nil (k : Rel G g st [] a.tmps w) {p n : Opd} {p' n' : Operand} (hp : opdOk p p' = true) (hn : opdOk n n' = true) {pt it : TypeId} (ho : o.op = .call { callee := .builtin .unsafeString, args := #[p', n'], argTypes := #[pt, it] })
    (h1 : (opd st.fr p).1 = .nilp) (h2 : (opd st.fr n).1 = .int .i64 0) : Fits P G g st (.val (.str []) st) o a w := by
  have r1 := k.read hp; rw [h1] at r1; simp only [VX, V] at r1
  have r2 := k.read hn; rw [h2] at r2; simp only [VX, V] at r2
  have hr := Lib.run_unsafeString_none (P := P) w pt it o.type none
  refine fits_pure k (cv := .string ⟨#[]⟩) ?_ (VF_scalar rfl (by simp only [VX, V]) (by simp) (by simp))
  simp [execOp, ho, resolve, Act.eval_eq, invoke, builtin, r1, r2, hr]; rfl
theorem fits_ustr (k : Rel G g st [] a.tmps w) {p n : Opd} {p' n' : Operand} (hp : opdOk p p' = true) (hn : opdOk n n' = true) {pt it e : TypeId} (ht : P.underlying pt = some (.pointer e)) (hc : P.cellsOf e = 1) (ho : o.op = .call { callee := .builtin .unsafeString, args := #[p', n'], argTypes := #[pt, it] })
    {xs : List AV} {bs : List UInt8} (h1 : (opd st.fr p).1 = .data xs e) (h2 : (opd st.fr n).1 = .int .i64 xs.length) (hb : bytesOf xs = some bs) (h0 : xs ≠ []) (h63 : xs.length ≤ 9223372036854775807) : Fits P G g st (.val (.str bs) st) o a w := by
  have r1 := k.read hp; rw [h1] at r1; simp only [VX] at r1
  have r2 := k.read hn; rw [h2] at r2; simp only [VX, V] at r2
  obtain ⟨ad, e1, hv, hE⟩ := r1
  obtain ⟨hl, hcell⟩ := bytesOf_cells hb hE
  have hm : xs.length ≠ 0 := by simpa using h0
  obtain ⟨k2, s2⟩ := k.freeze hv hm
  obtain ⟨v1, v2, ⟨m, ⟨cs, hi, v3, v3'⟩, v4⟩, v5⟩ := hv
  obtain ⟨b, q, sp⟩ := ad
  simp only at v1 v2 v3 hcell k2 s2; subst v1; subst v2
  have hsh : w.shape? b = some (e, cs.size) := by unfold World.shape?; rw [v3]
  have hr := Lib.run_unsafeString_row (P := P) w pt it o.type e ht hc b cs.size hsh bs (by intro h; rw [h] at hl; simp at hl; exact hm hl.symm) (by omega) (by omega) (fun j x hj => by rw [Addr.add_lit]; exact hcell j x hj)
  rw [hl] at hr
  refine fits_value (w' := w.freeze ⟨b, 0, none⟩ xs.length) (g' := g) (cv := .string ⟨bs.toArray⟩) ?_ (k2.push0 (VF_scalar rfl (by simp only [VX, V]) (by simp) (by simp))) s2
  simp [execOp, ho, resolve, Act.eval_eq, invoke, builtin, e1, r2, hr]

def uptrOk (P : Program) (s d u n : TypeId) : Bool :=
  (match P.underlying s, P.underlying d with
   | some (.pointer t), some .unsafePointer => (match P.info? t with | some i => Nat.blt 0 i.size | none => false)
   | some .unsafePointer, some (.pointer t) => Nat.beq t u && (P.info? t).isSome && liesAt P P.depth u (n / P.cellsOf u) 0 u 1
   | _, _ => false)
theorem fits_uptr (k : Rel G g st [] a.tmps w) {x : Opd} {x' : Operand} (hx : opdOk x x' = true) {s d : TypeId} {u n : Nat} (hs : uptrOk P s d u n = true) (ho : o.op = .convert s d x') {i : Nat} (h : (opd st.fr x).1 = .ptr i 0)
    {cs : List AV} (hh : st.hp[i]? = some (.cells u cs)) (hu : u ≠ 0) (hn : cs.length = n) (h0 : cs ≠ []) : Fits P G g st (.val (.ptr i 0) st) o a w := by
  have r1 := k.read hx; rw [h] at r1; simp only [VX, V] at r1
  obtain ⟨b, e1, e2⟩ := r1
  obtain ⟨b', f1, f2, f3⟩ := k.hp.obj i _ hh
  rw [e1] at f1; cases f1
  simp only [ObjRel] at f3
  obtain ⟨vs, ty, f4, f5, _, f6⟩ := f3
  have hty := f6 hu; subst hty
  have hlen := f5.1.len
  have hpos := List.length_pos_iff.2 h0
  have hsh : w.shape? b = some (ty, n) := by unfold World.shape?; rw [f4]; simp; omega
  refine fits_pure k (cv := .pointer (some ⟨b, 0, none⟩)) ?_ (VF_scalar rfl (by simp only [VX, V]; exact ⟨b, e1, rfl⟩) (by simp) (by simp))
  unfold uptrOk at hs
  have hconv : (convert s d (.pointer (some ⟨b, 0, none⟩))).run P w = .ok (.pointer (some ⟨b, 0, none⟩)) w := by
    split at hs
    · rename_i t h1 h2
      cases hi : P.info? t with
      | none => simp [hi] at hs
      | some j =>
        simp [hi] at hs
        exact Lib.run_to_unsafe w ⟨b, 0, none⟩ h1 h2 hi (by omega) hsh (by simp only; omega)
    · rename_i t h1 h2
      simp only [Bool.and_eq_true] at hs
      have ht := Nat.eq_of_beq_eq_true hs.1.1
      subst ht
      obtain ⟨j, hj⟩ := Option.isSome_iff_exists.1 hs.1.2
      exact Lib.run_from_unsafe w ⟨b, 0, none⟩ h1 h2 hj hsh hs.2
    · cases hs
  simp [execOp, ho, Act.eval_eq, e2, hconv]

theorem noEscape_find {fn : Func} (h : fn.name = "internal/abi.NoEscape") : Extern.find fn = some Extern.AbiNoEscape.same := by
  have h1 : ∀ (a b c : Array TypeId), (((Extern.allGenericRows.lookup "internal/abi.NoEscape").map (· a b c)) <|> ((Extern.allTypedRows.lookup "internal/abi.NoEscape").map (· b c)) <|> Extern.allRows.lookup "internal/abi.NoEscape") = some Extern.AbiNoEscape.same := by
    intro a b c; kernel_rfl
  unfold Extern.find
  rw [h]
  simp only [h1]
  rfl
def identOk (P : Program) (f : FuncId) : Bool :=
  match P.funcs[f]? with
  | some fn => !(fn.name == "runtime.NumGoroutine") && fn.body.isNone && (Extern.findNext fn).isNone && fn.name == "internal/abi.NoEscape"
  | none => false
theorem fits_ident (k : Rel G g st [] a.tmps w) {f : FuncId} {fn : Func} (hf : P.funcs[f]? = some fn) (h1 : (fn.name == "runtime.NumGoroutine") = false) (h2 : fn.body.isNone = true) (h3 : Extern.findNext fn = none) (h4 : Extern.find fn = some Extern.AbiNoEscape.same)
    {x : Opd} {x' : Operand} (hx : opdOk x x' = true) {ts : Array TypeId} (ho : o.op = .call { callee := .value (.func f), args := #[x'], argTypes := ts }) {i j : Nat} (h : (opd st.fr x).1 = .ptr i j) : Fits P G g st (.val (.ptr i j) st) o a w := by
  have r1 := k.read hx; rw [h] at r1; simp only [VX, V] at r1
  obtain ⟨b, e1, e2⟩ := r1
  have hr := run_callFunc_extern hf h1 h2 h3 h4 #[Value.pointer (some ⟨b, j, none⟩)] w
  rw [Lib.run_noEscape] at hr
  simp only [Result.andThen_ok] at hr
  refine fits_pure k (cv := .pointer (some ⟨b, j, none⟩)) ?_ (VF_scalar rfl (by simp only [VX, V]; exact ⟨b, e1, rfl⟩) (by simp) (by simp))
  have e3 : Act.opd a.tmps (.func f) = Value.func (.func f) #[] #[] := rfl
  simp [execOp, ho, resolve, Deferred.ofValue, show a.eval = Act.opd a.tmps from funext (Act.eval_eq a), e3, e2, invoke, hr]

def mksliceOk (P : Program) (t : TypeId) (z : AV) (bytes : Nat) : Bool :=
  match P.underlying t with
  | some (.slice e) => (match P.info? e with | some i => decide (i.size = z.cells.length) && decide (0 < i.size) && decide (i.bytes = bytes) | none => false) && zeroOk P e z.cells
  | _ => false
theorem fits_mkslice (k : Rel G g st [] a.tmps w) {t : TypeId} {z : AV} {f bytes : Nat} (hb : mksliceOk P t z bytes = true) (hrt : rowTy P t z.cells.length f = true) {n c : Opd} {n' c' : Operand} (hn : opdOk n n' = true) (hc : opdOk c c' = true) (ho : o.op = .makeSlice t n' c')
    {l m : Int} (h1 : (opd st.fr n).1 = .int .i64 l) (h2 : (opd st.fr c).1 = .int .i64 m) (h0 : 0 ≤ l) (hlm : l ≤ m) (hby : m.toNat * bytes ≤ 140737488355328) (h63 : m ≤ 9223372036854775807) : Fits P G g st (.val (.list (List.replicate l.toNat z) (.own z.cells.length f)) st) o a w := by
  have r1 := k.read hn; rw [h1] at r1; simp only [VX, V] at r1
  have r2 := k.read hc; rw [h2] at r2; simp only [VX, V] at r2
  unfold mksliceOk at hb
  cases hu : P.underlying t with
  | none => simp [hu] at hb
  | some d =>
    cases d <;> simp [hu] at hb
    rename_i e
    obtain ⟨hb1, hb2⟩ := hb
    cases hi : P.info? e with
    | none => simp [hi] at hb1
    | some i =>
      simp [hi] at hb1
      obtain ⟨⟨b1, b2⟩, b3⟩ := hb1
      obtain ⟨zv, z1, z2, z3⟩ := zeroOk_run hb2
      have hz : i.zero = some zv := by
        have := z1 w
        cases hz : i.zero with
        | none => simp [zeroValue, typeInfo, hi, hz] at this
        | some u => simp [zeroValue, typeInfo, hi, hz] at this; rw [this]
      have hzs : VS g w z.cells zv.cells.toList := VS.of_same _ _ z2
      have hzl : zv.cells.size = i.size := by rw [b1, ← hzs.len]; simp
      have hby2 : (i.bytes : Int) * m ≤ 281474976710656 := by
        have hq : (i.bytes : Int) * m = ((m.toNat * bytes : Nat) : Int) := by
          rw [b3, Int.natCast_mul, Int.toNat_of_nonneg (by omega), Int.mul_comm]
        omega
      have hr := run_make (P := P) w t e i zv hu hi hz .i64 .i64 l m h0 hlm hby2 h63
      have hcells : (madeCells zv.cells (m.toNat * i.size)).toList = (List.replicate l.toNat zv.cells.toList).flatten ++ (List.replicate (m.toNat - l.toNat) zv.cells.toList).flatten := by
        have e1 := range_cells zv.cells (by omega) m.toNat
        have e2 : (madeCells zv.cells (m.toNat * i.size)).toList = (List.replicate m.toNat zv.cells.toList).flatten := by
          rw [← e1, ← hzl]; simp [madeCells]
        rw [e2, ← List.flatten_append, List.replicate_append_replicate]; congr 2; omega
      have hones : ∀ n, Ones (List.replicate n zv.cells.toList).flatten := by
        intro n u hu; simp only [List.mem_flatten, List.mem_replicate] at hu
        obtain ⟨l, ⟨_, rfl⟩, hu⟩ := hu; exact z3 u hu
      have hrow := RowR.rep (sz := z.cells.length) rfl hzs l.toNat
      obtain ⟨g2, k2, s2⟩ := (k.push0 (v := .tup []) (cv := undef) VF_undef).newrow (e := e) (f := f) (C := m.toNat) (rest := (List.replicate (m.toNat - l.toNat) zv.cells.toList).flatten) (hrow.lay (hones _))
        (by simp [List.length_flatten, hzl, b1]) (by simp; omega) (by omega) (fun hf => by
          unfold rowTy at hrt; simp only [hu, Bool.or_eq_true, Bool.and_eq_true] at hrt
          rcases hrt with h | h
          · exact absurd (Nat.eq_of_beq_eq_true h) hf
          · exact ⟨Nat.eq_of_beq_eq_true h.1, Nat.eq_of_beq_eq_true h.2⟩)
      rw [← hcells] at k2 s2
      refine fits_value (cv := .slice (some ⟨w.heap.size, 0, none⟩) l.toNat m.toNat) ?_ (by simpa using k2) (by simpa using s2)
      simp [execOp, ho, Act.eval_eq, r1, r2, hr]
end
end Go.Proofs.Ytajlmldpbhendab.Rf
end
section
/- One operation: the check that the plain one is the model's, and that it tells what the model does. -/
set_option linter.unusedSimpArgs false
set_option linter.unusedVariables false
namespace Go.Proofs.Ytajlmldpbhendab.Rf

def isIface : Option TypeDesc → Bool
  | some (.interface _) => true
  | none => true
  | _ => false
def chkOp (P : Program) (i : IOp) (op : Op) : Bool :=
  match i with
  | .mv x => match op with | .move y => opdOk x y | .assign y => opdOk x y | _ => false
  | .pick c a b => match op with | .pick c' a' b' => opdOk c c' && opdOk a a' && opdOk b b' | _ => false
  | .alloc _ ty cs => match op with | .alloc t => zeroOk P t cs && (Nat.beq ty 0 || Nat.beq t ty) | _ => false
  | .box _ x => match op with | .box _ y => opdOk x y | _ => false
  | .build zs ps => match op with | .build t qs => zeroOk P t zs && (match placeOf P t with | some pl => partsOk pl ps qs.toList | none => false) && sizesOk P t | _ => false
  | .bslice z e n ps => match op with | .buildSlice t m qs => bsliceOk P t z n && rowTy P t z.cells.length e && decide (n = m) && bpartsOk ps qs.toList | _ => false
  | .load x _ n agg tk => match op with | .load t y => opdOk x y && tyOk P t n agg | _ => false
  | .store x _ v n => match op with | .store t y u => opdOk x y && opdOk v u && (tyOk P t n true || tyOk P t n false) | _ => false
  | .nilchk x => match op with | .nilCheck y => opdOk x y | _ => false
  | .bin op' x y => match op with | .binOp o _ x' y' _ => decide (o = op') && opdOk x x' && opdOk y y' | _ => false
  | .eq neg k x y => match op with | .binOp o t x' y' _ => decide (o = if neg then .neq else .eql) && eqOk P k t x' y' && opdOk x x' && opdOk y y' | _ => false
  | .un op' x => match op with | .unOp o _ x' => decide (o = op') && opdOk x x' | _ => false
  | .conv k x => match op with | .convert s d x' => (match P.underlying s with | some (.int _) => true | _ => false) && (match P.underlying d with | some (.int k') => decide (k' = k) | _ => false) && opdOk x x' | _ => false
  | .sconv x => match op with | .convert s d x' => (match P.underlying s with | some .string => true | _ => false) && (match P.underlying d with | some .string => true | _ => false) && opdOk x x' | _ => false
  | .mkiface t x => match op with | .makeInterface t' x' => decide (t' = t) && !isIface (P.underlying t) && opdOk x x' | _ => false
  | .mkfunc f cs => match op with | .makeFunc fn first caps => (match fn with | .func f' => decide (f' = f) | _ => false) && decide (first.size = 0) && opdsOk cs caps.toList | _ => false
  | .mkmap => match op with | .makeMap _ r => r.isNone | _ => false
  | .faddr x off => match op with | .fieldAddr s y f => opdOk x y && (match P.underlying s with | some (.struct fs) => (match fs[f]? with | some x => (match P.info? x.type with | some i => fieldOk P s f off i.size | none => false) | none => false) | _ => false) | _ => false
  | .field x off n agg => match op with | .field s y f => opdOk x y && fieldOk2 P s f off n agg | _ => false
  | .iaddrL x i sz => match op with | .indexAddr t y u => opdOk x y && opdOk i u && sliceOk P t sz | _ => false
  | .iaddrA x i len sz => match op with | .indexAddr t y u => opdOk x y && opdOk i u && arrayOk P t len sz | _ => false
  | .idxS x i => match op with | .index t y u => opdOk x y && opdOk i u && (match P.underlying t with | some .string => true | _ => false) | _ => false
  | .slcS x l h => match op with | .slice t y l' h' m' => opdOk x y && optOk l l' && optOk h h' && m'.isNone && (match P.underlying t with | some .string => true | _ => false) | _ => false
  | .slcL x l h sz => match op with | .slice t y l' h' m' => opdOk x y && optOk l l' && optOk h h' && m'.isNone && sliceOk P t sz | _ => false
  | .lookup kd m k z ok tk => match op with | .lookup t m' k' ok' => opdOk m m' && opdOk k k' && mapOk P t kd z && decide (ok' = ok) | _ => false
  | .mapset kd m k v z => match op with | .mapUpdate t m' k' v' => opdOk m m' && opdOk k k' && opdOk v v' && mapOk P t kd z | _ => false
  | .len x kd => match op with | .call c => (match c.callee with | .builtin .len => (match c.args.toList, c.argTypes.toList with | [x'], [t] => opdOk x x' && (match kd, P.underlying t with | .list, some (.slice _) => true | .str, some .string => true | .map, some (.map _ _) => true | _, _ => false) | _, _ => false) | _ => false) | _ => false
  | .konst v => match op with | .call c => (match c.callee with | .builtin .len => (match c.args.toList, c.argTypes.toList with | [_], [t] => (match P.underlying t, v with | some (.array n _), .int .i64 m => decide (m = n) | _, _ => false) | _, _ => false) | _ => false) | _ => false
  | .append x y sz e bytes _ => match op with | .call c => (match c.callee with | .builtin .append => (match c.args.toList, c.argTypes.toList with | [x', y'], [t, t2] => opdOk x x' && opdOk y y' && appendOk P t sz bytes && rowTy P t sz e && append2Ok P t2 | _, _ => false) | _ => false) | _ => false
  | .min x y => match op with | .call c => (match c.callee with | .builtin .min => (match c.args.toList with | [x', y'] => opdOk x x' && opdOk y y' | _ => false) | _ => false) | _ => false
  | .max x y => match op with | .call c => (match c.callee with | .builtin .max => (match c.args.toList with | [x', y'] => opdOk x x' && opdOk y y' | _ => false) | _ => false) | _ => false
  | .extract x i => match op with | .extract x' i' => decide (i' = i) && opdOk x x' | _ => false
  | .assert x t z ok => match op with | .typeAssert x' _ t' ok' => decide (t' = t) && decide (ok' = ok) && opdOk x x' && !isIface (P.underlying t) && zeroV P t z | _ => false
  | .panic x => match op with | .panic x' => opdOk x x' | _ => false
  | .call f xs _ => match op with | .call c => (match c.callee with | .value f' => opdOk f f' && opdsOk xs c.args.toList | _ => false) | _ => false

  | .sdata x _ => match op with | .call c => (match c.callee with | .builtin .unsafeSliceData => (match c.args.toList with | [x'] => opdOk x x' | _ => false) | _ => false) | _ => false
  | .ustr p n e => match op with | .call c => (match c.callee with | .builtin .unsafeString => (match c.args.toList, c.argTypes.toList with | [p', n'], [pt, _] => opdOk p p' && opdOk n n' && (match P.underlying pt with | some (.pointer e') => Nat.beq e' e && Nat.beq (P.cellsOf e') 1 | _ => false) | _, _ => false) | _ => false) | _ => false
  | .uptr x u n => match op with | .convert s d x' => uptrOk P s d u n && opdOk x x' | _ => false
  | .ident f x => match op with | .call c => (match c.callee with | .value (.func f') => decide (f' = f) && identOk P f && (match c.args.toList with | [x'] => opdOk x x' | _ => false) | _ => false) | _ => false
  | .mkslice z e n c bytes => match op with | .makeSlice t n' c' => mksliceOk P t z bytes && rowTy P t z.cells.length e && opdOk n n' && opdOk c c' | _ => false

section
variable {P : Program} {G : Nat → Option (List AV)} {g : Gh} {st : St} {a : Act} {w : World} {o : Oper}

theorem isIface_no {d : Option TypeDesc} (h : (!isIface d) = true) : ∃ e, d = some e ∧ ∀ ms, e ≠ .interface ms := by
  cases d with
  | none => simp [isIface] at h
  | some e => exact ⟨e, rfl, fun ms he => by subst he; simp [isIface] at h⟩
theorem arr_of {α : Type} (x : Array α) {l : List α} (h : x.toList = l) : x = l.toArray := by rw [← h]
theorem call_eq {c : Call} {cal : Callee} {xs : List Operand} {ts : List TypeId} (h1 : c.callee = cal) (h2 : c.args.toList = xs) (h3 : c.argTypes.toList = ts) : c = { callee := cal, args := xs.toArray, argTypes := ts.toArray } := by
  cases c; simp only at h1 h2 h3; subst h1; rw [arr_of _ h2, arr_of _ h3]
theorem fits_sconv (k : Rel G g st [] a.tmps w) {x : Opd} {x' : Operand} (hx : opdOk x x' = true) {s d : TypeId} (hs : P.underlying s = some .string) (hd : P.underlying d = some .string) (ho : o.op = .convert s d x') {n : List UInt8} (h : (opd st.fr x).1 = .str n) : Fits P G g st (.val (.str n) st) o a w := by
  have h1 := k.read hx
  rw [h] at h1; simp only [VX, V] at h1
  exact fits_pure k (cv := .string ⟨n.toArray⟩) (by simp [execOp, ho, Act.eval_eq, h1, convert, run_underlying hs, run_underlying hd]) (VF_scalar rfl (by simp only [VX, V]) (by simp) (by simp))
theorem ret1_some {v : AV} {s : St} {r : OpR} (h : ret1 v s = some r) : r = .val v s := by simp [ret1] at h; exact h.symm
end
end Go.Proofs.Ytajlmldpbhendab.Rf
end
section
/- The pending element, written. -/
set_option linter.unusedSimpArgs false
set_option linter.unusedVariables false
namespace Go.Proofs.Ytajlmldpbhendab.Rf

section
variable {P : Program} {G : Nat → Option (List AV)} {g g' : Gh} {st : St} {a : Act} {w w' : World} {o : Oper} {tm : Array Value} {ps : List (AV × Value)}

theorem Fr.mem_of_get : ∀ {fr : Fr} {s : Nat} {v : AV}, fr.get s = v → v ≠ .none → (s, v) ∈ fr
  | [], s, v, h, hn => by simp [Fr.get] at h; exact absurd h.symm hn
  | (t, u) :: r, s, v, h, hn => by
    simp only [Fr.get] at h
    split at h
    · rename_i e; subst e; subst h; simp
    · exact List.mem_cons_of_mem _ (Fr.mem_of_get h hn)
theorem Fr.noLast_get {fr : Fr} {s t u : Nat} (h : fr.noLast s = true) (k : fr.get t = .lastr u) : u ≠ s := by
  have := Fr.mem_of_get k (by simp)
  simp only [Fr.noLast, List.all_eq_true] at h
  have h2 := h _ this
  simp only [k] at h2
  simpa using h2
theorem VF.like2 {fr fr' : Fr} {tm' : Array Value} {r : Root} {v : AV} {cv : Value} (hb : ∀ t cs, fr.get t = .box cs → ∃ cs', fr'.get t = .box cs')
    (hp : ∀ t, v = .lastr t → ∀ xs sz, fr.get t = .pend xs sz → fr'.get t = .pend xs sz ∧ tm'.getD t undef = tm.getD t undef) (h : VF g w fr tm r v cv) : VF g w fr' tm' r v cv := by
  cases v <;> simp only [VF, VX] at h ⊢ <;> first
    | exact h
    | (obtain ⟨⟨h1, cs, h2⟩, h3⟩ := h; exact ⟨⟨h1, hb _ cs h2⟩, h3⟩)
    | (obtain ⟨⟨xs, sz, a, c, h1, h2, h3⟩, h4⟩ := h; obtain ⟨p, q⟩ := hp _ rfl xs sz h1; exact ⟨⟨xs, sz, a, c, p, q.trans h2, h3⟩, h4⟩)
theorem run_storeVar_each {t : TypeId} {n : Nat} {agg : Bool} (h : tyOk P t n agg = true) {b q : Nat} {cu : Value} (hn : cu.cells.toList.length = n) (h1 : Ones cu.cells.toList)
    (hc : ∀ j, j < n → (∃ u, w.cell? ⟨b, q + j, none⟩ = some u) ∧ w.frozen? ⟨b, q + j, none⟩ = false) : ∃ w', (storeVar t ⟨b, q, none⟩ cu).run P w = .ok () w' ∧ Wr w w' b q cu.cells.toList := by
  have hsz : (sizeOf t).run P w = .ok n w := by
    unfold tyOk at h
    cases hi : P.info? t with
    | none => simp [hi] at h
    | some i =>
      cases hu : P.underlying t with
      | none => simp [hi, hu] at h
      | some d =>
        simp only [hi, hu, Bool.and_eq_true, decide_eq_true_eq] at h
        simp [sizeOf, typeInfo, hi, h.1.1]
  obtain ⟨w', r1, r2⟩ := run_storeCells_each (P := P) b q cu.cells.toList 0 w (fun j hj => by rw [Nat.add_zero]; exact hc j (by rw [← hn]; exact hj)) h1
  rw [Nat.add_zero] at r2
  refine ⟨w', ?_, r2⟩
  simp only [storeVar, Sem.run_bind, hsz, Result.andThen_ok]
  rw [if_neg (by simp at hn; simpa using hn)]
  simpa using r1
theorem spread_len {v : AV} {cv : Value} (hp : v.plain = true) (hv : V g w v cv) : v.cp.cells.length = v.spread.length := by
  rw [← (V.cells hp hv).1.len, ← (V.cellsCp hp hv).1.len]

theorem opd_lastr_loose {fr : Fr} {p s : Nat} {tk : Bool} (h : (opd fr (.t p tk)).1 = .lastr s) (k : (fr.get p).loose = false) : False := by
  simp only [opd] at h
  cases hv : fr.get p <;> rw [hv] at h k <;> first | (simp [AV.loose] at k; done) | (simp at h; done)
theorem fits_store_last (k : Rel G g st [] a.tmps w) {p : Nat} {tk : Bool} {v : Opd} {y u : Operand} (hx : opdOk (.t p tk) y = true) (hv : opdOk v u = true) {t : TypeId} {n : Nat} {agg : Bool} (ht : tyOk P t n agg = true) (ho : o.op = .store t y u) (hp : (opd st.fr v).1.plain = true)
    {s : Nat} (h : (opd (opd st.fr v).2 (.t p tk)).1 = .lastr s) {xs : List AV} {sz : Nat} (hs : (opd st.fr v).2.get s = .pend xs sz) (hl : (opd st.fr v).1.spread.length = n) (hn : n = sz) (hps : p ≠ s) (hno : ((opd st.fr v).2.set p .none).noLast s = true) :
    Fits P G g st (.val (.tup []) { st with fr := ((opd st.fr v).2.set p .none).set s (.list (xs ++ [(opd st.fr v).1.cp]) (.own sz 0)) }) o a w := by
  subst hn
  obtain ⟨g1, k1, s1, _⟩ := k.take hv
  simp only [List.nil_append] at k1
  have hr := k1.read hx
  simp only at hr
  rw [h] at hr
  simp only [VX] at hr
  obtain ⟨xs', sz', ad, c, r1, r2, r3⟩ := hr
  rw [hs] at r1; cases r1
  have hu := k1.ps 0 _ _ rfl
  rw [VF_loose (AV.loose_of_plain hp), VX_plain hp] at hu
  have hc := V.cells hp hu.1
  have hcn : (Act.opd a.tmps u).cells.toList.length = n := by rw [hc.1.len]; exact hl
  have hf := k1.fr s
  simp only at hf
  rw [hs, r2] at hf
  simp only [VF] at hf
  obtain ⟨ad', c', f1, f2, f3, f4, f5⟩ := hf
  cases f1
  obtain ⟨b, q, sp⟩ := ad
  simp only at f4; subst f4
  obtain ⟨hE, htail⟩ := f5.get
  simp only at hE htail r3
  have hle : (xs.length + 1) * n ≤ c * n := Nat.mul_le_mul_right n f2
  rw [Nat.add_mul, Nat.one_mul] at hle
  obtain ⟨w', hw1, hw2⟩ := run_storeVar_each (w := w) ht (b := b) (q := q + xs.length * n) hcn hc.2 (fun j hj => (htail _ (by omega) (by omega)).2)
  have htags : ∀ o, q + xs.length * n ≤ o → o < q + xs.length * n + (Act.opd a.tmps u).cells.toList.length → g1.ow b o = .tail (.fr s) 0 := fun o h1 h2 => (htail o h1 (by omega)).1
  have sm := same_fill hw2 htags
  have hi : (fun t => t ≠ Tag.tail (.fr s) 0) Tag.imm := by simp
  have hlay : Lay g1 w n [(opd st.fr v).1.cp] (Act.opd a.tmps u).cells.toList :=
    RowR.lay ⟨_, [], by simp, by rw [spread_len hp hu.1]; exact hl, (V.cellsCp hp hu.1).1, by simp [RowR]⟩ hc.2
  have hE2 : VE (g1.fill b (q + xs.length * n) (Act.opd a.tmps u).cells.toList.length) w' n (xs ++ [(opd st.fr v).1.cp]) b q :=
    VE.append (VE.mono (sm.ext hi) _ _ _ _ hE) (hlay.2.2 _ _ _ _ (sm.ext hi) fun j u hu => by
      have hj := (List.getElem?_eq_some_iff.1 hu).1
      exact ⟨by rw [fill_in (by omega) (by omega)]; trivial, hw2.new j u hu⟩)
  have hget : ∀ x, (((opd st.fr v).2.set p .none).set s (.list (xs ++ [(opd st.fr v).1.cp]) (.own n 0))).get x = if s = x then .list (xs ++ [(opd st.fr v).1.cp]) (.own n 0) else if p = x then .none else (opd st.fr v).2.get x := fun x => by
    rw [Fr.get_set, Fr.get_set]
  refine fits_skip (w' := w') (g' := g1.fill b (q + xs.length * n) (Act.opd a.tmps u).cells.toList.length) ?_ (Rel.push0 ?_ VF_undef) (s1.trans (stay_fill hw2 htags))
  · simp [execOp, ho, Act.eval_eq, r3, Instr.storeAt, Instr.sureAddr, hw1]
  · refine ⟨fun x => ?_, fun j x cx hj => by simp at hj, k1.hp.same sm hi (fun _ => by simp) (fun _ _ => by simp) (fun _ _ _ => by simp) rfl, fun d o hd => ?_, k1.gl.same sm hi (by simp)⟩
    · simp only
      rw [hget]
      split
      · rename_i e; subst e
        rw [VF_loose rfl, r2]
        refine ⟨?_, ?_⟩
        · simp only [VX, V]
          exact ⟨some ⟨b, q, none⟩, c, by simp, by simpa using f2, f3, (fun e => by cases e), (fun e => by cases e), fun ad e => by cases e; exact ⟨fun _ => rfl, fun h => absurd rfl h, n, hE2⟩⟩
        · simp only [Owns]
          intro ad n' c' e
          cases e
          refine ⟨hE2, fun o h1 h2 => ?_⟩
          simp only [List.length_append, List.length_cons, List.length_nil, Nat.add_mul, Nat.one_mul, Nat.zero_add] at h1 h2
          obtain ⟨t1, t2, t3⟩ := htail o (by omega) h2
          exact ⟨by rw [fill_out (by rw [hcn]; omega)]; exact t1, by rw [hw2.old o (by rw [hcn]; omega)]; exact t2, by rw [hw2.frz o]; exact t3⟩
      · rename_i hsx
        split
        · simp [VF, VX, V, Owns]
        · rename_i hpx
          have f := VF.same (r := .fr x) sm hi (fun _ _ _ => rfl) (fun i => by simpa using fun e => absurd e.symm hsx) (by simp) rfl (k1.fr x)
          refine VF.like2 (fun t cs ht => ?_) (fun t ht ys sz hy => ?_) f
          · refine ⟨cs, ?_⟩
            rw [hget, if_neg (fun e => by subst e; simp only at ht; rw [hs] at ht; cases ht), if_neg (fun e => ?_)]
            · exact ht
            · subst e
              exact opd_lastr_loose h (by simp only at ht; rw [ht]; rfl)
          · have hne : t ≠ s := Fr.noLast_get hno (t := x) (by rw [Fr.get_set, if_neg hpx]; exact ht)
            refine ⟨?_, rfl⟩
            rw [hget, if_neg (fun e => hne e.symm), if_neg (fun e => ?_)]
            · exact hy
            · subst e
              exact opd_lastr_loose h (by simp only at hy; rw [hy]; rfl)
    · rw [hw2.size] at hd
      simp only [Gh.fill]
      rw [k1.fresh d o hd]
      split
      · rename_i hh; obtain ⟨rfl, h1, h2⟩ := hh
        have := htags o h1 h2
        rw [k1.fresh d o hd] at this; cases this
      · rfl
end
end Go.Proofs.Ytajlmldpbhendab.Rf
end
section
/- One operation of the evaluator's tells what the model does. -/
set_option linter.unusedSimpArgs false
set_option linter.unusedVariables false
namespace Go.Proofs.Ytajlmldpbhendab.Rf

section
variable {P : Program} {G : Nat → Option (List AV)} {g : Gh} {st : St} {a : Act} {w : World} {o : Oper} {call : CallF} {lo : Nat} {r : OpR}

set_option maxHeartbeats 4000000 in
theorem op_sound (hc : CallOK P G call) (k : Rel G g st [] a.tmps w) {i : IOp} (hk : chkOp P i o.op = true) (hr : evalOp G call lo i st = some r) : Fits P G g st r o a w := by
  cases i with
  | mv x =>
    simp only [evalOp] at hr; cases ret1_some hr
    simp only [chkOp] at hk; split at hk
    · rename_i ho; exact fits_mv k hk (.inl ho)
    · rename_i ho; exact fits_mv k hk (.inr ho)
    · cases hk
  | pick c x y =>
    simp only [chkOp] at hk; split at hk
    · rename_i ho
      simp only [Bool.and_eq_true] at hk
      simp only [evalOp] at hr; split at hr
      · rename_i t ht; cases ret1_some hr; exact fits_pick k hk.1.1 hk.1.2 hk.2 ho ht
      · cases hr
    · cases hk
  | alloc heap ty cs =>
    simp only [chkOp] at hk; split at hk
    · rename_i ho
      simp only [Bool.and_eq_true, Bool.or_eq_true] at hk
      have := fits_alloc (P := P) k hk.1 ho (ty := ty) (fun h => by
        rcases hk.2 with h2 | h2
        · exact absurd (Nat.eq_of_beq_eq_true h2) h
        · exact Nat.eq_of_beq_eq_true h2) heap
      simp only [evalOp] at hr; cases heap
      · cases ret1_some hr; exact this
      · cases ret1_some hr; exact this
    · cases hk
  | box heap x =>
    simp only [chkOp] at hk; split at hk
    · rename_i ho
      simp only [evalOp] at hr
      split at hr
      · cases hr
      · rename_i hp
        have := fits_box (P := P) k hk ho (by simpa using hp) heap
        cases heap
        · cases ret1_some hr; exact this
        · cases ret1_some hr; exact this
    · cases hk
  | build zs ps =>
    simp only [chkOp] at hk; split at hk
    · rename_i t qs ho
      simp only [Bool.and_eq_true] at hk
      obtain ⟨⟨h1, h2⟩, h3⟩ := hk
      split at h2
      · rename_i pl hpl
        simp only [evalOp] at hr
        split at hr
        · cases hr
        · rename_i hp
          split at hr
          · rename_i cs hcs; cases ret1_some hr
            exact fits_build k h1 hpl h3 h2 (by rw [ho, ← arr_of qs rfl]) (by simpa using hp) hcs
          · cases hr
      · cases h2
    · cases hk
  | bslice z e n ps =>
    simp only [chkOp] at hk; split at hk
    · rename_i t m qs ho
      simp only [Bool.and_eq_true, decide_eq_true_eq] at hk
      obtain ⟨⟨⟨h1, hrt⟩, rfl⟩, h3⟩ := hk
      simp only [evalOp] at hr
      split at hr
      · cases hr
      · rename_i hp
        split at hr
        · rename_i xs hxs; cases ret1_some hr
          exact fits_bslice k h1 hrt h3 (by rw [ho, ← arr_of qs rfl]) (by simpa using hp) hxs
        · cases hr
    · cases hk
  | load x mm n agg tk =>
    simp only [chkOp] at hk; split at hk
    · rename_i t y ho
      simp only [Bool.and_eq_true] at hk
      simp only [evalOp] at hr
      split at hr
      · cases hr
      split at hr
      · rename_i cs off hb
        split at hr
        · rename_i l hl
          cases tk with
          | false => cases ret1_some hr; exact fits_load k hk.1 hk.2 ho hb hl
          | true =>
            simp only [if_true] at hr
            split at hr
            · rename_i hn
              obtain ⟨rfl, rfl⟩ := hn
              split at hr
              · rename_i st' hput; cases ret1_some hr; exact fits_load_take k hk.1 hk.2 ho hb hl hput
              · cases hr
            · cases hr
        · cases hr
      · cases hr
    · cases hk
  | store x mm v n =>
    simp only [chkOp] at hk; split at hk
    · rename_i t y u ho
      simp only [Bool.and_eq_true] at hk
      obtain ⟨⟨h1, h2⟩, h3⟩ := hk
      have hty : ∃ agg, tyOk P t n agg = true := by
        simp only [Bool.or_eq_true] at h3; rcases h3 with h | h <;> exact ⟨_, h⟩
      obtain ⟨agg, hty⟩ := hty
      simp only [evalOp] at hr
      split at hr
      · cases hr
      · rename_i hp
        simp only [not_or, Bool.not_eq_false] at hp
        replace hp := hp.1
        split at hr
        · rename_i s hx
          split at hr
          · rename_i p tk xs sz hs
            split at hr
            · rename_i hh; cases ret1_some hr; exact fits_store_last k h1 h2 hty ho (by simpa using hp) hx hs hh.1 hh.2.1 hh.2.2.1 hh.2.2.2
            · cases hr
          · cases hr
        · split at hr
          · rename_i cs off hb
            split at hr
            · rename_i hn
              split at hr
              · rename_i st' hput; cases ret1_some hr; exact fits_store k h1 h2 hty ho (by simpa using hp) hb hn hput
              · cases hr
            · cases hr
          · cases hr
    · cases hk
  | nilchk x =>
    simp only [chkOp] at hk; split at hk
    · rename_i y ho
      simp only [evalOp] at hr
      split at hr
      · rename_i i q hv; cases ret1_some hr; exact fits_nilchk k hk ho hv (.inl ⟨_, _, rfl⟩)
      · rename_i i q hv; cases ret1_some hr; exact fits_nilchk k hk ho hv (.inr (.inl ⟨_, _, rfl⟩))
      · rename_i i q hv; cases ret1_some hr; exact fits_nilchk k hk ho hv (.inr (.inr ⟨_, _, rfl⟩))
      · cases hr
    · cases hk
  | bin op' x y =>
    simp only [chkOp] at hk; split at hk
    · rename_i b t x' y' t' ho
      simp only [Bool.and_eq_true, decide_eq_true_eq] at hk
      obtain ⟨⟨rfl, h1⟩, h2⟩ := hk
      simp only [evalOp] at hr
      split at hr
      · rename_i v hv; cases ret1_some hr; exact fits_bin k h1 h2 ho hv
      · cases hr
    · cases hk
  | eq neg kd x y =>
    simp only [chkOp] at hk; split at hk
    · rename_i b t x' y' t' ho
      simp only [Bool.and_eq_true, decide_eq_true_eq] at hk
      obtain ⟨⟨⟨rfl, h0⟩, h1⟩, h2⟩ := hk
      simp only [evalOp] at hr
      split at hr
      · rename_i v hv; cases ret1_some hr; exact fits_eq k h1 h2 h0 ho hv
      · cases hr
    · cases hk
  | un op' x =>
    simp only [chkOp] at hk; split at hk
    · rename_i b t x' ho
      simp only [Bool.and_eq_true, decide_eq_true_eq] at hk
      obtain ⟨rfl, h1⟩ := hk
      simp only [evalOp] at hr
      split at hr
      · rename_i v hv; cases ret1_some hr; exact fits_un k h1 ho hv
      · cases hr
    · cases hk
  | conv kk x =>
    simp only [chkOp] at hk; split at hk
    · rename_i s d x' ho
      simp only [Bool.and_eq_true] at hk
      obtain ⟨⟨h1, h2⟩, h3⟩ := hk
      split at h1
      · rename_i ks hs
        split at h2
        · rename_i k' hd
          simp only [decide_eq_true_eq] at h2; subst h2
          simp only [evalOp] at hr
          split at hr
          · rename_i k0 n hv; cases ret1_some hr; exact fits_conv k h3 hs hd ho hv
          · cases hr
        · cases h2
      · cases h1
    · cases hk
  | sconv x =>
    simp only [chkOp] at hk; split at hk
    · rename_i s d x' ho
      simp only [Bool.and_eq_true] at hk
      obtain ⟨⟨h1, h2⟩, h3⟩ := hk
      split at h1
      · rename_i hs
        split at h2
        · rename_i hd
          simp only [evalOp] at hr
          split at hr
          · rename_i n hv; cases ret1_some hr; exact fits_sconv k h3 hs hd ho hv
          · cases hr
        · cases h2
      · cases h1
    · cases hk
  | mkiface t x =>
    simp only [chkOp] at hk; split at hk
    · rename_i t' x' ho
      simp only [Bool.and_eq_true, decide_eq_true_eq] at hk
      obtain ⟨⟨rfl, h1⟩, h2⟩ := hk
      obtain ⟨e, he, hne⟩ := isIface_no h1
      simp only [evalOp] at hr
      split at hr
      · rename_i hp; cases ret1_some hr; exact fits_mkiface k h2 he hne ho hp
      · cases hr
    · cases hk
  | mkfunc f cs =>
    simp only [chkOp] at hk; split at hk
    · rename_i fn first caps ho
      simp only [Bool.and_eq_true, decide_eq_true_eq] at hk
      obtain ⟨⟨h1, h2⟩, h3⟩ := hk
      split at h1
      · simp only [decide_eq_true_eq] at h1; subst h1
        have hfirst : first = #[] := Array.eq_empty_of_size_eq_zero h2
        subst hfirst
        simp only [evalOp] at hr
        split at hr
        · rename_i hp; cases ret1_some hr; exact fits_mkfunc k h3 (by rw [ho, ← arr_of caps rfl]) hp
        · cases hr
      · cases h1
    · cases hk
  | mkmap =>
    simp only [chkOp] at hk; split at hk
    · rename_i t rr ho
      simp only [evalOp] at hr; cases ret1_some hr
      simp only [Option.isNone_iff_eq_none] at hk; subst hk
      exact fits_mkmap k ho
    · cases hk
  | faddr x off =>
    simp only [chkOp] at hk; split at hk
    · rename_i s y f ho
      simp only [Bool.and_eq_true] at hk
      obtain ⟨h1, h2⟩ := hk
      have hf : ∃ n, fieldOk P s f off n = true := by
        revert h2
        repeat' split
        all_goals first | exact fun h => ⟨_, h⟩ | (intro h; cases h)
      obtain ⟨n, hf⟩ := hf
      simp only [evalOp] at hr
      split at hr
      · rename_i i q hv; cases ret1_some hr; exact fits_faddr k h1 hf ho hv (.inl ⟨_, _, rfl, rfl⟩)
      · rename_i i q hv; cases ret1_some hr; exact fits_faddr k h1 hf ho hv (.inr (.inl ⟨_, _, rfl, rfl⟩))
      · rename_i i q hv; cases ret1_some hr; exact fits_faddr k h1 hf ho hv (.inr (.inr (.inl ⟨_, _, rfl, rfl⟩)))
      · rename_i i q hv; cases ret1_some hr; exact fits_faddr k h1 hf ho hv (.inr (.inr (.inr ⟨_, _, rfl, rfl⟩)))
      · cases hr
    · cases hk
  | field x off n agg =>
    simp only [chkOp] at hk; split at hk
    · rename_i s y f ho
      simp only [Bool.and_eq_true] at hk
      simp only [evalOp] at hr
      split at hr
      · rename_i cs hv
        split at hr
        · rename_i l hl; cases ret1_some hr; exact fits_field k hk.1 hk.2 ho hv hl
        · cases hr
      · cases hr
    · cases hk
  | iaddrL x i sz =>
    simp only [chkOp] at hk; split at hk
    · rename_i t y u ho
      simp only [Bool.and_eq_true] at hk
      obtain ⟨⟨h1, h2⟩, h3⟩ := hk
      simp only [evalOp] at hr
      split at hr
      · rename_i xs ow kk j hj hv
        split at hr
        · rename_i hb
          split at hr
          · rename_i e he
            split at hr
            · rename_i hs; cases ret1_some hr; exact fits_iaddrL k h1 h2 h3 ho hv hj hb.1 hb.2 he hs
            · cases hr
          · cases hr
        · cases hr
      · rename_i s tk kk j hj _
        split at hr
        · rename_i xs sz' hv
          split at hr
          · rename_i hb; obtain ⟨hb1, rfl⟩ := hb; cases ret1_some hr; exact fits_iaddrL_last k h1 h2 h3 ho hv hj hb1
          · cases hr
        · cases hr
      · cases hr
    · cases hk
  | iaddrA x i len sz =>
    simp only [chkOp] at hk; split at hk
    · rename_i t y u ho
      simp only [Bool.and_eq_true] at hk
      obtain ⟨⟨h1, h2⟩, h3⟩ := hk
      simp only [evalOp] at hr
      split at hr
      · rename_i id q kk j hv hj
        split at hr
        · rename_i hb; cases ret1_some hr; exact fits_iaddrA k h1 h2 h3 ho hv hj hb.1 hb.2 (.inl ⟨_, _, rfl, rfl⟩)
        · cases hr
      · rename_i id q kk j hv hj
        split at hr
        · rename_i hb; cases ret1_some hr; exact fits_iaddrA k h1 h2 h3 ho hv hj hb.1 hb.2 (.inr (.inl ⟨_, _, rfl, rfl⟩))
        · cases hr
      · rename_i id q kk j hv hj
        split at hr
        · rename_i hb; cases ret1_some hr; exact fits_iaddrA k h1 h2 h3 ho hv hj hb.1 hb.2 (.inr (.inr (.inl ⟨_, _, rfl, rfl⟩)))
        · cases hr
      · rename_i id q kk j hv hj
        split at hr
        · rename_i hb; cases ret1_some hr; exact fits_iaddrA k h1 h2 h3 ho hv hj hb.1 hb.2 (.inr (.inr (.inr ⟨_, _, rfl, rfl⟩)))
        · cases hr
      · cases hr
    · cases hk
  | idxS x i =>
    simp only [chkOp] at hk; split at hk
    · rename_i t y u ho
      simp only [Bool.and_eq_true] at hk
      obtain ⟨⟨h1, h2⟩, h3⟩ := hk
      split at h3
      · rename_i hu
        simp only [evalOp] at hr
        split at hr
        · rename_i s kk j hv hj
          split at hr
          · rename_i h0
            split at hr
            · rename_i c hcc; cases ret1_some hr; exact fits_idxS k h1 h2 hu ho hv hj h0 hcc
            · cases hr
          · cases hr
        · cases hr
      · cases h3
    · cases hk
  | slcS x l h =>
    simp only [chkOp] at hk; split at hk
    · rename_i t y l' h' m' ho
      simp only [Bool.and_eq_true, Option.isNone_iff_eq_none] at hk
      obtain ⟨⟨⟨⟨h1, h2⟩, h3⟩, rfl⟩, h5⟩ := hk
      split at h5
      · rename_i hu
        simp only [evalOp] at hr
        split at hr
        · rename_i s hv
          split at hr
          · rename_i lo' hi' hl hh
            split at hr
            · rename_i hb; cases ret1_some hr; exact fits_slcS k h1 h2 h3 hu ho hv hl hh hb.1 hb.2
            · cases hr
          · cases hr
        · cases hr
      · cases h5
    · cases hk
  | slcL x l h sz =>
    simp only [chkOp] at hk; split at hk
    · rename_i t y l' h' m' ho
      simp only [Bool.and_eq_true, Option.isNone_iff_eq_none] at hk
      obtain ⟨⟨⟨⟨h1, h2⟩, h3⟩, rfl⟩, h5⟩ := hk
      simp only [evalOp] at hr
      split at hr
      · rename_i xs ow hv
        split at hr
        · rename_i lo' hi' hl hh
          split at hr
          · rename_i hb; cases ret1_some hr; exact fits_slcL k h1 h2 h3 h5 ho hv hb.2.2 hl hh hb.1 hb.2.1
          · cases hr
        · cases hr
      · cases hr
    · cases hk
  | lookup kd m kx z ok tk =>
    simp only [chkOp] at hk; split at hk
    · rename_i t m' k' ok' ho
      simp only [Bool.and_eq_true, decide_eq_true_eq] at hk
      obtain ⟨⟨⟨h1, h2⟩, h3⟩, rfl⟩ := hk
      simp only [evalOp] at hr
      split at hr
      · rename_i id hm
        split at hr
        · rename_i es hes
          split at hr
          · cases hr
          · rename_i hp
            split at hr
            · rename_i j v hfk
              cases tk with
              | true =>
                simp only [if_true] at hr
                split at hr
                · rename_i hlv; cases ret1_some hr; exact fits_lookup_take k h1 h2 h3 ho (by simpa using hp) hm hes hfk hlv.2
                · cases hr
              | false =>
                cases ret1_some hr
                exact fits_lookup k h1 h2 h3 ho (by simpa using hp) (.inr ⟨id, hm, hes⟩) hfk
            · rename_i hfk
              cases ret1_some hr
              exact fits_lookup k h1 h2 h3 ho (by simpa using hp) (.inr ⟨id, hm, hes⟩) hfk
            · cases hr
        · cases hr
      · rename_i hm
        split at hr
        · cases hr
        · rename_i hp
          simp only [findKey] at hr
          cases ret1_some hr
          exact fits_lookup k h1 h2 h3 ho (by simpa using hp) (.inl ⟨hm, rfl⟩) (r := none) rfl
      · cases hr
    · cases hk
  | mapset kd m kx v z =>
    simp only [chkOp] at hk; split at hk
    · rename_i t m' k' v' ho
      simp only [Bool.and_eq_true] at hk
      obtain ⟨⟨⟨h1, h2⟩, h3⟩, h4⟩ := hk
      simp only [evalOp] at hr
      split at hr
      · cases hr
      · rename_i hp
        simp only [not_or, Bool.not_eq_false] at hp
        split at hr
        · rename_i id hm
          split at hr
          · rename_i es hes
            split at hr
            · split at hr
              · rename_i j v hfk; cases ret1_some hr; exact fits_mapset k h1 h2 h3 h4 ho hp.1 hp.2 hm hes hfk
              · rename_i hfk; cases ret1_some hr; exact fits_mapset k h1 h2 h3 h4 ho hp.1 hp.2 hm hes hfk
              · cases hr
            · cases hr
          · cases hr
        · cases hr
    · cases hk
  | len x kd =>
    simp only [chkOp] at hk; split at hk
    · rename_i c ho
      split at hk
      · rename_i hcal
        split at hk
        · rename_i x' t ha hts
          simp only [Bool.and_eq_true] at hk
          obtain ⟨h1, h2⟩ := hk
          rw [call_eq hcal ha hts] at ho
          simp only [evalOp] at hr
          split at hr
          · rename_i xs ow hv; cases ret1_some hr
            split at h2 <;> first | (cases h2; done) | (exfalso; contradiction) | (rename_i e hu; exact fits_len k h1 hu ho (.inl ⟨xs, ow, hv, rfl, _, rfl⟩))
          · rename_i s hv; cases ret1_some hr
            split at h2 <;> first | (cases h2; done) | (exfalso; contradiction) | (rename_i hu; exact fits_len k h1 hu ho (.inr (.inl ⟨s, hv, rfl, rfl⟩))) | cases h2
          · rename_i hv; cases ret1_some hr
            split at h2 <;> first | (cases h2; done) | (exfalso; contradiction) | (rename_i kt e hu; exact fits_len k h1 hu ho (n := 0) (.inr (.inr (.inl ⟨hv, rfl, _, _, rfl⟩))))
          · rename_i id hv
            split at hr
            · rename_i es hes; cases ret1_some hr
              split at h2 <;> first | (cases h2; done) | (exfalso; contradiction) | (rename_i kt e hu; exact fits_len k h1 hu ho (.inr (.inr (.inr ⟨id, es, hv, hes, rfl, _, _, rfl⟩))))
            · cases hr
          · cases hr
        · cases hk
      · cases hk
    · cases hk
  | konst v =>
    simp only [chkOp] at hk; split at hk
    · rename_i c ho
      split at hk
      · rename_i hcal
        split at hk
        · rename_i x' t ha hts
          rw [call_eq hcal ha hts] at ho
          split at hk
          · rename_i n e m hu
            simp only [decide_eq_true_eq] at hk; subst hk
            simp only [evalOp] at hr; cases ret1_some hr
            exact fits_konst k hu ho
          · cases hk
        · cases hk
      · cases hk
    · cases hk
  | append x y sz e bytes pend =>
    simp only [chkOp] at hk; split at hk
    · rename_i c ho
      split at hk
      · rename_i hcal
        split at hk
        · rename_i x' y' t t2 ha hts
          simp only [Bool.and_eq_true] at hk
          obtain ⟨⟨⟨⟨h1, h2⟩, h3⟩, hrt⟩, h4⟩ := hk
          rw [call_eq hcal ha hts] at ho
          simp only [evalOp] at hr
          split at hr
          · rename_i xs ow hv
            split at hr
            · rename_i hown
              split at hr
              · rename_i ys ow2 hy
                split at hr
                · rename_i hb
                  have hsrc : ∀ g', VX g' w (opd st.fr x).2 a.tmps (opd (opd st.fr x).2 y).1 (Act.opd a.tmps y') → ∃ news, Src P g' w sz ys (Act.opd a.tmps y') news := fun g' h => by
                    rw [hy] at h; exact Src.list h hb.1
                  cases pend with
                  | true =>
                    simp only [if_true] at hr
                    split at hr
                    · rename_i h1'; cases ret1_some hr
                      exact fits_append k h1 h2 h3 hrt h4 ho hv hown.1 hown.2 hsrc hb.2.1 hb.2.2 true (fun _ => h1'.1)
                    · cases hr
                  | false => cases ret1_some hr; exact fits_append k h1 h2 h3 hrt h4 ho hv hown.1 hown.2 hsrc hb.2.1 hb.2.2 false (fun h => by cases h)
                · cases hr
              · rename_i s hy
                split at hr
                · rename_i hb
                  obtain ⟨rfl, hb2, rfl, hb3⟩ := hb
                  cases ret1_some hr
                  exact fits_append (ys := s.map fun b => AV.int .u8 b.toNat) k h1 h2 h3 hrt h4 ho hv hown.1 hown.2 (fun g' h => by
                    rw [hy] at h; simp only [VX, V] at h; rw [h]; exact ⟨_, Src.str s⟩) (by simpa using hb2) (by simpa using hb3) false (fun h => by cases h)
                · cases hr
              · cases hr
            · cases hr
          · cases hr
        · cases hk
      · cases hk
    · cases hk
  | min x y =>
    simp only [chkOp] at hk; split at hk
    · rename_i c ho
      split at hk
      · rename_i hcal
        split at hk
        · rename_i x' y' ha
          simp only [Bool.and_eq_true] at hk
          rw [call_eq hcal ha rfl] at ho
          simp only [evalOp] at hr
          split at hr
          · rename_i h1 h2; cases ret1_some hr; exact fits_min k hk.1 hk.2 ho h1 h2
          · cases hr
        · cases hk
      · cases hk
    · cases hk
  | max x y =>
    simp only [chkOp] at hk; split at hk
    · rename_i c ho
      split at hk
      · rename_i hcal
        split at hk
        · rename_i x' y' ha
          simp only [Bool.and_eq_true] at hk
          rw [call_eq hcal ha rfl] at ho
          simp only [evalOp] at hr
          split at hr
          · rename_i h1 h2; cases ret1_some hr; exact fits_max k hk.1 hk.2 ho h1 h2
          · cases hr
        · cases hk
      · cases hk
    · cases hk
  | extract x i =>
    simp only [chkOp] at hk; split at hk
    · rename_i x' i' ho
      simp only [Bool.and_eq_true, decide_eq_true_eq] at hk
      obtain ⟨rfl, h1⟩ := hk
      simp only [evalOp] at hr
      split at hr
      · rename_i vs hv
        split at hr
        · rename_i u hu
          split at hr
          · rename_i hp; cases ret1_some hr; exact fits_extract k h1 ho hv hu hp
          · cases hr
        · cases hr
      · cases hr
    · cases hk
  | assert x t z ok =>
    simp only [chkOp] at hk; split at hk
    · rename_i x' xt t' ok' ho
      simp only [Bool.and_eq_true, decide_eq_true_eq] at hk
      obtain ⟨⟨⟨⟨rfl, rfl⟩, h1⟩, h2⟩, h3⟩ := hk
      obtain ⟨e, he, hne⟩ := isIface_no h2
      simp only [evalOp] at hr
      split at hr
      · rename_i u v hv
        split at hr
        · rename_i hut; subst hut; cases ret1_some hr
          exact fits_assert k h1 he hne h3 ho (.inl ⟨v, hv, rfl⟩)
        · rename_i hut
          split at hr
          · rename_i hok; cases ret1_some hr
            exact fits_assert k h1 he hne h3 ho (.inr ⟨hok, rfl, .inr ⟨u, v, hut, hv⟩⟩)
          · cases hr
      · rename_i hv
        split at hr
        · rename_i hok; cases ret1_some hr
          exact fits_assert k h1 he hne h3 ho (.inr ⟨hok, rfl, .inl hv⟩)
        · cases hr
      · cases hr
    · cases hk
  | panic x =>
    simp only [chkOp] at hk; split at hk
    · rename_i x' ho
      simp only [evalOp] at hr
      split at hr
      · rename_i t v hv; simp only [Option.some.injEq] at hr; subst hr; exact fits_panic k hk ho hv
      · cases hr
    · cases hk
  | call f xs q =>
    simp only [chkOp] at hk; split at hk
    · rename_i c ho
      split at hk
      · rename_i f' hcal
        simp only [Bool.and_eq_true] at hk
        rw [call_eq hcal rfl rfl] at ho
        simp only [evalOp] at hr
        split at hr
        · cases hr
        · rename_i hp
          split at hr
          · rename_i fid caps hv
            split at hr
            · cases hr
            · rename_i hpc
              split at hr
              · rename_i v hp' hcall; cases ret1_some hr
                exact fits_call (r := .ret v hp') hc k hk.1 hk.2 ho (by simpa using hp) hv (by simpa using hpc) hcall
              · rename_i v hp' hcall; simp only [Option.some.injEq] at hr; subst hr
                exact fits_call (r := .pan v hp') hc k hk.1 hk.2 ho (by simpa using hp) hv (by simpa using hpc) hcall
              · cases hr
          · cases hr
      · cases hk
    · cases hk
  | sdata x e =>
    simp only [chkOp] at hk; split at hk
    · rename_i c ho
      split at hk
      · rename_i hcal
        split at hk
        · rename_i x' ha
          rw [call_eq hcal ha rfl] at ho
          simp only [evalOp] at hr
          split at hr
          · rename_i xs hv; cases ret1_some hr; exact fits_sdata_nil k hk ho hv
          · rename_i xs e' hv
            split at hr
            · rename_i hh; cases ret1_some hr
              obtain ⟨q1, rfl, q2, q3⟩ := hh
              exact fits_sdata k hk ho hv (by intro h; rw [h] at q1; simp at q1) q2 q3
            · cases hr
          · cases hr
        · cases hk
      · cases hk
    · cases hk
  | ustr p n e =>
    simp only [chkOp] at hk; split at hk
    · rename_i c ho
      split at hk
      · rename_i hcal
        split at hk
        · rename_i p' n' pt it ha hts
          simp only [Bool.and_eq_true] at hk
          rw [call_eq hcal ha hts] at ho
          obtain ⟨⟨h1, h2⟩, h3⟩ := hk
          simp only [evalOp] at hr
          split at hr
          · rename_i m hp hn
            split at hr
            · rename_i hm; subst hm; cases ret1_some hr; exact fits_ustr_nil k h1 h2 ho hp hn
            · cases hr
          · rename_i xs e' m hp hn
            split at hr
            · rename_i bs hb
              split at hr
              · rename_i hh; cases ret1_some hr
                obtain ⟨rfl, q1, rfl, q2⟩ := hh
                split at h3
                · rename_i e2 hu
                  simp only [Bool.and_eq_true] at h3
                  have he := Nat.eq_of_beq_eq_true h3.1
                  subst he
                  exact fits_ustr k h1 h2 hu (Nat.eq_of_beq_eq_true h3.2) ho hp hn hb (by intro h; rw [h] at q1; simp at q1) (by omega)
                · cases h3
              · cases hr
            · cases hr
          · cases hr
        · cases hk
      · cases hk
    · cases hk
  | uptr x u n =>
    simp only [chkOp] at hk; split at hk
    · rename_i s d x' ho
      simp only [Bool.and_eq_true] at hk
      simp only [evalOp] at hr
      split at hr
      · rename_i i j hv
        split at hr
        · rename_i ty cs hh
          split at hr
          · rename_i hq; cases ret1_some hr
            obtain ⟨rfl, rfl, q1, q2, q3⟩ := hq
            exact fits_uptr k hk.2 hk.1 ho hv hh q1 q2 (by intro h; rw [h] at q2; simp at q2; exact q3 q2.symm)
          · cases hr
        · cases hr
      · cases hr
    · cases hk
  | ident f x =>
    simp only [chkOp] at hk; split at hk
    · rename_i c ho
      split at hk
      · rename_i f' hcal
        simp only [Bool.and_eq_true, decide_eq_true_eq] at hk
        obtain ⟨⟨rfl, h1⟩, h2⟩ := hk
        split at h2
        · rename_i x' ha
          rw [call_eq hcal ha rfl] at ho
          simp only [evalOp] at hr
          split at hr
          · rename_i i j hv; cases ret1_some hr
            unfold identOk at h1
            split at h1
            · rename_i fn hf
              simp only [Bool.and_eq_true, Bool.not_eq_true', beq_iff_eq, beq_eq_false_iff_ne, ne_eq, Option.isNone_iff_eq_none] at h1
              obtain ⟨⟨⟨q1, q2⟩, q3⟩, q4⟩ := h1
              have hfind : Extern.find fn = some Extern.AbiNoEscape.same := noEscape_find q4
              exact fits_ident k hf (by simpa using q1) (by simp [q2]) q3 hfind h2 ho hv
            · cases h1
          · cases hr
        · cases h2
      · cases hk
    · cases hk
  | mkslice z e n c bytes =>
    simp only [chkOp] at hk; split at hk
    · rename_i t n' c' ho
      simp only [Bool.and_eq_true] at hk
      obtain ⟨⟨⟨h1, h2⟩, h3⟩, h4⟩ := hk
      simp only [evalOp] at hr
      split at hr
      · rename_i l m hn hc
        split at hr
        · rename_i hq; cases ret1_some hr
          exact fits_mkslice k h1 h2 h3 h4 ho hn hc hq.1 hq.2.1 hq.2.2.1 hq.2.2.2
        · cases hr
      · cases hr
    · cases hk
end
end Go.Proofs.Ytajlmldpbhendab.Rf
end
section
/- Operations one behind the other. -/
set_option linter.unusedSimpArgs false
set_option linter.unusedVariables false
namespace Go.Proofs.Ytajlmldpbhendab.Rf

/-- How many slots a function has, and which of them stand. -/
structure NK where
  n : Nat
  K : List Nat
structure NT extends NK where
  tm0 : Array Value
structure NT.ok (nt : NT) (tm : Array Value) : Prop where
  size : tm.size = nt.n
  keep : ∀ s, s ∈ nt.K → tm.getD s undef = nt.tm0.getD s undef
def ExQ (g : Gh) (w : World) (a : Act) (Q : Exit → Act → World → Prop) : Ex → Prop
  | .normal => Q .normal a w
  | .exit id => Q (.exit id) a w
  | .ret => Q .ret a w
  | .pan v => ∀ cv, V g w v cv → v.plain = true → Q (.panic [{ v := cv, recovered := false }]) a w
/-- What is owed behind a step. -/
def Goes (G : Nat → Option (List AV)) (nt : NT) (df : List Deferred) (g : Gh) (w : World) (st : St) (ex : Ex) (Q : Exit → Act → World → Prop) : Prop :=
  ∀ g' a' w', nt.ok a'.tmps → a'.defers = df → Rel G g' st [] a'.tmps w' → Stay g w g' w' → ExQ g' w' a' Q ex
theorem Goes.after {G : Nat → Option (List AV)} {nt : NT} {df : List Deferred} {g g1 : Gh} {w w1 : World} {st : St} {ex : Ex} {Q : Exit → Act → World → Prop} (s : Stay g w g1 w1) (h : Goes G nt df g w st ex Q) : Goes G nt df g1 w1 st ex Q :=
  fun g' a' w' h1 h2 h3 h4 => h g' a' w' h1 h2 h3 (s.trans h4)

section
variable {P : Program} {G : Nat → Option (List AV)} {g g' : Gh} {st : St} {a : Act} {w w' : World} {o : Oper} {tm : Array Value} {call : CallF} {lo : Nat}

theorem VF.like3 {fr fr' : Fr} {tm' : Array Value} {r : Root} {v : AV} {cv : Value} (hb : ∀ t o, v = .lref t o → ∀ cs, fr.get t = .box cs → ∃ cs', fr'.get t = .box cs')
    (hp : ∀ t, v = .lastr t → ∀ xs sz, fr.get t = .pend xs sz → fr'.get t = .pend xs sz ∧ tm'.getD t undef = tm.getD t undef) (h : VF g w fr tm r v cv) : VF g w fr' tm' r v cv := by
  cases v <;> simp only [VF, VX] at h ⊢ <;> first
    | exact h
    | (obtain ⟨⟨h1, cs, h2⟩, h3⟩ := h; exact ⟨⟨h1, hb _ _ rfl cs h2⟩, h3⟩)
    | (obtain ⟨⟨xs, sz, a, c, h1, h2, h3⟩, h4⟩ := h; obtain ⟨p, q⟩ := hp _ rfl xs sz h1; exact ⟨⟨xs, sz, a, c, p, q.trans h2, h3⟩, h4⟩)
theorem keepOk_get {fr : Fr} {live : List Nat} : ∀ {l : List Nat}, fr.keepOk l live = true → ∀ s ∈ l, (∀ t o, fr.get s = .lref t o → t ∈ live) ∧ ∀ t, fr.get s = .lastr t → t ∈ live
  | [], _, s, hs => by simp at hs
  | x :: l, h, s, hs => by
    simp only [Fr.keepOk, Bool.and_eq_true] at h
    rcases List.mem_cons.1 hs with rfl | hs
    · refine ⟨fun t o e => ?_, fun t e => ?_⟩
      · have := h.1; rw [e] at this; simpa using this
      · have := h.1; rw [e] at this; simpa using this
    · exact keepOk_get h.2 s hs
theorem Rel.keep (k : Rel G g st [] tm w) {live : List Nat} (h : st.fr.keepOk live live = true) : Rel G g { st with fr := st.fr.keep live } [] tm w := by
  refine ⟨fun s => ?_, fun j v cv hj => by simp at hj, k.hp, k.fresh, k.gl⟩
  simp only
  rw [Fr.get_keep]
  split
  · rename_i hs
    obtain ⟨h1, h2⟩ := keepOk_get h s hs
    refine VF.like3 (fun t o e cs hc => ⟨cs, ?_⟩) (fun t e xs sz hc => ⟨?_, rfl⟩) (k.fr s)
    · rw [Fr.get_keep, if_pos (h1 t o e)]; exact hc
    · rw [Fr.get_keep, if_pos (h2 t e)]; exact hc
  · simp [VF, VX, V, Owns]

/-! one of a region's operations -/
def chkGuard (nt : NK) (ops : Array Oper) : Option (Nat × Bool) → Option (Nat × Bool) → Bool
  | none, none => true
  | some (s, b), some (j, b') => decide (b = b') && decide (s < nt.n) && (match ops[j]? with | some q => decide (q.dst = some s) | none => false)
  | _, _ => false
def dstOk (nt : NK) : Option Nat → Bool
  | some d => decide (d < nt.n) && !nt.K.contains d
  | none => true
def chkOper (P : Program) (nt : NK) (ops : Array Oper) (i : IOper) (o : Oper) : Bool := decide (i.dst = o.dst) && dstOk nt i.dst && chkGuard nt ops i.guard o.guard && chkOp P i.op o.op

theorem wanted_ok {nt : NT} {ops : Array Oper} {ig : Option (Nat × Bool)} (hg : chkGuard nt.toNK ops ig o.guard = true) (k : Rel G g st [] a.tmps w) (hn : nt.ok a.tmps) {t : Bool} (h : wanted st.fr ig = some t) : Region.wanted o (yielded ops a.tmps) = t := by
  unfold Region.wanted
  cases ig with
  | none =>
    cases ho : o.guard with
    | none => simp [wanted] at h; simp [h]
    | some x => rw [ho] at hg; simp [chkGuard] at hg
  | some x =>
    obtain ⟨s, b⟩ := x
    cases ho : o.guard with
    | none => rw [ho] at hg; simp [chkGuard] at hg
    | some y =>
      obtain ⟨j, b'⟩ := y
      rw [ho] at hg
      simp only [chkGuard, Bool.and_eq_true, decide_eq_true_eq] at hg
      obtain ⟨⟨rfl, h2⟩, h3⟩ := hg
      cases hq : ops[j]? with
      | none => rw [hq] at h3; simp at h3
      | some q =>
        rw [hq] at h3; simp only [decide_eq_true_eq] at h3
        have f := k.fr s
        have hlt : s < a.tmps.size := by rw [hn.size]; exact h2
        have hget : a.tmps[s]? = some (a.tmps.getD s undef) := by simp [hlt]
        have hy : yielded ops a.tmps j = match a.tmps.getD s undef with | .bool b => some b | _ => none := by
          unfold yielded
          rw [hq]; simp only [Option.bind_some, h3, hget]
          cases a.tmps.getD s undef <;> rfl
        simp only [wanted] at h
        simp only [hy]
        cases hv : st.fr.get s <;> rw [hv] at h f <;> try (simp at h; done)
        case bool t' =>
          simp at h
          simp only [VF, VX, V] at f
          rw [f.1]; subst h; simp
        case tup vs =>
          cases vs with
          | nil =>
            simp at h; subst h
            simp only [VF, VX, V] at f
            obtain ⟨⟨us, e, h5⟩, _⟩ := f
            rw [e]; simp
          | cons x xs => simp at h
theorem St.put_ok {v : AV} {cv : Value} {d : Option Nat} {st' : St} {nt : NT} (k : Rel G g st [(v, cv)] a.tmps w) (hn : nt.ok a.tmps) (hd : dstOk nt.toNK d = true) (h : st.put d v = some st') :
    ∃ g', Rel G g' st' [] (a.put d cv).tmps w ∧ Stay g w g' w ∧ nt.ok (a.put d cv).tmps ∧ (a.put d cv).defers = a.defers := by
  cases d with
  | none => simp [St.put] at h; subst h; exact ⟨g, k.less, Stay.refl g w, hn, rfl⟩
  | some d =>
    simp only [St.put] at h
    split at h
    · rename_i hl; cases h
      simp only [dstOk, Bool.and_eq_true, decide_eq_true_eq, Bool.not_eq_true'] at hd
      obtain ⟨g', k', s, _⟩ := k.into hl (by rw [hn.size]; exact hd.1)
      refine ⟨g', k', s, ⟨by simp [Act.put, hn.size], fun t ht => ?_⟩, rfl⟩
      have hne : d ≠ t := fun e => by
        have := hd.2; rw [e, List.contains_iff_mem.2 ht] at this; cases this
      rw [← hn.keep t ht]
      simp only [Act.put, Array.getD_eq_getD_getElem?, Array.getElem?_setIfInBounds]
      rw [if_neg hne]
    · cases h
theorem evalOps_cons {x : IOper} {r : List IOper} : evalOps G call lo (x :: r) st = match evalOps G call lo [x] st with | some (.normal, st') => evalOps G call lo r st' | e => e := by
  simp only [evalOps]
  cases wanted st.fr x.guard with
  | none => rfl
  | some t =>
    cases t
    · simp only []
      cases st.put x.dst (.tup []) <;> rfl
    · simp only []
      cases evalOp G call lo x.op st with
      | none => rfl
      | some e =>
        cases e with
        | val v st' => simp only []; cases st'.put x.dst v <;> rfl
        | pan v st' => rfl
theorem op1 (hc : CallOK P G call) {nt : NT} {ops : Array Oper} {i : Nat} {io : IOper} (hi : ops[i]? = some o) (hk : chkOper P nt.toNK ops io o = true) (k : Rel G g st [] a.tmps w) (hn : nt.ok a.tmps) {ex : Ex} {st' : St}
    (hr : evalOps G call lo [io] st = some (ex, st')) {K : Act → World → Prop} {Q : Exit → Act → World → Prop} (h : Goes G nt a.defers g w st' ex (fun e a w => match e with | .normal => K a w | e => Q e a w)) : wpOp P ops Q i K a w := by
  simp only [chkOper, Bool.and_eq_true, decide_eq_true_eq] at hk
  obtain ⟨⟨⟨h1, h2⟩, h3⟩, h4⟩ := hk
  unfold wpOp
  rw [hi]; simp only
  simp only [evalOps] at hr
  cases hw : wanted st.fr io.guard with
  | none => rw [hw] at hr; simp at hr
  | some t =>
    rw [wanted_ok h3 k hn hw]
    rw [hw] at hr
    cases t with
    | false =>
      simp only at hr
      cases hp : st.put io.dst (.tup []) with
      | none => rw [hp] at hr; simp at hr
      | some s2 =>
        rw [hp] at hr; simp at hr; obtain ⟨rfl, rfl⟩ := hr
        obtain ⟨g2, k2, s3, e1, e2⟩ := St.put_ok (k.push0 (v := .tup []) (cv := undef) VF_undef) hn h2 hp
        simp only [Bool.false_eq_true, if_false]
        rw [← h1]
        exact h g2 _ w e1 e2 k2 s3
    | true =>
      simp only at hr
      simp only [if_true]
      refine .inl ?_
      cases he : evalOp G call lo io.op st with
      | none => rw [he] at hr; simp at hr
      | some e =>
        rw [he] at hr
        refine op_sound hc k h4 he _ _ (fun g1 w1 v s1 cv e1 k1 t1 => ?_) (fun g1 w1 v s1 cv e1 hv hp k1 t1 => ?_)
        · subst e1
          simp only at hr
          cases hp : s1.put io.dst v with
          | none => rw [hp] at hr; simp at hr
          | some s2 =>
            rw [hp] at hr; simp at hr; obtain ⟨rfl, rfl⟩ := hr
            obtain ⟨g2, k2, s3, e1, e2⟩ := St.put_ok k1 hn h2 hp
            rw [← h1]
            exact h g2 _ w1 e1 e2 k2 (t1.trans s3)
        · subst e1
          simp at hr; obtain ⟨rfl, rfl⟩ := hr
          exact h g1 a w1 hn rfl k1 t1 cv hv hp
/-- pairwise -/
def chkOpers (P : Program) (nt : NK) (ops : Array Oper) : List IOper → List Oper → Bool
  | [], [] => true
  | i :: is, o :: os => chkOper P nt ops i o && chkOpers P nt ops is os
  | _, _ => false
theorem chkOpers_get {nt : NK} {ops : Array Oper} : ∀ {is : List IOper} {os : List Oper}, chkOpers P nt ops is os = true → is.length = os.length ∧ ∀ (j : Nat) i o, is[j]? = some i → os[j]? = some o → chkOper P nt ops i o = true
  | [], [], _ => ⟨rfl, fun j i o h => by simp at h⟩
  | i :: is, o :: os, h => by
    simp only [chkOpers, Bool.and_eq_true] at h
    obtain ⟨h1, h2⟩ := chkOpers_get h.2
    refine ⟨by simp [h1], fun j x y hx hy => ?_⟩
    cases j with
    | zero => simp at hx hy; subst hx; subst hy; exact h.1
    | succ j => exact h2 j x y (by simpa using hx) (by simpa using hy)
  | [], _ :: _, h => by simp [chkOpers] at h
  | _ :: _, [], h => by simp [chkOpers] at h
theorem ops_sound (hc : CallOK P G call) {nt : NT} {ops : Array Oper} {Q : Exit → Act → World → Prop} : ∀ (l : List Nat) (is : List IOper), is.length = l.length → (∀ (j : Nat) i x, is[j]? = some i → l[j]? = some x → ∃ o, ops[x]? = some o ∧ chkOper P nt.toNK ops i o = true) →
    ∀ {g : Gh} {st : St} {a : Act} {w : World}, Rel G g st [] a.tmps w → nt.ok a.tmps → ∀ {ex : Ex} {st' : St}, evalOps G call lo is st = some (ex, st') → Goes G nt a.defers g w st' ex Q → wpOps P ops Q l a w
  | [], [], _, _, g, st, a, w, k, hn, ex, st', hr, h => by
    simp [evalOps] at hr; obtain ⟨rfl, rfl⟩ := hr
    exact h g a w hn rfl k (Stay.refl g w)
  | x :: l, i :: is, hl, hall, g, st, a, w, k, hn, ex, st', hr, h => by
    obtain ⟨o, ho, hko⟩ := hall 0 i x rfl rfl
    rw [wpOps_cons]
    rw [evalOps_cons] at hr
    cases h1 : evalOps G call lo [i] st with
    | none => rw [h1] at hr; simp at hr
    | some e =>
      obtain ⟨ex1, st1⟩ := e
      rw [h1] at hr
      refine op1 hc ho hko k hn h1 fun g1 a1 w1 e1 e2 k1 s1 => ?_
      cases ex1 with
      | normal =>
        simp only at hr
        exact ops_sound hc l is (by simpa using hl) (fun j i x a b => hall (j + 1) i x (by simpa using a) (by simpa using b)) k1 e1 hr (by rw [e2]; exact h.after s1)
      | pan v =>
        simp at hr; obtain ⟨rfl, rfl⟩ := hr
        exact h g1 a1 w1 e1 e2 k1 s1
      | exit id => simp at hr; obtain ⟨rfl, rfl⟩ := hr; exact h g1 a1 w1 e1 e2 k1 s1
      | ret => simp at hr; obtain ⟨rfl, rfl⟩ := hr; exact h g1 a1 w1 e1 e2 k1 s1
  | [], _ :: _, hl, _, _, _, _, _, _, _, _, _, _, _ => by simp at hl
  | _ :: _, [], hl, _, _, _, _, _, _, _, _, _, _, _ => by simp at hl
end
end Go.Proofs.Ytajlmldpbhendab.Rf
end
section
/- Into a call and out of it. -/
set_option linter.unusedSimpArgs false
set_option linter.unusedVariables false
namespace Go.Proofs.Ytajlmldpbhendab.Rf

section
variable {P : Program} {G : Nat → Option (List AV)} {g g' : Gh} {st : St} {a : Act} {w w' : World} {o : Oper} {tm : Array Value} {call : CallF} {lo : Nat}

/-! in -/
def Tag.inn : Tag → Tag
  | .box (.fr _) => .out
  | .tail (.fr _) _ => .out
  | .box (.arg j) => .box (.fr j)
  | .tail (.arg j) i => .tail (.fr j) i
  | t => t
def Gh.inn (g : Gh) : Gh := { g with ow := fun b o => (g.ow b o).inn }
def Tag.noroot : Tag → Prop
  | .box (.fr _) | .tail (.fr _) _ | .box (.arg _) | .tail (.arg _) _ => False
  | _ => True
theorem Tag.inn_noroot {t : Tag} (h : t.noroot) : t.inn = t := by
  cases t <;> try rfl
  case box r => cases r <;> first | rfl | exact h.elim
  case tail r i => cases r <;> first | rfl | exact h.elim
theorem same_inn (g : Gh) (w : World) : Same Tag.noroot g w g.inn w :=
  ⟨fun _ _ _ h => Tag.inn_noroot h, fun _ _ _ _ => rfl, fun _ _ _ _ _ => rfl, fun _ _ _ => rfl, fun _ _ _ h => h, fun _ => trivial, fun _ _ h => h⟩
theorem stay_of_same {T : Tag → Prop} (h : Same T g w g' w) (ho : T .out) (hi : T .imm) : Stay g w g' w :=
  { ow := fun b o hl ht => h.ow b o hl (by have he := h.te hi; revert ht; cases g.ow b o <;> simp [Tag.kept] <;> assumption)
    cell := fun _ _ _ _ => rfl, frz := fun _ _ _ _ _ => rfl, blk := fun _ _ _ => rfl, row := fun _ _ _ h => h, te := fun _ => trivial, hb := h.hb, os := rfl, tape := rfl, output := rfl, size := Nat.le_refl _ }
theorem get_enter : ∀ (k : Nat) (vs : List AV) (s : Nat), (enter k vs).get s = if k ≤ s then (vs[s - k]?).getD .none else .none
  | k, [], s => by simp [enter, Fr.get]
  | k, v :: r, s => by
    simp only [enter, Fr.get]
    by_cases h : k = s
    · subst h; simp
    · rw [if_neg h, get_enter (k + 1) r s]
      by_cases h2 : k ≤ s
      · rw [if_pos h2, if_pos (by omega), show s - k = (s - (k + 1)) + 1 by omega]; simp
      · rw [if_neg h2, if_neg (by omega)]
theorem Rel.enter {vs : List AV} {us : List Value} {hp : List HObj} (k : Rel G g ⟨[], hp⟩ (vs.zip us) #[] w) (hl : us.length = vs.length) (hpl : plains vs = true) (n : Nat) :
    Rel G g.inn ⟨Rf.enter 0 vs, hp⟩ [] (us.toArray ++ Array.replicate n undef) w ∧ Stay g w g.inn w := by
  have sm := same_inn g w
  refine ⟨⟨fun s => ?_, fun j v cv hj => by simp at hj, k.hp.same sm trivial (fun _ => trivial) (fun _ _ => trivial) (fun _ _ _ => trivial) rfl, fun b o hb => by show (g.ow b o).inn = _; rw [k.fresh b o hb]; rfl, k.gl.same sm trivial trivial⟩, stay_of_same sm trivial trivial⟩
  simp only
  rw [get_enter]
  simp only [Nat.zero_le, if_true, Nat.sub_zero]
  cases hv : vs[s]? with
  | none => simp [VF, VX, V, Owns]
  | some v =>
    have hs := (List.getElem?_eq_some_iff.1 hv).1
    have hu : us[s]? = some us[s] := List.getElem?_eq_getElem (by omega)
    have hpv : v.plain = true := by
      simp only [plains, List.all_eq_true] at hpl; exact hpl v (List.mem_of_getElem? hv)
    have f := k.ps s v us[s] (by rw [List.getElem?_zip_eq_some]; exact ⟨hv, hu⟩)
    rw [VF_loose (AV.loose_of_plain hpv), VX_plain hpv] at f
    have htm : (us.toArray ++ Array.replicate n undef).getD s undef = us[s] := by
      have : s < us.length := by omega
      simp [Array.getElem?_append, this]
    simp only [Option.getD_some]
    rw [htm, VF_loose (AV.loose_of_plain hpv), VX_plain hpv]
    refine ⟨V.mono (sm.ext trivial) _ _ f.1, ?_⟩
    have tl : ∀ i xs sz cv, Tail g w (.arg s) i xs sz cv → Tail g.inn w (.fr s) i xs sz cv := fun i xs sz cv h a n c e => by
      obtain ⟨h1, h2⟩ := h a n c e
      refine ⟨VE.mono (sm.ext trivial) _ _ _ _ h1, fun o ho ho' => ?_⟩
      obtain ⟨p, q⟩ := h2 o ho ho'
      exact ⟨by show (g.ow _ _).inn = _; rw [p]; rfl, q⟩
    have fo := f.2
    unfold Owns at *
    split
    · exact tl _ _ _ _ fo
    · rename_i vs' 
      exact fun us e => fun i xs sz e0 cv h1 h2 => tl _ _ _ _ (fo us e i xs sz e0 cv h1 h2)
    · trivial

/-! out -/
def IRes.slot : IRes → Nat
  | .tmp s => s
  | .cell s _ _ => s
def find (s : Nat) : List Nat → Nat → Option Nat
  | [], _ => none
  | x :: r, i => if x = s then some i else find s r (i + 1)
theorem find_get {s : Nat} : ∀ {l : List Nat} {i k : Nat}, l.Nodup → l[i]? = some s → find s l k = some (k + i)
  | [], _, _, _, h => by simp at h
  | x :: r, 0, k, _, h => by simp at h; subst h; simp [find]
  | x :: r, i + 1, k, hn, h => by
    simp at h
    have hx : x ≠ s := fun e => by subst e; exact (List.nodup_cons.1 hn).1 (List.mem_of_getElem? h)
    simp only [find, if_neg hx]
    rw [find_get (List.nodup_cons.1 hn).2 h]; congr 1; omega
def Tag.outw (l : List Nat) : Tag → Tag
  | .box (.fr _) => .out
  | .tail (.fr s) i => if i = 0 then (match find s l 0 with | some j => .tail (.arg 0) j | none => .out) else .out
  | .box (.arg _) => .out
  | .tail (.arg _) _ => .out
  | t => t
def Gh.outw (g : Gh) (l : List Nat) : Gh := { g with ow := fun b o => (g.ow b o).outw l }
theorem Tag.outw_noroot {l : List Nat} {t : Tag} (h : t.noroot) : t.outw l = t := by
  cases t <;> try rfl
  case box r => cases r <;> first | rfl | exact h.elim
  case tail r i => cases r <;> first | rfl | exact h.elim
theorem same_outw (g : Gh) (w : World) (l : List Nat) : Same Tag.noroot g w (g.outw l) w :=
  ⟨fun _ _ _ h => Tag.outw_noroot h, fun _ _ _ _ => rfl, fun _ _ _ _ _ => rfl, fun _ _ _ => rfl, fun _ _ _ h => h, fun _ => trivial, fun _ _ h => h⟩
theorem Tail.outw {l : List Nat} (hn : l.Nodup) {s i : Nat} (hi : l[i]? = some s) {xs : List AV} {sz : Nat} {cv : Value} (h : Tail g w (.fr s) 0 xs sz cv) : Tail (g.outw l) w (.arg 0) i xs sz cv := by
  intro a n c e
  obtain ⟨h1, h2⟩ := h a n c e
  refine ⟨VE.mono ((same_outw g w l).ext trivial) _ _ _ _ h1, fun o ho ho' => ?_⟩
  obtain ⟨p, q⟩ := h2 o ho ho'
  exact ⟨by show (g.ow _ _).outw l = _; rw [p]; simp [Tag.outw, find_get hn hi], q⟩

/-- the results, one by one -/
def chkRes (P : Program) : List IRes → List ResultVar → Bool
  | [], [] => true
  | .tmp s :: r, .tmp t :: q => decide (s = t) && chkRes P r q
  | .cell s n agg :: r, .cell t ty :: q => decide (s = t) && tyOk P ty n agg && chkRes P r q
  | _, _ => false
def resSem (tm : Array Value) : ResultVar → Sem Value
  | .tmp t => pure (tm.getD t undef)
  | .cell a t => do loadVar t (← asAddr (tm.getD a undef))
/-- one result -/
def ResOk (g : Gh) (w : World) (s : Nat) (v : AV) (cv : Value) : Prop :=
  V g w v cv ∧ v.plain = true ∧ ∀ xs sz e, v = .list xs (.own sz e) → Tail g w (.fr s) 0 xs sz cv
theorem tyOk_one {t : TypeId} {n : Nat} (h : tyOk P t n false = true) : n = 1 := by
  unfold tyOk at h
  cases hi : P.info? t <;> cases hu : P.underlying t <;> simp [hi, hu] at h
  rename_i i d; cases d <;> simp_all
theorem ofCells_plain {agg : Bool} {l : List AV} {us : List Value} (hv : VS g w l us) (h1 : Ones us) (hn : agg = false → us.length = 1) : V g w (ofCells agg l) (if agg then .agg us.toArray else us.headD undef) := by
  cases agg with
  | true => simp only [ofCells, if_true, V]; exact ⟨us, rfl, hv, h1⟩
  | false =>
    have hu := hn rfl
    match us, hu with
    | [u], _ =>
      match l, hv.len with
      | [c], _ =>
        simp only [VS] at hv; obtain ⟨u', r', e, hv, _⟩ := hv; cases e
        simpa [ofCells] using hv
theorem run_res (k : Rel G g st [] tm w) {r : IRes} {q : ResultVar} (hc : chkRes P [r] [q] = true) {v : AV} (h : evalRes1 st r = some v) : ∃ cv, (resSem tm q).run P w = .ok cv w ∧ ResOk g w r.slot v cv := by
  cases r with
  | tmp s =>
    cases q <;> simp [chkRes] at hc
    subst hc
    simp only [evalRes1] at h
    split at h
    · rename_i hp; cases h
      have f := k.fr s
      rw [VF_loose (AV.loose_of_plain hp), VX_plain hp] at f
      refine ⟨_, rfl, f.1, hp, fun xs sz e0 e => ?_⟩
      have f2 := f.2; rw [e] at f2; exact f2
    · cases h
  | cell s n agg =>
    cases q <;> simp [chkRes] at hc
    rename_i t ty
    obtain ⟨rfl, ht⟩ := hc
    simp only [evalRes1] at h
    split at h
    · rename_i cs hs
      split at h
      · rename_i hn; cases h
        have f := k.fr s
        rw [hs] at f
        simp only [VF] at f
        obtain ⟨vs, ty', f1, f2, f3, f4, f5⟩ := f
        have hl : vs.length = n := by rw [f3.1.len]; exact hn.1
        refine ⟨_, ?_, ofCells_plain f3.1 f3.2 (fun e => by subst e; rw [hl]; exact tyOk_one ht), ?_, fun xs sz e0 e => ?_⟩
        · simp only [resSem, f1, asAddr, Sem.run_bind, Sem.run_pure, Result.andThen_ok]
          exact run_loadVar_at ht hl (fun i u hu => by simp [World.cell?, f2, hu])
        · exact hn.2
        · cases agg with
          | true => simp [ofCells] at e
          | false =>
            have hn1 := tyOk_one ht
            subst hn1
            match cs, hn.1 with
            | [c], _ =>
              match vs, hl with
              | [u], _ =>
                simp only [ofCells, Bool.false_eq_true, if_false, List.headD] at e
                subst e
                exact f5 0 xs sz _ u rfl rfl
      · cases h
    · rename_i id o' hs
      split at h
      · rename_i cs ho
        split at h
        · rename_i l hl
          split at h
          case isFalse => cases h
          rename_i hpl
          cases h
          have f := k.fr s
          rw [hs, VF_loose rfl] at f
          obtain ⟨b, q, e1, us, e2, e3, e4, e5⟩ := k.cutAt (p := .ptr id o') f.1 (cs := cs) (off := o') (by simp only [Rf.behind, ho]) hl
          refine ⟨_, ?_, ofCells_plain e4.cp1 e5 (fun e => by subst e; rw [e2]; exact tyOk_one ht), ?_, fun xs sz e0 e => ?_⟩
          · simp only [resSem, e1, asAddr, Sem.run_bind, Sem.run_pure, Result.andThen_ok]
            exact run_loadVar_at ht e2 e3
          · exact hpl
          · cases agg with
            | true => simp [ofCells] at e
            | false =>
              cases l with
              | nil => simp [ofCells] at e
              | cons c r => simp [ofCells] at e; exact absurd e (AV.cp1_not_own _ _ _ _)
        · cases h
      · cases h
    · cases h
end
end Go.Proofs.Ytajlmldpbhendab.Rf
end
section
/- All the results; what a call that leaves the heap alone hands back. -/
set_option linter.unusedSimpArgs false
set_option linter.unusedVariables false
namespace Go.Proofs.Ytajlmldpbhendab.Rf

section
variable {P : Program} {G : Nat → Option (List AV)} {g g' : Gh} {st : St} {a : Act} {w w' : World} {o : Oper} {tm : Array Value} {call : CallF} {lo : Nat}

theorem chkRes_cons {r : IRes} {rs : List IRes} {q : ResultVar} {qs : List ResultVar} (h : chkRes P (r :: rs) (q :: qs) = true) : chkRes P [r] [q] = true ∧ chkRes P rs qs = true := by
  cases r <;> cases q <;> simp [chkRes] at h ⊢
  · exact h
  · exact ⟨⟨h.1.1, h.1.2⟩, h.2⟩
theorem run_ress (k : Rel G g st [] tm w) : ∀ {rs : List IRes} {qs : List ResultVar} {vs : List AV}, chkRes P rs qs = true → evalRess st rs = some vs →
    ∃ cvs : List Value, (qs.mapM (resSem tm)).run P w = .ok cvs w ∧ cvs.length = vs.length ∧ rs.length = vs.length ∧ ∀ (i : Nat) v cv r, vs[i]? = some v → cvs[i]? = some cv → rs[i]? = some r → ResOk g w r.slot v cv
  | [], [], vs, _, h => by simp [evalRess] at h; subst h; exact ⟨[], by simp, rfl, rfl, fun i v cv r h => by simp at h⟩
  | r :: rs, q :: qs, vs, hc, h => by
    obtain ⟨c1, c2⟩ := chkRes_cons hc
    simp only [evalRess] at h
    cases h1 : evalRes1 st r with
    | none => simp [h1] at h
    | some v =>
      cases h2 : evalRess st rs with
      | none => simp [h1, h2] at h
      | some vs' =>
        simp [h1, h2] at h; subst h
        obtain ⟨cv, e1, e2⟩ := run_res k c1 h1
        obtain ⟨cvs, f1, f2, f3, f4⟩ := run_ress k c2 h2
        refine ⟨cv :: cvs, ?_, by simp [f2], by simp [f3], fun i v' cv' r' a b c => ?_⟩
        · simp only [List.mapM_cons, Sem.run_bind, e1, Result.andThen_ok, f1, Sem.run_pure]
        · cases i with
          | zero => simp at a b c; subst a; subst b; subst c; exact e2
          | succ i => exact f4 i v' cv' r' (by simpa using a) (by simpa using b) (by simpa using c)
  | [], _ :: _, _, hc, _ => by simp [chkRes] at hc
  | r :: _, [], _, hc, _ => by cases r <;> simp [chkRes] at hc
theorem run_results (k : Rel G g st [] tm w) {fn : Func} {rs : List IRes} (hc : chkRes P rs fn.results.toList = true) (hn : (rs.map IRes.slot).Nodup) {vs : List AV} (h : evalRess st rs = some vs) :
    ∃ cv, (results fn tm).run P w = .ok cv w ∧ Rel G (g.outw (rs.map IRes.slot)) ⟨[], st.hp⟩ [(tupOf vs, cv)] #[] w ∧ Stay g w (g.outw (rs.map IRes.slot)) w := by
  obtain ⟨cvs, e1, e2, e3, e4⟩ := run_ress k hc h
  have sm := same_outw g w (rs.map IRes.slot)
  have hV : ∀ (i : Nat) v cv, vs[i]? = some v → cvs[i]? = some cv → V (g.outw (rs.map IRes.slot)) w v cv ∧ v.plain = true ∧ ∀ xs sz e, v = .list xs (.own sz e) → Tail (g.outw (rs.map IRes.slot)) w (.arg 0) i xs sz cv := by
    intro i v cv h1 h2
    have hi := (List.getElem?_eq_some_iff.1 h1).1
    have hr : rs[i]? = some rs[i] := List.getElem?_eq_getElem (by omega)
    obtain ⟨p1, p2, p3⟩ := e4 i v cv _ h1 h2 hr
    exact ⟨V.mono (sm.ext trivial) _ _ p1, p2, fun xs sz e0 e => Tail.outw hn (by rw [List.getElem?_map, hr]; rfl) (p3 xs sz e0 e)⟩
  have hrel : ∀ v cv, VF (g.outw (rs.map IRes.slot)) w [] #[] (.arg 0) v cv → Rel G (g.outw (rs.map IRes.slot)) ⟨[], st.hp⟩ [(v, cv)] #[] w := fun v cv hf =>
    ⟨fun s => by simp [Fr.get, VF, VX, V, Owns], fun j u cu hj => by
      cases j with
      | zero => simp at hj; obtain ⟨rfl, rfl⟩ := hj; exact hf
      | succ j => simp at hj, k.hp.same sm trivial (fun _ => trivial) (fun _ _ => trivial) (fun _ _ _ => trivial) rfl, fun b o hb => by show (g.ow b o).outw _ = _; rw [k.fresh b o hb]; rfl, k.gl.same sm trivial trivial⟩
  have hrun : ∀ cv, (if h : cvs.toArray.size = 1 then cvs.toArray[0] else Value.tuple cvs.toArray) = cv → (results fn tm).run P w = .ok cv w := fun cv hcv => by
    have hres : results fn tm = (fn.results.mapM (resSem tm) >>= fun vs => pure (if h : vs.size = 1 then vs[0] else .tuple vs)) := rfl
    have e5 : (fn.results.mapM (resSem tm)).run P w = .ok cvs.toArray w := by
      rw [Array.mapM_eq_mapM_toList]
      simp only [Sem.run_map, e1, Result.andThen_ok]
    rw [hres, Sem.run_bind, e5]
    simp only [Result.andThen_ok, Sem.run_pure, hcv]
  match vs, cvs, e2, hV, hrun with
  | [v], [cv], _, hV, hrun =>
    obtain ⟨p1, p2, p3⟩ := hV 0 v cv rfl rfl
    refine ⟨cv, hrun cv (by simp), hrel _ _ ?_, stay_of_same sm trivial trivial⟩
    simp only [tupOf]
    rw [VF_loose (AV.loose_of_plain p2), VX_plain p2]
    refine ⟨p1, ?_⟩
    unfold Owns
    split
    · exact p3 _ _ _ rfl
    · simp [AV.plain] at p2
    · trivial
  | [], [], _, hV, hrun =>
    refine ⟨.tuple #[], hrun _ (by simp), hrel _ _ ?_, stay_of_same sm trivial trivial⟩
    simp only [tupOf]
    rw [VF_loose rfl]
    exact ⟨by simp only [VX, V]; exact ⟨[], rfl, by simp [VS]⟩, fun us e => OwnsL.none (by simp)⟩
  | v :: v2 :: vs, cv :: cv2 :: cvs, hl, hV, hrun =>
    refine ⟨.tuple (cv :: cv2 :: cvs).toArray, hrun _ (by simp), hrel _ _ ?_, stay_of_same sm trivial trivial⟩
    simp only [tupOf]
    rw [VF_loose rfl]
    refine ⟨?_, fun us e => ?_⟩
    · simp only [VX, V]
      exact ⟨cv :: cv2 :: cvs, rfl, VS.mk hl fun i x y hx hy => (hV i x y hx hy).1⟩
    · injection e with e
      have e' : us = cv :: cv2 :: cvs := by
        have := congrArg Array.toList e; simpa using this.symm
      subst e'
      exact fun i xs sz e c h1 h2 => (hV i _ c h1 h2).2.2 xs sz e rfl

/-! the heap, cut back -/
mutual
theorem V.closed {n : Nat} (hn : g.hb.length ≤ n) : ∀ (v : AV) (cv : Value), V g w v cv → v.closed n = true
  | .none, _ => fun _ => by simp [AV.closed]
  | .bool _, _ => fun _ => by simp [AV.closed]
  | .int _ _, _ => fun _ => by simp [AV.closed]
  | .str _, _ => fun _ => by simp [AV.closed]
  | .agg cs, _ => by simp only [V, AV.closed]; rintro ⟨vs, _, k, _⟩; exact VS.closed hn cs vs k
  | .list xs o, _ => by
    simp only [V, AV.closed]; rintro ⟨A, c, _, h2, _, _, h5, h6⟩
    cases A with
    | none =>
      have : xs = [] := by have := h5 rfl; subst this; exact List.length_eq_zero_iff.1 (by omega)
      subst this; simp [AV.closedL]
    | some a =>
      obtain ⟨_, _, sz, hv⟩ := h6 a rfl
      exact VE.closed hn sz xs _ _ hv
  | .ptr id _, _ => by
    simp only [V, AV.closed]; rintro ⟨b, h, _⟩
    have := (List.getElem?_eq_some_iff.1 h).1
    simp; omega
  | .nilp, _ => fun _ => by simp [AV.closed]
  | .map id, _ => by
    simp only [V, AV.closed]; rintro ⟨b, h, _⟩
    have := (List.getElem?_eq_some_iff.1 h).1
    simp; omega
  | .nilm, _ => fun _ => by simp [AV.closed]
  | .func _ cs, _ => by simp only [V, AV.closed]; rintro ⟨vs, _, k⟩; exact VS.closed hn cs vs k
  | .nilf, _ => fun _ => by simp [AV.closed]
  | .iface _ v, _ => by simp only [V, AV.closed]; rintro ⟨u, _, k⟩; exact V.closed hn v u k
  | .nili, _ => fun _ => by simp [AV.closed]
  | .tup cs, _ => by simp only [V, AV.closed]; rintro ⟨vs, _, k⟩; exact VS.closed hn cs vs k
  | .glob _ _, _ => fun _ => by simp [AV.closed]
  | .pend _ _, _ => fun h => by simp [V] at h
  | .lref _ _, _ => fun h => by simp [V] at h
  | .box _, _ => fun h => by simp [V] at h
  | .eref _ _, _ => fun h => by simp [V] at h
  | .data _ _, _ => fun h => by simp [V] at h
  | .lastr _, _ => fun h => by simp [V] at h
theorem VS.closed {n : Nat} (hn : g.hb.length ≤ n) : ∀ (vs : List AV) (us : List Value), VS g w vs us → AV.closedL n vs = true
  | [], _ => fun _ => by simp [AV.closedL]
  | v :: vs, _ => by simp only [VS, AV.closedL, Bool.and_eq_true]; rintro ⟨u, r, _, k, l⟩; exact ⟨V.closed hn v u k, VS.closed hn vs r l⟩
theorem VC.closed {n : Nat} (hn : g.hb.length ≤ n) : ∀ (vs : List AV) (b off : Nat), VC g w vs b off → AV.closedL n vs = true
  | [], _, _ => fun _ => by simp [AV.closedL]
  | v :: vs, b, off => by
    simp only [VC, AV.closedL, Bool.and_eq_true]; rintro ⟨⟨_, cv, _, _, l⟩, m⟩
    exact ⟨V.closed hn v cv l, VC.closed hn vs _ _ m⟩
theorem VE.closed {n : Nat} (hn : g.hb.length ≤ n) (sz : Nat) : ∀ (vs : List AV) (b off : Nat), VE g w sz vs b off → AV.closedL n vs = true
  | [], _, _ => fun _ => by simp [AV.closedL]
  | .agg cs :: vs, b, off => by
    simp only [VE, AV.closedL, Bool.and_eq_true]; rintro ⟨⟨_, k⟩, m⟩
    exact ⟨by simp only [AV.closed]; exact VC.closed hn cs _ _ k, VE.closed hn sz vs _ _ m⟩
  | v :: vs, b, off => by
    intro h
    have hv := V.closed hn v
    have hm := VE.closed hn sz vs b (off + sz)
    cases v <;> simp only [VE] at h <;> simp only [AV.closedL, Bool.and_eq_true] <;> first
      | (obtain ⟨⟨_, _, cv, _, _, h4⟩, m⟩ := h; exact ⟨hv cv h4, hm m⟩)
      | (obtain ⟨⟨_, h2⟩, m⟩ := h; exact ⟨by simp only [AV.closed]; exact VC.closed hn _ _ _ h2, hm m⟩)
end
def Tag.cutb (n : Nat) : Tag → Tag
  | .obj id => if id < n then .obj id else .out
  | .tail (.ob id) i => if id < n then .tail (.ob id) i else .out
  | .tail (.mp id k) i => if id < n then .tail (.mp id k) i else .out
  | t => t
def Gh.cutb (g : Gh) (n : Nat) : Gh := { ow := fun b o => (g.ow b o).cutb n, hb := g.hb.take n, bx := g.bx }
theorem cutb_imm {n : Nat} {b o : Nat} (h : (g.ow b o).ro) : ((g.cutb n).ow b o).ro := by
  show ((g.ow b o).cutb n).ro
  revert h; cases g.ow b o <;> intro h <;> first | trivial | exact h.elim
theorem View.cutb {n m e : Nat} {a : Addr} (h : View g w m e a) : View (g.cutb n) w m e a := by
  obtain ⟨h1, h2, h3, h4⟩ := h
  exact ⟨h1, h2, h3, fun o ho => by show (g.ow _ _).cutb n = _; rw [h4 o ho]; rfl⟩
mutual
theorem V.cutb {n : Nat} : ∀ (v : AV) (cv : Value), v.closed n = true → V g w v cv → V (g.cutb n) w v cv
  | .none, _ => fun _ _ => by simp [V]
  | .bool _, _ => fun _ => by simp only [V]; exact id
  | .int _ _, _ => fun _ => by simp only [V]; exact id
  | .str _, _ => fun _ => by simp only [V]; exact id
  | .agg cs, _ => by simp only [V, AV.closed]; rintro hc ⟨vs, h, k, l⟩; exact ⟨vs, h, VS.cutb cs vs hc k, l⟩
  | .list xs o, _ => by
    simp only [V, AV.closed]; rintro hc ⟨A, c, h1, h2, h3, h4, h5, h6⟩
    refine ⟨A, c, h1, h2, h3, h4, h5, fun a ha => ?_⟩
    obtain ⟨hs, hw, sz, hv⟩ := h6 a ha
    exact ⟨hs, fun hn => (hw hn).cutb, sz, VE.cutb sz xs _ _ hc hv⟩
  | .ptr id _, _ => by simp only [V, AV.closed]; rintro hc ⟨b, h, k⟩; exact ⟨b, by simp at hc; simp only [Gh.cutb]; rw [List.getElem?_take, if_pos hc]; exact h, k⟩
  | .nilp, _ => fun _ => by simp only [V]; exact id
  | .map id, _ => by simp only [V, AV.closed]; rintro hc ⟨b, h, k⟩; exact ⟨b, by simp at hc; simp only [Gh.cutb]; rw [List.getElem?_take, if_pos hc]; exact h, k⟩
  | .nilm, _ => fun _ => by simp only [V]; exact id
  | .func _ cs, _ => by simp only [V, AV.closed]; rintro hc ⟨vs, h, k⟩; exact ⟨vs, h, VS.cutb cs vs hc k⟩
  | .nilf, _ => fun _ => by simp only [V]; exact id
  | .iface _ v, _ => by simp only [V, AV.closed]; rintro hc ⟨u, h, k⟩; exact ⟨u, h, V.cutb v u hc k⟩
  | .nili, _ => fun _ => by simp only [V]; exact id
  | .tup cs, _ => by simp only [V, AV.closed]; rintro hc ⟨vs, h, k⟩; exact ⟨vs, h, VS.cutb cs vs hc k⟩
  | .glob _ _, _ => fun _ => by simp only [V]; exact id
  | .pend _ _, _ => fun h => by simp [AV.closed] at h
  | .lref _ _, _ => fun h => by simp [AV.closed] at h
  | .box _, _ => fun h => by simp [AV.closed] at h
  | .eref _ _, _ => fun h => by simp [AV.closed] at h
  | .data _ _, _ => fun h => by simp [AV.closed] at h
  | .lastr _, _ => fun h => by simp [AV.closed] at h
theorem VS.cutb {n : Nat} : ∀ (vs : List AV) (us : List Value), AV.closedL n vs = true → VS g w vs us → VS (g.cutb n) w vs us
  | [], _ => fun _ => by simp only [VS]; exact id
  | v :: vs, _ => by
    simp only [VS, AV.closedL, Bool.and_eq_true]; rintro hc ⟨u, r, h, k, l⟩
    exact ⟨u, r, h, V.cutb v u hc.1 k, VS.cutb vs r hc.2 l⟩
theorem VC.cutb {n : Nat} : ∀ (vs : List AV) (b off : Nat), AV.closedL n vs = true → VC g w vs b off → VC (g.cutb n) w vs b off
  | [], _, _ => fun _ => by simp only [VC]; exact id
  | v :: vs, b, off => by
    simp only [VC, AV.closedL, Bool.and_eq_true]; rintro hc ⟨⟨h, cv, k, l0, l⟩, m⟩
    exact ⟨⟨cutb_imm h, cv, k, l0, V.cutb v cv hc.1 l⟩, VC.cutb vs _ _ hc.2 m⟩
theorem VE.cutb {n : Nat} (sz : Nat) : ∀ (vs : List AV) (b off : Nat), AV.closedL n vs = true → VE g w sz vs b off → VE (g.cutb n) w sz vs b off
  | [], _, _ => fun _ => by simp only [VE]; exact id
  | .agg cs :: vs, b, off => by
    simp only [VE, AV.closedL, Bool.and_eq_true, AV.closed]; rintro hc ⟨⟨h, k⟩, m⟩
    exact ⟨⟨h, VC.cutb cs _ _ hc.1 k⟩, VE.cutb sz vs _ _ hc.2 m⟩
  | v :: vs, b, off => by
    intro hc h
    simp only [AV.closedL, Bool.and_eq_true] at hc
    have hv := V.cutb (n := n) v
    have hm := VE.cutb sz vs b (off + sz) hc.2
    cases v <;> simp only [VE] at h ⊢ <;> first
      | (obtain ⟨⟨h1, h2, cv, h3, h0, h4⟩, m⟩ := h; exact ⟨⟨h1, cutb_imm h2, cv, h3, h0, hv cv hc.1 h4⟩, hm m⟩)
      | (obtain ⟨⟨h1, h2⟩, m⟩ := h; exact ⟨⟨h1, VC.cutb _ _ _ (by simpa only [AV.closed] using hc.1) h2⟩, hm m⟩)
end
end
end Go.Proofs.Ytajlmldpbhendab.Rf
end
section
/- The heap below lo stays; a call that leaves the heap alone. -/
set_option linter.unusedSimpArgs false
set_option linter.unusedVariables false
namespace Go.Proofs.Ytajlmldpbhendab.Rf

def HObj.closed (n : Nat) : HObj → Prop
  | .cells _ cs => AV.closedL n cs = true
  | .map es => ∀ (i : Nat) k v, es[i]? = some (k, v) → k.closed n = true ∧ v.closed n = true

def OpR.stt : OpR → St
  | .val _ s => s
  | .pan _ s => s
def COut.hp : COut → List HObj
  | .ret _ h => h
  | .pan _ h => h
section
variable {P : Program} {G : Nat → Option (List AV)} {g g' : Gh} {st : St} {a : Act} {w w' : World} {o : Oper} {tm : Array Value} {call : CallF} {lo : Nat}

theorem HeapRel.closed {hp : List HObj} (k : HeapRel g w hp) {id : Nat} {o : HObj} (h : hp[id]? = some o) : o.closed hp.length := by
  obtain ⟨b, _, _, k3⟩ := k.obj id o h
  have hn : g.hb.length ≤ hp.length := Nat.le_of_eq k.len
  cases o with
  | cells t cs =>
    simp only [ObjRel] at k3; obtain ⟨vs, ty, _, ⟨h1, _⟩, _⟩ := k3
    exact VS.closed hn cs vs h1
  | map es =>
    simp only [ObjRel] at k3; obtain ⟨ents, clock, _, _, h1⟩ := k3
    intro i kk v he
    obtain ⟨e, _, e2, e3, _⟩ := h1 i kk v he
    exact ⟨V.closed hn _ _ e2, V.closed hn _ _ e3⟩
theorem Tail.cutb {n : Nat} {r : Root} (hr : ∀ i, (Tag.tail r i).cutb n = .tail r i) {i : Nat} {xs : List AV} {sz : Nat} {cv : Value} (hc : AV.closedL n xs = true) (h : Tail g w r i xs sz cv) : Tail (g.cutb n) w r i xs sz cv := by
  intro a m c e
  obtain ⟨h1, h2⟩ := h a m c e
  refine ⟨VE.cutb _ _ _ _ hc h1, fun o ho ho' => ?_⟩
  obtain ⟨p, q⟩ := h2 o ho ho'
  exact ⟨by show (g.ow _ _).cutb n = _; rw [p]; exact hr i, q⟩
theorem closedL_get {n : Nat} : ∀ {cs : List AV} {i : Nat} {v : AV}, AV.closedL n cs = true → cs[i]? = some v → v.closed n = true
  | [], _, _, _, h => by simp at h
  | c :: cs, 0, v, h, hv => by simp only [AV.closedL, Bool.and_eq_true] at h; simp at hv; subst hv; exact h.1
  | c :: cs, i + 1, v, h, hv => by simp only [AV.closedL, Bool.and_eq_true] at h; exact closedL_get h.2 (by simpa using hv)
theorem OwnsL.cutb {n : Nat} {r : Root} (hr : ∀ i, (Tag.tail r i).cutb n = .tail r i) {cs : List AV} {vs : List Value} (hc : AV.closedL n cs = true) (h : OwnsL g w r cs vs) : OwnsL (g.cutb n) w r cs vs := fun i xs sz e cv h1 h2 =>
  Tail.cutb hr (by have := closedL_get hc h1; simpa only [AV.closed] using this) (h i xs sz e cv h1 h2)
theorem Owns.cutb {n : Nat} {r : Root} (hr : ∀ i, (Tag.tail r i).cutb n = .tail r i) {v : AV} {cv : Value} (hc : v.closed n = true) (h : Owns g w r v cv) : Owns (g.cutb n) w r v cv := by
  unfold Owns at *
  split
  · exact Tail.cutb hr (by simpa only [AV.closed] using hc) h
  · exact fun us e => OwnsL.cutb hr (by simpa only [AV.closed] using hc) (h us e)
  · trivial
theorem take_get {α : Type} {l m : List α} (h : m.take l.length = l) {i : Nat} {x : α} (hx : l[i]? = some x) : m[i]? = some x := by
  rw [← h, List.getElem?_take] at hx
  split at hx
  · exact hx
  · cases hx
theorem Rel.cutb {hp hp' : List HObj} {qs : List (AV × Value)} (k : Rel G g ⟨[], hp'⟩ qs #[] w) (hpre : hp'.take hp.length = hp) {g0 : Gh} {w0 : World} (k0 : HeapRel g0 w0 hp) (gl0 : GlobRel G g0 w0)
    (hq : ∀ (j : Nat) v cv, qs[j]? = some (v, cv) → v.closed hp.length = true) : Rel G (g.cutb hp.length) ⟨[], hp⟩ qs #[] w := by
  refine ⟨fun s => by simp [Fr.get, VF, VX, V, Owns], fun j v cv hj => ?_, ⟨?_, fun id o ho => ?_⟩, fun b o hb => by show (g.ow b o).cutb _ = _; rw [k.fresh b o hb]; rfl, fun b cs hG => ?_⟩
  · have hc := hq j v cv hj
    have f := k.ps j v cv hj
    have hl : v.loose = true := by cases v <;> first | rfl | simp [AV.closed] at hc
    rw [VF_loose hl] at f ⊢
    refine ⟨?_, Owns.cutb (fun _ => rfl) hc f.2⟩
    have f1 := f.1
    cases v <;> simp only [VX] at f1 ⊢ <;> first | exact V.cutb _ _ hc f1 | (simp [AV.closed] at hc; done)
  · simp only [Gh.cutb, List.length_take]
    have h1 := k.hp.len
    simp only at h1
    have h2 : (hp'.take hp.length).length = hp.length := by rw [hpre]
    rw [List.length_take] at h2
    omega
  · have hid := (List.getElem?_eq_some_iff.1 ho).1
    obtain ⟨b, k1, k2, k3⟩ := k.hp.obj id o (take_get hpre ho)
    have hc := k0.closed ho
    refine ⟨b, by simp only [Gh.cutb]; rw [List.getElem?_take, if_pos hid]; exact k1, fun i => by show (g.ow b i).cutb _ = _; rw [k2 i]; simp [Tag.cutb, hid], ?_⟩
    cases o with
    | cells t cs =>
      simp only [ObjRel] at k3 ⊢
      obtain ⟨vs, ty, h1, ⟨h2, h3⟩, h4, h5⟩ := k3
      exact ⟨vs, ty, h1, ⟨VS.cutb _ _ hc h2, h3⟩, OwnsL.cutb (fun _ => by simp [Tag.cutb, hid]) hc h4, h5⟩
    | map es =>
      simp only [ObjRel] at k3 ⊢
      obtain ⟨ents, clock, h1, h2, h3⟩ := k3
      refine ⟨ents, clock, h1, h2, fun i kk v he => ?_⟩
      obtain ⟨e, e1, e2, e3, e4⟩ := h3 i kk v he
      obtain ⟨c1, c2⟩ := hc i kk v he
      exact ⟨e, e1, V.cutb _ _ c1 e2, V.cutb _ _ c2 e3, Owns.cutb (fun _ => by simp [Tag.cutb, hid]) c2 e4⟩
  · obtain ⟨vs0, _, _, ⟨h0, _⟩, _⟩ := gl0 b cs hG
    obtain ⟨vs, ty, h1, ⟨h2, h3⟩, h4⟩ := k.gl b cs hG
    exact ⟨vs, ty, h1, ⟨VS.cutb _ _ (VS.closed (Nat.le_of_eq k0.len) _ _ h0) h2, h3⟩, fun o => by show (g.ow b o).cutb _ = _; rw [h4 o]; rfl⟩
theorem cutb_stay (g : Gh) (w : World) (n : Nat) (hb : ∀ (i b : Nat), g.hb[i]? = some b → i < n) : Stay g w (g.cutb n) w :=
  { ow := fun b o hl ht => by show (g.ow b o).cutb n = _; revert ht; cases g.ow b o <;> simp [Tag.kept, Tag.cutb]
    cell := fun _ _ _ _ => rfl, frz := fun _ _ _ _ _ => rfl, blk := fun _ _ _ => rfl, row := fun _ _ _ h => h, te := fun _ => trivial
    hb := fun i b h => by simp only [Gh.cutb]; rw [List.getElem?_take, if_pos (hb i b h)]; exact h
    os := rfl, tape := rfl, output := rfl, size := Nat.le_refl _ }
/-- the like, from an earlier state whose heap was the shorter one -/
theorem Stay.cutb {g0 : Gh} {w0 : World} (s : Stay g0 w0 g w) {n : Nat} (hn : g0.hb.length ≤ n) : Stay g0 w0 (g.cutb n) w :=
  { ow := fun b o hl ht => by
      show (g.ow b o).cutb n = _
      rw [s.ow b o hl ht]; revert ht; cases g0.ow b o <;> simp [Tag.kept, Tag.cutb]
    cell := s.cell, frz := s.frz, blk := s.blk, row := s.row, te := fun _ => trivial
    hb := fun i b h => by
      have := (List.getElem?_eq_some_iff.1 h).1
      simp only [Gh.cutb]; rw [List.getElem?_take, if_pos (by omega)]; exact s.hb i b h
    os := s.os, tape := s.tape, output := s.output, size := s.size }

/-! the heap below lo stays -/
def Pre (lo : Nat) (hp hp' : List HObj) : Prop := hp'.take lo = hp.take lo ∧ lo ≤ hp'.length
theorem Pre.refl {hp : List HObj} (h : lo ≤ hp.length) : Pre lo hp hp := ⟨rfl, h⟩
theorem Pre.trans {a b c : List HObj} (h : Pre lo a b) (k : Pre lo b c) : Pre lo a c := ⟨k.1.trans h.1, k.2⟩
theorem Pre.app {hp x : List HObj} (h : lo ≤ hp.length) : Pre lo hp (hp ++ x) := ⟨by rw [List.take_append_of_le_length h], by simp; omega⟩
theorem Pre.set {hp : List HObj} (h : lo ≤ hp.length) {id : Nat} (hi : lo ≤ id) (x : HObj) : Pre lo hp (hp.set id x) := ⟨by rw [List.take_set_of_le hi], by simpa using h⟩
def CallPre (call : CallF) : Prop := ∀ f vs hp lo q r, call f vs hp lo q = some r → lo ≤ hp.length → Pre lo hp r.hp
theorem behindPut_pre {s s' : St} {cs : List AV} {p : AV} (h : behindPut lo s cs p = some s') (hl : lo ≤ s.hp.length) : Pre lo s.hp s'.hp := by
  cases p <;> simp only [behindPut] at h <;> try (cases h; done)
  · split at h
    · split at h
      · cases h; exact Pre.set hl (by assumption) _
      · cases h
    · cases h
  · cases h; exact Pre.refl hl
theorem evalOp_pre (hc : CallPre call) {i : IOp} {r : OpR} (h : evalOp G call lo i st = some r) (hl : lo ≤ st.hp.length) : Pre lo st.hp r.stt.hp := by
  have done : ∀ {v : AV} {s : St}, ret1 v s = some r → s.hp = st.hp → Pre lo st.hp r.stt.hp := fun h1 h2 => by
    cases ret1_some h1; simp only [OpR.stt]; rw [h2]; exact Pre.refl hl
  cases i
  case alloc heap ty cs =>
    simp only [evalOp] at h; split at h <;> cases ret1_some h
    · exact Pre.app hl
    · exact Pre.refl hl
  case box heap x =>
    simp only [evalOp] at h
    split at h
    · cases h
    · split at h <;> cases ret1_some h
      · exact Pre.app hl
      · exact Pre.refl hl
  case mkmap => simp only [evalOp] at h; cases ret1_some h; exact Pre.app hl
  case load x m n agg tk =>
    simp only [evalOp] at h
    repeat' split at h
    all_goals first
      | (cases h; done)
      | exact done h rfl
      | (cases ret1_some h; rename_i hb; exact behindPut_pre hb hl)
  case store x m v n =>
    simp only [evalOp] at h
    repeat' split at h
    all_goals first
      | (cases h; done)
      | exact done h rfl
      | (cases ret1_some h; rename_i hb; have := behindPut_pre hb hl; exact this)
  case lookup kd m k z ok tk =>
    simp only [evalOp] at h
    repeat' split at h
    all_goals first
      | (cases h; done)
      | exact done h rfl
      | (rename_i hb _; cases ret1_some h; exact Pre.set hl hb.1 _)
      | (cases ret1_some h; rename_i hb; exact Pre.set hl hb.1 _)
  case mapset kd m k v z =>
    simp only [evalOp] at h
    repeat' split at h
    all_goals first
      | (cases h; done)
      | exact done h rfl
      | (cases ret1_some h; exact Pre.set hl (by assumption) _)
  case call f xs q =>
    simp only [evalOp] at h
    repeat' split at h
    all_goals first
      | (cases h; done)
      | (rename_i hcall; cases ret1_some h; exact hc _ _ _ _ _ _ hcall hl)
      | (rename_i hcall; cases h; exact hc _ _ _ _ _ _ hcall hl)
  all_goals
    simp only [evalOp] at h
    repeat' split at h
    all_goals first
      | (cases h; done)
      | exact done h rfl
      | (cases h; exact Pre.refl hl)
theorem St.put_hp {s s' : St} {d : Option Nat} {v : AV} (h : s.put d v = some s') : s'.hp = s.hp := by
  cases d <;> simp only [St.put] at h
  · cases h; rfl
  · split at h
    · cases h; rfl
    · cases h
theorem evalOps_pre (hc : CallPre call) : ∀ {is : List IOper} {st : St} {ex : Ex} {st' : St}, evalOps G call lo is st = some (ex, st') → lo ≤ st.hp.length → Pre lo st.hp st'.hp
  | [], st, ex, st', h, hl => by simp [evalOps] at h; obtain ⟨rfl, rfl⟩ := h; exact Pre.refl hl
  | x :: r, st, ex, st', h, hl => by
    simp only [evalOps] at h
    split at h
    · split at h
      · rename_i v s1 he
        have h1 := evalOp_pre hc he hl
        split at h
        · rename_i s2 hp
          have h2 := St.put_hp hp
          simp only [OpR.stt] at h1
          exact h1.trans (by rw [← h2]; exact evalOps_pre hc h (by rw [h2]; exact h1.2))
        · cases h
      · rename_i v s1 he; cases h; exact evalOp_pre hc he hl
      · cases h
    · split at h
      · rename_i s2 hp
        have h2 := St.put_hp hp
        rw [← h2]; exact evalOps_pre hc h (by rw [h2]; exact hl)
      · cases h
    · cases h
theorem evalDraw_pre (hc : CallPre call) {ops : List IOper} {pans : List Nat} : ∀ {ord : List Nat} {st : St} {ex : Ex} {st' : St}, evalDraw G call lo ops pans ord st = some (ex, st') → lo ≤ st.hp.length → Pre lo st.hp st'.hp
  | [], st, ex, st', h, hl => by simp [evalDraw] at h; obtain ⟨rfl, rfl⟩ := h; exact Pre.refl hl
  | x :: r, st, ex, st', h, hl => by
    simp only [evalDraw] at h
    split at h
    · cases h
    · split at h
      · rename_i s1 he
        have h1 := evalOps_pre hc he hl
        exact h1.trans (evalDraw_pre hc h h1.2)
      · rename_i v s1 he
        split at h
        · cases h; exact (evalOps_pre hc he hl : Pre lo st.hp s1.hp)
        · cases h
      · cases h
def LoopPre (lo : Nat) (loop : LoopF) : Prop := ∀ b st ex st', loop b st = some (ex, st') → lo ≤ st.hp.length → Pre lo st.hp st'.hp
theorem evalC_pre (hc : CallPre call) {loop : LoopF} (hlp : LoopPre lo loop) : ∀ {c : ICode} {st : St} {ex : Ex} {st' : St}, evalC G call loop lo c st = some (ex, st') → lo ≤ st.hp.length → Pre lo st.hp st'.hp := by
  intro c
  induction c with
  | skip => intro st ex st' h hl; simp [evalC] at h; obtain ⟨rfl, rfl⟩ := h; exact Pre.refl hl
  | region ops live =>
    intro st ex st' h hl
    simp only [evalC] at h
    split at h
    · rename_i s1 he
      split at h
      · cases h; exact (evalOps_pre hc he hl : Pre lo st.hp s1.hp)
      · cases h
    · exact evalOps_pre hc h hl
  | draw ops ord pans live =>
    intro st ex st' h hl
    simp only [evalC] at h
    split at h
    · rename_i s1 he
      split at h
      · cases h; exact (evalDraw_pre hc he hl : Pre lo st.hp s1.hp)
      · cases h
    · rename_i e1 s1 _ he
      cases h; exact (evalDraw_pre hc he hl : Pre lo st.hp s1.hp)
    · cases h
  | seq a b iha ihb =>
    intro st ex st' h hl
    simp only [evalC] at h
    split at h
    · rename_i s1 he
      have h1 := iha he hl
      exact h1.trans (ihb h h1.2)
    · exact iha h hl
  | cond c a b iha ihb =>
    intro st ex st' h hl
    simp only [evalC] at h
    split at h
    · split at h
      · exact iha h hl
      · exact ihb h hl
    · cases h
  | block id b ih =>
    intro st ex st' h hl
    simp only [evalC] at h
    split at h
    · rename_i i s1 he
      split at h <;> (cases h; exact ih he hl)
    · exact ih h hl
  | loop b ih => intro st ex st' h hl; exact hlp _ _ _ _ h hl
  | exit id => intro st ex st' h hl; simp [evalC] at h; obtain ⟨rfl, rfl⟩ := h; exact Pre.refl hl
  | ret => intro st ex st' h hl; simp [evalC] at h; obtain ⟨rfl, rfl⟩ := h; exact Pre.refl hl
  | stuck => intro st ex st' h hl; simp [evalC] at h
theorem evalRecv_pre (hc : CallPre call) {loop : LoopF} (hlp : LoopPre lo loop) {IP : IProg} {f : Nat} {caps : List AV} {hp hp' : List HObj} {m : AV} (h : evalRecv G IP call loop lo f caps hp m = some hp') (hl : lo ≤ hp.length) : Pre lo hp hp' := by
  simp only [evalRecv] at h
  split at h
  · cases h
  · split at h
    · split at h
      · cases h
      · split at h
        · rename_i he; cases h; exact evalC_pre hc hlp he hl
        · rename_i he; cases h; exact evalC_pre hc hlp he hl
        · cases h
    · cases h
theorem toHeap_pre {fr : Fr} : ∀ {l : List Nat} {hp hp' : List HObj}, toHeap fr l hp = some hp' → lo ≤ hp.length → Pre lo hp hp'
  | [], hp, hp', h, hl => by simp [toHeap] at h; subst h; exact Pre.refl hl
  | s :: r, hp, hp', h, hl => by
    simp only [toHeap] at h
    split at h
    · rename_i cs _
      have p : Pre lo hp (hp ++ [.cells 0 cs]) := ⟨by rw [List.take_append_of_le_length hl], by simp; omega⟩
      exact p.trans (toHeap_pre h p.2)
    · cases h
theorem evalFin1_pre (hc : CallPre call) {loop : LoopF} (hlp : LoopPre lo loop) {IP : IProg} {d : DSpec} {s3 : St} {m : AV} {ex : Ex} {st' : St} (h : evalFin1 G IP call loop lo d s3 m = some (ex, st')) (hl : lo ≤ s3.hp.length) : Pre lo s3.hp st'.hp := by
  simp only [evalFin1] at h
  split at h
  · rename_i hp1 h1
    have p1 := toHeap_pre h1 hl
    split at h
    · rename_i hp2 h2
      cases h
      exact p1.trans (evalRecv_pre hc hlp h2 p1.2)
    · cases h
  · cases h
theorem evalFin_pre (hc : CallPre call) {loop : LoopF} (hlp : LoopPre lo loop) {IP : IProg} {d : DSpec} {b : ICode} {st : St} {ex : Ex} {st' : St} (h : evalFin G IP call loop lo d (evalC G call loop lo b st) = some (ex, st')) (hl : lo ≤ st.hp.length) : Pre lo st.hp st'.hp := by
  cases hb : evalC G call loop lo b st with
  | none => rw [hb] at h; simp [evalFin] at h
  | some x =>
    rw [hb] at h
    obtain ⟨ex3, s3⟩ := x
    have p3 := evalC_pre hc hlp hb hl
    cases ex3 with
    | normal => exact p3.trans (evalFin1_pre hc hlp h p3.2)
    | ret => exact p3.trans (evalFin1_pre hc hlp h p3.2)
    | pan v => exact p3.trans (evalFin1_pre hc hlp h p3.2)
    | exit i => simp [evalFin] at h
theorem evalF_pre (hc : CallPre call) {loop : LoopF} (hlp : LoopPre lo loop) {IP : IProg} {fn : IFun} {st : St} {ex : Ex} {st' : St} (h : evalF G IP call loop lo fn st = some (ex, st')) (hl : lo ≤ st.hp.length) : Pre lo st.hp st'.hp := by
  simp only [evalF] at h
  split at h
  · exact evalC_pre hc hlp h hl
  · split at h
    · rename_i s1 h1
      have p1 := evalC_pre hc hlp h1 hl
      split at h
      · have p := evalFin_pre hc hlp h (show lo ≤ s1.hp.length from p1.2)
        exact p1.trans p
      · cases h
    · exact evalC_pre hc hlp h hl
theorem run_pre (IP : IProg) : ∀ k, CallPre (run G IP k).1 ∧ ∀ lo, LoopPre lo ((run G IP k).2 lo)
  | 0 => ⟨fun f vs hp lo q r h => by simp [run] at h, fun lo b st ex st' h => by simp [run] at h⟩
  | k + 1 => by
    obtain ⟨h1, h2⟩ := run_pre IP k
    refine ⟨fun f vs hp lo q r h hl => ?_, fun lo b st ex st' h hl => ?_⟩
    · simp only [run, callBody] at h
      split at h
      · cases h
      · rename_i fn hfn
        split at h
        · cases h
        · cases hs : fn.still with
          | true =>
            simp only [hs, if_true] at h
            repeat' split at h
            all_goals first
              | (cases h; done)
              | (cases h; exact Pre.refl hl)
          | false =>
            simp only [hs, Bool.false_eq_true, if_false] at h
            split at h
            · rename_i s1 he
              split at h
              · cases h; exact evalF_pre h1 (h2 lo) he hl
              · cases h
            · rename_i s1 he
              split at h
              · cases h; exact evalF_pre h1 (h2 lo) he hl
              · cases h
            · rename_i v s1 he; cases h; exact evalF_pre h1 (h2 lo) he hl
            · cases h
    · simp only [run, loopBody] at h
      split at h
      · rename_i s1 he
        have h3 := evalC_pre h1 (h2 lo) he hl
        exact h3.trans (h2 lo _ _ _ _ h h3.2)
      · exact evalC_pre h1 (h2 lo) h hl
end
end Go.Proofs.Ytajlmldpbhendab.Rf
end
