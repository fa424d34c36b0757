/- Cuts of strings and lists; fields of struct values. -/
import Derived.Test.YtajlmldpbhendaaRfS
import Derived.Laws.Slices
import Derived.Laws.Strings2
set_option linter.unusedSimpArgs false
set_option linter.unusedVariables false
namespace Go.Proofs.Ytajlmldpbhendaa.Rf

section
variable {P : Program} {G : Nat → Option (List AV)} {g g' : Gh} {st : St} {a : Act} {w w' : World} {o : Oper} {tm : Array Value} {ps : List (AV × Value)}

def optOk : Option Opd → Option Operand → Bool
  | none, none => true
  | some x, some y => opdOk x y
  | _, _ => false
theorem bound_read (k : Rel G g st ps tm w) {x : Option Opd} {y : Option Operand} (h : optOk x y = true) {d n : Nat} (hb : bound st.fr d x = some n) :
    (y = none ∧ n = d) ∨ ∃ z kk, y = some z ∧ Act.opd tm z = .int kk n := by
  cases x with
  | none => cases y <;> simp [optOk] at h; simp [bound] at hb; exact .inl ⟨rfl, hb.symm⟩
  | some x =>
    cases y with
    | none => simp [optOk] at h
    | some z =>
      right
      have hr := k.read (x := x) (o := z) h
      simp only [bound] at hb
      cases hv : (opd st.fr x).1 <;> rw [hv] at hb hr <;> simp at hb
      rename_i kk i
      obtain ⟨h1, h2⟩ := hb
      simp only [VX, V] at hr
      exact ⟨z, kk, rfl, by rw [hr]; congr 1; omega⟩
theorem run_bounds (isSlice : Bool) {len cap l h : Nat} {lo hi : Option Value} (hl : (lo = none ∧ l = 0) ∨ ∃ k, lo = some (.int k l)) (hh : (hi = none ∧ h = len) ∨ ∃ k, hi = some (.int k h)) (h1 : l ≤ h) (h2 : h ≤ cap) :
    (Instr.sliceBounds isSlice len cap lo hi none).run P w = .ok (l, h, cap) w := by
  have e1 : ∀ k c, (Instr.sliceBound (.int k l) h c).run P w = .ok l w := fun k c => by
    rw [run_sliceBound _ k l h c (by omega) (by omega)]; simp
  have e2 : ∀ k c, (Instr.sliceBound (.int k h) cap c).run P w = .ok h w := fun k c => by
    rw [run_sliceBound _ k h cap c (by omega) (by omega)]; simp
  rcases hl with ⟨rfl, rfl⟩ | ⟨kl, rfl⟩ <;> rcases hh with ⟨rfl, rfl⟩ | ⟨kh, rfl⟩ <;> simp [Instr.sliceBounds, e1, e2]
theorem opt_vals (k : Rel G g st ps a.tmps w) {x : Option Opd} {y : Option Operand} (h : optOk x y = true) {d n : Nat} (hb : bound st.fr d x = some n) :
    (y.map a.eval = none ∧ n = d) ∨ ∃ kk, y.map a.eval = some (.int kk n) := by
  rcases bound_read k h hb with ⟨rfl, e⟩ | ⟨z, kk, rfl, e⟩
  · exact .inl ⟨rfl, e⟩
  · exact .inr ⟨kk, by simp [Act.eval_eq, e]⟩

theorem fits_slcS (k : Rel G g st [] a.tmps w) {x : Opd} {y : Operand} (hx : opdOk x y = true) {l h : Option Opd} {l' h' : Option Operand} (hl : optOk l l' = true) (hh : optOk h h' = true) {t : TypeId} (hu : P.underlying t = some .string) (ho : o.op = .slice t y l' h' none)
    {s : List UInt8} (hv : (opd st.fr x).1 = .str s) {m n : Nat} (hm : bound st.fr 0 l = some m) (hn : bound st.fr s.length h = some n) (h1 : m ≤ n) (h2 : n ≤ s.length) : Fits P G g st (.val (.str ((s.take n).drop m)) st) o a w := by
  have hr := k.read hx; rw [hv] at hr; simp only [VX, V] at hr
  have hb := run_bounds (P := P) (w := w) false (opt_vals k hl hm) (opt_vals k hh hn) h1 h2
  refine fits_pure k (cv := .string ⟨((s.take n).drop m).toArray⟩) ?_ (VF_scalar rfl (by simp only [VX, V]) (by simp) (by simp))
  have hsz : (ByteArray.mk s.toArray).size = s.length := by simp [ByteArray.size]
  have e : (ByteArray.mk s.toArray).extract m n = ByteArray.mk ((s.take n).drop m).toArray := by
    rw [ByteArray.extract_mk, List.drop_take]
  simp [execOp, ho, Act.eval_eq, hr, Instr.sliceAt, Sem.run_bind, run_underlying hu, Instr.slice, hsz]
  have hb' := hb
  simp only [show a.eval = Act.opd a.tmps from funext (Act.eval_eq a)] at hb'
  simp [show a.eval = Act.opd a.tmps from funext (Act.eval_eq a), hb', e]

theorem VE.drop {sz : Nat} : ∀ {xs : List AV} {b off : Nat} (n : Nat), n ≤ xs.length → VE g w sz xs b off → VE g w sz (xs.drop n) b (off + n * sz)
  | xs, b, off, 0, _, h => by simpa using h
  | [], b, off, n + 1, hn, _ => by simp at hn
  | x :: xs, b, off, n + 1, hn, h => by
    have := VE.drop (b := b) (off := off + sz) n (by simpa using hn) h.tail
    rw [show off + sz + n * sz = off + (n + 1) * sz by rw [Nat.succ_mul]; omega] at this
    simpa using this
theorem VE.take {sz : Nat} : ∀ {xs : List AV} {b off : Nat} (n : Nat), VE g w sz xs b off → VE g w sz (xs.take n) b off
  | xs, b, off, 0, _ => by simp [VE]
  | [], b, off, n + 1, _ => by simp [VE]
  | x :: xs, b, off, n + 1, h => by
    have h0 := VE.get h (j := 0) (x := x) rfl
    rw [Nat.zero_mul, Nat.add_zero] at h0
    rw [List.take_succ_cons]
    exact VE.cons_mk h0.1 h0.2 (VE.take n h.tail)
/-- type t is a slice of elements of sz cells -/
theorem sliceOk_run {t : TypeId} {sz : Nat} (h : sliceOk P t sz = true) : ∃ e, P.underlying t = some (.slice e) ∧ ∀ w, (sizeOf e).run P w = .ok sz w := by
  unfold sliceOk at h
  cases hu : P.underlying t with
  | none => simp [hu] at h
  | some d =>
    cases d <;> simp [hu] at h
    rename_i e
    cases hi : P.info? e with
    | none => simp [hi] at h
    | some i => simp [hi] at h; exact ⟨e, rfl, fun w => by simp [sizeOf, typeInfo, hi, h]⟩
def elemSize (P : Program) (t : TypeId) : Option Nat :=
  match P.underlying t with
  | some (.slice e) => (P.info? e).map (·.size)
  | _ => none
theorem elemSize_run {t : TypeId} {sz : Nat} (h : elemSize P t = some sz) : ∃ e, P.underlying t = some (.slice e) ∧ ∀ w, (sizeOf e).run P w = .ok sz w :=
  sliceOk_run (by
    unfold elemSize at h; unfold sliceOk
    cases hu : P.underlying t with
    | none => simp [hu] at h
    | some d =>
      cases d <;> simp [hu] at h ⊢
      rename_i e
      obtain ⟨i, hi, h⟩ := h
      simp [hi, h])
theorem fits_slcL (k : Rel G g st [] a.tmps w) {x : Opd} {y : Operand} (hx : opdOk x y = true) {l h : Option Opd} {l' h' : Option Operand} (hl : optOk l l' = true) (hh : optOk h h' = true) {t : TypeId} {sz : Nat} (hu : sliceOk P t sz = true) (ho : o.op = .slice t y l' h' none)
    {xs : List AV} {ow : Own} (hv : (opd st.fr x).1 = .list xs ow) (hsz : okSize sz xs = true) {m n : Nat} (hm : bound st.fr 0 l = some m) (hn : bound st.fr xs.length h = some n) (h1 : m ≤ n) (h2 : n ≤ xs.length) : Fits P G g st (.val (.list ((xs.take n).drop m) .no) st) o a w := by
  have hr := k.read hx; rw [hv] at hr; simp only [VX, V] at hr
  obtain ⟨A, c, r1, r2, r3, r4, r5, r6⟩ := hr
  obtain ⟨e, u1, u2⟩ := sliceOk_run hu
  have hb := run_bounds (P := P) (w := w) true (cap := c) (opt_vals k hl hm) (opt_vals k hh hn) h1 (by omega)
  have hb' := hb
  simp only [show a.eval = Act.opd a.tmps from funext (Act.eval_eq a)] at hb'
  have hlen : ((xs.take n).drop m).length = n - m := by simp; omega
  refine fits_pure k (cv := .slice (if c = m then A else A.map (·.add (m * sz))) (n - m) (c - m)) ?_ (VF_scalar rfl ?_ (by simp) (by simp))
  · simp [execOp, ho, Act.eval_eq, r1, Instr.sliceAt, Sem.run_bind, run_underlying u1, Instr.slice, show a.eval = Act.opd a.tmps from funext (Act.eval_eq a), hb', u2]
  · simp only [VX, V]
    refine ⟨_, c - m, by rw [hlen], by rw [hlen]; omega, by omega, (fun e => by cases e), fun e => ?_, fun ad e => ?_⟩
    · split at e
      · omega
      · cases A with
        | none => have := r5 rfl; omega
        | some ad => simp at e
    · split at e
      · rename_i hc
        have h0 : n = m := by omega
        subst h0
        have hnil : (xs.take n).drop n = [] := by apply List.drop_eq_nil_of_le; simp; omega
        rw [hnil]
        exact ⟨fun hc => absurd hc (by simp; omega), sz, by simp [VE]⟩
      · cases A with
        | none => simp at e
        | some ad0 =>
          simp at e
          obtain ⟨s1, s', s2⟩ := r6 ad0 rfl
          replace s1 := s1 (.inr (by omega))
          have s3 := okSize_VE hsz s2
          subst e
          have h5 := VE.drop m (by simp; omega) (VE.take n s3)
          have e3 : ad0.add (m * sz) = { ad0 with off := ad0.off + m * sz } := by
            obtain ⟨b, q, sp⟩ := ad0
            simp only at s1; subst s1
            exact Addr.add_lit b q (m * sz)
          rw [e3]
          exact ⟨fun _ => s1, sz, h5⟩

/-- the place of a field and its shape -/
def fieldOk2 (P : Program) (s : TypeId) (f off n : Nat) (agg : Bool) : Bool :=
  match P.underlying s with
  | some (.struct fs) => match fs[f]? with | some x => decide (x.offset = off) && tyOk P x.type n agg | none => false
  | _ => false
theorem fits_field (k : Rel G g st [] a.tmps w) {x : Opd} {y : Operand} (hx : opdOk x y = true) {s : TypeId} {f off n : Nat} {agg : Bool} (hf : fieldOk2 P s f off n agg = true) (ho : o.op = .field s y f)
    {cs l : List AV} (hv : (opd st.fr x).1 = .agg cs) (hl : cut cs off n = some l) : Fits P G g st (.val (ofCells agg (l.map AV.cp1)) st) o a w := by
  have hr := k.read hx; rw [hv] at hr; simp only [VX, V] at hr
  obtain ⟨vs, r1, r2, r3⟩ := hr
  obtain ⟨hn, hg⟩ := cut_get hl
  unfold fieldOk2 at hf
  cases hu : P.underlying s with
  | none => simp [hu] at hf
  | some d =>
    cases d <;> simp [hu] at hf
    rename_i fs
    cases hfx : fs[f]? with
    | none => simp [hfx] at hf
    | some fx =>
      simp [hfx] at hf
      obtain ⟨h1, h2⟩ := hf
      subst h1
      have hlen : fx.offset + n ≤ vs.length := by
        rw [r2.len]; unfold cut at hl; split at hl
        · assumption
        · cases hl
      have hus : VS g w l ((vs.drop fx.offset).take n) := by
        have e : l = (cs.drop fx.offset).take n := by unfold cut at hl; split at hl <;> simp at hl; exact hl.symm
        rw [e]; exact (r2.drop _).take _
      have hone : Ones ((vs.drop fx.offset).take n) := fun u hu => r3 u (List.mem_of_mem_drop (List.mem_of_mem_take hu))
      have hul : ((vs.drop fx.offset).take n).length = n := by simp; omega
      have hnn : agg = false → n = 1 := fun e => by
        subst e; unfold tyOk at h2
        cases hi : P.info? fx.type <;> cases hu : P.underlying fx.type <;> simp [hi, hu] at h2
        rename_i i d; cases d <;> simp_all
      refine fits_pure k (cv := if agg then .agg ((vs.drop fx.offset).take n).toArray else ((vs.drop fx.offset).take n).headD undef) ?_ (VF_ofCells hus.cp1 hone (fun e => by rw [hul]; exact hnn e) fun e c u e1 e2 => ?_)
      · have hp : (part fx.type vs.toArray fx.offset).run P w = .ok (if agg then .agg ((vs.drop fx.offset).take n).toArray else ((vs.drop fx.offset).take n).headD undef) w := by
          unfold tyOk at h2
          cases hi : P.info? fx.type with
          | none => simp [hi] at h2
          | some i =>
            cases hu : P.underlying fx.type with
            | none => simp [hi, hu] at h2
            | some d =>
              simp only [hi, hu, Bool.and_eq_true, decide_eq_true_eq] at h2
              obtain ⟨⟨h4, h0⟩, h3⟩ := h2
              have hagg : (isAgg fx.type).run P w = .ok agg w := by
                unfold isAgg
                rw [Sem.run_bind, run_underlying hu w]
                cases d <;> simp_all
              cases agg with
              | true =>
                simp [part, hagg, sizeOf, typeInfo, hi, h4]
              | false =>
                have hn1 := hnn rfl
                subst hn1
                have hget : vs[fx.offset]? = some vs[fx.offset] := List.getElem?_eq_getElem (by omega)
                have e1 : (vs.drop fx.offset).take 1 = [vs[fx.offset]] := by
                  rw [List.drop_eq_getElem_cons (by omega)]; rfl
                rw [e1]
                simp [part, hagg, hget]
        simp [execOp, ho, Act.eval_eq, Instr.field, Sem.run_bind, run_underlying hu, hfx, r1, asAgg, hp]
      · cases l with
        | nil => simp at e1
        | cons d r =>
          simp at e1; obtain ⟨rfl, _⟩ := e1
          have hv2 := hus
          rw [e2] at hv2
          simp only [VS] at hv2; obtain ⟨u', r', e, hv3, _⟩ := hv2; cases e
          exact Owns.cp1 (hv3.not_tup (hone u (by rw [e2]; simp)))
end
end Go.Proofs.Ytajlmldpbhendaa.Rf
