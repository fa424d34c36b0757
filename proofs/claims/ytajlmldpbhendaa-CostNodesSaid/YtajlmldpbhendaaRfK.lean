/- Addresses, arithmetic, comparisons and their kin: operations that only answer a value. -/
import Derived.Test.YtajlmldpbhendaaRfJ
import Derived.Laws.Entries
set_option linter.unusedSimpArgs false
set_option linter.unusedVariables false
namespace Go.Proofs.Ytajlmldpbhendaa.Rf

section
variable {P : Program} {G : Nat → Option (List AV)} {g g' : Gh} {st : St} {a : Act} {w w' : World} {o : Oper} {tm : Array Value} {ps : List (AV × Value)}

def fieldOk (P : Program) (s : TypeId) (f off n : Nat) : Bool :=
  match P.underlying s with
  | some (.struct fs) => match fs[f]? with | some x => decide (x.offset = off) && (match P.info? x.type with | some i => decide (i.size = n) && decide (0 < n) | none => false) | none => false
  | _ => false
theorem run_fieldAt {s : TypeId} {f off n b q : Nat} (h : fieldOk P s f off n = true) : (Instr.fieldAt s (.pointer (some ⟨b, q, none⟩)) f).run P w = .ok (.pointer (some ⟨b, q + off, none⟩)) w := by
  unfold fieldOk at h
  cases hu : P.underlying s with
  | none => simp [hu] at h
  | some d =>
    cases d <;> simp [hu] at h
    rename_i fs
    cases hf : fs[f]? with
    | none => simp [hf] at h
    | some x =>
      cases hi : P.info? x.type with
      | none => simp [hf, hi] at h
      | some i =>
        simp [hf, hi] at h
        obtain ⟨h1, h2, h3⟩ := h
        simp [Instr.fieldAt, run_underlying hu, hf, Instr.sureAddr, fieldPlace, sizeOf, typeInfo, hi, h2, Nat.ne_of_gt h3, h1, Addr.add_lit]
theorem fits_faddr (k : Rel G g st [] a.tmps w) {x : Opd} {y : Operand} (hx : opdOk x y = true) {s : TypeId} {f off n : Nat} (hf : fieldOk P s f off n = true) (ho : o.op = .fieldAddr s y f) {v v' : AV} (hv : (opd st.fr x).1 = v)
    (hk : (∃ i q, v = .ptr i q ∧ v' = .ptr i (q + off)) ∨ (∃ i q, v = .lref i q ∧ v' = .lref i (q + off)) ∨ (∃ e q, v = .eref e q ∧ v' = .eref e (q + off)) ∨ ∃ i q, v = .glob i q ∧ v' = .glob i (q + off)) : Fits P G g st (.val v' st) o a w := by
  have h1 := k.read hx; rw [hv] at h1
  have run : ∀ b q, Act.opd a.tmps y = .pointer (some ⟨b, q, none⟩) → (execOp a.eval o).run P w = .ok (.value (.pointer (some ⟨b, q + off, none⟩))) w := fun b q e => by
    simp [execOp, ho, Act.eval_eq, e, run_fieldAt hf]
  rcases hk with ⟨i, q, rfl, rfl⟩ | ⟨i, q, rfl, rfl⟩ | ⟨i, q, rfl, rfl⟩ | ⟨i, q, rfl, rfl⟩ <;> simp only [VX, V] at h1
  · obtain ⟨b, h2, h1⟩ := h1
    exact fits_pure k (run _ _ h1) (VF_scalar rfl (by simp only [VX, V]; exact ⟨b, h2, rfl⟩) (by simp) (by simp))
  · obtain ⟨h1, h2⟩ := h1
    exact fits_pure k (run _ _ h1) (VF_scalar rfl (by simp only [VX]; exact ⟨trivial, h2⟩) (by simp) (by simp))
  · obtain ⟨b, o0, h1, h2⟩ := h1
    exact fits_pure k (run _ _ h1) (VF_scalar rfl (by simp only [VX]; exact ⟨b, o0, by rw [Nat.add_assoc], h2⟩) (by simp) (by simp))
  · exact fits_pure k (run _ _ h1) (VF_scalar rfl (by simp only [VX, V]) (by simp) (by simp))

theorem VE.get {sz : Nat} : ∀ {xs : List AV} {b off : Nat}, VE g w sz xs b off → ∀ {j : Nat} {x : AV}, xs[j]? = some x → x.cells.length = sz ∧ VC g w x.cells b (off + j * sz)
  | [], _, _, _, _, _, h => by simp at h
  | y :: xs, b, off, h, 0, x, hx => by
    simp at hx; subst hx
    rw [Nat.zero_mul, Nat.add_zero]
    cases y <;> simp only [VE] at h <;> simp only [AV.cells] <;> first
      | exact h.1
      | exact ⟨h.1.1, by simp only [VC]; exact ⟨h.1.2, trivial⟩⟩
  | y :: xs, b, off, h, j + 1, x, hx => by
    have h2 : VE g w sz xs b (off + sz) := by cases y <;> simp only [VE] at h <;> exact h.2
    have := VE.get h2 (j := j) (by simpa using hx)
    rwa [show off + sz + j * sz = off + (j + 1) * sz by rw [Nat.succ_mul]; omega] at this

def sliceOk (P : Program) (t : TypeId) (sz : Nat) : Bool :=
  match P.underlying t with
  | some (.slice e) => (match P.info? e with | some i => decide (i.size = sz) | none => false)
  | _ => false
theorem run_indexAt_slice {t : TypeId} {sz : Nat} (h : sliceOk P t sz = true) {b q n c : Nat} {kk : IntKind} {j : Int} (h0 : 0 ≤ j) (h1 : j < n) :
    (Instr.indexAt t (.slice (some ⟨b, q, none⟩) n c) (.int kk j)).run P w = .ok (.pointer (some ⟨b, q + j.toNat * sz, none⟩)) w := by
  unfold sliceOk at h
  cases hu : P.underlying t with
  | none => simp [hu] at h
  | some d =>
    cases d <;> simp [hu] at h
    rename_i e
    cases hi : P.info? e with
    | none => simp [hi] at h
    | some i =>
      simp [hi] at h
      simp [Instr.indexAt, asIntOf, run_underlying hu, sizeOf, typeInfo, hi, h, h0, h1, Addr.add_lit]
theorem fits_iaddrL (k : Rel G g st [] a.tmps w) {x i : Opd} {y u : Operand} (hx : opdOk x y = true) (hi : opdOk i u = true) {t : TypeId} {sz : Nat} (hf : sliceOk P t sz = true) (ho : o.op = .indexAddr t y u) {xs : List AV} {ow : Own} (hv : (opd st.fr x).1 = .list xs ow)
    {kk : IntKind} {j : Int} (hj : (opd st.fr i).1 = .int kk j) (h0 : 0 ≤ j) (h1 : j < xs.length) {e : AV} (he : xs[j.toNat]? = some e) (hs : e.cells.length = sz) : Fits P G g st (.val (.eref e 0) st) o a w := by
  have hr := k.read hx; rw [hv] at hr; simp only [VX, V] at hr
  have hri := k.read hi; rw [hj] at hri; simp only [VX, V] at hri
  obtain ⟨A, c, e1, e2, e3, e4, e5, e6⟩ := hr
  cases A with
  | none => have := e5 rfl; omega
  | some ad =>
    obtain ⟨hsp, sz', hE⟩ := e6 ad rfl
    replace hsp := hsp (.inr (by omega))
    obtain ⟨ab, ao, asp⟩ := ad
    simp only at hsp hE; subst hsp
    obtain ⟨g1, g2⟩ := hE.get he
    have : sz' = sz := by omega
    subst this
    refine fits_pure k (cv := .pointer (some ⟨ab, ao + j.toNat * sz', none⟩)) ?_ (VF_scalar rfl (by simp only [VX]; exact ⟨ab, _, rfl, g2⟩) (by simp) (by simp))
    simp [execOp, ho, Act.eval_eq, e1, hri, run_indexAt_slice hf h0 h1]
theorem fits_iaddrL_last (k : Rel G g st [] a.tmps w) {s : Nat} {tk : Bool} {i : Opd} {y u : Operand} (hx : opdOk (.t s tk) y = true) (hi : opdOk i u = true) {t : TypeId} {sz : Nat} (hf : sliceOk P t sz = true) (ho : o.op = .indexAddr t y u) {xs : List AV} (hv : st.fr.get s = .pend xs sz)
    {kk : IntKind} {j : Int} (hj : (opd st.fr i).1 = .int kk j) (h1 : j = xs.length) : Fits P G g st (.val (.lastr s) st) o a w := by
  have f := k.fr s; rw [hv] at f; simp only [VF] at f
  obtain ⟨ad, c, e1, e2, e3, e4, e5⟩ := f
  cases y <;> simp [opdOk] at hx
  subst hx
  have hri := k.read hi; rw [hj] at hri; simp only [VX, V] at hri
  obtain ⟨ab, ao, asp⟩ := ad
  simp only at e4; subst e4
  refine fits_pure k (cv := .pointer (some ⟨ab, ao + xs.length * sz, none⟩)) ?_ (VF_scalar rfl (by simp only [VX]; exact ⟨xs, sz, _, c, hv, e1, rfl⟩) (by simp) (by simp))
  have h2 : j.toNat = xs.length := by omega
  have := run_indexAt_slice (w := w) hf (b := ab) (q := ao) (n := xs.length + 1) (c := c) (kk := kk) (j := j) (by omega) (by omega)
  rw [h2] at this
  simp [execOp, ho, Act.eval_eq, hri, this]
  rw [show Act.opd a.tmps (Operand.tmp s) = _ from e1, this]; rfl

def arrayOk (P : Program) (t : TypeId) (len sz : Nat) : Bool :=
  match P.underlying t with
  | some (.array n e) => decide (n = len) && (match P.info? e with | some i => decide (i.size = sz) | none => false)
  | _ => false
theorem run_indexAt_array {t : TypeId} {len sz : Nat} (h : arrayOk P t len sz = true) {b q : Nat} {kk : IntKind} {j : Int} (h0 : 0 ≤ j) (h1 : j < len) :
    (Instr.indexAt t (.pointer (some ⟨b, q, none⟩)) (.int kk j)).run P w = .ok (.pointer (some ⟨b, q + j.toNat * sz, none⟩)) w := by
  unfold arrayOk at h
  cases hu : P.underlying t with
  | none => simp [hu] at h
  | some d =>
    cases d <;> simp [hu] at h
    rename_i n e
    cases hi : P.info? e with
    | none => simp [hi] at h
    | some i =>
      simp [hi] at h
      obtain ⟨rfl, h⟩ := h
      simp [Instr.indexAt, asIntOf, run_underlying hu, sizeOf, typeInfo, hi, h, h0, h1, Instr.sureAddr, Addr.add_lit]
theorem fits_iaddrA (k : Rel G g st [] a.tmps w) {x i : Opd} {y u : Operand} (hx : opdOk x y = true) (hi : opdOk i u = true) {t : TypeId} {len sz : Nat} (hf : arrayOk P t len sz = true) (ho : o.op = .indexAddr t y u) {v v' : AV} (hv : (opd st.fr x).1 = v)
    {kk : IntKind} {j : Int} (hj : (opd st.fr i).1 = .int kk j) (h0 : 0 ≤ j) (h1 : j < len)
    (hk : (∃ i q, v = .ptr i q ∧ v' = .ptr i (q + j.toNat * sz)) ∨ (∃ i q, v = .lref i q ∧ v' = .lref i (q + j.toNat * sz)) ∨ (∃ e q, v = .eref e q ∧ v' = .eref e (q + j.toNat * sz)) ∨ ∃ i q, v = .glob i q ∧ v' = .glob i (q + j.toNat * sz)) : Fits P G g st (.val v' st) o a w := by
  have h2 := k.read hx; rw [hv] at h2
  have hri := k.read hi; rw [hj] at hri; simp only [VX, V] at hri
  have run : ∀ b q, Act.opd a.tmps y = .pointer (some ⟨b, q, none⟩) → (execOp a.eval o).run P w = .ok (.value (.pointer (some ⟨b, q + j.toNat * sz, none⟩))) w := fun b q e => by
    simp [execOp, ho, Act.eval_eq, e, hri, run_indexAt_array hf h0 h1]
  rcases hk with ⟨i, q, rfl, rfl⟩ | ⟨i, q, rfl, rfl⟩ | ⟨i, q, rfl, rfl⟩ | ⟨i, q, rfl, rfl⟩ <;> simp only [VX, V] at h2
  · obtain ⟨b, h3, h2⟩ := h2
    exact fits_pure k (run _ _ h2) (VF_scalar rfl (by simp only [VX, V]; exact ⟨b, h3, rfl⟩) (by simp) (by simp))
  · obtain ⟨h2, h3⟩ := h2
    exact fits_pure k (run _ _ h2) (VF_scalar rfl (by simp only [VX]; exact ⟨trivial, h3⟩) (by simp) (by simp))
  · obtain ⟨b, o0, h2, h3⟩ := h2
    exact fits_pure k (run _ _ h2) (VF_scalar rfl (by simp only [VX]; exact ⟨b, o0, by rw [Nat.add_assoc], h3⟩) (by simp) (by simp))
  · exact fits_pure k (run _ _ h2) (VF_scalar rfl (by simp only [VX, V]) (by simp) (by simp))

theorem fits_idxS (k : Rel G g st [] a.tmps w) {x i : Opd} {y u : Operand} (hx : opdOk x y = true) (hi : opdOk i u = true) {t : TypeId} (hf : P.underlying t = some .string) (ho : o.op = .index t y u) {s : List UInt8} (hv : (opd st.fr x).1 = .str s)
    {kk : IntKind} {j : Int} (hj : (opd st.fr i).1 = .int kk j) (h0 : 0 ≤ j) {c : UInt8} (hc : s[j.toNat]? = some c) : Fits P G g st (.val (.int .u8 c.toNat) st) o a w := by
  have hr := k.read hx; rw [hv] at hr; simp only [VX, V] at hr
  have hri := k.read hi; rw [hj] at hri; simp only [VX, V] at hri
  refine fits_pure k (cv := .int .u8 c.toNat) ?_ (VF_scalar rfl (by simp only [VX, V]) (by simp) (by simp))
  obtain ⟨h1, h2⟩ := List.getElem?_eq_some_iff.1 hc
  have hlt : j < ((⟨s.toArray⟩ : ByteArray).size : Int) := by show j < ((s.toArray.size : Nat) : Int); simp; omega
  have hb : ((⟨s.toArray⟩ : ByteArray)[j.toNat]'(by omega)) = c := by show s.toArray[j.toNat] = c; simpa using h2
  simp only [execOp, ho, Act.eval_eq, hr, hri, Sem.run_bind, run_index_string w t _ kk j hf, dif_pos (show 0 ≤ j ∧ j < ((⟨s.toArray⟩ : ByteArray).size : Int) from ⟨h0, hlt⟩), Result.andThen_ok, hb]
  rfl

theorem fits_int (k : Rel G g st [] a.tmps w) {kk : IntKind} {n : Int} (hrun : (execOp a.eval o).run P w = .ok (.value (.int kk n)) w) : Fits P G g st (.val (.int kk n) st) o a w :=
  fits_pure k hrun (VF_scalar rfl (by simp only [VX, V]) (by simp) (by simp))
theorem fits_bool (k : Rel G g st [] a.tmps w) {b : Bool} (hrun : (execOp a.eval o).run P w = .ok (.value (.bool b)) w) : Fits P G g st (.val (.bool b) st) o a w :=
  fits_pure k hrun (VF_scalar rfl (by simp only [VX, V]) (by simp) (by simp))

theorem run_eqGuard_int (op : BinOp) (t : TypeId) (x y : Operand) (k k' : IntKind) (m n : Int) : (eqGuard op t x y (.int k m) (.int k' n)).run P w = .ok () w := by
  unfold eqGuard; cases op <;> simp
theorem run_eqGuard_str (op : BinOp) (t : TypeId) (x y : Operand) (m n : ByteArray) : (eqGuard op t x y (.string m) (.string n)).run P w = .ok () w := by
  unfold eqGuard; cases op <;> simp
theorem fits_bin (k : Rel G g st [] a.tmps w) {x y : Opd} {x' y' : Operand} (hx : opdOk x x' = true) (hy : opdOk y y' = true) {op : BinOp} {t t' : TypeId} (ho : o.op = .binOp op t x' y' t') {v : AV} (h : binAV op (opd st.fr x).1 (opd st.fr y).1 = some v) : Fits P G g st (.val v st) o a w := by
  have hr := k.read hx
  have hs := k.read hy
  generalize (opd st.fr x).1 = p at *
  generalize (opd st.fr y).1 = q at *
  cases p <;> try (simp [binAV] at h; done)
  case int kk m =>
    cases q <;> try (simp [binAV] at h; done)
    case int k2 n =>
      simp only [VX, V] at hr hs
      have run : (execOp a.eval o).run P w = ((binOp op t (.int kk m) (.int k2 n)).run P w).andThen fun v w => .ok (.value v) w := by
        simp [execOp, ho, Act.eval_eq, hr, hs, run_eqGuard_int]
      cases op <;> simp only [binAV, shiftBin, intBin] at h
      all_goals
        repeat' split at h
        all_goals try (cases h; done)
        all_goals
          cases h
          first
            | (refine fits_int k ?_; rw [run]; simp only [binOp, Op.shift]; rw [if_neg (by assumption)]; rfl)
            | (refine fits_int k ?_; rw [run]; simp_all [binOp, Op.intArith, Op.intDiv, Op.intBits, Op.intCmp, Op.shift]; done)
            | (refine fits_bool k ?_; rw [run]; simp_all [binOp, Op.intArith, Op.intDiv, Op.intBits, Op.intCmp, Op.shift]; done)
  case str m =>
    cases q <;> try (simp [binAV] at h; done)
    case str n =>
      simp only [VX, V] at hr hs
      have run : (execOp a.eval o).run P w = ((binOp op t (.string ⟨m.toArray⟩) (.string ⟨n.toArray⟩)).run P w).andThen fun v w => .ok (.value v) w := by
        simp [execOp, ho, Act.eval_eq, hr, hs, run_eqGuard_str]
      have app : (⟨m.toArray⟩ : ByteArray) ++ (⟨n.toArray⟩ : ByteArray) = ⟨(m ++ n).toArray⟩ := by
        apply ByteArray.ext
        simp
      cases op <;> simp only [binAV, strBin] at h
      case add =>
        split at h
        · rename_i hle
          cases h
          refine fits_pure k (cv := .string ⟨(m ++ n).toArray⟩) ?_ (VF_scalar rfl (by simp only [VX, V]) (by simp) (by simp))
          rw [run]
          have h1 : ¬ (((⟨m.toArray⟩ : ByteArray).size + (⟨n.toArray⟩ : ByteArray).size : Nat) : Int) > IntKind.i64.max := by
            show ¬ (((m.toArray.size + n.toArray.size : Nat)) : Int) > 9223372036854775807
            simp; omega
          simp only [binOp, Op.stringOp, if_neg h1, app, Sem.run_pure, Result.andThen_ok]
        · cases h
      all_goals first
        | (cases h; done)
        | (cases h; refine fits_bool k ?_; rw [run]; simp [binOp, Op.stringOp])
end
end Go.Proofs.Ytajlmldpbhendaa.Rf
