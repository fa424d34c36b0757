/- append as an operation; other built-ins. -/
import Derived.Test.YtajlmldpbhendaaRfN
set_option linter.unusedSimpArgs false
set_option linter.unusedVariables false
namespace Go.Proofs.Ytajlmldpbhendaa.Rf

section
variable {P : Program} {G : Nat → Option (List AV)} {g g' : Gh} {st : St} {a : Act} {w w' : World} {o : Oper} {tm : Array Value} {ps : List (AV × Value)}

theorem okSize_VE {sz sz' : Nat} {xs : List AV} {b q : Nat} (h : okSize sz xs = true) (hv : VE g w sz' xs b q) : VE g w sz xs b q := by
  cases xs with
  | nil => simp [VE]
  | cons x r =>
    have := (hv.get (j := 0) rfl).1
    simp [okSize] at h
    rw [h] at this; subst this; exact hv
/-- The source of an append: its length, its cells. -/
structure Src (P : Program) (g : Gh) (w : World) (sz : Nat) (ys : List AV) (Y : Value) (news : List Value) : Prop where
  len : ∀ w' : World, (Builtin.lenOf Y).run P w' = .ok ys.length w'
  cells : ∀ w' : World, (∀ b : Nat, w'.heap[b]? = w.heap[b]?) → (Builtin.firstCells sz ys.length Y).run P w' = .ok news.toArray w'
  lay : Lay g w sz ys news
theorem Src.list {sz : Nat} {ys : List AV} {ow : Own} {Y : Value} (h : V g w (.list ys ow) Y) (hs : okSize sz ys = true) : ∃ news, Src P g w sz ys Y news := by
  simp only [V] at h
  obtain ⟨A, c, rfl, h2, h3, _, h5, h6⟩ := h
  cases A with
  | none =>
    have hc := h5 rfl; subst hc
    have : ys = [] := List.length_eq_zero_iff.1 (by omega)
    subst this
    exact ⟨[], ⟨fun _ => by simp [Builtin.lenOf], fun _ _ => by simp [Builtin.firstCells], Lay.nil⟩⟩
  | some ad =>
    obtain ⟨hsp, sz', hv⟩ := h6 ad rfl
    by_cases hy : ys = []
    · subst hy
      exact ⟨[], ⟨fun _ => by simp [Builtin.lenOf], fun _ _ => by simp [Builtin.firstCells, loadCells, loadCellsFrom], Lay.nil⟩⟩
    replace hsp := hsp (.inr (by have := List.length_pos_iff.2 hy; omega))
    obtain ⟨b, q, sp⟩ := ad
    simp only at hsp hv; subst hsp
    obtain ⟨news, n1, n2⟩ := Lay.of_VE (okSize_VE hs hv)
    exact ⟨news, ⟨fun _ => by simp [Builtin.lenOf], fun w' hw => firstCells_some n1.1 fun j v hj => by rw [cell?_of_block' (hw b)]; exact n2 j v hj, n1⟩⟩
theorem Src.str (s : List UInt8) : Src P g w 1 (s.map fun b => AV.int .u8 b.toNat) (.string ⟨s.toArray⟩) (s.map fun b => Value.int .u8 b.toNat) := by
  refine ⟨fun _ => ?_, fun _ _ => ?_, Lay.bytes s⟩
  · simp [Builtin.lenOf]; show s.toArray.size = _; simp
  · have h1 : (⟨s.toArray⟩ : ByteArray).extract 0 s.length = ⟨s.toArray⟩ := by
      apply ByteArray.ext; simp
    simp [Builtin.firstCells, h1]

def append2Ok (P : Program) (t2 : TypeId) : Bool :=
  match P.underlying t2 with
  | some (.slice _) | some .string => true
  | _ => false

theorem fits_append (k : Rel G g st [] a.tmps w) {x y : Opd} {x' y' : Operand} (hx : opdOk x x' = true) (hy : opdOk y y' = true) {t t2 : TypeId} {sz bytes : Nat} (ht : appendOk P t sz bytes = true) (ht2 : append2Ok P t2 = true)
    (ho : o.op = .call { callee := .builtin .append, args := #[x', y'], argTypes := #[t, t2] }) {xs ys : List AV} {ow : Own} (ha : (opd st.fr x).1 = .list xs ow) (hown : ow = .nil ∨ ow = .own sz) (hs : okSize sz xs = true)
    (hy2 : ∀ g', VX g' w (opd st.fr x).2 a.tmps (opd (opd st.fr x).2 y).1 (Act.opd a.tmps y') → ∃ news, Src P g' w sz ys (Act.opd a.tmps y') news)
    (hby : (xs.length + ys.length) * bytes ≤ 140737488355328) (h63 : xs.length + ys.length ≤ 9223372036854775807) (pend : Bool) (hp : pend = true → ys.length = 1) :
    Fits P G g st (.val (if pend then .pend xs sz else .list (xs ++ ys) (.own sz)) { st with fr := (opd st.fr x).2 }) o a w := by
  obtain ⟨g1, k1, s1, hb1⟩ := k.take hx
  rw [ha] at k1; simp only [List.nil_append] at k1
  obtain ⟨news, src⟩ := hy2 g1 (k1.read hy)
  have fv := k1.ps 0 _ _ rfl
  rw [VF_loose rfl] at fv
  obtain ⟨hv, hO⟩ := fv
  simp only [VX, V] at hv
  obtain ⟨A, c, e1, e2, e3, e4, e5, e6⟩ := hv
  have hu2 : ∃ d2, P.underlying t2 = some d2 ∧ ∀ kk, d2 ≠ .int kk := by
    unfold append2Ok at ht2
    cases hu : P.underlying t2 with
    | none => simp [hu] at ht2
    | some d => exact ⟨d, rfl, fun kk e => by subst e; simp [hu] at ht2⟩
  obtain ⟨d2, hu2, hd2⟩ := hu2
  have hsz : 0 < sz := by
    unfold appendOk at ht
    cases hu : P.underlying t with
    | none => simp [hu] at ht
    | some d =>
      cases d <;> simp [hu] at ht
      rename_i e
      cases hi : P.info? e <;> simp [hi] at ht
      exact ht.1.2
  -- what the owner holds
  have hT : ∀ ad, A = some ad → Tail g1 w (.arg 0) 0 xs sz (.slice (some ad) xs.length c) := fun ad hA => by
    rcases hown with rfl | rfl
    · have := e4 rfl; rw [hA] at this; cases this
    · simp only [Owns] at hO; rw [e1, hA] at hO; exact hO
  have hargs : (Builtin.append_ #[t, t2] o.type #[Act.opd a.tmps x', Act.opd a.tmps y']) = (Builtin.append_ #[t, t2] o.type #[.slice A xs.length c, Act.opd a.tmps y']) := by rw [e1]
  have run : ∀ {v : Value} {w1 : World}, (Builtin.append_ #[t, t2] o.type #[.slice A xs.length c, Act.opd a.tmps y']).run P w = .ok v w1 → (execOp a.eval o).run P w = .ok (.value v) w1 := fun {v w1} h => by
    simp [execOp, ho, resolve, Act.eval_eq, invoke, builtin, hargs, h]
  have lenOld : ∀ ad, A = some ad → ∃ olds : List Value, olds.length = xs.length * sz ∧ (∀ (j : Nat) v, olds[j]? = some v → w.cell? ⟨ad.block, ad.off + j, none⟩ = some v) := fun ad hA => by
    obtain ⟨us, u1, _, u3⟩ := (hT ad hA).get.1.flat
    exact ⟨us, u1, u3⟩
  by_cases hroom : xs.length + ys.length ≤ c
  · cases A with
    | none =>
      have hc := e5 rfl; subst hc
      have hx0 : xs = [] := List.length_eq_zero_iff.1 (by omega)
      have hy0 : ys = [] := List.length_eq_zero_iff.1 (by omega)
      have hpf : pend = false := by cases pend with
        | false => rfl
        | true => have := hp rfl; rw [hy0] at this; cases this
      subst hx0 hy0 hpf
      have hn0 : news = [] := List.length_eq_zero_iff.1 (by have := src.lay.1; simpa using this)
      subst hn0
      have hcel := src.cells w (fun _ => rfl)
      refine fits_value (g' := g1) (w' := w) (cv := .slice none 0 0) (run ?_) ?_ s1
      · unfold appendOk at ht
        cases hu : P.underlying t with
        | none => simp [hu] at ht
        | some d =>
          cases d <;> simp [hu] at ht
          rename_i e
          cases hi : P.info? e <;> simp [hi] at ht
          rename_i i
          have hm : (d2 matches .int _) = false := by cases d2 <;> first | rfl | exact absurd rfl (hd2 _)
          simp [Builtin.append_, run_underlying hu, run_underlying hu2, sizeOf, typeInfo, hi, ht.1.1.1, src.len w, hm]
          simp at hcel; simp [hcel]
      · refine Rel.push0 k1.less ?_
        rw [VF_loose rfl]
        refine ⟨by simp only [VX, V, Bool.false_eq_true, if_false]; exact ⟨none, 0, rfl, by simp, by decide, (fun e => by cases e), fun _ => rfl, fun ad e => by cases e⟩, ?_⟩
        simp only [Bool.false_eq_true, if_false, Owns]
        intro ad n c e; cases e
    | some ad =>
      obtain ⟨b, q, sp⟩ := ad
      obtain ⟨hsp, _⟩ := e6 _ rfl
      replace hsp := hsp (.inl (by rcases hown with rfl | rfl <;> simp))
      simp only at hsp; subst hsp
      have T := hT _ rfl
      obtain ⟨w', r1, r2⟩ := run_append_in ht hu2 hd2 (src.len w) src.lay.1 (src.cells w fun _ => rfl) src.lay.2.1 hroom (b := b) (q := q) (fun o h1 h2 => (T.get.2 o h1 h2).2) o.type
      cases pend with
      | false =>
        obtain ⟨g2, k2, s2⟩ := k1.append_in T e3 src.lay hroom r2
        exact fits_value (run r1) (by simpa using k2) (s1.trans s2)
      | true =>
        have hy1 := hp rfl
        obtain ⟨k2, s2⟩ := k1.append_in_pend T e3 (by have := src.lay.1; rwa [hy1, Nat.one_mul] at this) (by omega) r2
        rw [hy1] at r1
        exact fits_value (run r1) (by simpa using k2) (s1.trans s2)
  · -- a new row
    have hold : ∃ olds : List Value, olds.length = xs.length * sz ∧ (Builtin.firstCells sz xs.length (.slice A xs.length c)).run P w.drew = .ok olds.toArray w.drew ∧
        ∀ g' w' b' q', Ext g1 w g' w' → (∀ (j : Nat) v, olds[j]? = some v → g'.ow b' (q' + j) = .imm ∧ w'.cell? ⟨b', q' + j, none⟩ = some v) → VE g' w' sz xs b' q' := by
      cases A with
      | none =>
        have hc := e5 rfl; subst hc
        have hx0 : xs = [] := List.length_eq_zero_iff.1 (by omega)
        subst hx0
        exact ⟨[], by simp, by simp [Builtin.firstCells], fun _ _ _ _ _ _ => by simp [VE]⟩
      | some ad =>
        obtain ⟨b, q, sp⟩ := ad
        obtain ⟨hsp, _⟩ := e6 _ rfl
        replace hsp := hsp (.inl (by rcases hown with rfl | rfl <;> simp))
        simp only at hsp; subst hsp
        have T := hT _ rfl
        obtain ⟨olds, n1, n2⟩ := Lay.of_VE T.get.1
        exact ⟨olds, n1.1, firstCells_some n1.1 fun j v hj => n2 j v hj, n1.2.2⟩
    obtain ⟨olds, o1, o2, o3⟩ := hold
    obtain ⟨C, e, rest, c1, c2, c3, c4⟩ := run_append_out ht hu2 hd2 (src.len w) src.lay.1 o1 (src.cells w.drew fun _ => rfl) o2 hroom hby h63 o.type
    have hlen : (olds ++ news ++ rest).length = C * sz := by
      simp only [List.length_append, o1, src.lay.1, c3, ← Nat.add_mul]; congr 1; omega
    have getOld : ∀ (j : Nat) v, olds[j]? = some v → (olds ++ news ++ rest)[j]? = some v := fun j v hj => by
      have := (List.getElem?_eq_some_iff.1 hj).1
      rw [List.append_assoc, List.getElem?_append, if_pos this]; exact hj
    have getNew : ∀ (j : Nat) v, news[j]? = some v → (olds ++ news ++ rest)[xs.length * sz + j]? = some v := fun j v hj => by
      have := (List.getElem?_eq_some_iff.1 hj).1
      rw [List.append_assoc, List.getElem?_append, if_neg (by omega), show xs.length * sz + j - olds.length = j by omega, List.getElem?_append, if_pos this]; exact hj
    cases pend with
    | false =>
      obtain ⟨sm, q1, q2, q3, q4, q5⟩ := k1.append_out (C := C) (m := xs.length + ys.length) (e := e) hlen c1
      have hi : (fun t => t ≠ Tag.tail (.arg 0) 0) Tag.imm := by simp
      have hmul : xs.length * sz + ys.length * sz = (xs.length + ys.length) * sz := (Nat.add_mul _ _ _).symm
      have hE : VE (g1.fresh w.heap.size ((xs.length + ys.length) * sz)) (w.drew.alloc (.cells (olds ++ news ++ rest).toArray e)) sz (xs ++ ys) w.heap.size 0 := by
        refine VE.append (o3 _ _ _ _ (sm.ext hi) fun j v hj => ?_) (src.lay.2.2 _ _ _ _ (sm.ext hi) fun j v hj => ?_)
        · have := (List.getElem?_eq_some_iff.1 hj).1
          exact ⟨q1 j (by omega), q2 j v (getOld j v hj)⟩
        · have := (List.getElem?_eq_some_iff.1 hj).1
          have hl := src.lay.1
          refine ⟨?_, ?_⟩
          · have := q1 (xs.length * sz + j) (by omega); rwa [← Nat.add_assoc] at this
          · have := q2 (xs.length * sz + j) v (getNew j v hj); rwa [← Nat.add_assoc] at this
      refine fits_value (run c4) (q5 _ _ ?_) (s1.trans q4)
      rw [VF_loose rfl]
      refine ⟨?_, ?_⟩
      · simp only [VX, V, Bool.false_eq_true, if_false]
        exact ⟨some ⟨w.heap.size, 0, none⟩, C, by simp, by simpa using c1, c2, (fun e => by cases e), (fun e => by cases e), fun ad e => by cases e; exact ⟨fun _ => rfl, sz, hE⟩⟩
      · simp only [Owns, Bool.false_eq_true, if_false]
        intro ad n c' e'
        cases e'
        refine ⟨hE, fun o h1 h2 => ?_⟩
        simp only [Nat.zero_add, List.length_append] at h1 h2
        exact q3 o h1 h2
    | true =>
      have hy1 := hp rfl
      obtain ⟨sm, q1, q2, q3, q4, q5⟩ := k1.append_out (C := C) (m := xs.length) (e := e) hlen (by omega)
      have hi : (fun t => t ≠ Tag.tail (.arg 0) 0) Tag.imm := by simp
      have hE : VE (g1.fresh w.heap.size (xs.length * sz)) (w.drew.alloc (.cells (olds ++ news ++ rest).toArray e)) sz xs w.heap.size 0 := by
        refine o3 _ _ _ _ (sm.ext hi) fun j v hj => ?_
        have := (List.getElem?_eq_some_iff.1 hj).1
        exact ⟨q1 j (by omega), q2 j v (getOld j v hj)⟩
      rw [hy1] at c4
      refine fits_value (run c4) (q5 _ _ ?_) (s1.trans q4)
      simp only [VF, if_true]
      refine ⟨⟨w.heap.size, 0, none⟩, C, rfl, by omega, c2, rfl, ?_⟩
      intro ad n c' e'
      cases e'
      refine ⟨hE, fun o h1 h2 => ?_⟩
      simp only [Nat.zero_add] at h1 h2
      exact q3 o h1 h2

def lenOk (P : Program) (t : TypeId) : Bool :=
  match P.underlying t with
  | some .string | some (.slice _) | some (.map _ _) => true
  | _ => false
theorem fits_len (k : Rel G g st [] a.tmps w) {x : Opd} {x' : Operand} (hx : opdOk x x' = true) {t : TypeId} {d : TypeDesc} (hu : P.underlying t = some d) (ho : o.op = .call { callee := .builtin .len, args := #[x'], argTypes := #[t] }) {n : Nat}
    (h : (∃ xs ow, (opd st.fr x).1 = .list xs ow ∧ n = xs.length ∧ ∃ e, d = .slice e) ∨ (∃ s, (opd st.fr x).1 = .str s ∧ n = s.length ∧ d = .string) ∨ ((opd st.fr x).1 = .nilm ∧ n = 0 ∧ ∃ kt e, d = .map kt e) ∨
      (∃ id es, (opd st.fr x).1 = .map id ∧ st.hp[id]? = some (.map es) ∧ n = es.length ∧ ∃ kt e, d = .map kt e)) : Fits P G g st (.val (.int .i64 n) st) o a w := by
  have hr := k.read hx
  refine fits_int k ?_
  rcases h with ⟨xs, ow, h1, rfl, e, rfl⟩ | ⟨s, h1, rfl, rfl⟩ | ⟨h1, rfl, kt, e, rfl⟩ | ⟨id, es, h1, h2, rfl, kt, e, rfl⟩ <;> rw [h1] at hr <;> simp only [VX, V] at hr
  · obtain ⟨A, c, e1, _⟩ := hr
    simp [execOp, ho, resolve, Act.eval_eq, invoke, builtin, Builtin.len_, run_underlying hu, e1, goInt]
  · have : (⟨s.toArray⟩ : ByteArray).size = s.length := by show s.toArray.size = _; simp
    simp [execOp, ho, resolve, Act.eval_eq, invoke, builtin, Builtin.len_, run_underlying hu, hr, goInt, this]
  · simp [execOp, ho, resolve, Act.eval_eq, invoke, builtin, Builtin.len_, run_underlying hu, hr, goInt]
  · obtain ⟨b, e1, e2⟩ := hr
    obtain ⟨b', k1, k2, k3⟩ := k.hp.obj id _ h2
    rw [k1] at e1; cases e1
    simp only [ObjRel] at k3
    obtain ⟨ents, clock, k4, k5, _⟩ := k3
    have hg : (getObj b).run P w = .ok (.map ents clock) w := by simp [getObj, Sem.run, k4]
    simp [execOp, ho, resolve, Act.eval_eq, invoke, builtin, Builtin.len_, run_underlying hu, e2, goInt, hg, k5]
theorem fits_konst (k : Rel G g st [] a.tmps w) {t : TypeId} {n : Nat} {e : TypeId} (hu : P.underlying t = some (.array n e)) {x' : Operand} (ho : o.op = .call { callee := .builtin .len, args := #[x'], argTypes := #[t] }) : Fits P G g st (.val (.int .i64 n) st) o a w := by
  refine fits_int k ?_
  simp [execOp, ho, resolve, Act.eval_eq, invoke, builtin, Builtin.len_, run_underlying hu, goInt]
theorem fits_min (k : Rel G g st [] a.tmps w) {x y : Opd} {x' y' : Operand} (hx : opdOk x x' = true) (hy : opdOk y y' = true) {ts : Array TypeId} (ho : o.op = .call { callee := .builtin .min, args := #[x', y'], argTypes := ts }) {k1 k2 : IntKind} {m n : Int}
    (h1 : (opd st.fr x).1 = .int k1 m) (h2 : (opd st.fr y).1 = .int k2 n) : Fits P G g st (.val (.int k1 (if n < m then n else m)) st) o a w := by
  have hr := k.read hx; have hs := k.read hy
  rw [h1] at hr; rw [h2] at hs; simp only [VX, V] at hr hs
  refine fits_int k ?_
  simp [execOp, ho, resolve, Act.eval_eq, invoke, builtin, Builtin.min_, Builtin.min2, hr, hs]
theorem fits_max (k : Rel G g st [] a.tmps w) {x y : Opd} {x' y' : Operand} (hx : opdOk x x' = true) (hy : opdOk y y' = true) {ts : Array TypeId} (ho : o.op = .call { callee := .builtin .max, args := #[x', y'], argTypes := ts }) {k1 k2 : IntKind} {m n : Int}
    (h1 : (opd st.fr x).1 = .int k1 m) (h2 : (opd st.fr y).1 = .int k2 n) : Fits P G g st (.val (.int k1 (if n > m then n else m)) st) o a w := by
  have hr := k.read hx; have hs := k.read hy
  rw [h1] at hr; rw [h2] at hs; simp only [VX, V] at hr hs
  refine fits_int k ?_
  simp [execOp, ho, resolve, Act.eval_eq, invoke, builtin, Builtin.max_, Builtin.max2, hr, hs]
theorem fits_un (k : Rel G g st [] a.tmps w) {x : Opd} {x' : Operand} (hx : opdOk x x' = true) {op : UnOp} {t : TypeId} (ho : o.op = .unOp op t x') {v : AV} (h : unAV op (opd st.fr x).1 = some v) : Fits P G g st (.val v st) o a w := by
  have hr := k.read hx
  generalize (opd st.fr x).1 = p at *
  cases op <;> cases p <;> simp [unAV] at h <;> simp only [VX, V] at hr
  · subst h; refine fits_int k ?_; simp [execOp, ho, Act.eval_eq, hr, Op.unary, Op.intArith]
  · simp only [intBin] at h; cases h; refine fits_int k ?_; simp [execOp, ho, Act.eval_eq, hr, Op.unary, Op.intBits]
  · subst h; refine fits_bool k ?_; simp [execOp, ho, Act.eval_eq, hr, Op.unary]
theorem fits_conv (k : Rel G g st [] a.tmps w) {x : Opd} {x' : Operand} (hx : opdOk x x' = true) {s d : TypeId} {kk ks : IntKind} (hs : P.underlying s = some (.int ks)) (hd : P.underlying d = some (.int kk)) (ho : o.op = .convert s d x') {k0 : IntKind} {n : Int} (h : (opd st.fr x).1 = .int k0 n) : Fits P G g st (.val (.int kk (kk.wrap n)) st) o a w := by
  have hr := k.read hx
  rw [h] at hr; simp only [VX, V] at hr
  refine fits_int k ?_
  simp [execOp, ho, Act.eval_eq, hr, convert, run_underlying hs, run_underlying hd, Conv.intToInt]
end
end Go.Proofs.Ytajlmldpbhendaa.Rf
