/- More operations that only answer a value; new maps; what is drawn out of tuples and interfaces. -/
import Derived.Test.YtajlmldpbhendaaRfK
import Derived.Laws.Slices
set_option linter.unusedSimpArgs false
set_option linter.unusedVariables false
namespace Go.Proofs.Ytajlmldpbhendaa.Rf

section
variable {P : Program} {G : Nat → Option (List AV)} {g g' : Gh} {st : St} {a : Act} {w w' : World} {o : Oper} {tm : Array Value} {ps : List (AV × Value)}

def isConstNil : Operand → Bool
  | .const .nilIface => true
  | _ => false
def eqOk (P : Program) (k : EqK) (t : TypeId) (x y : Operand) : Bool :=
  match k, P.underlying t with
  | .bool, some .bool => true
  | .ptr, some (.pointer e) => (match P.info? e with | some i => decide (0 < i.size) | none => false)
  | .iface, some (.interface _) => isConstNil x || isConstNil y
  | .func, some (.func _ _ _) => true
  | .map, some (.map _ _) => true
  | .slice, some (.slice _) => true
  | _, _ => false
section
variable (d : Nat) {t : TypeId}
theorem eqIn_bool (hu : P.underlying t = some .bool) (m n : Bool) : (Op.equalIn (d + 1) t (.bool m) (.bool n)).run P w = .ok (m == n) w := by simp [Op.equalIn, run_underlying hu]
theorem eqIn_pnn {e : TypeId} (hu : P.underlying t = some (.pointer e)) (y : Option Addr) : (Op.equalIn (d + 1) t (.pointer none) (.pointer y)).run P w = .ok y.isNone w := by simp [Op.equalIn, run_underlying hu]
theorem eqIn_psn {e : TypeId} (hu : P.underlying t = some (.pointer e)) (x : Addr) : (Op.equalIn (d + 1) t (.pointer (some x)) (.pointer none)).run P w = .ok false w := by simp [Op.equalIn, run_underlying hu]
theorem eqIn_pss {e : TypeId} (hu : P.underlying t = some (.pointer e)) {i : TypeInfo} (hi : P.info? e = some i) (h0 : 0 < i.size) (b o1 o2 : Nat) : (Op.equalIn (d + 1) t (.pointer (some ⟨b, o1, none⟩)) (.pointer (some ⟨b, o2, none⟩))).run P w = .ok (o1 == o2) w := by
  have hd : ((⟨b, o1, none⟩ : Addr) == ⟨b, o2, none⟩) = (o1 == o2) := by
    rw [Bool.eq_iff_iff]; simp
  simp [Op.equalIn, run_underlying hu, sizeOf, typeInfo, hi, Nat.ne_of_gt h0, sameAddr, hd]
theorem eqIn_inn {ms : Array (String × TypeId)} (hu : P.underlying t = some (.interface ms)) : (Op.equalIn (d + 1) t .nilIface .nilIface).run P w = .ok true w := by simp [Op.equalIn, run_underlying hu]
theorem eqIn_ins {ms : Array (String × TypeId)} (hu : P.underlying t = some (.interface ms)) (x : TypeId) (v : Value) : (Op.equalIn (d + 1) t .nilIface (.iface x v)).run P w = .ok false w := by simp [Op.equalIn, run_underlying hu]
theorem eqIn_isn {ms : Array (String × TypeId)} (hu : P.underlying t = some (.interface ms)) (x : TypeId) (v : Value) : (Op.equalIn (d + 1) t (.iface x v) .nilIface).run P w = .ok false w := by simp [Op.equalIn, run_underlying hu]
theorem eqIn_fnn {ps rs : Array TypeId} {vd : Bool} (hu : P.underlying t = some (.func ps rs vd)) : (Op.equalIn (d + 1) t .nilFunc .nilFunc).run P w = .ok true w := by simp [Op.equalIn, run_underlying hu]
theorem eqIn_fns {ps rs : Array TypeId} {vd : Bool} (hu : P.underlying t = some (.func ps rs vd)) (f : Fn) (x y : Array Value) : (Op.equalIn (d + 1) t .nilFunc (.func f x y)).run P w = .ok false w := by simp [Op.equalIn, run_underlying hu]
theorem eqIn_fsn {ps rs : Array TypeId} {vd : Bool} (hu : P.underlying t = some (.func ps rs vd)) (f : Fn) (x y : Array Value) : (Op.equalIn (d + 1) t (.func f x y) .nilFunc).run P w = .ok false w := by simp [Op.equalIn, run_underlying hu]
theorem eqIn_mnx {k e : TypeId} (hu : P.underlying t = some (.map k e)) (y : Option Nat) : (Op.equalIn (d + 1) t (.map none) (.map y)).run P w = .ok y.isNone w := by simp [Op.equalIn, run_underlying hu]
theorem eqIn_msn {k e : TypeId} (hu : P.underlying t = some (.map k e)) (y : Nat) : (Op.equalIn (d + 1) t (.map (some y)) (.map none)).run P w = .ok false w := by simp [Op.equalIn, run_underlying hu]
theorem eqIn_snx {e : TypeId} (hu : P.underlying t = some (.slice e)) (y : Option Addr) (a b c d' : Nat) : (Op.equalIn (d + 1) t (.slice none a b) (.slice y c d')).run P w = .ok y.isNone w := by simp [Op.equalIn, run_underlying hu]
theorem eqIn_ssn {e : TypeId} (hu : P.underlying t = some (.slice e)) (y : Addr) (a b c d' : Nat) : (Op.equalIn (d + 1) t (.slice (some y) a b) (.slice none c d')).run P w = .ok false w := by simp [Op.equalIn, run_underlying hu]
end
/-- Values that are no numbers and no strings: == goes by 'Op.equal'. -/
def odd : Value → Bool
  | .int _ _ | .float _ _ | .complex _ _ _ | .string _ => false
  | _ => true
theorem fits_eq_of (k : Rel G g st [] a.tmps w) {x' y' : Operand} {neg : Bool} {t t' : TypeId} (ho : o.op = .binOp (if neg then .neq else .eql) t x' y' t') {X Y : Value} (hX : Act.opd a.tmps x' = X) (hY : Act.opd a.tmps y' = Y) {b : Bool} (h1 : odd X = true)
    (hg : ∀ op, (eqGuard op t x' y' X Y).run P w = .ok () w) (h : (Op.equalIn (9999 + 1) t X Y).run P w = .ok b w) : Fits P G g st (.val (.bool (if neg then !b else b)) st) o a w := by
  refine fits_bool k ?_
  have h2 : (Op.equal t X Y).run P w = .ok b w := h
  cases neg
  · have ho' : o.op = .binOp .eql t x' y' t' := ho
    simp only [execOp, ho', Act.eval_eq, hX, hY, Sem.run_bind, hg, Result.andThen_ok, Bool.false_eq_true, if_false]
    cases X <;> simp [odd] at h1 <;> simp [binOp, h2]
  · have ho' : o.op = .binOp .neq t x' y' t' := ho
    simp only [execOp, ho', Act.eval_eq, hX, hY, Sem.run_bind, hg, Result.andThen_ok, if_true]
    cases X <;> simp [odd] at h1 <;> simp [binOp, h2]
theorem eqGuard_plain {op : BinOp} {t : TypeId} {x y : Operand} {X Y : Value} (h1 : ∀ cs, X ≠ .agg cs) (h2 : X ≠ .nilIface ∨ Y ≠ .nilIface) : (eqGuard op t x y X Y).run P w = .ok () w := by
  unfold eqGuard
  cases op <;> simp only [] <;> try rfl
  all_goals
    cases X <;> cases Y <;> first
      | rfl
      | (exact absurd rfl (h1 _))
      | (rcases h2 with h2 | h2 <;> exact absurd rfl h2)
theorem eqGuard_nil {op : BinOp} {t : TypeId} {x y : Operand} (h : (isConstNil x || isConstNil y) = true) : (eqGuard op t x y .nilIface .nilIface).run P w = .ok () w := by
  unfold eqGuard
  cases op <;> simp only [] <;> try rfl
  all_goals
    cases x <;> cases y <;> first
      | rfl
      | (simp [isConstNil] at h; done)

theorem fits_eq (k : Rel G g st [] a.tmps w) {x y : Opd} {x' y' : Operand} (hx : opdOk x x' = true) (hy : opdOk y y' = true) {neg : Bool} {kd : EqK} {t t' : TypeId} (hk : eqOk P kd t x' y' = true)
    (ho : o.op = .binOp (if neg then .neq else .eql) t x' y' t') {b : Bool} (h : eqAV kd (opd st.fr x).1 (opd st.fr y).1 = some b) : Fits P G g st (.val (.bool (if neg then !b else b)) st) o a w := by
  have hr := k.read hx
  have hs := k.read hy
  generalize (opd st.fr x).1 = p at *
  generalize (opd st.fr y).1 = q at *
  unfold eqOk at hk
  cases kd <;> cases hu : P.underlying t <;> simp only [hu] at hk <;> try (simp at hk; done)
  all_goals
    rename_i d
    cases d <;> simp only [] at hk <;> try (simp at hk; done)
  · -- bool
    cases p <;> cases q <;> simp [eqAV] at h
    simp only [VX, V] at hr hs; subst h
    exact fits_eq_of k ho hr hs rfl (fun op => eqGuard_plain (by simp) (by simp)) (eqIn_bool _ hu _ _)
  · -- ptr
    cases p <;> cases q <;> simp only [eqAV] at h <;> try (cases h; done)
    · simp only [VX, V] at hr hs; obtain ⟨b1, r1, r2⟩ := hr; obtain ⟨b2, s1, s2⟩ := hs
      split at h <;> simp at h
      subst h; rename_i e1; subst e1
      rw [r1] at s1; cases s1
      rename_i e _ _ _
      cases hi : P.info? e with
      | none => simp [hi] at hk
      | some i =>
        simp [hi] at hk
        exact fits_eq_of k ho r2 s2 rfl (fun op => eqGuard_plain (by simp) (by simp)) (eqIn_pss _ hu hi hk _ _ _)
    · simp only [VX, V] at hr hs; obtain ⟨b1, r1, r2⟩ := hr; cases h
      exact fits_eq_of k ho r2 hs rfl (fun op => eqGuard_plain (by simp) (by simp)) (eqIn_psn _ hu _)
    · simp only [VX, V] at hr hs; obtain ⟨b1, s1, s2⟩ := hs; cases h
      exact fits_eq_of k ho hr s2 rfl (fun op => eqGuard_plain (by simp) (by simp)) (eqIn_pnn _ hu _)
    · simp only [VX, V] at hr hs; cases h
      exact fits_eq_of k ho hr hs rfl (fun op => eqGuard_plain (by simp) (by simp)) (eqIn_pnn _ hu _)
  · -- iface
    cases p <;> cases q <;> simp only [eqAV] at h <;> try (cases h; done)
    · simp only [VX, V] at hr hs; obtain ⟨u, r2, _⟩ := hr; cases h
      exact fits_eq_of k ho r2 hs rfl (fun op => eqGuard_plain (by simp) (by simp)) (eqIn_isn _ hu _ _)
    · simp only [VX, V] at hr hs; obtain ⟨u, s2, _⟩ := hs; cases h
      exact fits_eq_of k ho hr s2 rfl (fun op => eqGuard_plain (by simp) (by simp)) (eqIn_ins _ hu _ _)
    · simp only [VX, V] at hr hs; cases h
      exact fits_eq_of k ho hr hs rfl (fun op => eqGuard_nil hk) (eqIn_inn _ hu)
  · -- func
    cases p <;> cases q <;> simp only [eqAV] at h <;> try (cases h; done)
    · simp only [VX, V] at hr hs; obtain ⟨u, r2, _⟩ := hr; cases h
      exact fits_eq_of k ho r2 hs rfl (fun op => eqGuard_plain (by simp) (by simp)) (eqIn_fsn _ hu _ _ _)
    · simp only [VX, V] at hr hs; obtain ⟨u, s2, _⟩ := hs; cases h
      exact fits_eq_of k ho hr s2 rfl (fun op => eqGuard_plain (by simp) (by simp)) (eqIn_fns _ hu _ _ _)
    · simp only [VX, V] at hr hs; cases h
      exact fits_eq_of k ho hr hs rfl (fun op => eqGuard_plain (by simp) (by simp)) (eqIn_fnn _ hu)
  · -- map
    cases p <;> cases q <;> simp only [eqAV] at h <;> try (cases h; done)
    · simp only [VX, V] at hr hs; obtain ⟨u, _, r2⟩ := hr; cases h
      exact fits_eq_of k ho r2 hs rfl (fun op => eqGuard_plain (by simp) (by simp)) (eqIn_msn _ hu _)
    · simp only [VX, V] at hr hs; obtain ⟨u, _, s2⟩ := hs; cases h
      exact fits_eq_of k ho hr s2 rfl (fun op => eqGuard_plain (by simp) (by simp)) (eqIn_mnx _ hu _)
    · simp only [VX, V] at hr hs; cases h
      exact fits_eq_of k ho hr hs rfl (fun op => eqGuard_plain (by simp) (by simp)) (eqIn_mnx _ hu _)
  · -- slice
    cases p <;> cases q <;> simp only [eqAV] at h <;> try (cases h; done)
    rename_i xs o1 ys o2
    simp only [VX, V] at hr hs
    obtain ⟨A, c, e1, e2, e3, e4, e5, e6⟩ := hr
    obtain ⟨A', c', d1, d2, d3, d4, d5, d6⟩ := hs
    cases ys with
    | cons z zs => cases xs <;> simp [eqAV] at h
    | nil =>
      cases o2 <;> try (cases xs <;> cases o1 <;> simp [eqAV] at h; done)
      have hA' := d4 rfl; subst hA'
      cases xs with
      | nil =>
        cases o1 <;> simp [eqAV] at h
        have hA := e4 rfl; subst hA; subst h
        exact fits_eq_of k ho e1 d1 rfl (fun op => eqGuard_plain (by simp) (by simp)) (eqIn_snx _ hu _ _ _ _ _)
      | cons z zs =>
        simp [eqAV] at h; subst h
        cases A with
        | none => have := e5 rfl; simp at e2; omega
        | some ad => exact fits_eq_of k ho e1 d1 rfl (fun op => eqGuard_plain (by simp) (by simp)) (eqIn_ssn _ hu _ _ _ _ _)
end
end Go.Proofs.Ytajlmldpbhendaa.Rf
