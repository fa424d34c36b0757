/- Tuples, interfaces, function values, panics, maps, composite literals. -/
import Derived.Test.YtajlmldpbhendaaRfO
set_option linter.unusedSimpArgs false
set_option linter.unusedVariables false
namespace Go.Proofs.Ytajlmldpbhendaa.Rf

section
variable {P : Program} {G : Nat → Option (List AV)} {g g' : Gh} {st : St} {a : Act} {w w' : World} {o : Oper} {tm : Array Value} {ps : List (AV × Value)}

theorem Rel.reps {v v' : AV} {cv cv' : Value} (k : Rel G g st [(v, cv)] tm w) (h : VF g w st.fr tm (.arg 0) v' cv') : Rel G g st [(v', cv')] tm w := k.less.push0 h
theorem fits_extract (k : Rel G g st [] a.tmps w) {x : Opd} {x' : Operand} (hx : opdOk x x' = true) {i : Nat} (ho : o.op = .extract x' i) {vs : List AV} {v : AV} (h : (opd st.fr x).1 = .tup vs) (hv : vs[i]? = some v) (hp : v.plain = true) : Fits P G g st (.val v { st with fr := (opd st.fr x).2 }) o a w := by
  obtain ⟨g1, k1, s1, hb1⟩ := k.take hx
  rw [h] at k1; simp only [List.nil_append] at k1
  have fv := k1.ps 0 _ _ rfl
  rw [VF_loose rfl] at fv
  obtain ⟨f1, f2⟩ := fv
  simp only [VX, V] at f1
  obtain ⟨us, e1, e2⟩ := f1
  obtain ⟨u, hu, hvu⟩ := e2.get hv
  have own := f2 us e1
  have sm := same_mvI g1 w (.arg 0) i (.arg 0) 0
  have run : (execOp a.eval o).run P w = .ok (.value u) w := by simp [execOp, ho, Act.eval_eq, e1, Instr.extract, hu]
  have hi : (fun t => t ≠ Tag.tail (.arg 0) i ∧ t ≠ Tag.tail (.arg 0) 0) Tag.imm := ⟨by simp, by simp⟩
  refine fits_value (g' := g1.mvI (.arg 0) i (.arg 0) 0) run ?_ (s1.trans (stay_mvI _ _ _ _ _ _))
  refine ⟨fun s => (k1.fr s).same sm hi (fun _ _ _ => rfl) (fun j => ⟨by simp, by simp⟩) ⟨by simp, by simp⟩ rfl, fun j y cy hj => ?_, k1.hp.same sm hi (fun _ => ⟨by simp, by simp⟩) (fun _ _ => ⟨by simp, by simp⟩) (fun _ _ _ => ⟨by simp, by simp⟩) rfl, fun b q hb => ?_, k1.gl.same sm hi ⟨by simp, by simp⟩⟩
  · cases j with
    | succ j => simp at hj
    | zero =>
      simp at hj; obtain ⟨rfl, rfl⟩ := hj
      rw [VF_loose hvu.loose]
      refine ⟨VX_of_V (V.mono (sm.ext hi) _ _ hvu), ?_⟩
      cases v <;> try trivial
      case list xs ow =>
        cases ow <;> try trivial
        exact (own i _ _ _ hv hu).mvI (sm.ext hi) fun _ _ _ => ⟨rfl, rfl⟩
  · show (g1.ow b q).mvI _ _ _ _ = _; rw [k1.fresh b q hb]; rfl

theorem plain_cp {v : AV} (h : v.plain = true) : v.cp.plain = true := by
  cases v <;> simp_all [AV.plain, AV.cp, AV.cpA, AV.cp1]
  case list xs ow => cases ow <;> simp [AV.cp1]
theorem fits_mkiface (k : Rel G g st [] a.tmps w) {x : Opd} {x' : Operand} (hx : opdOk x x' = true) {t : TypeId} {d : TypeDesc} (hu : P.underlying t = some d) (hd : ∀ ms, d ≠ .interface ms) (ho : o.op = .makeInterface t x') (hp : (opd st.fr x).1.plain = true) :
    Fits P G g st (.val (.iface t (opd st.fr x).1.cp) { st with fr := (opd st.fr x).2 }) o a w := by
  obtain ⟨g1, k1, s1, hb1⟩ := k.take hx
  simp only [List.nil_append] at k1
  have fv := k1.ps 0 _ _ rfl
  rw [VF_loose (AV.loose_of_plain hp), VX_plain hp] at fv
  refine fits_value (g' := g1) (w' := w) (cv := .iface t (Act.opd a.tmps x')) ?_ (k1.reps (VF_scalar rfl (by simp only [VX, V]; exact ⟨_, rfl, fv.1.cp⟩) (by simp) (by simp))) s1
  simp [execOp, ho, Act.eval_eq, Instr.makeInterface, run_underlying hu]
theorem VS.cpAll : ∀ {cs : List AV} {vs : List Value}, VS g w cs vs → VS g w (cs.map AV.cp) vs
  | [], _, h => by simpa [VS] using h
  | _ :: _, _, h => by simp only [VS] at h; obtain ⟨u, r, rfl, l, m⟩ := h; simp only [List.map_cons, VS]; exact ⟨u, r, rfl, l.cp, VS.cpAll m⟩
theorem VS.of_ps {vs : List AV} {us : List Value} (k : Rel G g st (vs.zip us) tm w) (hl : vs.length = us.length) (hp : plains vs = true) : VS g w vs us :=
  VS.mk hl.symm fun i v u hv hu => by
    have hz : (vs.zip us)[i]? = some (v, u) := by rw [List.getElem?_zip_eq_some]; exact ⟨hv, hu⟩
    have := k.ps i v u hz
    have hpl : v.plain = true := by simp only [plains, List.all_eq_true] at hp; exact hp v (List.mem_of_getElem? hv)
    rw [VF_loose (AV.loose_of_plain hpl), VX_plain hpl] at this; exact this.1
theorem fits_mkfunc (k : Rel G g st [] a.tmps w) {xs : List Opd} {os : List Operand} (hx : opdsOk xs os = true) {f : FuncId} (ho : o.op = .makeFunc (.func f) #[] os.toArray) (hp : plains (opds st.fr xs).1 = true) :
    Fits P G g st (.val (.func f ((opds st.fr xs).1.map AV.cp)) { st with fr := (opds st.fr xs).2 }) o a w := by
  obtain ⟨g1, k1, s1, hb1, hl⟩ := k.takes hx
  simp only [List.nil_append] at k1
  have hv := VS.of_ps k1 (by simpa using hl) hp
  refine fits_value (g' := g1) (w' := w) (cv := .func (.func f) #[] (os.map (Act.opd a.tmps)).toArray) ?_ (k1.less.push0 (VF_scalar rfl (by simp only [VX, V]; exact ⟨_, rfl, hv.cpAll⟩) (by simp) (by simp))) s1
  have : os.toArray.map a.eval = (os.map (Act.opd a.tmps)).toArray := by
    rw [show a.eval = Act.opd a.tmps from funext (Act.eval_eq a)]; simp
  simp [execOp, ho, Instr.makeFunc]
  exact fun x _ => Act.eval_eq a x
theorem fits_panic (k : Rel G g st [] a.tmps w) {x : Opd} {x' : Operand} (hx : opdOk x x' = true) (ho : o.op = .panic x') {t : Nat} {v : AV} (h : (opd st.fr x).1 = .iface t v) : Fits P G g st (.pan (.iface t v) st) o a w := by
  have hr := k.read hx
  rw [h] at hr; simp only [VX] at hr
  intro next Q _ h2
  have hr' := hr
  simp only [V] at hr'
  obtain ⟨u, e1, e2⟩ := hr'
  unfold Oper.wp
  have : (execOp a.eval o).run P w = .halt (.panic (Act.opd a.tmps x')) w := by simp [execOp, ho, Act.eval_eq, e1, Instr.panic]
  rw [this]
  exact h2 g w _ st _ rfl hr rfl k (Stay.refl g w)

def zeroV (P : Program) (t : TypeId) (z : AV) : Bool :=
  match P.info? t with
  | some i => match i.zero with | some u => same z u | none => false
  | none => false
theorem zeroV_run {t : TypeId} {z : AV} (h : zeroV P t z = true) : ∃ u, (∀ w, (zeroValue t).run P w = .ok u w) ∧ same z u = true := by
  unfold zeroV at h
  cases hi : P.info? t with
  | none => simp [hi] at h
  | some i =>
    simp only [hi] at h
    cases hz : i.zero with
    | none => simp [hz] at h
    | some u => exact ⟨u, fun w => by simp [zeroValue, typeInfo, hi, hz], by simpa [hz] using h⟩
theorem VF_pair {fr : Fr} {v : AV} {u : Value} {b : Bool} (h : V g w v u) (ho : ∀ xs sz, v = .list xs (.own sz) → Tail g w (.arg 0) 0 xs sz u) : VF g w fr tm (.arg 0) (.tup [v, .bool b]) (.tuple #[u, .bool b]) := by
  rw [VF_loose rfl]
  refine ⟨by simp only [VX, V]; exact ⟨[u, .bool b], rfl, u, _, rfl, h, .bool b, [], rfl, by simp [V], rfl⟩, fun us e => ?_⟩
  have : us = [u, .bool b] := by
    have h2 : us.toArray = #[u, .bool b] := by injection e with e; exact e.symm
    simpa using congrArg Array.toList h2
  subst this
  intro i xs sz cv h1 h2
  match i with
  | 0 => simp at h1 h2; subst h2; exact ho xs sz h1
  | 1 => simp at h1
  | i + 2 => simp at h1
theorem fits_assert (k : Rel G g st [] a.tmps w) {x : Opd} {x' : Operand} (hx : opdOk x x' = true) {t xt : TypeId} {d : TypeDesc} (hu : P.underlying t = some d) (hd : ∀ ms, d ≠ .interface ms) {z : AV} (hz : zeroV P t z = true) {ok : Bool} (ho : o.op = .typeAssert x' xt t ok) {r : AV}
    (h : (∃ v, (opd st.fr x).1 = .iface t v ∧ r = if ok then .tup [v.cp, .bool true] else v.cp) ∨ (ok = true ∧ r = .tup [z, .bool false] ∧ ((opd st.fr x).1 = .nili ∨ ∃ u v, u ≠ t ∧ (opd st.fr x).1 = .iface u v))) : Fits P G g st (.val r st) o a w := by
  have hr := k.read hx
  rcases h with ⟨v, h1, rfl⟩ | ⟨rfl, rfl, h⟩
  · rw [h1] at hr; simp only [VX, V] at hr
    obtain ⟨u, e1, e2⟩ := hr
    have run : (execOp a.eval o).run P w = .ok (.value (if ok then .tuple #[u, .bool true] else u)) w := by
      have : ∀ d : TypeDesc, (∀ ms, d ≠ .interface ms) → P.underlying t = some d → (execOp a.eval o).run P w = .ok (.value (if ok then .tuple #[u, .bool true] else u)) w := fun d hd hu => by
        cases d <;> first
          | (exact absurd rfl (hd _))
          | (simp [execOp, ho, Act.eval_eq, e1, Instr.typeAssert, run_underlying hu])
      exact this d hd hu
    cases ok
    · exact fits_pure k run (VF_cp e2.loose (VX_of_V e2))
    · exact fits_pure k run (VF_pair e2.cp fun xs sz e => by
        have := (Owns.cp (g := g) (w := w) (r := .arg 0) (v := v) (cv := u)); rw [e] at this; exact this)
  · obtain ⟨zu, z1, z2⟩ := zeroV_run hz
    have run : (execOp a.eval o).run P w = .ok (.value (.tuple #[zu, .bool false])) w := by
      have : ∀ d : TypeDesc, (∀ ms, d ≠ .interface ms) → P.underlying t = some d → (execOp a.eval o).run P w = .ok (.value (.tuple #[zu, .bool false])) w := fun d hd hu => by
        rcases h with h | ⟨u, v, hne, h⟩ <;> rw [h] at hr <;> simp only [VX, V] at hr
        · cases d <;> first
            | (exact absurd rfl (hd _))
            | (simp [execOp, ho, Act.eval_eq, hr, Instr.typeAssert, run_underlying hu, z1])
        · obtain ⟨y, e1, _⟩ := hr
          cases d <;> first
            | (exact absurd rfl (hd _))
            | (simp [execOp, ho, Act.eval_eq, e1, Instr.typeAssert, run_underlying hu, z1, hne])
      exact this d hd hu
    exact fits_pure k run (VF_pair (V.of_same _ _ z2) fun xs sz e => by subst e; cases xs <;> simp [same] at z2)
end
end Go.Proofs.Ytajlmldpbhendaa.Rf
