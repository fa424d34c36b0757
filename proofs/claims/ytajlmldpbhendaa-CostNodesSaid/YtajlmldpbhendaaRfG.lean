/- One operation: the simple ones. -/
import Derived.Test.YtajlmldpbhendaaRfF
import Derived.Laws.Sem
set_option linter.unusedSimpArgs false
set_option linter.unusedVariables false
namespace Go.Proofs.Ytajlmldpbhendaa.Rf

/-- What a step of the model's owes: its value stands to the plain one. -/
def Fits (P : Program) (G : Nat → Option (List AV)) (g : Gh) (st : St) (r : OpR) (o : Oper) (a : Act) (w : World) : Prop :=
  ∀ next Q, (∀ g' w' v st' cv, r = .val v st' → Rel G g' st' [(v, cv)] a.tmps w' → Stay g w g' w' → next (a.put o.dst cv) w') →
    (∀ g' w' v st' cv, r = .pan v st' → V g' w' v cv → v.plain = true → Rel G g' st' [] a.tmps w' → Stay g w g' w' → Q (.panic [{ v := cv, recovered := false }]) a w') → o.wp P a w next Q

section
variable {P : Program} {G : Nat → Option (List AV)} {g : Gh} {st : St} {a : Act} {w : World} {o : Oper}

theorem fits_value {v : AV} {st' : St} {cv : Value} {w' : World} {g' : Gh} (hrun : (execOp a.eval o).run P w = .ok (.value cv) w') (hr : Rel G g' st' [(v, cv)] a.tmps w') (hs : Stay g w g' w') : Fits P G g st (.val v st') o a w := by
  intro next Q h _
  unfold Oper.wp; rw [hrun]
  exact h g' w' v st' cv rfl hr hs
theorem fits_skip {v : AV} {st' : St} {w' : World} {g' : Gh} (hrun : (execOp a.eval o).run P w = .ok .skip w') (hr : Rel G g' st' [(v, undef)] a.tmps w') (hs : Stay g w g' w') : Fits P G g st (.val v st') o a w := by
  intro next Q h _
  unfold Oper.wp; rw [hrun]
  exact h g' w' v st' undef rfl hr hs
theorem Rel.push0 {tm : Array Value} (k : Rel G g st [] tm w) {v : AV} {cv : Value} (h : VF g w st.fr tm (.arg 0) v cv) : Rel G g st [(v, cv)] tm w := by
  have := k.push (ps := []) h; simpa using this
/-- The operation answers a value that owns nothing, and the world stays. -/
theorem fits_pure (k : Rel G g st [] a.tmps w) {v : AV} {cv : Value} (hrun : (execOp a.eval o).run P w = .ok (.value cv) w) (hv : VF g w st.fr a.tmps (.arg 0) v cv) : Fits P G g st (.val v st) o a w :=
  fits_value hrun (k.push0 hv) (Stay.refl g w)
theorem VF_scalar {fr : Fr} {tm : Array Value} {r : Root} {v : AV} {cv : Value} (h1 : v.loose = true) (h2 : VX g w fr tm v cv) (h3 : ∀ xs sz, v ≠ .list xs (.own sz)) (h4 : ∀ vs, v ≠ .tup vs) : VF g w fr tm r v cv := by
  rw [VF_loose h1]; exact ⟨h2, Owns.not_own h3 h4⟩
theorem VF_cp {fr : Fr} {tm : Array Value} {r : Root} {v : AV} {cv : Value} (h1 : v.loose = true) (h2 : VX g w fr tm v cv) : VF g w fr tm r v.cp cv := by
  rw [VF_loose (AV.cp_loose h1)]; exact ⟨h2.cp, Owns.cp⟩

theorem fits_mv (k : Rel G g st [] a.tmps w) {x : Opd} {y : Operand} (hx : opdOk x y = true) (ho : o.op = .move y ∨ o.op = .assign y) :
    Fits P G g st (.val (opd st.fr x).1 { st with fr := (opd st.fr x).2 }) o a w := by
  obtain ⟨g', k', s, _⟩ := k.take hx
  refine fits_value (g' := g') (w' := w) (cv := Act.opd a.tmps y) ?_ (by simpa using k') s
  rcases ho with ho | ho <;> simp [execOp, ho, Act.eval_eq]

theorem fits_pick (k : Rel G g st [] a.tmps w) {x y z : Opd} {x' y' z' : Operand} (hx : opdOk x x' = true) (hy : opdOk y y' = true) (hz : opdOk z z' = true) (ho : o.op = .pick x' y' z') {t : Bool} (ht : (opd st.fr x).1 = .bool t) :
    Fits P G g st (.val (if t then (opd st.fr y).1.cp else (opd st.fr z).1.cp) st) o a w := by
  have h1 := k.read hx; rw [ht] at h1; simp only [VX, V] at h1
  refine fits_pure k (cv := if t then Act.opd a.tmps y' else Act.opd a.tmps z') ?_ ?_
  · simp [execOp, ho, Act.eval_eq, h1, asBool]
  · cases t
    · exact VF_cp (opd_loose st.fr hz) (k.read hz)
    · exact VF_cp (opd_loose st.fr hy) (k.read hy)

def zeroOk (P : Program) (t : TypeId) (cs : List AV) : Bool :=
  match P.info? t with
  | some i => match i.zero with | some z => sames cs z.cells.toList && z.cells.toList.all Value.oneCell' | none => false
  | none => false
theorem zeroOk_run {t : TypeId} {cs : List AV} (h : zeroOk P t cs = true) : ∃ z, (∀ w, (zeroValue t).run P w = .ok z w) ∧ sames cs z.cells.toList = true ∧ Ones z.cells.toList := by
  unfold zeroOk at h
  cases hi : P.info? t with
  | none => simp [hi] at h
  | some i =>
    simp only [hi] at h
    cases hz : i.zero with
    | none => simp [hz] at h
    | some z => exact ⟨z, fun w => by simp [zeroValue, typeInfo, hi, hz], by simp only [hz, Bool.and_eq_true, List.all_eq_true] at h; exact h⟩
theorem sames_plain : ∀ {cs : List AV} {vs : List Value}, sames cs vs = true → OwnsL g w (.arg 0) cs vs := fun h => OwnsL.none (sames_not_own h)

theorem fits_alloc (k : Rel G g st [] a.tmps w) {t : TypeId} {cs : List AV} (hz : zeroOk P t cs = true) (ho : o.op = .alloc t) (heap : Bool) :
    Fits P G g st (if heap then .val (.ptr st.hp.length 0) { st with hp := st.hp ++ [.cells cs] } else .val (.box cs) st) o a w := by
  obtain ⟨z, hz1, hz2, hz3⟩ := zeroOk_run hz
  have hrun : (execOp a.eval o).run P w = .ok (.value (.pointer (some ⟨w.heap.size, 0, none⟩))) (w.alloc (.cells z.cells t)) := by
    simp [execOp, ho, Instr.alloc, hz1, newVar, newRow]
  have e : z.cells = z.cells.toList.toArray := by simp
  cases heap with
  | false =>
    obtain ⟨g', k', s, _⟩ := Rel.newbox k ⟨VS.of_same cs _ hz2, hz3⟩ (sames_plain hz2) t
    rw [← e] at k' s
    exact fits_value hrun k' s
  | true =>
    obtain ⟨g', k', s, hb⟩ := Rel.newobj k (o := .cells cs) (obj := .cells z.cells t) (fun g1 w1 _ _ h1 => by
      simp only [ObjRel]; exact ⟨z.cells.toList, t, by rw [← e]; exact h1, ⟨VS.of_same cs _ hz2, hz3⟩, OwnsL.none (sames_not_own hz2)⟩)
    refine fits_value hrun (k'.push0 (v := .ptr st.hp.length 0) (cv := .pointer (some ⟨w.heap.size, 0, none⟩)) ?_) s
    exact VF_scalar rfl (VX_of_V (by simp only [V]; exact ⟨w.heap.size, by rw [hb, List.getElem?_append, if_neg (by rw [k.hp.len]; omega), k.hp.len]; simp, rfl⟩)) (by simp) (by simp)

theorem fits_box (k : Rel G g st [] a.tmps w) {t : TypeId} {x : Opd} {y : Operand} (hx : opdOk x y = true) (ho : o.op = .box t y) (hp : (opd st.fr x).1.plain = true) (heap : Bool) :
    Fits P G g st (if heap then .val (.ptr st.hp.length 0) { fr := (opd st.fr x).2, hp := st.hp ++ [.cells (opd st.fr x).1.spread] } else .val (.box (opd st.fr x).1.spread) { st with fr := (opd st.fr x).2 }) o a w := by
  obtain ⟨g1, k1, s1, hb1⟩ := k.take hx
  have hrun : (execOp a.eval o).run P w = .ok (.value (.pointer (some ⟨w.heap.size, 0, none⟩))) (w.alloc (.cells (Act.opd a.tmps y).cells t)) := by
    simp [execOp, ho, Instr.box, newVar, newRow, Act.eval_eq]
  have f := k1.ps 0 _ _ rfl
  have hl := AV.loose_of_plain hp
  rw [VF_loose hl, VX_plain hp] at f
  have e : (Act.opd a.tmps y).cells = (Act.opd a.tmps y).cells.toList.toArray := by simp
  cases heap with
  | false =>
    obtain ⟨g', k', s, _⟩ := Rel.newbox k1 (V.cells hp f.1) (spread_own hp f.1 f.2) t
    rw [← e] at k' s
    exact fits_value hrun k' (s1.trans s)
  | true =>
    obtain ⟨g', k', s, hb⟩ := Rel.newobj k1 (o := .cells (opd st.fr x).1.spread) (obj := .cells (Act.opd a.tmps y).cells t) (fun g2 w2 sm mv h1 => by
      simp only [ObjRel]
      exact ⟨(Act.opd a.tmps y).cells.toList, t, by rw [← e]; exact h1, ⟨VS.mono (sm.ext trivial) _ _ (V.cells hp f.1).1, (V.cells hp f.1).2⟩, fun i xs sz cv h2 h3 => mv _ _ _ _ (spread_own hp f.1 f.2 i xs sz cv h2 h3)⟩)
    refine fits_value hrun (k'.push0 (v := .ptr st.hp.length 0) (cv := .pointer (some ⟨w.heap.size, 0, none⟩)) ?_) (s1.trans s)
    exact VF_scalar rfl (VX_of_V (by simp only [V]; exact ⟨w.heap.size, by rw [hb, List.getElem?_append, if_neg (by rw [k1.hp.len]; simp), k1.hp.len]; simp, rfl⟩)) (by simp) (by simp)

theorem fits_nilchk (k : Rel G g st [] a.tmps w) {x : Opd} {y : Operand} (hx : opdOk x y = true) (ho : o.op = .nilCheck y) {v : AV} (hv : (opd st.fr x).1 = v)
    (hk : (∃ i n, v = .ptr i n) ∨ (∃ i n, v = .lref i n) ∨ ∃ i n, v = .glob i n) : Fits P G g st (.val v st) o a w := by
  have h1 := k.read hx; rw [hv] at h1
  refine fits_pure k (cv := Act.opd a.tmps y) ?_ ?_
  · rcases hk with ⟨i, n, rfl⟩ | ⟨i, n, rfl⟩ | ⟨i, n, rfl⟩ <;> simp only [VX, V] at h1
    · obtain ⟨b, _, h1⟩ := h1; simp [execOp, ho, Act.eval_eq, h1]
    · obtain ⟨h1, _⟩ := h1; simp [execOp, ho, Act.eval_eq, h1]
    · simp [execOp, ho, Act.eval_eq, h1]
  · rcases hk with ⟨i, n, rfl⟩ | ⟨i, n, rfl⟩ | ⟨i, n, rfl⟩ <;> exact VF_scalar rfl h1 (by simp) (by simp)
end
end Go.Proofs.Ytajlmldpbhendaa.Rf
