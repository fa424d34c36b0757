/- Maps. -/
import Derived.Test.YtajlmldpbhendaaRfP
set_option linter.unusedSimpArgs false
set_option linter.unusedVariables false
namespace Go.Proofs.Ytajlmldpbhendaa.Rf

section
variable {P : Program} {G : Nat → Option (List AV)} {g g' : Gh} {st : St} {a : Act} {w w' : World} {o : Oper} {tm : Array Value} {ps : List (AV × Value)}

theorem fits_mkmap (k : Rel G g st [] a.tmps w) {t : TypeId} (ho : o.op = .makeMap t none) : Fits P G g st (.val (.map st.hp.length) { st with hp := st.hp ++ [.map []] }) o a w := by
  obtain ⟨g', k', s, hb⟩ := Rel.newobj k (o := .map []) (obj := .map #[] 0) (fun g1 w1 _ _ h1 => by
    simp only [ObjRel]; exact ⟨#[], 0, h1, rfl, fun i kk v h => by simp at h⟩)
  refine fits_value (cv := .map (some w.heap.size)) (w' := w.alloc (.map #[] 0)) ?_ (k'.push0 ?_) s
  · simp [execOp, ho, Instr.makeMap]
  · exact VF_scalar rfl (VX_of_V (by simp only [V]; exact ⟨w.heap.size, by rw [hb, List.getElem?_append, if_neg (by rw [k.hp.len]; omega), k.hp.len]; simp, rfl⟩)) (by simp) (by simp)

def keyOk (kd : KeyK) (d : TypeDesc) : Bool :=
  match kd, d with
  | .int, .int _ | .str, .string | .bool, .bool => true
  | _, _ => false
theorem run_checkKey {t : TypeId} {d : TypeDesc} (hu : P.underlying t = some d) {kd : KeyK} (hd : keyOk kd d = true) (e : Bool) (n : Nat) (v : Value) : (Instr.checkKey e (n + 1) t v).run P w = .ok () w := by
  cases kd <;> cases d <;> simp [keyOk] at hd <;> simp [Instr.checkKey, run_underlying hu]
theorem keyEq_now {kd : KeyK} {d : TypeDesc} (hd : keyOk kd d = true) {k e : AV} {kc ec : Value} (hk : V g w k kc) (he : V g w e ec) {b : Bool} (h : keyEq kd k e = some b) : Instr.sameNow d kc ec = some b ∧ (b = true → ec = kc) := by
  cases kd <;> cases d <;> simp [keyOk] at hd <;> cases k <;> cases e <;> simp [keyEq] at h <;> simp only [V] at hk he <;> subst hk <;> subst he
  · obtain ⟨rfl, h⟩ := h; subst h; refine ⟨by simp [Instr.sameNow], fun e => by simp at e; rw [e]⟩
  · subst h
    rename_i a b
    have hb : ((⟨a.toArray⟩ : ByteArray) == ⟨b.toArray⟩) = (a == b) := by
      show (a.toArray == b.toArray) = (a == b)
      rw [Bool.eq_iff_iff]; simp
    exact ⟨by simp only [Instr.sameNow, hb], fun e => by simp at e; rw [e]⟩
  · subst h; exact ⟨by simp [Instr.sameNow], fun e => by simp at e; rw [e]⟩
def EntRel (g : Gh) (w : World) (es : List (AV × AV)) (L : List MapEntry) : Prop :=
  L.length = es.length ∧ ∀ (i : Nat) k v, es[i]? = some (k, v) → ∃ e, L[i]? = some e ∧ V g w k e.key ∧ V g w v e.val
theorem EntRel.tail {x : AV × AV} {es : List (AV × AV)} {e : MapEntry} {L : List MapEntry} (h : EntRel g w (x :: es) (e :: L)) : EntRel g w es L :=
  ⟨by simpa using h.1, fun i k v hi => by simpa using h.2 (i + 1) k v (by simpa using hi)⟩
theorem findKey_now {kd : KeyK} {d : TypeDesc} (hd : keyOk kd d = true) {k : AV} {kc : Value} (hk : V g w k kc) : ∀ {es : List (AV × AV)} {L : List MapEntry} (i0 : Nat), EntRel g w es L → ∀ {r}, findKey kd k es i0 = some r →
    match r with
    | none => Instr.findNow d kc L i0 = some none
    | some (j, v) => ∃ e kk, i0 ≤ j ∧ es[j - i0]? = some (kk, v) ∧ L[j - i0]? = some e ∧ V g w v e.val ∧ e.key = kc ∧ Instr.findNow d kc L i0 = some (some (j, e.val))
  | [], L, i0, h, r, hr => by
    simp [findKey] at hr; subst hr
    have : L = [] := List.length_eq_zero_iff.1 (by simpa using h.1)
    subst this; simp [Instr.findNow]
  | x :: es, [], i0, h, r, hr => by have := h.1; simp at this
  | x :: es, e :: L, i0, h, r, hr => by
    obtain ⟨e', e1, e2, e3⟩ := h.2 0 x.1 x.2 rfl
    simp at e1; subst e1
    simp only [findKey] at hr
    cases hq : keyEq kd k x.1 with
    | none => simp [hq] at hr
    | some b =>
      obtain ⟨s1, s2⟩ := keyEq_now hd hk e2 hq
      cases b with
      | true =>
        simp [hq] at hr; subst hr
        exact ⟨e, x.1, Nat.le_refl _, by simp, by simp, e3, s2 rfl, by simp [Instr.findNow, s1]⟩
      | false =>
        simp [hq] at hr
        have ih := findKey_now hd hk (i0 + 1) h.tail hr
        cases r with
        | none => simpa [Instr.findNow, s1] using ih
        | some p =>
          obtain ⟨j, v⟩ := p
          obtain ⟨e4, kk, f1, f2, f3, f4, f5, f6⟩ := ih
          refine ⟨e4, kk, by omega, ?_, ?_, f4, f5, by simpa [Instr.findNow, s1] using f6⟩
          · rw [show j - i0 = j - (i0 + 1) + 1 by omega]; simpa using f2
          · rw [show j - i0 = j - (i0 + 1) + 1 by omega]; simpa using f3

def mapOk (P : Program) (t : TypeId) (kd : KeyK) (z : AV) : Bool :=
  match P.underlying t with
  | some (.map kt e) => (match P.underlying kt with | some d => keyOk kd d | none => false) && zeroV P e z
  | _ => false
/-- The model's look-up. -/
theorem run_lookup {t : TypeId} {kd : KeyK} {z : AV} (h : mapOk P t kd z = true) {k : AV} {kc : Value} (hk : V g w k kc) {es : List (AV × AV)} {L : Array MapEntry} (hE : EntRel g w es L.toList) {mv : Value} {ok : Bool}
    (hm : (mv = .map none ∧ es = []) ∨ ∃ b clock, mv = .map (some b) ∧ w.heap[b]? = some (.map L clock)) {r} (hr : findKey kd k es 0 = some r) :
    match r with
    | none => ∃ u, same z u = true ∧ (Instr.lookup t mv kc ok).run P w = .ok (if ok then .tuple #[u, .bool false] else u) w
    | some (j, v) => ∃ e kk, es[j]? = some (kk, v) ∧ L.toList[j]? = some e ∧ V g w v e.val ∧ (Instr.lookup t mv kc ok).run P w = .ok (if ok then .tuple #[e.val, .bool true] else e.val) w := by
  unfold mapOk at h
  cases hu : P.underlying t with
  | none => simp [hu] at h
  | some d =>
    cases d <;> simp [hu] at h
    rename_i kt e
    cases huk : P.underlying kt with
    | none => simp [huk] at h
    | some dk =>
      simp [huk] at h
      obtain ⟨zu, z1, z2⟩ := zeroV_run h.2
      rcases hm with ⟨rfl, rfl⟩ | ⟨b, clock, rfl, hb⟩
      · simp [findKey] at hr; subst hr
        exact ⟨zu, z2, by simp [Instr.lookup, run_underlying hu, run_checkKey huk h.1 true 9999, Instr.findKey, run_underlying huk, Instr.findNow, z1]⟩
      · have hg : (getObj b).run P w = .ok (.map L clock) w := by simp [getObj, Sem.run, hb]
        have hn := findKey_now h.1 hk 0 hE hr
        cases r with
        | none =>
          simp only at hn
          exact ⟨zu, z2, by simp [Instr.lookup, run_underlying hu, run_checkKey huk h.1 _ 9999, hg, Instr.findKey, run_underlying huk, hn, z1]⟩
        | some p =>
          obtain ⟨j, v⟩ := p
          obtain ⟨e4, kk, f1, f2, f3, f4, f5, f6⟩ := hn
          simp only [Nat.sub_zero] at f2 f3
          exact ⟨e4, kk, f2, f3, f4, by simp [Instr.lookup, run_underlying hu, run_checkKey huk h.1 _ 9999, hg, Instr.findKey, run_underlying huk, f6]⟩

theorem EntRel.of {id b : Nat} {es : List (AV × AV)} (h : ObjRel g w id b (.map es)) : ∃ L clock, w.heap[b]? = some (.map L clock) ∧ EntRel g w es L.toList ∧ ∀ (i : Nat) k v, es[i]? = some (k, v) → ∃ e, L[i]? = some e ∧ V g w k e.key ∧ V g w v e.val ∧ Owns g w (.mp id i) v e.val := by
  simp only [ObjRel] at h
  obtain ⟨L, clock, h1, h2, h3⟩ := h
  exact ⟨L, clock, h1, ⟨by simpa using h2, fun i k v hi => by obtain ⟨e, e1, e2, e3, _⟩ := h3 i k v hi; exact ⟨e, by simpa using e1, e2, e3⟩⟩, h3⟩

theorem fits_lookup (k : Rel G g st [] a.tmps w) {m kx : Opd} {m' k' : Operand} (hm : opdOk m m' = true) (hk : opdOk kx k' = true) {t : TypeId} {kd : KeyK} {z : AV} (h : mapOk P t kd z = true) {ok : Bool} (ho : o.op = .lookup t m' k' ok) (hpk : (opd st.fr kx).1.plain = true)
    {es : List (AV × AV)} (hes : ((opd st.fr m).1 = .nilm ∧ es = []) ∨ ∃ id, (opd st.fr m).1 = .map id ∧ st.hp[id]? = some (.map es)) {r} (hr : findKey kd (opd st.fr kx).1 es 0 = some r) :
    Fits P G g st (.val (match r with | none => if ok then .tup [z, .bool false] else z | some (_, v) => if ok then .tup [v.cp, .bool true] else v.cp) st) o a w := by
  have rk := k.read hk; rw [VX_plain hpk] at rk
  have rm := k.read hm
  have hL : ∃ L : Array MapEntry, EntRel g w es L.toList ∧ ((Act.opd a.tmps m' = .map none ∧ es = []) ∨ ∃ b clock, Act.opd a.tmps m' = .map (some b) ∧ w.heap[b]? = some (.map L clock)) := by
    rcases hes with ⟨h1, rfl⟩ | ⟨id, h1, h2⟩ <;> rw [h1] at rm <;> simp only [VX, V] at rm
    · exact ⟨#[], ⟨rfl, fun i kk v h => by simp at h⟩, .inl ⟨rm, rfl⟩⟩
    · obtain ⟨b, e1, e2⟩ := rm
      obtain ⟨b', k1, k2, k3⟩ := k.hp.obj id _ h2
      rw [k1] at e1; cases e1
      obtain ⟨L, clock, l1, l2, _⟩ := EntRel.of k3
      exact ⟨L, l2, .inr ⟨_, clock, e2, l1⟩⟩
  obtain ⟨L, hE, hmv⟩ := hL
  have hrun := run_lookup (ok := ok) h rk hE hmv hr
  have ex : ∀ u, (Instr.lookup t (Act.opd a.tmps m') (Act.opd a.tmps k') ok).run P w = .ok u w → (execOp a.eval o).run P w = .ok (.value u) w := fun u e => by simp [execOp, ho, Act.eval_eq, e]
  cases r with
  | none =>
    obtain ⟨u, z1, z2⟩ := hrun
    have hno : ∀ xs sz, z = .list xs (.own sz) → Tail g w (.arg 0) 0 xs sz u := fun xs sz e => by subst e; cases xs <;> simp [same] at z1
    cases ok
    · refine fits_pure k (ex _ z2) ?_
      have hz := V.of_same (g := g) (w := w) z u z1
      simp only [Bool.false_eq_true, if_false]
      rw [VF_loose hz.loose]; exact ⟨VX_of_V hz, Owns.of_same z1⟩
    · exact fits_pure k (ex _ z2) (VF_pair (V.of_same _ _ z1) hno)
  | some p =>
    obtain ⟨j, v⟩ := p
    obtain ⟨e, kk, f1, f2, f3, f4⟩ := hrun
    cases ok
    · exact fits_pure k (ex _ f4) (VF_cp f3.loose (VX_of_V f3))
    · exact fits_pure k (ex _ f4) (VF_pair f3.cp fun xs sz e2 => by
        have := (Owns.cp (g := g) (w := w) (r := .arg 0) (v := v) (cv := e.val)); rw [e2] at this; exact this)

/-- What stands in a map's entry is taken. -/
theorem Rel.takemap (k : Rel G g st [] tm w) {id : Nat} {es : List (AV × AV)} (hs : st.hp[id]? = some (.map es)) {i : Nat} {kk v : AV} (hv : es[i]? = some (kk, v)) {L : Array MapEntry} {b clock : Nat} (hb : g.hb[id]? = some b) (hL : w.heap[b]? = some (.map L clock)) {e : MapEntry} (he : L[i]? = some e) :
    Rel G (g.mvI (.mp id i) 0 (.arg 0) 0) { st with hp := st.hp.set id (.map (es.set i (kk, v.cp))) } [] tm w ∧ V (g.mvI (.mp id i) 0 (.arg 0) 0) w v e.val ∧ ∀ xs sz, v = .list xs (.own sz) → Tail (g.mvI (.mp id i) 0 (.arg 0) 0) w (.arg 0) 0 xs sz e.val := by
  obtain ⟨b', k1, f4, k3⟩ := k.hp.obj id _ hs
  rw [k1] at hb; cases hb
  simp only [ObjRel] at k3
  obtain ⟨L', clock', f2, f3, f5⟩ := k3
  rw [f2] at hL; injection hL with hL; injection hL with hL1 hL2; subst hL1; subst hL2
  obtain ⟨e', g1, g2, g3, g4⟩ := f5 i kk v hv
  rw [he] at g1; cases g1
  have sm := same_mvI g w (.mp id i) 0 (.arg 0) 0
  have hi : (fun t => t ≠ Tag.tail (.mp id i) 0 ∧ t ≠ Tag.tail (.arg 0) 0) Tag.imm := ⟨by simp, by simp⟩
  refine ⟨⟨fun t => (k.fr t).same sm hi (fun _ _ _ => rfl) (fun i => ⟨by simp, by simp⟩) ⟨by simp, by simp⟩ rfl, fun j y cy hj => by simp at hj, ⟨by simp; exact k.hp.len, fun x ob hx => ?_⟩, fun b o hb => ?_, k.gl.same sm hi ⟨by simp, by simp⟩⟩, V.mono (sm.ext hi) _ _ g3, fun xs sz e2 => ?_⟩
  · simp only [List.getElem?_set] at hx
    by_cases e0 : id = x
    · subst e0
      simp only [if_true] at hx
      split at hx
      · cases hx
        refine ⟨_, k1, fun j => ?_, ?_⟩
        · show (g.ow _ _).mvI _ _ _ _ = _; rw [f4 j]; rfl
        · simp only [ObjRel]
          refine ⟨_, _, f2, by simpa using f3, fun j kj vj hj => ?_⟩
          rw [List.getElem?_set] at hj
          by_cases ej : i = j
          · subst ej
            simp only [if_true] at hj
            split at hj
            · cases hj
              exact ⟨e, he, V.mono (sm.ext hi) _ _ g2, (V.mono (sm.ext hi) _ _ g3).cp, Owns.cp⟩
            · cases hj
          · rw [if_neg ej] at hj
            obtain ⟨e3, h1, h2, h3, h4⟩ := f5 j kj vj hj
            refine ⟨e3, h1, V.mono (sm.ext hi) _ _ h2, V.mono (sm.ext hi) _ _ h3, h4.same sm hi fun i' => ⟨by simpa using fun h => absurd h.symm ej, by simp⟩⟩
      · cases hx
    · rw [if_neg e0] at hx
      obtain ⟨b', e1, e2, e3⟩ := k.hp.obj x ob hx
      refine ⟨b', e1, fun i => ?_, e3.same sm hi e2 ⟨by simp, by simp⟩ (fun i => ⟨by simp, by simp⟩) (fun i' j => ⟨by simpa using fun h => absurd h.symm e0, by simp⟩)⟩
      show (g.ow _ _).mvI _ _ _ _ = _; rw [e2 i]; rfl
  · show (g.ow b o).mvI _ _ _ _ = _; rw [k.fresh b o hb]; rfl
  · subst e2
    simp only [Owns] at g4
    exact g4.mvI (sm.ext hi) fun _ _ _ => ⟨rfl, rfl⟩
theorem fits_lookup_take (k : Rel G g st [] a.tmps w) {m kx : Opd} {m' k' : Operand} (hm : opdOk m m' = true) (hk : opdOk kx k' = true) {t : TypeId} {kd : KeyK} {z : AV} (h : mapOk P t kd z = true) {ok : Bool} (ho : o.op = .lookup t m' k' ok) (hpk : (opd st.fr kx).1.plain = true)
    {id : Nat} {es : List (AV × AV)} (h1 : (opd st.fr m).1 = .map id) (h2 : st.hp[id]? = some (.map es)) {j : Nat} {v : AV} (hr : findKey kd (opd st.fr kx).1 es 0 = some (some (j, v))) (hpv : v.plain = true) :
    Fits P G g st (.val (if ok then .tup [v, .bool true] else v) { st with hp := st.hp.set id (.map (es.set j ((es.getD j default).1, v.cp))) }) o a w := by
  have rk := k.read hk; rw [VX_plain hpk] at rk
  have rm := k.read hm
  rw [h1] at rm; simp only [VX, V] at rm
  obtain ⟨b, e1, e2⟩ := rm
  obtain ⟨b', k1, k2, k3⟩ := k.hp.obj id _ h2
  have e1' := e1
  rw [k1] at e1; cases e1
  obtain ⟨L, clock, l1, l2, _⟩ := EntRel.of k3
  have hrun := run_lookup (ok := ok) h rk l2 (.inr ⟨_, clock, e2, l1⟩) hr
  obtain ⟨e, kk, f1, f2, f3, f4⟩ := hrun
  have hd : (es.getD j default).1 = kk := by rw [List.getD_eq_getElem?_getD, f1]; rfl
  rw [hd]
  obtain ⟨q1, q2, q3⟩ := k.takemap h2 f1 e1' l1 (by simpa using f2)
  refine fits_value (cv := if ok then .tuple #[e.val, .bool true] else e.val) (w' := w) (by simp [execOp, ho, Act.eval_eq, f4]) (q1.push0 ?_) (stay_mvI _ _ _ _ _ _)
  cases ok
  · simp only [Bool.false_eq_true, if_false]
    rw [VF_loose q2.loose]
    exact ⟨VX_of_V q2, owns_of_tail (fun vs e => by subst e; simp [AV.plain] at hpv) q3⟩
  · exact VF_pair q2 q3

/-- A map object is written: all else stays. -/
def World.setMap (w : World) (b : Nat) (o : Obj) : World := { w with heap := w.heap.setIfInBounds b o }
theorem heap_setMap (w : World) (b : Nat) (o : Obj) (h : b < w.heap.size) (k : Nat) : (World.setMap w b o).heap[k]? = if k = b then some o else w.heap[k]? := by
  simp only [World.setMap, Array.getElem?_setIfInBounds]
  by_cases e : b = k
  · subst e; simp [h]
  · rw [if_neg e, if_neg (fun h => e h.symm)]
theorem same_setMap {b : Nat} {bt : Tag} {r q : Root} {i j : Nat} (hb : ∀ o, g.ow b o = bt) {ob : Obj} (h : b < w.heap.size) :
    Same (offB bt r i q j) g w (g.mvI r i q j) (World.setMap w b ob) := by
  have hne : ∀ c o, offB bt r i q j (g.ow c o) → c ≠ b := fun c o ht e => by subst e; exact ht.1 (hb o)
  refine ⟨fun c o _ ht => Tag.mvI_off ht, fun c o _ ht => cell?_of_block' ?_, fun c o _ ht => frozen?_of_block' ?_, fun c _ ht => ?_, fun _ _ h => h⟩
  · rw [heap_setMap w b ob h, if_neg (hne c o ht)]
  · rw [heap_setMap w b ob h, if_neg (hne c o ht)]
  · rw [heap_setMap w b ob h, if_neg (hne c 0 (ht 0))]
theorem stay_setMap {b : Nat} {bt : Tag} {r q : Root} {i j : Nat} (hb : ∀ o, g.ow b o = bt) (hk : ¬ bt.kept) {ob : Obj} (h : b < w.heap.size) : Stay g w (g.mvI r i q j) (World.setMap w b ob) := by
  have hne : ∀ c o, (g.ow c o).kept → c ≠ b := fun c o ht e => by subst e; rw [hb] at ht; exact hk ht
  exact { ow := fun c o _ ht => by
            show (g.ow c o).mvI r i q j = _
            revert ht; cases g.ow c o <;> simp [Tag.kept, Tag.mvI]
          cell := fun c o _ ht => cell?_of_block' (by rw [heap_setMap w b ob h, if_neg (hne c o ht)])
          frz := fun c o _ ht => frozen?_of_block' (by rw [heap_setMap w b ob h, if_neg (hne c o ht)])
          blk := fun c _ ht => by rw [heap_setMap w b ob h, if_neg (hne c 0 (ht 0))]
          hb := fun _ _ h => h, os := rfl, tape := rfl, output := rfl, size := by simp [World.setMap] }
theorem V.keep1 {v : AV} {cv : Value} (h : V g w v cv) : V g w v.keep1 cv := by
  cases v <;> simp only [AV.keep1] <;> first | exact h | exact h.cp
theorem Owns.keep1 {r q : Root} {v : AV} {cv : Value} (h : Owns g w r v cv) (k : ∀ xs sz, Tail g w r 0 xs sz cv → Tail g' w' q 0 xs sz cv) : Owns g' w' q v.keep1 cv := by
  cases v <;> simp only [AV.keep1] <;> try exact Owns.cp
  case list xs ow => cases ow <;> first | trivial | exact k _ _ h
/-- A map's entry is set: the entry at i now, or a new one at the end. -/
theorem Rel.setmap {u : AV} {cu : Value} (k : Rel G g st [(u, cu)] tm w) (hp : u.plain = true) {id : Nat} {es : List (AV × AV)} (hs : st.hp[id]? = some (.map es)) {b : Nat} (hb : g.hb[id]? = some b) {L : Array MapEntry} {clock : Nat} (hL : w.heap[b]? = some (.map L clock))
    {es' : List (AV × AV)} {L' : Array MapEntry} {clock' i : Nat} {kk : AV} (hi : es'[i]? = some (kk, u.keep1)) (hlen : L'.size = es'.length) (hnew : ∃ e, L'[i]? = some e ∧ V g w kk e.key ∧ e.val = cu)
    (hold : ∀ (j : Nat) x, j ≠ i → es'[j]? = some x → es[j]? = some x ∧ L'[j]? = L[j]?) :
    Rel G (g.mvI (.arg 0) 0 (.mp id i) 0) { st with hp := st.hp.set id (.map es') } [] tm (World.setMap w b (.map L' clock')) ∧ Stay g w (g.mvI (.arg 0) 0 (.mp id i) 0) (World.setMap w b (.map L' clock')) := by
  obtain ⟨b', k1, f4, k3⟩ := k.hp.obj id _ hs
  rw [k1] at hb; cases hb
  simp only [ObjRel] at k3
  obtain ⟨L0, clock0, f2, f3, f5⟩ := k3
  rw [f2] at hL; injection hL with hL; injection hL with hL1 hL2; subst hL1; subst hL2
  have fu := k.ps 0 _ _ rfl
  rw [VF_loose (AV.loose_of_plain hp), VX_plain hp] at fu
  have hlt := (Array.getElem?_eq_some_iff.1 f2).1
  have sm := same_setMap (g := g) (w := w) (bt := .obj id) (r := .arg 0) (i := 0) (q := .mp id i) (j := 0) f4 (ob := .map L' clock') hlt
  have hI : offB (.obj id) (.arg 0) 0 (.mp id i) 0 .imm := ⟨by simp, by simp, by simp⟩
  have hstay : Stay g w (g.mvI (.arg 0) 0 (.mp id i) 0) (World.setMap w b (.map L' clock')) := stay_setMap f4 (by simp [Tag.kept]) hlt
  have hheap := heap_setMap w b (.map L' clock') hlt
  have hsize : (World.setMap w b (.map L' clock')).heap.size = w.heap.size := by simp [World.setMap]
  generalize World.setMap w b (.map L' clock') = w' at *
  refine ⟨⟨fun t => (k.fr t).same sm hI (fun _ _ _ => rfl) (fun i => ⟨by simp, by simp, by simp⟩) ⟨by simp, by simp, by simp⟩ rfl, fun j v cv hj => by simp at hj, ⟨by simp; exact k.hp.len, fun x ob hx => ?_⟩, fun c o hc => ?_, k.gl.same sm hI ⟨by simp, by simp, by simp⟩⟩, hstay⟩
  · simp only [List.getElem?_set] at hx
    by_cases e : id = x
    · subst e
      simp only [if_true] at hx
      split at hx
      · cases hx
        refine ⟨b, k1, fun j => ?_, ?_⟩
        · show (g.ow _ _).mvI _ _ _ _ = _; rw [f4 j]; rfl
        · simp only [ObjRel]
          refine ⟨L', clock', by rw [hheap, if_pos rfl], hlen, fun j kj vj hj => ?_⟩
          by_cases ej : j = i
          · subst ej
            rw [hi] at hj; cases hj
            obtain ⟨e, e1, e2, e3⟩ := hnew
            refine ⟨e, e1, V.mono (sm.ext hI) _ _ e2, by rw [e3]; exact (V.mono (sm.ext hI) _ _ fu.1).keep1, ?_⟩
            rw [e3]
            refine fu.2.keep1 fun xs sz ht => ht.mvI (sm.ext hI) fun c o hc => ⟨cell?_of_block' ?_, frozen?_of_block' ?_⟩
            all_goals
              rw [hheap, if_neg]
              intro e; subst e; rw [f4 o] at hc; cases hc
          · obtain ⟨h1, h2⟩ := hold j _ ej hj
            obtain ⟨e3, g1, g2, g3, g4⟩ := f5 j kj vj h1
            exact ⟨e3, by rw [h2]; exact g1, V.mono (sm.ext hI) _ _ g2, V.mono (sm.ext hI) _ _ g3, g4.same sm hI fun i' => ⟨by simp, by simp, by simpa using fun h => absurd h ej⟩⟩
      · cases hx
    · rw [if_neg e] at hx
      obtain ⟨b2, e1, e2, e3⟩ := k.hp.obj x ob hx
      have hbl : b2 < w.heap.size := by
        cases ob with
        | cells cs => simp only [ObjRel] at e3; obtain ⟨vs, ty, e, _⟩ := e3; exact (Array.getElem?_eq_some_iff.1 e).1
        | map es => simp only [ObjRel] at e3; obtain ⟨vs, ty, e, _⟩ := e3; exact (Array.getElem?_eq_some_iff.1 e).1
      have hT : ∀ t, t = Tag.obj x → offB (.obj id) (.arg 0) 0 (.mp id i) 0 t := fun t ht => by subst ht; exact ⟨by simpa using fun h => e h.symm, by simp, by simp⟩
      exact ⟨b2, e1, fun i => (sm.ow b2 i hbl (hT _ (e2 i))).trans (e2 i), e3.same sm hI e2 (hT _ rfl) (fun i => ⟨by simp, by simp, by simp⟩) (fun i' j => ⟨by simp, by simp, by simpa using fun h => absurd h.symm e⟩)⟩
  · rw [hsize] at hc
    show (g.ow c o).mvI _ _ _ _ = _; rw [k.fresh c o hc]; rfl

theorem sameBits_key {kd : KeyK} {d : TypeDesc} (hd : keyOk kd d = true) {k e : AV} {kc : Value} (hk : V g w k kc) {b : Bool} (h : keyEq kd k e = some b) (n : Nat) : Instr.sameBits n kc kc = true := by
  cases kd <;> cases k <;> cases e <;> simp [keyEq] at h <;> simp only [V] at hk <;> subst hk <;> cases n <;> simp [Instr.sameBits]
  all_goals
    show ((_ : Array UInt8) == _) = true
    simp
theorem findKey_some_eq {kd : KeyK} {k : AV} : ∀ {es : List (AV × AV)} {i0 j : Nat} {v : AV}, findKey kd k es i0 = some (some (j, v)) → ∃ e : AV, keyEq kd k e = some true
  | [], _, _, _, h => by simp [findKey] at h
  | x :: es, i0, j, v, h => by
    simp only [findKey] at h
    cases hq : keyEq kd k x.1 with
    | none => simp [hq] at h
    | some b =>
      cases b with
      | true => exact ⟨_, hq⟩
      | false => simp [hq] at h; exact findKey_some_eq h

theorem fits_mapset (k : Rel G g st [] a.tmps w) {m kx v : Opd} {m' k' v' : Operand} (hm : opdOk m m' = true) (hk : opdOk kx k' = true) (hv : opdOk v v' = true) {t : TypeId} {kd : KeyK} {z : AV} (h : mapOk P t kd z = true) (ho : o.op = .mapUpdate t m' k' v') (hpv : (opd st.fr v).1.plain = true) (hpk : (opd (opd st.fr v).2 kx).1.plain = true)
    {id : Nat} {es : List (AV × AV)} (h1 : (opd (opd st.fr v).2 m).1 = .map id) (h2 : st.hp[id]? = some (.map es)) {r} (hr : findKey kd (opd (opd st.fr v).2 kx).1 es 0 = some r) :
    Fits P G g st (.val (.tup []) { fr := (opd st.fr v).2, hp := st.hp.set id (.map (match r with | some (i, _) => es.set i ((es.getD i default).1, (opd st.fr v).1.keep1) | none => es ++ [((opd (opd st.fr v).2 kx).1, (opd st.fr v).1.keep1)])) }) o a w := by
  obtain ⟨g1, k1, s1, hb1⟩ := k.take hv
  simp only [List.nil_append] at k1
  have rk := k1.read hk; simp only at rk; rw [VX_plain hpk] at rk
  have rm := k1.read hm; simp only at rm
  rw [h1] at rm; simp only [VX, V] at rm
  obtain ⟨b, e1, e2⟩ := rm
  obtain ⟨b', k2, _, k3⟩ := k1.hp.obj id _ h2
  have e1' := e1
  rw [k2] at e1; cases e1
  obtain ⟨L, clock, l1, l2, l3⟩ := EntRel.of k3
  unfold mapOk at h
  cases hu : P.underlying t with
  | none => simp [hu] at h
  | some d =>
    cases d <;> simp [hu] at h
    rename_i kt e
    cases huk : P.underlying kt with
    | none => simp [huk] at h
    | some dk =>
      simp [huk] at h
      have hg : (getObj b).run P w = .ok (.map L clock) w := by simp [getObj, Sem.run, l1]
      have hst : ∀ L' clock', (setObj b (.map L' clock')).run P w = .ok () (World.setMap w b (.map L' clock')) := fun L' clock' => by simp [setObj, Sem.run, l1, World.setMap]
      have hn := findKey_now h.1 rk 0 l2 hr
      cases r with
      | none =>
        simp only at hn
        obtain ⟨q1, q2⟩ := k1.setmap hpv h2 e1' l1 (es' := es ++ [((opd (opd st.fr v).2 kx).1, (opd st.fr v).1.keep1)]) (L' := L.push { key := Act.opd a.tmps k', val := Act.opd a.tmps v', born := clock }) (clock' := clock + 1) (i := es.length) (kk := (opd (opd st.fr v).2 kx).1)
          (by simp) (by have := l2.1; simp at this ⊢; exact this) ⟨_, by rw [Array.getElem?_push, if_pos (by have := l2.1; simpa using this.symm)], rk, rfl⟩
          (fun j x hj hx => by
            have hlt := (List.getElem?_eq_some_iff.1 hx).1
            simp at hlt
            rw [List.getElem?_append, if_pos (by omega)] at hx
            refine ⟨hx, ?_⟩
            rw [Array.getElem?_push, if_neg (by have := l2.1; simp at this; omega)])
        refine fits_skip ?_ (q1.push0 VF_undef) (s1.trans q2)
        simp [execOp, ho, Act.eval_eq, Instr.mapUpdate, run_underlying hu, e2, hg, run_checkKey huk h.1 _ 9999, Instr.findKey, run_underlying huk, hn, hst]
      | some p =>
        obtain ⟨i, v0⟩ := p
        obtain ⟨e4, kk, f1, f2, f3, f4, f5, f6⟩ := hn
        simp only [Nat.sub_zero] at f2 f3
        have hd : (es.getD i default).1 = kk := by rw [List.getD_eq_getElem?_getD, f2]; rfl
        have hLi : L[i]? = some e4 := by simpa using f3
        obtain ⟨e5, g1', g2', g3', _⟩ := l3 i kk v0 f2
        rw [hLi] at g1'; cases g1'
        have hil : i < L.size := (Array.getElem?_eq_some_iff.1 hLi).1
        have hsb : Instr.sameBits 10000 (Act.opd a.tmps k') (Act.opd a.tmps k') = true := by
          obtain ⟨e6, hq⟩ := findKey_some_eq hr
          exact sameBits_key h.1 rk hq _
        have hmod : ∀ j : Nat, (L.modify i fun e => { e with key := Act.opd a.tmps k', val := Act.opd a.tmps v' })[j]? = if i = j then some { e4 with key := Act.opd a.tmps k', val := Act.opd a.tmps v' } else L[j]? := fun j => by
          rw [Array.getElem?_modify]
          by_cases ej : i = j
          · subst ej; simp [hLi]
          · simp [ej]
        obtain ⟨q1, q2⟩ := k1.setmap hpv h2 e1' l1 (es' := es.set i ((es.getD i default).1, (opd st.fr v).1.keep1)) (L' := L.modify i fun e => { e with key := Act.opd a.tmps k', val := Act.opd a.tmps v' }) (clock' := clock) (i := i) (kk := kk)
          (by rw [hd, List.getElem?_set, if_pos rfl, if_pos (List.getElem?_eq_some_iff.1 f2).1]) (by have := l2.1; simp at this ⊢; exact this) ⟨_, by rw [hmod, if_pos rfl], by rw [← f5]; exact g2', rfl⟩
          (fun j x hj hx => by
            rw [List.getElem?_set, if_neg (fun e => hj e.symm)] at hx
            exact ⟨hx, by rw [hmod, if_neg (fun e => hj e.symm)]⟩)
        refine fits_skip ?_ (q1.push0 VF_undef) (s1.trans q2)
        simp [execOp, ho, Act.eval_eq, Instr.mapUpdate, run_underlying hu, e2, hg, run_checkKey huk h.1 _ 9999, Instr.findKey, run_underlying huk, f6, hLi, f5, Instr.keyThatStays, hsb, hst]
end
end Go.Proofs.Ytajlmldpbhendaa.Rf
