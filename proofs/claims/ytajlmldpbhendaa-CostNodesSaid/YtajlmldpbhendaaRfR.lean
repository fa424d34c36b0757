/- Composite literals; slices of strings and lists; fields of struct values. -/
import Derived.Test.YtajlmldpbhendaaRfQ
set_option linter.unusedSimpArgs false
set_option linter.unusedVariables false
namespace Go.Proofs.Ytajlmldpbhendaa.Rf

section
variable {P : Program} {G : Nat → Option (List AV)} {g g' : Gh} {st : St} {a : Act} {w w' : World} {o : Oper} {tm : Array Value} {ps : List (AV × Value)}

theorem fold_set (l : List Value) : ∀ (j off : Nat) (cells : Array Value), off + j + l.length ≤ cells.size →
    ((l.zipIdx j).foldl (fun (cs : Array Value) (x : Value × Nat) => cs.setIfInBounds (off + x.2) x.1) cells).toList = cells.toList.take (off + j) ++ l ++ cells.toList.drop (off + j + l.length) := by
  induction l with
  | nil => intro j off cells h; simp
  | cons v r ih =>
    intro j off cells h
    simp only [List.zipIdx_cons, List.foldl_cons]
    have h1 : off + (j + 1) + r.length ≤ (cells.setIfInBounds (off + j) v).size := by simp at h ⊢; omega
    rw [ih (j + 1) off _ h1]
    have hl : off + j < cells.toList.length := by simp at h ⊢; omega
    simp only [Array.toList_setIfInBounds]
    have hl2 : (cells.toList.take (off + j)).length = off + j := by simp; simp at hl; omega
    have es : cells.toList.set (off + j) v = cells.toList.take (off + j) ++ v :: cells.toList.drop (off + j + 1) := by rw [List.set_eq_take_append_cons_drop, if_pos hl]
    have e1 : (cells.toList.set (off + j) v).take (off + (j + 1)) = cells.toList.take (off + j) ++ [v] := by
      rw [es, show off + (j + 1) = (cells.toList.take (off + j)).length + 1 by omega, List.take_length_add_append]; simp
    have e2 : (cells.toList.set (off + j) v).drop (off + (j + 1) + r.length) = cells.toList.drop (off + j + (v :: r).length) := by
      rw [es, show off + (j + 1) + r.length = (cells.toList.take (off + j)).length + (r.length + 1) by omega, List.drop_length_add_append]
      simp only [List.drop_succ_cons, List.drop_drop, List.length_cons]; congr 1; omega
    rw [e1, e2]; simp
/-- The places of a composite's parts. -/
def PlacesOk (place : Nat → Option (Nat × Nat)) : List (Nat × Nat × Opd) → List (Nat × Operand) → Prop
  | [], [] => True
  | (off, n, _) :: ps, (i, _) :: qs => place i = some (off, n) ∧ PlacesOk place ps qs
  | _, _ => False
theorem run_fill {place : Nat → Option (Nat × Nat)} : ∀ {ps : List (Nat × Nat × Opd)} {qs : List (Nat × Operand)} {vs : List AV} {us : List Value} {cs : List AV} {cells : Array Value} {r : List AV}, PlacesOk place ps qs → vs.length = ps.length → us.length = qs.length → (∀ (i : Nat) v u, vs[i]? = some v → us[i]? = some u → v.plain = true ∧ V g w v u) →
    VS g w cs cells.toList → Ones cells.toList → buildCells cs ((ps.zip vs).map fun (p, v) => (p.1, p.2.1, v)) = some r → ∃ cells', Instr.fill place cells ((qs.zip us).map fun (p, u) => (p.1, u)) = some cells' ∧ VS g w r cells'.toList ∧ Ones cells'.toList
  | [], [], vs, us, cs, cells, r, _, hv, hu, _, h1, h2, h => by
    simp [buildCells] at h; subst h; exact ⟨cells, by simp [Instr.fill], h1, h2⟩
  | (off, n, x) :: ps, (i, y) :: qs, v :: vs, u :: us, cs, cells, r, hp, hv, hu, hall, h1, h2, h => by
    obtain ⟨hp1, hp2⟩ := hp
    simp only [List.zip_cons_cons, List.map_cons, buildCells] at h
    split at h
    · rename_i hc
      obtain ⟨c1, c2⟩ := hc
      obtain ⟨p1, p2⟩ := hall 0 v u rfl rfl
      have hcl := V.cells p1 p2
      have hn : u.cells.size = n := by rw [← c1, ← hcl.1.len]; simp
      have hlen : cells.size = cs.length := by simpa using h1.len
      have hf := fold_set u.cells.toList 0 off cells (by simp; omega)
      simp only [Nat.add_zero] at hf
      obtain ⟨cells', f1, f2, f3⟩ := run_fill (cells := u.cells.toList.zipIdx.foldl (fun (cs : Array Value) (x : Value × Nat) => cs.setIfInBounds (off + x.2) x.1) cells) hp2 (by simpa using hv) (by simpa using hu)
        (fun j v' u' a b => hall (j + 1) v' u' (by simpa using a) (by simpa using b)) (by rw [hf]; exact VS.put h1 hcl.1 off) (by rw [hf]; exact Ones.put h2 hcl.2 off _) h
      refine ⟨cells', ?_, f2, f3⟩
      simp only [List.zip_cons_cons, List.map_cons, Instr.fill, hp1]
      rw [if_neg (by simp [hn]; omega), ← Array.foldl_toList, Array.toList_zipIdx]
      exact f1
    · cases h
  | [], _ :: _, _, _, _, _, _, hp, _, _, _, _, _, _ => hp.elim
  | _ :: _, [], _, _, _, _, _, hp, _, _, _, _, _, _ => hp.elim
  | _ :: _, _ :: _, [], _, _, _, _, _, hv, _, _, _, _, _ => by simp at hv
  | _ :: _, _ :: _, _ :: _, [], _, _, _, _, _, hu, _, _, _, _ => by simp at hu

/-- The places as the types tell them. -/
def placeOf (P : Program) (t : TypeId) : Option (Nat → Option (Nat × Nat)) :=
  match P.underlying t with
  | some (.struct fs) => some fun i => match fs[i]? with | some f => (P.info? f.type).map fun x => (f.offset, x.size) | none => none
  | some (.array _ e) => (P.info? e).map fun x => fun i => some (i * x.size, x.size)
  | _ => none
def partsOk (place : Nat → Option (Nat × Nat)) : List (Nat × Nat × Opd) → List (Nat × Operand) → Bool
  | [], [] => true
  | (off, n, x) :: ps, (i, y) :: qs => (match place i with | some (o', n') => decide (o' = off) && decide (n' = n) | none => false) && opdOk x y && partsOk place ps qs
  | _, _ => false
theorem partsOk_spec {place : Nat → Option (Nat × Nat)} : ∀ {ps : List (Nat × Nat × Opd)} {qs : List (Nat × Operand)}, partsOk place ps qs = true → PlacesOk place ps qs ∧ opdsOk (ps.map (·.2.2)) (qs.map (·.2)) = true ∧ ps.length = qs.length
  | [], [], _ => ⟨trivial, rfl, rfl⟩
  | (off, n, x) :: ps, (i, y) :: qs, h => by
    simp only [partsOk, Bool.and_eq_true] at h
    obtain ⟨⟨h1, h2⟩, h3⟩ := h
    obtain ⟨i1, i2, i3⟩ := partsOk_spec h3
    cases hp : place i with
    | none => simp [hp] at h1
    | some p => simp [hp] at h1; obtain ⟨rfl, rfl⟩ := h1; exact ⟨⟨hp, i1⟩, by simp [opdsOk, h2, i2], by simp [i3]⟩
  | [], _ :: _, h => by simp [partsOk] at h
  | _ :: _, [], h => by simp [partsOk] at h

/-- Every field's type is known (a struct's literal asks all of them). -/
def sizesOk (P : Program) (t : TypeId) : Bool :=
  match P.underlying t with
  | some (.struct fs) => fs.toList.all fun f => (P.info? f.type).isSome
  | _ => true
theorem run_places (P : Program) (w : World) : ∀ (l : List Field), (∀ f ∈ l, (P.info? f.type).isSome = true) → (l.mapM fun f => (do pure (f.offset, ← sizeOf f.type) : Sem (Nat × Nat))).run P w = .ok (l.map fun f => (f.offset, ((P.info? f.type).map (·.size)).getD 0)) w
  | [], _ => by simp
  | f :: l, h => by
    obtain ⟨i, hi⟩ := Option.isSome_iff_exists.1 (h f (by simp))
    have hs1 : (sizeOf f.type).run P w = .ok i.size w := by simp [sizeOf, typeInfo, hi]
    simp only [List.mapM_cons, Sem.run_bind, hs1, Result.andThen_ok, Sem.run_pure, run_places P w l (fun x hx => h x (by simp [hx])), List.map_cons, hi, Option.map_some, Option.getD_some]
theorem zip_parts (f : Operand → Value) : ∀ qs : List (Nat × Operand), (qs.map fun (x : Nat × Operand) => (x.1, f x.2)) = (qs.zip ((qs.map (·.2)).map f)).map fun (p, u) => (p.1, u)
  | [] => rfl
  | x :: r => by simp only [List.map_cons, List.zip_cons_cons, zip_parts f r]

theorem fits_build (k : Rel G g st [] a.tmps w) {t : TypeId} {zs : List AV} {ps : List (Nat × Nat × Opd)} {qs : List (Nat × Operand)} (hz : zeroOk P t zs = true) {place : Nat → Option (Nat × Nat)} (hpl : placeOf P t = some place) (hs : sizesOk P t = true) (hq : partsOk place ps qs = true)
    (ho : o.op = .build t qs.toArray) (hp : plains (opds st.fr (ps.map (·.2.2))).1 = true) {r : List AV} (h : buildCells zs ((ps.zip (opds st.fr (ps.map (·.2.2))).1).map fun (p, v) => (p.1, p.2.1, v)) = some r) : Fits P G g st (.val (.agg r) { st with fr := (opds st.fr (ps.map (·.2.2))).2 }) o a w := by
  obtain ⟨q1, q2, q3⟩ := partsOk_spec hq
  obtain ⟨z, z1, z2, z3⟩ := zeroOk_run hz
  obtain ⟨g1, k1, s1, hb1, hl⟩ := k.takes q2
  simp only [List.nil_append] at k1
  have hv := VS.of_ps k1 (by simpa using hl) hp
  obtain ⟨cells', f1, f2, f3⟩ := run_fill (us := (qs.map (·.2)).map (Act.opd a.tmps)) (cells := z.cells) q1 (by simp [hl, q3]) (by simp) (fun i v u e1 e2 => ⟨by simp only [plains, List.all_eq_true] at hp; exact hp v (List.mem_of_getElem? e1), hv.get' e1 e2⟩) (VS.of_same (g := g1) (w := w) _ _ z2) z3 h
  refine fits_value (g' := g1) (w' := w) (cv := .agg cells') ?_ (k1.less.push0 (VF_scalar rfl (by simp only [VX, V]; exact ⟨cells'.toList, by simp, f2, f3⟩) (by simp) (by simp))) s1
  have hparts : (qs.toArray.map fun (i, x) => (i, a.eval x)).toList = (qs.zip ((qs.map (·.2)).map (Act.opd a.tmps))).map fun (p, u) => (p.1, u) := by
    rw [Array.toList_map, show a.eval = Act.opd a.tmps from funext (Act.eval_eq a)]
    exact zip_parts _ qs
  unfold placeOf at hpl
  cases hu : P.underlying t with
  | none => simp [hu] at hpl
  | some d =>
    cases d <;> simp [hu] at hpl
    case array n e =>
      obtain ⟨i, hi, rfl⟩ := hpl
      simp only [execOp, ho, Instr.build, Sem.run_bind, z1, run_underlying hu, Result.andThen_ok, sizeOf, typeInfo, run_program, hi, Sem.run_pure, hparts, f1]
    case struct fs =>
      subst hpl
      have hfs : ∀ f ∈ fs.toList, (P.info? f.type).isSome = true := by
        unfold sizesOk at hs; simp only [hu, List.all_eq_true] at hs; exact hs
      have hm : (fs.mapM fun f => (do pure (f.offset, ← sizeOf f.type) : Sem (Nat × Nat))).run P w = .ok (fs.toList.map fun f => (f.offset, ((P.info? f.type).map (·.size)).getD 0)).toArray w := by
        rw [Array.mapM_eq_mapM_toList]
        simp only [Sem.run_map, run_places P w fs.toList hfs, Result.andThen_ok]
      have hpl2 : (fun i : Nat => ((fs.toList.map fun (f : Field) => (f.offset, ((P.info? f.type).map (·.size)).getD 0)).toArray)[i]?) = fun (i : Nat) => match fs[i]? with | some f => (P.info? f.type).map fun x => (f.offset, x.size) | none => none := by
        funext i
        simp only [List.getElem?_toArray, List.getElem?_map, Array.getElem?_toList]
        cases hf : fs[i]? with
        | none => rfl
        | some f =>
          obtain ⟨x, hx⟩ := Option.isSome_iff_exists.1 (hfs f (by simpa using Array.mem_of_getElem? hf))
          simp [hx]
      simp only [execOp, ho, Instr.build, Sem.run_bind, z1, run_underlying hu, Result.andThen_ok, hm, hparts]
      rw [hpl2, f1]
      simp
end
end Go.Proofs.Ytajlmldpbhendaa.Rf
