/- Slices' literals, cuts, fields. -/
import Derived.Test.YtajlmldpbhendaaRfR
set_option linter.unusedSimpArgs false
set_option linter.unusedVariables false
namespace Go.Proofs.Ytajlmldpbhendaa.Rf

section
variable {P : Program} {G : Nat → Option (List AV)} {g g' : Gh} {st : St} {a : Act} {w w' : World} {o : Oper} {tm : Array Value} {ps : List (AV × Value)}

def RowR (g : Gh) (w : World) (sz : Nat) : List AV → List Value → Prop
  | [], us => us = []
  | x :: xs, us => ∃ a r, us = a ++ r ∧ x.cells.length = sz ∧ VS g w x.cells a ∧ RowR g w sz xs r
theorem RowR.len {sz : Nat} : ∀ {xs : List AV} {us : List Value}, RowR g w sz xs us → us.length = xs.length * sz
  | [], us, h => by simp only [RowR] at h; simp [h]
  | x :: xs, us, h => by
    obtain ⟨a, r, rfl, h1, h2, h3⟩ := h
    simp [h3.len, h2.len, h1, Nat.succ_mul, Nat.add_comm]
theorem RowR.set {sz : Nat} {v : AV} {vs : List Value} (hl : v.cells.length = sz) (hv : VS g w v.cells vs) : ∀ {xs : List AV} {us : List Value} {i : Nat}, RowR g w sz xs us → i < xs.length → RowR g w sz (xs.set i v) (us.take (i * sz) ++ vs ++ us.drop (i * sz + vs.length))
  | [], _, _, _, h => by simp at h
  | x :: xs, us, 0, h, _ => by
    obtain ⟨a, r, rfl, h1, h2, h3⟩ := h
    refine ⟨vs, r, ?_, hl, hv, h3⟩
    have : a.length = vs.length := by rw [h2.len, hv.len, h1, hl]
    simp [← this]
  | x :: xs, us, i + 1, h, hi => by
    obtain ⟨a, r, rfl, h1, h2, h3⟩ := h
    have ih := RowR.set hl hv (i := i) h3 (by simpa using hi)
    have ha : a.length = sz := by rw [h2.len, h1]
    refine ⟨a, _, ?_, h1, h2, ih⟩
    rw [show (i + 1) * sz = a.length + i * sz by rw [Nat.succ_mul, ha]; omega, List.take_length_add_append, Nat.add_assoc, List.drop_length_add_append]
    simp
theorem RowR.lay {sz : Nat} {xs : List AV} {us : List Value} (h : RowR g w sz xs us) (h1 : Ones us) : Lay g w sz xs us := by
  refine ⟨h.len, h1, fun g' w' b' q' e hc => ?_⟩
  induction xs generalizing us q' with
  | nil => simp [VE]
  | cons x xs ih =>
    obtain ⟨a, r, rfl, h2, h3, h4⟩ := h
    have ha : a.length = sz := by rw [h3.len, h2]
    refine VE.cons_mk h2 ?_ (ih h4 (fun u hu => h1 u (by simp [hu])) _ fun j v hj => ?_)
    · have : ∀ (cs : List AV) (a : List Value) (q : Nat), VS g w cs a → Ones a → (∀ (j : Nat) v, a[j]? = some v → g'.ow b' (q + j) = .imm ∧ w'.cell? ⟨b', q + j, none⟩ = some v) → VC g' w' cs b' q := by
        intro cs
        induction cs with
        | nil => intros; simp [VC]
        | cons c cs ih2 =>
          intro a q hv ho hc2
          simp only [VS] at hv; obtain ⟨u, r2, rfl, k1, k2⟩ := hv
          have h0 := hc2 0 u rfl
          rw [Nat.add_zero] at h0
          simp only [VC]
          exact ⟨⟨h0.1, u, h0.2, ho u (by simp), V.mono e _ _ k1⟩, ih2 r2 _ k2 (fun x hx => ho x (by simp [hx])) fun j v hj => by
            have := hc2 (j + 1) v (by simpa using hj)
            rwa [show q + (j + 1) = q + 1 + j by omega] at this⟩
      exact this _ a q' h3 (fun u hu => h1 u (by simp [hu])) fun j v hj => hc j v (by rw [List.getElem?_append, if_pos (List.getElem?_eq_some_iff.1 hj).1]; exact hj)
    · have := hc (sz + j) v (by rw [List.getElem?_append, if_neg (by omega), show sz + j - a.length = j by omega]; exact hj)
      rwa [← Nat.add_assoc] at this
theorem range_cells (zc : Array Value) (h : 0 < zc.size) : ∀ n, (List.range (n * zc.size)).map (fun i => zc[i % zc.size]!) = (List.replicate n zc.toList).flatten
  | 0 => by simp
  | n + 1 => by
    rw [show (n + 1) * zc.size = zc.size + n * zc.size by rw [Nat.succ_mul]; omega, List.range_add, List.map_append, List.replicate_succ, List.flatten_cons, ← range_cells zc h n]
    congr 1
    · apply List.ext_getElem
      · simp
      · intro i h1 h2
        simp at h1
        simp [Nat.mod_eq_of_lt h1, h1]
    · rw [List.map_map]
      apply List.map_congr_left
      intro i _
      simp
theorem RowR.rep {sz : Nat} {z : AV} {zc : List Value} (hl : z.cells.length = sz) (hv : VS g w z.cells zc) : ∀ n, RowR g w sz (List.replicate n z) (List.replicate n zc).flatten
  | 0 => by simp [RowR]
  | n + 1 => by rw [List.replicate_succ, List.replicate_succ, List.flatten_cons]; exact ⟨zc, _, rfl, hl, hv, RowR.rep hl hv n⟩
theorem V.cellsCp {v : AV} {cv : Value} (hp : v.plain = true) (h : V g w v cv) : VS g w v.cp.cells cv.cells.toList ∧ Ones cv.cells.toList := by
  have hc := V.cells hp h
  refine ⟨?_, hc.2⟩
  cases v <;> simp only [AV.spread] at hc <;> simp only [AV.cp, AV.cpA, AV.cells] <;> try exact hc.1
  all_goals first
    | (simp [AV.plain] at hp; done)
    | (have := hc.1.cp1; simpa using this)
    | (have h2 := hc.1.cp1
       simp only [List.map_cons, List.map_nil] at h2
       exact h2)
    | (rename_i xs ow
       have h2 := hc.1.cp1
       cases ow <;> simpa only [List.map_cons, List.map_nil, AV.cp1, AV.cells] using h2)

/-- The parts of a slice's literal. -/
theorem run_fillE {sz : Nat} : ∀ {ps : List (Nat × Opd)} {qs : List (Nat × Operand)} {vs : List AV} {us : List Value} {xs : List AV} {cells : Array Value} {r : List AV}, ps.map (·.1) = qs.map (·.1) → vs.length = ps.length → us.length = qs.length → (∀ (i : Nat) v u, vs[i]? = some v → us[i]? = some u → v.plain = true ∧ V g w v u) →
    RowR g w sz xs cells.toList → Ones cells.toList → fillElems sz xs ((ps.zip vs).map fun (p, v) => (p.1, v.cp)) = some r →
    ∃ cells', Instr.fill (fun i => some (i * sz, sz)) cells ((qs.zip us).map fun (p, u) => (p.1, u)) = some cells' ∧ RowR g w sz r cells'.toList ∧ Ones cells'.toList
  | [], [], vs, us, xs, cells, r, _, hv, hu, _, h1, h2, h => by simp [fillElems] at h; subst h; exact ⟨cells, by simp [Instr.fill], h1, h2⟩
  | (i, x) :: ps, (i', y) :: qs, v :: vs, u :: us, xs, cells, r, hp, hv, hu, hall, h1, h2, h => by
    simp only [List.map_cons, List.cons.injEq] at hp
    obtain ⟨rfl, hp2⟩ := hp
    simp only [List.zip_cons_cons, List.map_cons, fillElems] at h
    split at h
    · rename_i hc
      obtain ⟨c1, c2⟩ := hc
      obtain ⟨p1, p2⟩ := hall 0 v u rfl rfl
      have hcl := V.cellsCp p1 p2
      have hn : u.cells.toList.length = sz := by rw [hcl.1.len, c1]
      have hlen := h1.len
      have hle : i * sz + sz ≤ cells.size := by
        have : (i + 1) * sz ≤ xs.length * sz := Nat.mul_le_mul_right sz c2
        rw [Nat.succ_mul] at this
        simp at hlen; omega
      have hf := fold_set u.cells.toList 0 (i * sz) cells (by simp at hn ⊢; omega)
      simp only [Nat.add_zero] at hf
      obtain ⟨cells', f1, f2, f3⟩ := run_fillE (cells := u.cells.toList.zipIdx.foldl (fun (cs : Array Value) (x : Value × Nat) => cs.setIfInBounds (i * sz + x.2) x.1) cells) hp2 (by simpa using hv) (by simpa using hu)
        (fun j v' u' a b => hall (j + 1) v' u' (by simpa using a) (by simpa using b)) (by rw [hf]; exact RowR.set c1 hcl.1 h1 c2) (by rw [hf]; exact Ones.put h2 hcl.2 _ _) h
      refine ⟨cells', ?_, f2, f3⟩
      simp only [List.zip_cons_cons, List.map_cons, Instr.fill]
      rw [if_neg (by simp at hn; simp [hn]; omega), ← Array.foldl_toList, Array.toList_zipIdx]
      exact f1
    · cases h
  | [], _ :: _, _, _, _, _, _, hp, _, _, _, _, _, _ => by simp at hp
  | _ :: _, [], _, _, _, _, _, hp, _, _, _, _, _, _ => by simp at hp
  | _ :: _, _ :: _, [], _, _, _, _, _, hv, _, _, _, _, _ => by simp at hv
  | _ :: _, _ :: _, _ :: _, [], _, _, _, _, _, hu, _, _, _, _ => by simp at hu

theorem Stay.heap {w1 w2 : World} (h : Stay g w g' w1) (e : w2.heap = w1.heap) (e1 : w2.os = w1.os) (e2 : w2.tape = w1.tape) (e3 : w2.output = w1.output) : Stay g w g' w2 :=
  { ow := h.ow, cell := fun b o hl ht => (cell?_of_block' (by rw [e])).trans (h.cell b o hl ht), frz := fun b o hl ht => (frozen?_of_block' (by rw [e])).trans (h.frz b o hl ht), blk := fun b hl ht => by rw [e]; exact h.blk b hl ht, hb := h.hb, os := e1.trans h.os, tape := e2.trans h.tape, output := e3.trans h.output, size := by rw [e]; exact h.size }

def bsliceOk (P : Program) (t : TypeId) (z : AV) (n : Nat) : Bool :=
  match P.underlying t with
  | some (.slice e) => (match P.info? e with | some i => decide (i.size = z.cells.length) && decide (0 < i.size) && decide (n * i.size ≤ 2 ^ 24) | none => false) && zeroOk P e z.cells
  | _ => false
/-- A new row, wholly read-only. -/
theorem Rel.newrow {v : AV} {cv : Value} (k : Rel G g st [(v, cv)] tm w) {sz : Nat} {e : TypeId} {xs : List AV} {cells : List Value} (hl : Lay g w sz xs cells) (h63 : xs.length ≤ 9223372036854775807) :
    ∃ g', Rel G g' st [(.list xs (.own sz), .slice (some ⟨w.heap.size, 0, none⟩) xs.length xs.length)] tm (w.alloc (.cells cells.toArray e)) ∧ Stay g w g' (w.alloc (.cells cells.toArray e)) := by
  obtain ⟨sm, q1, q2, q3, q4, q5⟩ := k.append_out (C := xs.length) (m := xs.length) (e := e) hl.1 (Nat.le_refl _)
  have hi : (fun t => t ≠ Tag.tail (.arg 0) 0) Tag.imm := by simp
  have hE : VE (g.fresh w.heap.size (xs.length * sz)) (w.drew.alloc (.cells cells.toArray e)) sz xs w.heap.size 0 := hl.2.2 _ _ _ _ (sm.ext hi) fun j v hj => by
    have := (List.getElem?_eq_some_iff.1 hj).1
    exact ⟨q1 j (by rw [hl.1] at this; exact this), q2 j v hj⟩
  refine ⟨_, (q5 _ _ ?_).draws (w' := w.alloc (.cells cells.toArray e)) rfl, q4.heap rfl rfl rfl rfl⟩
  rw [VF_loose rfl]
  refine ⟨?_, ?_⟩
  · simp only [VX, V]
    exact ⟨some ⟨w.heap.size, 0, none⟩, xs.length, rfl, Nat.le_refl _, h63, (fun e => by cases e), (fun e => by cases e), fun ad e => by cases e; exact ⟨fun _ => rfl, sz, hE⟩⟩
  · simp only [Owns]
    intro ad n c' e'
    cases e'
    refine ⟨hE, fun o h1 h2 => ?_⟩
    simp only [Nat.zero_add] at h1 h2
    exact q3 o h1 h2
theorem fillElems_len {sz : Nat} : ∀ {xs : List AV} {l : List (Nat × AV)} {r : List AV}, fillElems sz xs l = some r → r.length = xs.length
  | xs, [], r, h => by simp [fillElems] at h; rw [h]
  | xs, (i, v) :: l, r, h => by
    simp only [fillElems] at h; split at h
    · have := fillElems_len h; simpa using this
    · cases h
def bpartsOk : List (Nat × Opd) → List (Nat × Operand) → Bool
  | [], [] => true
  | (i, x) :: ps, (j, y) :: qs => decide (i = j) && opdOk x y && bpartsOk ps qs
  | _, _ => false
theorem bpartsOk_spec : ∀ {ps : List (Nat × Opd)} {qs : List (Nat × Operand)}, bpartsOk ps qs = true → ps.map (·.1) = qs.map (·.1) ∧ opdsOk (ps.map (·.2)) (qs.map (·.2)) = true ∧ ps.length = qs.length
  | [], [], _ => ⟨rfl, rfl, rfl⟩
  | (i, x) :: ps, (j, y) :: qs, h => by
    simp only [bpartsOk, Bool.and_eq_true, decide_eq_true_eq] at h
    obtain ⟨⟨rfl, h2⟩, h3⟩ := h
    obtain ⟨i1, i2, i3⟩ := bpartsOk_spec h3
    exact ⟨by simp [i1], by simp [opdsOk, h2, i2], by simp [i3]⟩
  | [], _ :: _, h => by simp [bpartsOk] at h
  | _ :: _, [], h => by simp [bpartsOk] at h
theorem fits_bslice (k : Rel G g st [] a.tmps w) {t : TypeId} {z : AV} {n : Nat} {ps : List (Nat × Opd)} {qs : List (Nat × Operand)} (hb : bsliceOk P t z n = true) (hq : bpartsOk ps qs = true) (ho : o.op = .buildSlice t n qs.toArray) (hp : plains (opds st.fr (ps.map (·.2))).1 = true) {r : List AV}
    (h : fillElems z.cells.length (List.replicate n z) ((ps.zip (opds st.fr (ps.map (·.2))).1).map fun (p, v) => (p.1, v.cp)) = some r) : Fits P G g st (.val (.list r (.own z.cells.length)) { st with fr := (opds st.fr (ps.map (·.2))).2 }) o a w := by
  obtain ⟨q1, q2, q3⟩ := bpartsOk_spec hq
  obtain ⟨g1, k1, s1, hb1, hl⟩ := k.takes q2
  simp only [List.nil_append] at k1
  have hv := VS.of_ps k1 (by simpa using hl) hp
  unfold bsliceOk at hb
  cases hu : P.underlying t with
  | none => simp [hu] at hb
  | some d =>
    cases d <;> simp [hu] at hb
    rename_i e
    obtain ⟨hb1, hb2⟩ := hb
    cases hi : P.info? e with
    | none => simp [hi] at hb1
    | some i =>
      simp [hi] at hb1
      obtain ⟨⟨b1, b2⟩, b3⟩ := hb1
      obtain ⟨zv, z1, z2, z3⟩ := zeroOk_run hb2
      have hzs : VS g1 w z.cells zv.cells.toList := VS.of_same _ _ z2
      have hzl : zv.cells.size = i.size := by rw [b1, ← hzs.len]; simp
      have hrow := RowR.rep rfl hzs n
      have hrange := range_cells zv.cells (by omega) n
      have hones : Ones (List.replicate n zv.cells.toList).flatten := by
        intro u hu; simp only [List.mem_flatten, List.mem_replicate] at hu
        obtain ⟨l, ⟨_, rfl⟩, hu⟩ := hu; exact z3 u hu
      have hcells : ((Array.range (n * i.size)).map (zv.cells[· % zv.cells.size]!)).toList = (List.replicate n zv.cells.toList).flatten := by
        rw [Array.toList_map, Array.toList_range, ← hrange, hzl]
      obtain ⟨cells', f1, f2, f3⟩ := run_fillE (us := (qs.map (·.2)).map (Act.opd a.tmps)) (cells := (Array.range (n * i.size)).map (zv.cells[· % zv.cells.size]!)) q1 (by simp [hl, q3]) (by simp) (fun i v u e1 e2 => ⟨by simp only [plains, List.all_eq_true] at hp; exact hp v (List.mem_of_getElem? e1), hv.get' e1 e2⟩) (by rw [hcells]; exact hrow) (by rw [hcells]; exact hones) h
      have hrl : r.length = n := by have := fillElems_len h; simpa using this
      have hn24 : n ≤ 2 ^ 24 := Nat.le_trans (Nat.le_mul_of_pos_right n b2) b3
      obtain ⟨g2, k2, s2⟩ := (k1.less.push0 (v := .tup []) (cv := undef) VF_undef).newrow (e := e) (f2.lay f3) (by omega)
      rw [hrl] at k2
      have hparts : (qs.toArray.map fun (i, x) => (i, a.eval x)).toList = (qs.zip ((qs.map (·.2)).map (Act.opd a.tmps))).map fun (p, u) => (p.1, u) := by
        rw [Array.toList_map, show a.eval = Act.opd a.tmps from funext (Act.eval_eq a)]
        exact zip_parts _ qs
      refine fits_value (w' := w.alloc (.cells cells' e)) ?_ (by simpa using k2) (by simpa using s1.trans s2)
      have hne : ¬ n * i.size > 2 ^ 24 := by omega
      have hfill : Instr.fill (fun j => some (j * i.size, i.size)) ((Array.range (n * i.size)).map (zv.cells[· % zv.cells.size]!)) (qs.toArray.map fun (i, x) => (i, a.eval x)).toList = some cells' := by rw [hparts, b1]; rw [b1] at f1; exact f1
      by_cases h0 : n * i.size = 0
      · have hn0 : n = 0 := by
          rcases Nat.mul_eq_zero.1 h0 with h | h
          · exact h
          · omega
        subst hn0
        have e0 : ∀ f : Nat → Value, (Array.range (0 * i.size)).map f = #[] := fun f => by rw [Nat.zero_mul]; apply Array.ext (by simp); simp
        rw [e0] at hfill
        have h00 : 0 * i.size = 0 := Nat.zero_mul _
        simp only [execOp, ho, Instr.buildSlice, Sem.run_bind, run_underlying hu, Result.andThen_ok, sizeOf, typeInfo, run_program, hi, Sem.run_pure, if_neg hne, if_pos h00, e0, hfill, newRow, run_newObj]
        rfl
      · simp only [execOp, ho, Instr.buildSlice, Sem.run_bind, run_underlying hu, Result.andThen_ok, sizeOf, typeInfo, run_program, hi, Sem.run_pure, if_neg hne, if_neg h0, z1, hfill, newRow, run_newObj]
        rfl
end
end Go.Proofs.Ytajlmldpbhendaa.Rf
