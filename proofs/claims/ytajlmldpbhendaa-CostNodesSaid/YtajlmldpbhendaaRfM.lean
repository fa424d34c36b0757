/- append. -/
import Derived.Test.YtajlmldpbhendaaRfL
import Derived.Laws.AppendOwn
import Derived.Below
set_option linter.unusedSimpArgs false
set_option linter.unusedVariables false
namespace Go.Proofs.Ytajlmldpbhendaa.Rf

section
variable {P : Program} {G : Nat → Option (List AV)} {g g' : Gh} {st : St} {a : Act} {w w' : World} {o : Oper} {tm : Array Value} {ps : List (AV × Value)}

theorem VC.flat : ∀ {cs : List AV} {b off : Nat}, VC g w cs b off → ∃ us : List Value, us.length = cs.length ∧ Ones us ∧ ∀ (j : Nat) v, us[j]? = some v → w.cell? ⟨b, off + j, none⟩ = some v
  | [], _, _, _ => ⟨[], rfl, by simp [Ones], by simp⟩
  | c :: cs, b, off, h => by
    simp only [VC] at h
    obtain ⟨⟨_, cv, h1, h2, _⟩, h3⟩ := h
    obtain ⟨us, u1, u2, u3⟩ := VC.flat h3
    refine ⟨cv :: us, by simp [u1], fun u hu => ?_, fun j v hv => ?_⟩
    · simp at hu; rcases hu with rfl | hu
      · exact h2
      · exact u2 u hu
    · cases j with
      | zero => simp at hv; subst hv; simpa using h1
      | succ j => simp at hv; rw [show off + (j + 1) = off + 1 + j by omega]; exact u3 j v hv
theorem VE.tail {sz : Nat} {x : AV} {xs : List AV} {b off : Nat} (h : VE g w sz (x :: xs) b off) : VE g w sz xs b (off + sz) := by cases x <;> simp only [VE] at h <;> exact h.2
theorem VE.flat {sz : Nat} : ∀ {xs : List AV} {b off : Nat}, VE g w sz xs b off → ∃ us : List Value, us.length = xs.length * sz ∧ Ones us ∧ ∀ (j : Nat) v, us[j]? = some v → w.cell? ⟨b, off + j, none⟩ = some v
  | [], _, _, _ => ⟨[], by simp, by simp [Ones], by simp⟩
  | x :: xs, b, off, h => by
    obtain ⟨h1, h2⟩ := h.get (j := 0) rfl
    rw [Nat.zero_mul, Nat.add_zero] at h2
    obtain ⟨us, u1, u2, u3⟩ := h2.flat
    obtain ⟨vs, v1, v2, v3⟩ := VE.flat h.tail
    refine ⟨us ++ vs, by simp [u1, v1, h1, Nat.succ_mul, Nat.add_comm], fun u hu => ?_, fun j v hv => ?_⟩
    · simp at hu; rcases hu with hu | hu
      · exact u2 u hu
      · exact v2 u hu
    · rw [List.getElem?_append] at hv; split at hv
      · exact u3 j v hv
      · have := v3 _ v hv
        rwa [show off + sz + (j - us.length) = off + j by omega] at this
theorem VC.copy (e : Ext g w g' w') : ∀ {cs : List AV} {b off b' off' : Nat}, VC g w cs b off → (∀ j, j < cs.length → g'.ow b' (off' + j) = .imm ∧ w'.cell? ⟨b', off' + j, none⟩ = w.cell? ⟨b, off + j, none⟩) → VC g' w' cs b' off'
  | [], _, _, _, _, _, _ => by simp [VC]
  | c :: cs, b, off, b', off', h, hc => by
    simp only [VC] at h ⊢
    obtain ⟨⟨_, cv, h1, h2, h3⟩, h4⟩ := h
    have h0 := hc 0 (by simp)
    simp only [Nat.add_zero] at h0
    refine ⟨⟨h0.1, cv, h0.2.trans h1, h2, V.mono e _ _ h3⟩, VC.copy e h4 fun j hj => ?_⟩
    have := hc (j + 1) (by simpa using hj)
    rwa [show off' + (j + 1) = off' + 1 + j by omega, show off + (j + 1) = off + 1 + j by omega] at this
theorem VE.cons_mk {sz : Nat} {x : AV} {xs : List AV} {b off : Nat} (h1 : x.cells.length = sz) (h2 : VC g w x.cells b off) (h3 : VE g w sz xs b (off + sz)) : VE g w sz (x :: xs) b off := by
  cases x <;> simp only [VE] <;> simp only [AV.cells] at h1 h2 <;> first
    | exact ⟨⟨h1, h2⟩, h3⟩
    | (simp only [VC] at h2; exact ⟨⟨h1, h2.1⟩, h3⟩)
theorem VE.copy {sz : Nat} (e : Ext g w g' w') : ∀ {xs : List AV} {b off b' off' : Nat}, VE g w sz xs b off → (∀ j, j < xs.length * sz → g'.ow b' (off' + j) = .imm ∧ w'.cell? ⟨b', off' + j, none⟩ = w.cell? ⟨b, off + j, none⟩) → VE g' w' sz xs b' off'
  | [], _, _, _, _, _, _ => by simp [VE]
  | x :: xs, b, off, b', off', h, hc => by
    obtain ⟨h1, h2⟩ := h.get (j := 0) rfl
    rw [Nat.zero_mul, Nat.add_zero] at h2
    refine VE.cons_mk h1 (VC.copy e h2 fun j hj => hc j ?_) (VE.copy e h.tail fun j hj => ?_)
    · simp only [List.length_cons, Nat.succ_mul]; omega
    · have := hc (sz + j) (by simp only [List.length_cons, Nat.succ_mul]; omega)
      rwa [show off' + (sz + j) = off' + sz + j by omega, show off + (sz + j) = off + sz + j by omega] at this
theorem VE.append {sz : Nat} : ∀ {xs ys : List AV} {b off : Nat}, VE g w sz xs b off → VE g w sz ys b (off + xs.length * sz) → VE g w sz (xs ++ ys) b off
  | [], ys, b, off, _, k => by simpa using k
  | x :: xs, ys, b, off, h, k => by
    obtain ⟨h1, h2⟩ := h.get (j := 0) rfl
    rw [Nat.zero_mul, Nat.add_zero] at h2
    refine VE.cons_mk h1 h2 (VE.append h.tail ?_)
    rwa [show off + sz + xs.length * sz = off + (x :: xs).length * sz by simp only [List.length_cons, Nat.succ_mul]; omega]

/-! cells stored one by one -/
structure Wr (w w' : World) (b q : Nat) (vs : List Value) : Prop where
  size : w'.heap.size = w.heap.size
  os : w'.os = w.os
  tape : w'.tape = w.tape
  output : w'.output = w.output
  blk : ∀ k, k ≠ b → w'.heap[k]? = w.heap[k]?
  new : ∀ (j : Nat) v, vs[j]? = some v → w'.cell? ⟨b, q + j, none⟩ = some v
  old : ∀ o, (o < q ∨ q + vs.length ≤ o) → w'.cell? ⟨b, o, none⟩ = w.cell? ⟨b, o, none⟩
  frz : ∀ o, w'.frozen? ⟨b, o, none⟩ = w.frozen? ⟨b, o, none⟩
  none : vs = [] → w' = w
theorem run_storeCells_each (b q : Nat) : ∀ (vs : List Value) (i : Nat) (w : World), (∀ j, j < vs.length → (∃ u, w.cell? ⟨b, q + i + j, none⟩ = some u) ∧ w.frozen? ⟨b, q + i + j, none⟩ = false) → Ones vs →
    ∃ w', (storeCells ⟨b, q, none⟩ vs i).run P w = .ok () w' ∧ Wr w w' b (q + i) vs
  | [], i, w, _, _ => ⟨w, rfl, rfl, rfl, rfl, rfl, fun _ _ => rfl, by simp, fun _ _ => rfl, fun _ => rfl, fun _ => rfl⟩
  | v :: vs, i, w, h, h1 => by
    obtain ⟨⟨u, hu⟩, hf⟩ := h 0 (by simp)
    simp only [Nat.add_zero] at hu hf
    have hv := h1 v (by simp)
    have ne : ∀ j, (⟨b, q + i, none⟩ : Addr) ≠ ⟨b, q + i + (j + 1), none⟩ := fun j e => by injection e with _ e2; omega
    obtain ⟨w', r1, r2⟩ := run_storeCells_each b q vs (i + 1) (w.setCell ⟨b, q + i, none⟩ v) (fun j hj => by
      have := h (j + 1) (by simpa using hj)
      rw [show q + (i + 1) + j = q + i + (j + 1) by omega, World.cell?_setCell_other _ _ _ _ (ne j), World.frozen?_setCell]; exact this) (fun x hx => h1 x (by simp [hx]))
    refine ⟨w', ?_, ?_⟩
    · simp only [storeCells, Sem.run_bind, Addr.add_lit, run_store P w _ v _ hv, hu, hf, Bool.false_eq_true, if_false, Result.andThen_ok]
      exact r1
    · refine ⟨by rw [r2.size]; simp, r2.os, r2.tape, r2.output, fun k hk => ?_, fun j x hx => ?_, fun o ho => ?_, fun o => ?_, fun e => by cases e⟩
      · rw [r2.blk k hk]; exact RowKit.Below.heap_setCell _ _ _ _ hk
      · cases j with
        | zero =>
          simp at hx; subst hx
          rw [Nat.add_zero, r2.old (q + i) (.inl (by omega))]
          exact World.cell?_setCell_same _ _ _ hu
        | succ j => simp at hx; rw [show q + i + (j + 1) = q + (i + 1) + j by omega]; exact r2.new j x hx
      · have ho' : o < q + (i + 1) ∨ q + (i + 1) + vs.length ≤ o := by simp at ho; omega
        rw [r2.old o ho', World.cell?_setCell_other]
        intro e; injection e with _ e2; simp at ho; omega
      · rw [r2.frz o, World.frozen?_setCell]

def appendOk (P : Program) (t : TypeId) (sz bytes : Nat) : Bool :=
  match P.underlying t with
  | some (.slice e) =>
    (match P.info? e with
     | some i => decide (i.size = sz) && decide (i.bytes = bytes) && decide (0 < sz) && (match i.zero with | some z => decide (z.cells.size = sz) | none => false)
     | none => false)
  | _ => false
theorem firstCells_some {sz m : Nat} {b q len cap : Nat} {news : List Value} (hl : news.length = m * sz) (h : ∀ (j : Nat) v, news[j]? = some v → w.cell? ⟨b, q + j, none⟩ = some v) :
    (Builtin.firstCells sz m (.slice (some ⟨b, q, none⟩) len cap)).run P w = .ok news.toArray w :=
  run_firstCells_some (P := P) w sz m _ len cap news hl (fun j v hv => by rw [Addr.add_lit]; exact h j v hv)

/-- append, in the room behind the row. -/
theorem run_append_in {t t2 : TypeId} {sz bytes : Nat} (ht : appendOk P t sz bytes = true) {d2 : TypeDesc} (hu2 : P.underlying t2 = some d2) (hd2 : ∀ k, d2 ≠ .int k) {b q n c m : Nat} {Y : Value} (hY : (Builtin.lenOf Y).run P w = .ok m w) {news : List Value} (hl : news.length = m * sz)
    (hf : (Builtin.firstCells sz m Y).run P w = .ok news.toArray w) (h1 : Ones news) (hroom : n + m ≤ c) (hc : ∀ o, q + n * sz ≤ o → o < q + c * sz → (∃ u, w.cell? ⟨b, o, none⟩ = some u) ∧ w.frozen? ⟨b, o, none⟩ = false) (ty : TypeId) :
    ∃ w', (Builtin.append_ #[t, t2] ty #[.slice (some ⟨b, q, none⟩) n c, Y]).run P w = .ok (.slice (some ⟨b, q, none⟩) (n + m) c) w' ∧ Wr w w' b (q + n * sz) news := by
  unfold appendOk at ht
  cases hu : P.underlying t with
  | none => simp [hu] at ht
  | some d =>
    cases d <;> simp [hu] at ht
    rename_i e
    cases hi : P.info? e with
    | none => simp [hi] at ht
    | some i =>
      simp [hi] at ht
      obtain ⟨⟨⟨h2, h3⟩, h4⟩, h5⟩ := ht
      have hlen : (n + m) * sz ≤ c * sz := Nat.mul_le_mul_right sz hroom
      rw [Nat.add_mul] at hlen
      obtain ⟨w', r1, r2⟩ := run_storeCells_each (P := P) b (q + n * sz) news 0 w (fun j hj => hc _ (by omega) (by omega)) h1
      rw [Nat.add_zero] at r2
      refine ⟨w', ?_, r2⟩
      have hm : (d2 matches .int _) = false := by cases d2 <;> first | rfl | exact absurd rfl (hd2 _)
      simp [Builtin.append_, run_underlying hu, run_underlying hu2, sizeOf, typeInfo, hi, h2, hY, hroom, hf, Addr.add_lit, r1, hm]
theorem arr3 (a b : List Value) (z : Array Value) : a.toArray ++ (b.toArray ++ z) = (a ++ (b ++ z.toList)).toArray := by apply Array.ext'; simp
theorem zeroCells_size (z : Array Value) (n : Nat) : (Builtin.zeroCells z n).size = n * z.size := by simp [Builtin.zeroCells]
theorem cap_cut (need t : Nat) (h : need ≤ 9223372036854775807) : need ≤ need + t % (2 ^ 63 - need) ∧ need + t % (2 ^ 63 - need) ≤ 9223372036854775807 := by
  have : t % (2 ^ 63 - need) < 2 ^ 63 - need := Nat.mod_lt _ (by omega)
  omega
/-- append into a new row. -/
theorem run_append_out {t t2 : TypeId} {sz bytes : Nat} (ht : appendOk P t sz bytes = true) {d2 : TypeDesc} (hu2 : P.underlying t2 = some d2) (hd2 : ∀ k, d2 ≠ .int k) {A : Option Addr} {n c m : Nat} {Y : Value} (hY : (Builtin.lenOf Y).run P w = .ok m w) {news olds : List Value} (hl : news.length = m * sz) (hlo : olds.length = n * sz)
    (hf : (Builtin.firstCells sz m Y).run P w.drew = .ok news.toArray w.drew) (hfo : (Builtin.firstCells sz n (.slice A n c)).run P w.drew = .ok olds.toArray w.drew) (hroom : ¬ n + m ≤ c) (hby : (n + m) * bytes ≤ 140737488355328) (h63 : n + m ≤ 9223372036854775807) (ty : TypeId) :
    ∃ (C : Nat) (e : TypeId) (rest : List Value), n + m ≤ C ∧ C ≤ 9223372036854775807 ∧ rest.length = (C - (n + m)) * sz ∧ (Builtin.append_ #[t, t2] ty #[.slice A n c, Y]).run P w = .ok (.slice (some ⟨w.heap.size, 0, none⟩) (n + m) C) (w.drew.alloc (.cells (olds ++ news ++ rest).toArray e)) := by
  unfold appendOk at ht
  cases hu : P.underlying t with
  | none => simp [hu] at ht
  | some d =>
    cases d <;> simp [hu] at ht
    rename_i e
    cases hi : P.info? e with
    | none => simp [hi] at ht
    | some i =>
      simp [hi] at ht
      obtain ⟨⟨⟨h2, h3⟩, h4⟩, h5⟩ := ht
      cases hz : i.zero with
      | none => simp [hz] at h5
      | some z =>
        simp [hz] at h5
        have h48 := growslice_fits (bytes := i.bytes) (show c < n + m by omega) (by rw [h3]; exact hby)
        have h48' : ¬ (Builtin.nextslicecap (n + m) c * i.bytes > 2 ^ 48) := by simp; omega
        have h63' : ¬ ((n + m : Nat) : Int) > IntKind.i64.max := by
          show ¬ ((n + m : Nat) : Int) > 9223372036854775807
          omega
        obtain ⟨c1, c2⟩ := cap_cut (n + m) (w.tape w.drawn (.appendCap (n + m) c e)) h63
        refine ⟨n + m + w.tape w.drawn (.appendCap (n + m) c e) % (2 ^ 63 - (n + m)), e, (Builtin.zeroCells z.cells (w.tape w.drawn (.appendCap (n + m) c e) % (2 ^ 63 - (n + m)))).toList, c1, c2, ?_, ?_⟩
        · rw [Array.length_toList, zeroCells_size, h5]; congr 1; omega
        · have hcut : (Question.appendCap (n + m) c e).cut (w.tape w.drawn (.appendCap (n + m) c e)) = n + m + w.tape w.drawn (.appendCap (n + m) c e) % (2 ^ 63 - (n + m)) := rfl
          have hm : (d2 matches .int _) = false := by cases d2 <;> first | rfl | exact absurd rfl (hd2 _)
          simp [Builtin.append_, run_underlying hu, run_underlying hu2, sizeOf, typeInfo, zeroValue, hi, hz, h2, hY, hroom, h63', h48', Question.forced, hcut, hf, hfo, newRow, hm]
          rw [if_neg (by omega), arr3]

/-- The row behind an append in the room: its cells are read-only from now on. -/
def Gh.fill (g : Gh) (b q m : Nat) : Gh := { g with ow := fun c o => if c = b ∧ q ≤ o ∧ o < q + m then .imm else g.ow c o }
theorem same_fill {r : Root} {i : Nat} {b q : Nat} {news : List Value} (h : Wr w w' b q news) (ht : ∀ o, q ≤ o → o < q + news.length → g.ow b o = .tail r i) : Same (fun t => t ≠ .tail r i) g w (g.fill b q news.length) w' := by
  have off : ∀ c o, g.ow c o ≠ .tail r i → ¬ (c = b ∧ q ≤ o ∧ o < q + news.length) := fun c o hn ⟨e, h1, h2⟩ => by subst e; exact hn (ht o h1 h2)
  have cel : ∀ c o, g.ow c o ≠ .tail r i → w'.cell? ⟨c, o, none⟩ = w.cell? ⟨c, o, none⟩ := fun c o hn => by
    by_cases e : c = b
    · subst e
      have := off c o hn
      exact h.old o (by simp at this; omega)
    · exact cell?_of_block' (h.blk c e)
  refine ⟨fun c o _ hn => by simp only [Gh.fill]; rw [if_neg (off c o hn)], fun c o _ hn => cel c o hn, fun c o _ hn => ?_, fun c _ hn => ?_, fun _ _ h => h⟩
  · by_cases e : c = b
    · subst e; exact h.frz o
    · exact frozen?_of_block' (h.blk c e)
  · by_cases e : c = b
    · subst e
      by_cases hz : news = []
      · rw [h.none hz]
      · have : 0 < news.length := List.length_pos_iff.2 hz
        exact absurd (ht q (Nat.le_refl _) (by omega)) (hn q)
    · exact h.blk c e
theorem stay_fill {r : Root} {i : Nat} {b q : Nat} {news : List Value} (h : Wr w w' b q news) (ht : ∀ o, q ≤ o → o < q + news.length → g.ow b o = .tail r i) : Stay g w (g.fill b q news.length) w' := by
  have sm := same_fill h ht
  have hn : ∀ c o, (g.ow c o).kept → g.ow c o ≠ .tail r i := fun c o hk e => by rw [e] at hk; exact hk
  exact { ow := fun c o hl hk => sm.ow c o hl (hn c o hk), cell := fun c o hl hk => sm.cell c o hl (hn c o hk), frz := fun c o hl hk => sm.frz c o hl (hn c o hk), blk := fun c hl hk => sm.blk c hl (fun o => hn c o (hk o)), hb := sm.hb, os := h.os, tape := h.tape, output := h.output, size := by rw [h.size]; exact Nat.le_refl _ }

/-- The world behind an append into a new row. -/
def Gh.fresh (g : Gh) (n m : Nat) : Gh := { g with ow := fun c o => if c = n then (if o < m then .imm else .tail (.arg 0) 0) else (match g.ow c o with | .tail (.arg 0) i => if i = 0 then .out else .tail (.arg 0) i | t => t) }
theorem fresh_off {n m c o : Nat} (hc : c ≠ n) (h : g.ow c o ≠ .tail (.arg 0) 0) : (g.fresh n m).ow c o = g.ow c o := by
  simp only [Gh.fresh]; rw [if_neg hc]
  revert h
  cases g.ow c o <;> intro h <;> try rfl
  case tail r i =>
    cases r <;> try rfl
    case arg j =>
      cases j with
      | succ j => rfl
      | zero =>
        simp only []
        by_cases e : i = 0
        · subst e; exact absurd rfl h
        · rw [if_neg e]
end
end Go.Proofs.Ytajlmldpbhendaa.Rf
