/- Cells written. -/
import Derived.Test.YtajlmldpbhendaaRfH
set_option linter.unusedSimpArgs false
set_option linter.unusedVariables false
namespace Go.Proofs.Ytajlmldpbhendaa.Rf

def Tag.mvI (r : Root) (i : Nat) (q : Root) (j : Nat) : Tag → Tag
  | .tail x k => if x = r ∧ k = i then .tail q j else if x = q ∧ k = j then .out else .tail x k
  | t => t
def Gh.mvI (g : Gh) (r : Root) (i : Nat) (q : Root) (j : Nat) : Gh := { g with ow := fun b o => (g.ow b o).mvI r i q j }

section
variable {P : Program} {G : Nat → Option (List AV)} {g g' : Gh} {st : St} {a : Act} {w w' : World} {o : Oper} {tm : Array Value} {ps : List (AV × Value)}

theorem heap_setRow (w : World) (b : Nat) (cs : Array Value) {old : Array Value} {ty : TypeId} {fr : Nat × Nat} (h : w.heap[b]? = some (.cells old ty fr)) (k : Nat) :
    (w.setRow b cs).heap[k]? = if k = b then some (.cells cs ty fr) else w.heap[k]? := by
  simp only [World.setRow, Array.getElem?_modify]
  by_cases e : b = k
  · subst e; simp [h]
  · rw [if_neg e, if_neg (fun h => e h.symm)]
theorem size_setRow' (w : World) (b : Nat) (cs : Array Value) : (w.setRow b cs).heap.size = w.heap.size := by simp [World.setRow]

/-- One block is written, and one tail moves; all else stays. -/
def offB (bt : Tag) (r : Root) (i : Nat) (q : Root) (j : Nat) : Tag → Prop := fun t => t ≠ bt ∧ t ≠ .tail r i ∧ t ≠ .tail q j
theorem Tag.mvI_off {bt : Tag} {r q : Root} {i j : Nat} {t : Tag} (h : offB bt r i q j t) : t.mvI r i q j = t := by
  cases t <;> try rfl
  case tail x k =>
    simp only [offB, ne_eq, Tag.tail.injEq] at h
    simp only [Tag.mvI]; rw [if_neg h.2.1, if_neg h.2.2]
theorem same_setRow {b : Nat} {bt : Tag} {r q : Root} {i j : Nat} (hb : ∀ o, g.ow b o = bt) {cs old : Array Value} {ty : TypeId} {fr : Nat × Nat} (h : w.heap[b]? = some (.cells old ty fr)) :
    Same (offB bt r i q j) g w (g.mvI r i q j) (w.setRow b cs) := by
  have hne : ∀ c o, offB bt r i q j (g.ow c o) → c ≠ b := fun c o ht e => by subst e; exact ht.1 (hb o)
  refine ⟨fun c o _ ht => Tag.mvI_off ht, fun c o _ ht => cell?_of_block' ?_, fun c o _ ht => frozen?_of_block' ?_, fun c _ ht => ?_, fun _ _ h => h⟩
  · rw [heap_setRow w b cs h, if_neg (hne c o ht)]
  · rw [heap_setRow w b cs h, if_neg (hne c o ht)]
  · rw [heap_setRow w b cs h, if_neg (hne c 0 (ht 0))]
theorem stay_setRow {b : Nat} {bt : Tag} {r q : Root} {i j : Nat} (hb : ∀ o, g.ow b o = bt) (hk : ¬ bt.kept) {cs old : Array Value} {ty : TypeId} {fr : Nat × Nat} (h : w.heap[b]? = some (.cells old ty fr)) :
    Stay g w (g.mvI r i q j) (w.setRow b cs) := by
  have hne : ∀ c o, (g.ow c o).kept → c ≠ b := fun c o ht e => by subst e; rw [hb] at ht; exact hk ht
  exact { ow := fun c o _ ht => by
            show (g.ow c o).mvI r i q j = _
            revert ht; cases g.ow c o <;> simp [Tag.kept, Tag.mvI]
          cell := fun c o _ ht => cell?_of_block' (by rw [heap_setRow w b cs h, if_neg (hne c o ht)])
          frz := fun c o _ ht => frozen?_of_block' (by rw [heap_setRow w b cs h, if_neg (hne c o ht)])
          blk := fun c _ ht => by rw [heap_setRow w b cs h, if_neg (hne c 0 (ht 0))]
          hb := fun _ _ h => h, os := rfl, tape := rfl, output := rfl, size := by rw [size_setRow']; exact Nat.le_refl _ }
theorem Tail.mvI {r q : Root} {i j : Nat} (hE : Ext g w (g.mvI r i q j) w') (hw : ∀ c o, g.ow c o = .tail r i → w'.cell? ⟨c, o, none⟩ = w.cell? ⟨c, o, none⟩ ∧ w'.frozen? ⟨c, o, none⟩ = w.frozen? ⟨c, o, none⟩)
    {xs : List AV} {sz : Nat} {cv : Value} (k : Tail g w r i xs sz cv) : Tail (g.mvI r i q j) w' q j xs sz cv := by
  intro a n c e
  obtain ⟨h1, h2⟩ := k a n c e
  refine ⟨VE.mono hE _ _ _ _ h1, fun o ho ho' => ?_⟩
  obtain ⟨p, ⟨u, s⟩, t⟩ := h2 o ho ho'
  exact ⟨by show (g.ow _ _).mvI r i q j = _; rw [p]; simp [Tag.mvI], ⟨u, by rw [(hw _ _ p).1]; exact s⟩, by rw [(hw _ _ p).2]; exact t⟩

/-- The new contents of a row of cells: what was there, with the new values from off on. -/
theorem VS.put {cs ns : List AV} {vs us : List Value} (h : VS g w cs vs) (k : VS g w ns us) (off : Nat) : VS g w (Rf.put cs off ns) (vs.take off ++ us ++ vs.drop (off + us.length)) := by
  unfold Rf.put
  have := k.len
  rw [this]
  exact ((h.take off).append k).append (h.drop _)
theorem Ones.put {vs us : List Value} (h : Ones vs) (k : Ones us) (off n : Nat) : Ones (vs.take off ++ us ++ vs.drop n) := by
  intro u hu
  simp only [List.mem_append] at hu
  rcases hu with (hu | hu) | hu
  · exact h u (List.mem_of_mem_take hu)
  · exact k u hu
  · exact h u (List.mem_of_mem_drop hu)
theorem put_get {α : Type} {cs ns : List α} {off i : Nat} {x : α} (hle : off ≤ cs.length) (h : (cs.take off ++ ns ++ cs.drop (off + ns.length))[i]? = some x) :
    (off ≤ i ∧ i < off + ns.length ∧ ns[i - off]? = some x) ∨ ((i < off ∨ off + ns.length ≤ i) ∧ cs[i]? = some x) := by
  rw [List.getElem?_append] at h
  split at h
  · rename_i h1
    simp at h1
    rw [List.getElem?_append] at h
    split at h
    · rename_i h2; simp at h2
      rw [List.getElem?_take] at h; split at h
      · exact .inr ⟨.inl (by omega), h⟩
      · cases h
    · rename_i h2; simp at h2
      simp only [List.length_take, Nat.min_eq_left hle] at h
      have : off ≤ i := by omega
      exact .inl ⟨this, by omega, h⟩
  · rename_i h1; simp at h1
    rw [List.getElem?_drop] at h
    simp only [List.length_append, List.length_take, Nat.min_eq_left hle] at h
    rw [show off + ns.length + (i - (off + ns.length)) = i by omega] at h
    exact .inr ⟨.inr (by omega), h⟩

/-- The rows behind a store. -/
theorem OwnsL.put {r : Root} {cs ns : List AV} {vs us : List Value} {off : Nat} (hl : vs.length = cs.length) (hn : us.length = ns.length) (hle : off ≤ cs.length)
    (h1 : ∀ (i : Nat) xs sz cv, cs[i]? = some (AV.list xs (.own sz)) → vs[i]? = some cv → (i < off ∨ off + ns.length ≤ i) → Tail g w r i xs sz cv)
    (h2 : ∀ (i : Nat) xs sz cv, ns[i]? = some (AV.list xs (.own sz)) → us[i]? = some cv → Tail g w r (off + i) xs sz cv) :
    OwnsL g w r (Rf.put cs off ns) (vs.take off ++ us ++ vs.drop (off + us.length)) := by
  intro i xs sz cv hi hv
  unfold Rf.put at hi
  rcases put_get hle hi with ⟨p1, p2, p3⟩ | ⟨p1, p3⟩ <;> rcases put_get (by omega) hv with ⟨q1, q2, q3⟩ | ⟨q1, q3⟩
  · have := h2 (i - off) xs sz cv p3 q3; rwa [show off + (i - off) = i by omega] at this
  · omega
  · omega
  · exact h1 i xs sz cv p3 q3 p1

/-- A store into a variable of the frame. -/
theorem Rel.setbox {u : AV} {cu : Value} (k : Rel G g st [(u, cu)] tm w) (hp : u.plain = true) {s : Nat} {cs : List AV} (hs : st.fr.get s = .box cs) {off : Nat} (hoff : off + u.spread.length ≤ cs.length) (hpos : 0 < u.spread.length) :
    ∃ (vs : List Value) (ty : TypeId), w.heap[g.bx (.fr s)]? = some (.cells vs.toArray ty (0, 0)) ∧ vs.length = cs.length ∧
      Rel G (g.mvI (.arg 0) 0 (.fr s) off) { st with fr := st.fr.set s (.box (Rf.put cs off u.spread)) } [] tm (w.setRow (g.bx (.fr s)) (vs.take off ++ cu.cells.toList ++ vs.drop (off + cu.cells.toList.length)).toArray) ∧
      Stay g w (g.mvI (.arg 0) 0 (.fr s) off) (w.setRow (g.bx (.fr s)) (vs.take off ++ cu.cells.toList ++ vs.drop (off + cu.cells.toList.length)).toArray) := by
  have f := k.fr s; rw [hs] at f; simp only [VF] at f
  obtain ⟨vs, ty, f1, f2, f3, f4, f5⟩ := f
  have fu := k.ps 0 _ _ rfl
  rw [VF_loose (AV.loose_of_plain hp), VX_plain hp] at fu
  have hc := V.cells hp fu.1
  have hlen : vs.length = cs.length := f3.1.len
  have hul : cu.cells.toList.length = u.spread.length := hc.1.len
  refine ⟨vs, ty, f2, hlen, ?_⟩
  generalize hnew : (vs.take off ++ cu.cells.toList ++ vs.drop (off + cu.cells.toList.length)) = nv
  have sm := same_setRow (g := g) (w := w) (bt := .box (.fr s)) (r := .arg 0) (i := 0) (q := .fr s) (j := off) f4 (cs := nv.toArray) f2
  have hi : offB (.box (.fr s)) (.arg 0) 0 (.fr s) off .imm := ⟨by simp, by simp, by simp⟩
  have hstay : Stay g w (g.mvI (.arg 0) 0 (.fr s) off) (w.setRow (g.bx (.fr s)) nv.toArray) := stay_setRow f4 (by simp [Tag.kept]) f2
  have hheap := heap_setRow w (g.bx (.fr s)) nv.toArray f2
  have hsize := size_setRow' w (g.bx (.fr s)) nv.toArray
  generalize w.setRow (g.bx (.fr s)) nv.toArray = w' at *
  refine ⟨⟨fun t => ?_, fun j v cv hj => by simp at hj, ?_, fun b o hb => ?_, ?_⟩, hstay⟩
  · have l : FrLike st.fr tm (st.fr.set s (.box (Rf.put cs off u.spread))) tm := ⟨fun x ds hx => by
        rw [Fr.get_set]; by_cases e : s = x
        · rw [if_pos e]; exact ⟨_, rfl⟩
        · rw [if_neg e]; exact ⟨ds, hx⟩, fun x xs sz hx => ⟨by
        rw [Fr.get_set]; by_cases e : s = x
        · subst e; rw [hs] at hx; cases hx
        · rw [if_neg e]; exact hx, rfl⟩⟩
    by_cases e : s = t
    · subst e
      simp only [Fr.get_set, if_true, VF]
      refine ⟨nv, ty, f1, ?_, ⟨?_, ?_⟩, fun o => ?_, ?_⟩
      · show w'.heap[g.bx (.fr s)]? = _
        rw [hheap, if_pos rfl]
      · rw [← hnew]; exact VS.put (VS.mono (sm.ext hi) _ _ f3.1) (VS.mono (sm.ext hi) _ _ hc.1) off
      · rw [← hnew]; exact Ones.put f3.2 hc.2 off _
      · show (g.ow _ _).mvI _ _ _ _ = _; rw [show (g.mvI (.arg 0) 0 (.fr s) off).bx (.fr s) = g.bx (.fr s) from rfl, f4 o]; rfl
      · rw [← hnew]
        refine OwnsL.put hlen hul (by omega) (fun i xs sz cv h1 h2 h3 => ?_) (fun i xs sz cv h1 h2 => ?_)
        · have ht := f5 i xs sz cv h1 h2
          refine ht.same sm hi ⟨by simp, by simp, ?_⟩
          simp; omega
        · have h0 : i = 0 := by
            cases i with
            | zero => rfl
            | succ i => cases u <;> simp [AV.spread] at h1; exact absurd h1 (by intro h; obtain ⟨x, _, h⟩ := h; exact AV.cp1_not_own _ _ _ h)
          subst h0
          have ht := spread_own hp fu.1 fu.2 0 xs sz cv h1 h2
          rw [Nat.add_zero]
          refine ht.mvI (sm.ext hi) fun c o hc => ⟨cell?_of_block' ?_, frozen?_of_block' ?_⟩
          all_goals
            rw [hheap, if_neg]
            intro e; subst e; rw [f4 o] at hc; cases hc
    · have := k.fr t
      simp only [Fr.get_set, if_neg e]
      refine VF.like l (this.same sm hi (fun _ _ _ => rfl) (fun i => ⟨by simp, by simp, by simpa using fun h => absurd h.symm e⟩) ⟨by simpa using fun h => e h.symm, by simp, by simp⟩ rfl)
  · exact k.hp.same sm hi (fun _ => ⟨by simp, by simp, by simp⟩) (fun _ _ => ⟨by simp, by simp, by simp⟩) (fun _ _ _ => ⟨by simp, by simp, by simp⟩) rfl
  · rw [hsize] at hb
    show (g.ow b o).mvI _ _ _ _ = _; rw [k.fresh b o hb]; rfl
  · exact k.gl.same sm hi ⟨by simp, by simp, by simp⟩

/-- A store into an object of the heap. -/
theorem Rel.setobj {u : AV} {cu : Value} (k : Rel G g st [(u, cu)] tm w) (hp : u.plain = true) {id : Nat} {cs : List AV} (hs : st.hp[id]? = some (.cells cs)) {off : Nat} (hoff : off + u.spread.length ≤ cs.length) (hpos : 0 < u.spread.length) :
    ∃ (b : Nat) (vs : List Value) (ty : TypeId), g.hb[id]? = some b ∧ w.heap[b]? = some (.cells vs.toArray ty (0, 0)) ∧ vs.length = cs.length ∧
      Rel G (g.mvI (.arg 0) 0 (.ob id) off) { st with hp := st.hp.set id (.cells (Rf.put cs off u.spread)) } [] tm (w.setRow b (vs.take off ++ cu.cells.toList ++ vs.drop (off + cu.cells.toList.length)).toArray) ∧
      Stay g w (g.mvI (.arg 0) 0 (.ob id) off) (w.setRow b (vs.take off ++ cu.cells.toList ++ vs.drop (off + cu.cells.toList.length)).toArray) := by
  obtain ⟨b, k1, f4, k3⟩ := k.hp.obj id _ hs
  simp only [ObjRel] at k3
  obtain ⟨vs, ty, f2, f3, f5⟩ := k3
  have fu := k.ps 0 _ _ rfl
  rw [VF_loose (AV.loose_of_plain hp), VX_plain hp] at fu
  have hc := V.cells hp fu.1
  have hlen : vs.length = cs.length := f3.1.len
  have hul : cu.cells.toList.length = u.spread.length := hc.1.len
  refine ⟨b, vs, ty, k1, f2, hlen, ?_⟩
  generalize hnew : (vs.take off ++ cu.cells.toList ++ vs.drop (off + cu.cells.toList.length)) = nv
  have sm := same_setRow (g := g) (w := w) (bt := .obj id) (r := .arg 0) (i := 0) (q := .ob id) (j := off) f4 (cs := nv.toArray) f2
  have hi : offB (.obj id) (.arg 0) 0 (.ob id) off .imm := ⟨by simp, by simp, by simp⟩
  have hstay : Stay g w (g.mvI (.arg 0) 0 (.ob id) off) (w.setRow b nv.toArray) := stay_setRow f4 (by simp [Tag.kept]) f2
  have hheap := heap_setRow w b nv.toArray f2
  have hsize := size_setRow' w b nv.toArray
  generalize w.setRow b nv.toArray = w' at *
  refine ⟨⟨fun t => ?_, fun j v cv hj => by simp at hj, ⟨by simp; exact k.hp.len, fun x ob hx => ?_⟩, fun c o hb => ?_, ?_⟩, hstay⟩
  · exact (k.fr t).same sm hi (fun _ _ _ => rfl) (fun i => ⟨by simp, by simp, by simp⟩) ⟨by simp, by simp, by simp⟩ rfl
  · simp only [List.getElem?_set] at hx
    by_cases e : id = x
    · subst e
      simp only [if_true] at hx
      split at hx
      · cases hx
        refine ⟨b, k1, fun i => ?_, ?_⟩
        · show (g.ow _ _).mvI _ _ _ _ = _; rw [f4 i]; rfl
        · simp only [ObjRel]
          refine ⟨nv, ty, ?_, ⟨?_, ?_⟩, ?_⟩
          · rw [hheap, if_pos rfl]
          · rw [← hnew]; exact VS.put (VS.mono (sm.ext hi) _ _ f3.1) (VS.mono (sm.ext hi) _ _ hc.1) off
          · rw [← hnew]; exact Ones.put f3.2 hc.2 off _
          · rw [← hnew]
            refine OwnsL.put hlen hul (by omega) (fun i xs sz cv h1 h2 h3 => ?_) (fun i xs sz cv h1 h2 => ?_)
            · have ht := f5 i xs sz cv h1 h2
              refine ht.same sm hi ⟨by simp, by simp, ?_⟩
              simp; omega
            · have h0 : i = 0 := by
                cases i with
                | zero => rfl
                | succ i => cases u <;> simp [AV.spread] at h1; exact absurd h1 (by intro h; obtain ⟨x, _, h⟩ := h; exact AV.cp1_not_own _ _ _ h)
              subst h0
              have ht := spread_own hp fu.1 fu.2 0 xs sz cv h1 h2
              rw [Nat.add_zero]
              refine ht.mvI (sm.ext hi) fun c o hc => ⟨cell?_of_block' ?_, frozen?_of_block' ?_⟩
              all_goals
                rw [hheap, if_neg]
                intro e; subst e; rw [f4 o] at hc; cases hc
      · cases hx
    · rw [if_neg e] at hx
      obtain ⟨b', e1, e2, e3⟩ := k.hp.obj x ob hx
      have hbl : b' < w.heap.size := by
        cases ob with
        | cells cs => simp only [ObjRel] at e3; obtain ⟨vs, ty, e, _⟩ := e3; exact (Array.getElem?_eq_some_iff.1 e).1
        | map es => simp only [ObjRel] at e3; obtain ⟨vs, ty, e, _⟩ := e3; exact (Array.getElem?_eq_some_iff.1 e).1
      have hT : ∀ t, t = Tag.obj x → offB (.obj id) (.arg 0) 0 (.ob id) off t := fun t ht => by subst ht; exact ⟨by simpa using fun h => e h.symm, by simp, by simp⟩
      refine ⟨b', e1, fun i => (sm.ow b' i hbl (hT _ (e2 i))).trans (e2 i), e3.same sm hi e2 (hT _ rfl) (fun i => ⟨by simp, by simp, by simpa using fun h => absurd h.symm e⟩) (fun i j => ⟨by simp, by simp, by simp⟩)⟩
  · rw [hsize] at hb
    show (g.ow c o).mvI _ _ _ _ = _; rw [k.fresh c o hb]; rfl
  · exact k.gl.same sm hi ⟨by simp, by simp, by simp⟩

theorem run_storeVar_at {t : TypeId} {n : Nat} {agg : Bool} (h : tyOk P t n agg = true) {b off : Nat} {vs : List Value} {ty : TypeId} (hb : w.heap[b]? = some (.cells vs.toArray ty (0, 0))) {cu : Value} (hn : cu.cells.toList.length = n) (h1 : Ones cu.cells.toList) (hfit : off + n ≤ vs.length) :
    (storeVar t ⟨b, off, none⟩ cu).run P w = .ok () (w.setRow b (vs.take off ++ cu.cells.toList ++ vs.drop (off + cu.cells.toList.length)).toArray) := by
  have hsz : (sizeOf t).run P w = .ok n w := by
    unfold tyOk at h
    cases hi : P.info? t with
    | none => simp [hi] at h
    | some i =>
      cases hu : P.underlying t with
      | none => simp [hi, hu] at h
      | some d =>
        simp only [hi, hu, Bool.and_eq_true, decide_eq_true_eq] at h
        simp [sizeOf, typeInfo, hi, h.1.1]
  have hst := run_storeCells_at P b off ty cu.cells.toList 0 vs.toArray w hb (by simp at hn ⊢; omega) h1
  simp only [Nat.add_zero] at hst
  simp only [storeVar, Sem.run_bind, hsz, Result.andThen_ok]
  rw [if_neg (by simp at hn; simpa using hn)]
  simpa using hst
end
end Go.Proofs.Ytajlmldpbhendaa.Rf
