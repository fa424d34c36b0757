/- New blocks, cells written. -/
import Derived.Test.YtajlmldpbhendaaRfE
set_option linter.unusedSimpArgs false
set_option linter.unusedVariables false
namespace Go.Proofs.Ytajlmldpbhendaa.Rf

section
variable {g g' : Gh} {w w' : World}
theorem cell?_of_block' {b o : Nat} (h : w'.heap[b]? = w.heap[b]?) : w'.cell? ⟨b, o, none⟩ = w.cell? ⟨b, o, none⟩ := by simp only [World.cell?, h]
theorem frozen?_of_block' {b o : Nat} (h : w'.heap[b]? = w.heap[b]?) : w'.frozen? ⟨b, o, none⟩ = w.frozen? ⟨b, o, none⟩ := by simp only [World.frozen?, h]
theorem Same.grow {T : Tag → Prop} (hh : ∀ b, b < w.heap.size → w'.heap[b]? = w.heap[b]?) (ho : ∀ b o, b < w.heap.size → T (g.ow b o) → g'.ow b o = g.ow b o) (hb : ∀ (i b : Nat), g.hb[i]? = some b → g'.hb[i]? = some b) : Same T g w g' w' :=
  ⟨ho, fun b o hl _ => cell?_of_block' (hh b hl), fun b o hl _ => frozen?_of_block' (hh b hl), fun b hl _ => hh b hl, hb⟩
theorem heap_alloc_old (w : World) (o : Obj) (b : Nat) (h : b < w.heap.size) : (w.alloc o).heap[b]? = w.heap[b]? := by
  show (w.heap.push o)[b]? = _
  rw [Array.getElem?_push, if_neg (by omega)]
theorem heap_alloc_new (w : World) (o : Obj) : (w.alloc o).heap[w.heap.size]? = some o := by
  show (w.heap.push o)[_]? = _
  rw [Array.getElem?_push, if_pos rfl]
/-- Only draws. -/
theorem Rel.draws {G : Nat → Option (List AV)} {st : St} {ps : List (AV × Value)} {tm : Array Value} (k : Rel G g st ps tm w) (h : w'.heap = w.heap) : Rel G g st ps tm w' :=
  k.same (Same.grow (fun b _ => by rw [h]) (fun _ _ _ _ => rfl) (fun _ _ h => h)) rfl (fun _ => rfl) (fun b o hb => k.fresh b o (by rw [← h]; exact hb))

theorem V.cells {v : AV} {cv : Value} (hp : v.plain = true) (h : V g w v cv) : VS g w v.spread cv.cells.toList ∧ Ones cv.cells.toList := by
  cases v <;> simp only [AV.plain, Bool.false_eq_true] at hp <;> simp only [AV.spread]
  case agg cs => simp only [V] at h; obtain ⟨vs, rfl, h, h0⟩ := h; exact ⟨by simpa [Value.cells] using h.cp1, by simpa [Value.cells] using h0⟩
  all_goals
    have h' := h
    simp only [V] at h'
    first
      | (subst h'; exact ⟨⟨_, [], rfl, h, rfl⟩, by simp [Ones, Value.cells, Value.oneCell']⟩)
      | (obtain ⟨_, rfl, _⟩ := h'; exact ⟨⟨_, [], rfl, h, rfl⟩, by simp [Ones, Value.cells, Value.oneCell']⟩)
      | (obtain ⟨_, _, rfl⟩ := h'; exact ⟨⟨_, [], rfl, h, rfl⟩, by simp [Ones, Value.cells, Value.oneCell']⟩)
      | (obtain ⟨_, _, rfl, _⟩ := h'; exact ⟨⟨_, [], rfl, h, rfl⟩, by simp [Ones, Value.cells, Value.oneCell']⟩)
theorem spread_own {r : Root} {v : AV} {cv : Value} (hp : v.plain = true) (hv : V g w v cv) (h : Owns g w r v cv) : OwnsL g w r v.spread cv.cells.toList := by
  cases v <;> simp only [AV.spread] <;> try exact OwnsL.cp1
  case list xs o =>
    simp only [V] at hv; obtain ⟨A, c, rfl, _⟩ := hv
    intro i ys sz cu h1 h2
    cases i with
    | zero => simp [Value.cells] at h1 h2; obtain ⟨rfl, rfl⟩ := h1; subst h2; exact h
    | succ i => simp at h1
  all_goals
    refine OwnsL.none fun i xs sz h => ?_
    cases i with
    | zero => simp at h
    | succ i => simp at h

variable {G : Nat → Option (List AV)} {st : St} {ps : List (AV × Value)} {tm : Array Value}

def Gh.newbox (g : Gh) (n : Nat) (r : Root) : Gh := { ow := fun b o => if b = n then .box r else g.ow b o, hb := g.hb, bx := fun x => if x = r then n else g.bx x }
/-- A new variable whose address stays in the frame. -/
theorem Rel.newbox (k : Rel G g st ps tm w) {cs : List AV} {vs : List Value} (hv : VS g w cs vs ∧ Ones vs) (ho : OwnsL g w (.arg 0) cs vs) (ty : TypeId) :
    ∃ g', Rel G g' st [(.box cs, .pointer (some ⟨w.heap.size, 0, none⟩))] tm (w.alloc (.cells vs.toArray ty)) ∧ Stay g w g' (w.alloc (.cells vs.toArray ty)) ∧ g'.hb = g.hb := by
  have sm : Same (fun _ => True) g w (g.newbox w.heap.size (.arg 0)) (w.alloc (.cells vs.toArray ty)) :=
    Same.grow (fun b h => heap_alloc_old w _ b h) (fun b o h _ => by simp only [Gh.newbox]; rw [if_neg (by omega)]) (fun _ _ h => h)
  refine ⟨g.newbox w.heap.size (.arg 0), ⟨fun s => ?_, fun j v cv hj => ?_, ?_, fun b o hb => ?_, ?_⟩, ?_, rfl⟩
  · exact (k.fr s).same sm trivial (fun t _ _ => by simp [Gh.newbox]) (fun _ => trivial) trivial (by simp [Gh.newbox])
  · cases j with
    | succ j => simp at hj
    | zero =>
      simp at hj; obtain ⟨rfl, rfl⟩ := hj
      simp only [VF]
      refine ⟨vs, ty, by simp [Gh.newbox], ?_, ⟨VS.mono (sm.ext trivial) _ _ hv.1, hv.2⟩, fun o => by simp [Gh.newbox], ho.same sm trivial (fun _ => trivial)⟩
      have : (g.newbox w.heap.size (.arg 0)).bx (.arg 0) = w.heap.size := by simp [Gh.newbox]
      rw [this]; exact heap_alloc_new w _
  · exact k.hp.same sm trivial (fun _ => trivial) (fun _ _ => trivial) (fun _ _ _ => trivial) rfl
  · simp only [Gh.newbox]; simp at hb; rw [if_neg (by omega)]; exact k.fresh b o (by omega)
  · exact k.gl.same sm trivial trivial
  · exact { ow := fun b o hl _ => sm.ow b o hl trivial, cell := fun b o hl _ => sm.cell b o hl trivial, frz := fun b o hl _ => sm.frz b o hl trivial, blk := fun b hl _ => sm.blk b hl (fun _ => trivial), hb := sm.hb, os := rfl, tape := rfl, output := rfl, size := by simp }

/-- A new object of the heap; what it holds was at hand at the root 'arg 0'. -/
def Gh.newobj (g : Gh) (n : Nat) (id : Nat) : Gh := { ow := fun b o => if b = n then .obj id else (g.ow b o).mv (.arg 0) (.ob id), hb := g.hb ++ [n], bx := g.bx }
theorem Rel.newobj (k : Rel G g st ps tm w) {o : HObj} {obj : Obj} (hr : ∀ g1 w1, Same (Tag.offRoots (.arg 0) (.ob st.hp.length)) g w g1 w1 → (∀ i xs sz cv, Tail g w (.arg 0) i xs sz cv → Tail g1 w1 (.ob st.hp.length) i xs sz cv) →
      w1.heap[w.heap.size]? = some obj → ObjRel g1 w1 st.hp.length w.heap.size o) :
    ∃ g', Rel G g' { st with hp := st.hp ++ [o] } [] tm (w.alloc obj) ∧ Stay g w g' (w.alloc obj) ∧ g'.hb = g.hb ++ [w.heap.size] := by
  have sm : Same (Tag.offRoots (.arg 0) (.ob st.hp.length)) g w (g.newobj w.heap.size st.hp.length) (w.alloc obj) :=
    Same.grow (fun b h => heap_alloc_old w _ b h) (fun b o h ht => by simp only [Gh.newobj]; rw [if_neg (by omega)]; exact Tag.mv_off ht) (fun i b h => by simp only [Gh.newobj]; rw [List.getElem?_append, if_pos (List.getElem?_eq_some_iff.1 h).1]; exact h)
  have ht : ∀ i xs sz cv, Tail g w (.arg 0) i xs sz cv → Tail (g.newobj w.heap.size st.hp.length) (w.alloc obj) (.ob st.hp.length) i xs sz cv := fun i xs sz cv h a n c e => by
    obtain ⟨h1, h2⟩ := h a n c e
    refine ⟨VE.mono (sm.ext trivial) _ _ _ _ h1, fun o ho ho' => ?_⟩
    obtain ⟨p, ⟨u, q⟩, s⟩ := h2 o ho ho'
    have hl := World.block_lt_of_cell? w ⟨a.block, o, none⟩ q
    refine ⟨?_, ⟨u, by rw [cell?_of_block' (heap_alloc_old w _ _ hl)]; exact q⟩, by rw [frozen?_of_block' (heap_alloc_old w _ _ hl)]; exact s⟩
    simp only [Gh.newobj]; rw [if_neg (by simp at hl; omega), p]; simp [Tag.mv]
  have hlen := k.hp.len
  refine ⟨g.newobj w.heap.size st.hp.length, ⟨fun s => ?_, fun j v cv hj => by simp at hj, ⟨?_, fun id x hx => ?_⟩, fun b o hb => ?_, ?_⟩, ?_, rfl⟩
  · exact (k.fr s).same sm trivial (fun t _ _ => rfl) (fun i => ⟨by simp, by simp⟩) ⟨by simp, by simp⟩ rfl
  · simp [Gh.newobj, hlen]
  · rw [List.getElem?_append] at hx
    split at hx
    · rename_i hlt
      obtain ⟨b, k1, k2, k3⟩ := k.hp.obj id x hx
      have hbl : b < w.heap.size := by
        cases x with
        | cells cs => simp only [ObjRel] at k3; obtain ⟨vs, ty, e, _⟩ := k3; exact (Array.getElem?_eq_some_iff.1 e).1
        | map es => simp only [ObjRel] at k3; obtain ⟨vs, ty, e, _⟩ := k3; exact (Array.getElem?_eq_some_iff.1 e).1
      have hne : id ≠ st.hp.length := by omega
      refine ⟨b, sm.hb _ _ k1, fun i => ?_, k3.same sm trivial k2 trivial (fun i => ⟨by simp, by simpa using hne⟩) (fun i j => ⟨by simp, by simp⟩)⟩
      rw [sm.ow b i hbl (by rw [k2]; trivial)]; exact k2 i
    · have : id = st.hp.length := by
        obtain ⟨h1, _⟩ := List.getElem?_eq_some_iff.1 hx; simp at h1; omega
      subst this; simp at hx; subst hx
      refine ⟨w.heap.size, ?_, fun i => by simp [Gh.newobj], hr _ _ sm ht (heap_alloc_new w _)⟩
      simp only [Gh.newobj]; rw [List.getElem?_append, if_neg (by omega)]; simp [hlen]
  · simp at hb
    simp only [Gh.newobj]; rw [if_neg (by omega), k.fresh b o (by omega)]; rfl
  · exact k.gl.same sm trivial trivial
  · exact { ow := fun b o hl ht => sm.ow b o hl (by revert ht; cases g.ow b o <;> simp [Tag.kept, Tag.offRoots]), cell := fun b o hl _ => cell?_of_block' (heap_alloc_old w _ b hl), frz := fun b o hl _ => frozen?_of_block' (heap_alloc_old w _ b hl), blk := fun b hl _ => heap_alloc_old w _ b hl, hb := sm.hb, os := rfl, tape := rfl, output := rfl, size := by simp }
end
end Go.Proofs.Ytajlmldpbhendaa.Rf
