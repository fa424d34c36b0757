/- Stores, loads that take, addresses, arithmetic. -/
import Derived.Test.YtajlmldpbhendaaRfI
import Derived.Laws.Strings
set_option linter.unusedSimpArgs false
set_option linter.unusedVariables false
namespace Go.Proofs.Ytajlmldpbhendaa.Rf

section
variable {P : Program} {G : Nat → Option (List AV)} {g g' : Gh} {st : St} {a : Act} {w w' : World} {o : Oper} {tm : Array Value} {ps : List (AV × Value)}

theorem VF_undef {fr : Fr} {r : Root} : VF g w fr tm r (.tup []) undef := by
  rw [VF_loose rfl]; exact ⟨VX_of_V (by simp only [V]; exact ⟨[], rfl, by simp [VS]⟩), fun us e => OwnsL.none (by simp)⟩

theorem fits_store (k : Rel G g st [] a.tmps w) {x v : Opd} {y u : Operand} (hx : opdOk x y = true) (hv : opdOk v u = true) {t : TypeId} {n : Nat} {agg : Bool} (ht : tyOk P t n agg = true) (ho : o.op = .store t y u) (hp : (opd st.fr v).1.plain = true) {lo : Nat}
    {cs : List AV} {off : Nat} {st' : St} (h : Rf.behind G { st with fr := (opd st.fr v).2 } (opd (opd st.fr v).2 x).1 = some (cs, off)) (hn : (opd st.fr v).1.spread.length = n ∧ off + n ≤ cs.length)
    (hput : behindPut lo { st with fr := (opd st.fr v).2 } (put cs off (opd st.fr v).1.spread) (opd (opd st.fr v).2 x).1 = some st') : Fits P G g st (.val (.tup []) st') o a w := by
  obtain ⟨g1, k1, s1, _⟩ := k.take hv
  have hpos : 0 < n := by
    unfold tyOk at ht
    cases hi : P.info? t <;> cases hu : P.underlying t <;> simp [hi, hu] at ht
    exact ht.1.2
  have hr := k1.read hx
  simp only [List.nil_append] at k1
  simp only at hr
  have hc := V.cells hp (by have := k1.ps 0 _ _ rfl; rw [VF_loose (AV.loose_of_plain hp), VX_plain hp] at this; exact this.1)
  have hcn : (Act.opd a.tmps u).cells.toList.length = n := by rw [hc.1.len]; exact hn.1
  generalize (opd (opd st.fr v).2 x).1 = p at *
  cases p <;> simp only [behindPut] at hput <;> try (cases hput; done)
  case lref s off' =>
    cases hput
    simp only [Rf.behind] at h
    cases hf : (opd st.fr v).2.get s <;> simp [hf] at h
    obtain ⟨rfl, rfl⟩ := h
    obtain ⟨vs, ty, e1, e2, e3, e4⟩ := Rel.setbox k1 hp hf (off := off') (by rw [hn.1]; exact hn.2) (by rw [hn.1]; exact hpos)
    simp only [VX] at hr
    refine fits_skip ?_ (e3.push0 VF_undef) (s1.trans e4)
    simp [execOp, ho, Act.eval_eq, hr.1, Instr.storeAt, Instr.sureAddr, run_storeVar_at ht e1 hcn hc.2 (by rw [e2]; exact hn.2)]
  case ptr id off' =>
    split at hput <;> cases hput
    simp only [Rf.behind] at h
    cases hf : st.hp[id]? with
    | none => simp [hf] at h
    | some ob =>
      cases ob with
      | map es => simp [hf] at h
      | cells ds =>
        simp [hf] at h
        obtain ⟨rfl, rfl⟩ := h
        obtain ⟨b, vs, ty, e0, e1, e2, e3, e4⟩ := Rel.setobj k1 hp hf (off := off') (by rw [hn.1]; exact hn.2) (by rw [hn.1]; exact hpos)
        simp only [VX, V] at hr
        obtain ⟨b', h1, h2⟩ := hr
        rw [e0] at h1; cases h1
        refine fits_skip ?_ (e3.push0 VF_undef) (s1.trans e4)
        simp [execOp, ho, Act.eval_eq, h2, Instr.storeAt, Instr.sureAddr, run_storeVar_at ht e1 hcn hc.2 (by rw [e2]; exact hn.2)]

theorem take_one {α : Type} {vs : List α} {off : Nat} {u : α} (h : vs[off]? = some u) : vs.take off ++ [u] ++ vs.drop (off + 1) = vs := by
  obtain ⟨h1, h2⟩ := List.getElem?_eq_some_iff.1 h
  rw [List.append_assoc, List.singleton_append, ← h2, ← List.drop_eq_getElem_cons h1, List.take_append_drop]
theorem same_mvI (g : Gh) (w : World) (r : Root) (i : Nat) (q : Root) (j : Nat) : Same (fun t => t ≠ .tail r i ∧ t ≠ .tail q j) g w (g.mvI r i q j) w :=
  ⟨fun b o _ h => by
    show (g.ow b o).mvI r i q j = _
    revert h
    cases g.ow b o <;> intro h <;> try rfl
    case tail x k => simp only [ne_eq, Tag.tail.injEq] at h; simp only [Tag.mvI]; rw [if_neg h.1, if_neg h.2], fun _ _ _ _ => rfl, fun _ _ _ _ => rfl, fun _ _ _ => rfl, fun _ _ h => h⟩
theorem stay_mvI (g : Gh) (w : World) (r : Root) (i : Nat) (q : Root) (j : Nat) : Stay g w (g.mvI r i q j) w :=
  { ow := fun b o _ ht => by
      show (g.ow b o).mvI r i q j = _
      revert ht; cases g.ow b o <;> simp [Tag.kept, Tag.mvI]
    cell := fun _ _ _ _ => rfl, frz := fun _ _ _ _ => rfl, blk := fun _ _ _ => rfl, hb := fun _ _ h => h, os := rfl, tape := rfl, output := rfl, size := Nat.le_refl _ }
theorem owns_of_tail {r : Root} {c : AV} {u : Value} (hc : ∀ vs, c ≠ .tup vs) (h : ∀ xs sz, c = .list xs (.own sz) → Tail g w r 0 xs sz u) : Owns g w r c u := by
  cases c <;> try trivial
  case list xs o => cases o <;> first | trivial | exact h _ _ rfl
  case tup vs => exact absurd rfl (hc vs)

/-- What stands in a cell of a variable of the frame is taken. -/
theorem Rel.takebox (k : Rel G g st [] tm w) {s : Nat} {cs : List AV} (hs : st.fr.get s = .box cs) {off : Nat} {c : AV} (hc : cs[off]? = some c) :
    ∃ u, w.cell? ⟨g.bx (.fr s), off, none⟩ = some u ∧ Rel G (g.mvI (.fr s) off (.arg 0) 0) { st with fr := st.fr.set s (.box (Rf.put cs off [c.cp1])) } [(c, u)] tm w := by
  have f := k.fr s; rw [hs] at f; simp only [VF] at f
  obtain ⟨vs, ty, f1, f2, f3, f4, f5⟩ := f
  obtain ⟨u, hu, hcu⟩ := f3.1.get hc
  have h1 := f3.2 u (List.mem_of_getElem? hu)
  have sm := same_mvI g w (.fr s) off (.arg 0) 0
  have hi : (fun t => t ≠ Tag.tail (.fr s) off ∧ t ≠ Tag.tail (.arg 0) 0) Tag.imm := ⟨by simp, by simp⟩
  have hlt : off < cs.length := (List.getElem?_eq_some_iff.1 hc).1
  have l : FrLike st.fr tm (st.fr.set s (.box (Rf.put cs off [c.cp1]))) tm := ⟨fun x ds hx => by
      rw [Fr.get_set]; by_cases e : s = x
      · rw [if_pos e]; exact ⟨_, rfl⟩
      · rw [if_neg e]; exact ⟨ds, hx⟩, fun x xs sz hx => ⟨by
      rw [Fr.get_set]; by_cases e : s = x
      · subst e; rw [hs] at hx; cases hx
      · rw [if_neg e]; exact hx, rfl⟩⟩
  refine ⟨u, by simp [World.cell?, f2, hu], ⟨fun t => ?_, fun j v cv hj => ?_, ?_, fun b o hb => ?_, ?_⟩⟩
  · by_cases e : s = t
    · subst e
      simp only [Fr.get_set, if_true, VF]
      refine ⟨vs, ty, f1, f2, ⟨?_, f3.2⟩, fun o => ?_, ?_⟩
      · have := VS.put (off := off) (VS.mono (sm.ext hi) _ _ f3.1) (ns := [c.cp1]) (us := [u]) (by simp only [VS]; exact ⟨u, [], rfl, (V.mono (sm.ext hi) _ _ hcu).cp1, rfl⟩)
        simp only [List.length_singleton] at this
        rwa [take_one hu] at this
      · show (g.ow _ _).mvI _ _ _ _ = _
        rw [show (g.mvI (.fr s) off (.arg 0) 0).bx (.fr s) = g.bx (.fr s) from rfl, f4 o]; rfl
      · have := OwnsL.put (g := g.mvI (.fr s) off (.arg 0) 0) (w := w) (r := .fr s) (cs := cs) (ns := [c.cp1]) (vs := vs) (us := [u]) (off := off) f3.1.len rfl (by omega)
          (fun i xs sz cv h1 h2 h3 => (f5 i xs sz cv h1 h2).same sm hi ⟨by simp at h3 ⊢; omega, by simp⟩)
          (fun i xs sz cv h1 h2 => by
            cases i with
            | zero => simp at h1; exact absurd h1 (AV.cp1_not_own _ _ _)
            | succ i => simp at h1)
        simp only [List.length_singleton] at this
        rwa [take_one hu] at this
    · simp only [Fr.get_set, if_neg e]
      exact VF.like l ((k.fr t).same sm hi (fun _ _ _ => rfl) (fun i => ⟨by simpa using fun h => absurd h.symm e, by simp⟩) ⟨by simp, by simp⟩ rfl)
  · cases j with
    | succ j => simp at hj
    | zero =>
      simp at hj; obtain ⟨rfl, rfl⟩ := hj
      rw [VF_loose hcu.loose]
      refine ⟨VX_of_V (V.mono (sm.ext hi) _ _ hcu), owns_of_tail (hcu.not_tup h1) fun xs sz e => ?_⟩
      subst e
      exact (f5 off xs sz u hc hu).mvI (sm.ext hi) fun _ _ _ => ⟨rfl, rfl⟩
  · exact k.hp.same sm hi (fun _ => ⟨by simp, by simp⟩) (fun _ _ => ⟨by simp, by simp⟩) (fun _ _ _ => ⟨by simp, by simp⟩) rfl
  · show (g.ow b o).mvI _ _ _ _ = _; rw [k.fresh b o hb]; rfl
  · exact k.gl.same sm hi ⟨by simp, by simp⟩
/-- What stands in a cell of an object of the heap is taken. -/
theorem Rel.takeobj (k : Rel G g st [] tm w) {id : Nat} {cs : List AV} (hs : st.hp[id]? = some (.cells cs)) {off : Nat} {c : AV} (hc : cs[off]? = some c) :
    ∃ b u, g.hb[id]? = some b ∧ w.cell? ⟨b, off, none⟩ = some u ∧ Rel G (g.mvI (.ob id) off (.arg 0) 0) { st with hp := st.hp.set id (.cells (Rf.put cs off [c.cp1])) } [(c, u)] tm w := by
  obtain ⟨b, k1, f4, k3⟩ := k.hp.obj id _ hs
  simp only [ObjRel] at k3
  obtain ⟨vs, ty, f2, f3, f5⟩ := k3
  obtain ⟨u, hu, hcu⟩ := f3.1.get hc
  have h1 := f3.2 u (List.mem_of_getElem? hu)
  have sm := same_mvI g w (.ob id) off (.arg 0) 0
  have hi : (fun t => t ≠ Tag.tail (.ob id) off ∧ t ≠ Tag.tail (.arg 0) 0) Tag.imm := ⟨by simp, by simp⟩
  have hlt : off < cs.length := (List.getElem?_eq_some_iff.1 hc).1
  refine ⟨b, u, k1, by simp [World.cell?, f2, hu], ⟨fun t => ?_, fun j v cv hj => ?_, ⟨by simp; exact k.hp.len, fun x ob hx => ?_⟩, fun b o hb => ?_, ?_⟩⟩
  · exact (k.fr t).same sm hi (fun _ _ _ => rfl) (fun i => ⟨by simp, by simp⟩) ⟨by simp, by simp⟩ rfl
  · cases j with
    | succ j => simp at hj
    | zero =>
      simp at hj; obtain ⟨rfl, rfl⟩ := hj
      rw [VF_loose hcu.loose]
      refine ⟨VX_of_V (V.mono (sm.ext hi) _ _ hcu), owns_of_tail (hcu.not_tup h1) fun xs sz e => ?_⟩
      subst e
      exact (f5 off xs sz u hc hu).mvI (sm.ext hi) fun _ _ _ => ⟨rfl, rfl⟩
  · simp only [List.getElem?_set] at hx
    by_cases e : id = x
    · subst e
      simp only [if_true] at hx
      split at hx
      · cases hx
        refine ⟨b, k1, fun i => ?_, ?_⟩
        · show (g.ow _ _).mvI _ _ _ _ = _; rw [f4 i]; rfl
        · simp only [ObjRel]
          refine ⟨vs, ty, f2, ⟨?_, f3.2⟩, ?_⟩
          · have := VS.put (off := off) (VS.mono (sm.ext hi) _ _ f3.1) (ns := [c.cp1]) (us := [u]) (by simp only [VS]; exact ⟨u, [], rfl, (V.mono (sm.ext hi) _ _ hcu).cp1, rfl⟩)
            simp only [List.length_singleton] at this
            rwa [take_one hu] at this
          · have := OwnsL.put (g := g.mvI (.ob id) off (.arg 0) 0) (w := w) (r := .ob id) (cs := cs) (ns := [c.cp1]) (vs := vs) (us := [u]) (off := off) f3.1.len rfl (by omega)
              (fun i xs sz cv h1 h2 h3 => (f5 i xs sz cv h1 h2).same sm hi ⟨by simp at h3 ⊢; omega, by simp⟩)
              (fun i xs sz cv h1 h2 => by
                cases i with
                | zero => simp at h1; exact absurd h1 (AV.cp1_not_own _ _ _)
                | succ i => simp at h1)
            simp only [List.length_singleton] at this
            rwa [take_one hu] at this
      · cases hx
    · rw [if_neg e] at hx
      obtain ⟨b', e1, e2, e3⟩ := k.hp.obj x ob hx
      refine ⟨b', e1, fun i => ?_, e3.same sm hi e2 ⟨by simp, by simp⟩ (fun i => ⟨by simpa using fun h => absurd h.symm e, by simp⟩) (fun i j => ⟨by simp, by simp⟩)⟩
      show (g.ow _ _).mvI _ _ _ _ = _; rw [e2 i]; rfl
  · show (g.ow b o).mvI _ _ _ _ = _; rw [k.fresh b o hb]; rfl
  · exact k.gl.same sm hi ⟨by simp, by simp⟩

theorem fits_load_take (k : Rel G g st [] a.tmps w) {x : Opd} {y : Operand} (hx : opdOk x y = true) {t : TypeId} (ht : tyOk P t 1 false = true) (ho : o.op = .load t y) {lo : Nat} {st' : St}
    {cs l : List AV} {off : Nat} (h : Rf.behind G st (opd st.fr x).1 = some (cs, off)) (hl : cut cs off 1 = some l) (hput : behindPut lo st (put cs off (l.map AV.cp1)) (opd st.fr x).1 = some st') : Fits P G g st (.val (ofCells false l) st') o a w := by
  have hr := k.read hx
  obtain ⟨hl1, hl2⟩ := cut_get hl
  match l, hl1 with
  | [c], _ =>
    have hc := hl2 0 c rfl
    rw [Nat.add_zero] at hc
    simp only [ofCells, Bool.false_eq_true, if_false, List.headD, List.map_cons, List.map_nil] at hput ⊢
    have run : ∀ b u, Act.opd a.tmps y = .pointer (some ⟨b, off, none⟩) → w.cell? ⟨b, off, none⟩ = some u → (execOp a.eval o).run P w = .ok (.value u) w := fun b u e1 e2 => by
      have := run_loadVar_at (w := w) ht (b := b) (off := off) (us := [u]) rfl (fun i v hv => by
        cases i with
        | zero => simp at hv; subst hv; simpa using e2
        | succ i => simp at hv)
      simp only [Bool.false_eq_true, if_false, List.headD] at this
      simp [execOp, ho, Act.eval_eq, e1, Instr.loadAt, Instr.sureAddr, this]
    generalize (opd st.fr x).1 = p at *
    cases p <;> simp only [behindPut] at hput <;> try (cases hput; done)
    case lref s off' =>
      cases hput
      simp only [Rf.behind] at h
      cases hf : st.fr.get s <;> simp [hf] at h
      obtain ⟨rfl, rfl⟩ := h
      obtain ⟨u, e1, e2⟩ := k.takebox hf hc
      simp only [VX] at hr
      exact fits_value (run _ u hr.1 e1) e2 (stay_mvI _ _ _ _ _ _)
    case ptr id off' =>
      split at hput <;> cases hput
      simp only [Rf.behind] at h
      cases hf : st.hp[id]? with
      | none => simp [hf] at h
      | some ob =>
        cases ob with
        | map es => simp [hf] at h
        | cells ds =>
          simp [hf] at h
          obtain ⟨rfl, rfl⟩ := h
          obtain ⟨b, u, e0, e1, e2⟩ := k.takeobj hf hc
          simp only [VX, V] at hr
          obtain ⟨b', h1, h2⟩ := hr
          rw [e0] at h1; cases h1
          exact fits_value (run _ u h2 e1) e2 (stay_mvI _ _ _ _ _ _)
end
end Go.Proofs.Ytajlmldpbhendaa.Rf
