/- The heap below lo stays; a call that leaves the heap alone. -/
import Derived.Test.YtajlmldpbhendaaRfZ2
set_option linter.unusedSimpArgs false
set_option linter.unusedVariables false
namespace Go.Proofs.Ytajlmldpbhendaa.Rf

def HObj.closed (n : Nat) : HObj → Prop
  | .cells cs => AV.closedL n cs = true
  | .map es => ∀ (i : Nat) k v, es[i]? = some (k, v) → k.closed n = true ∧ v.closed n = true

def OpR.stt : OpR → St
  | .val _ s => s
  | .pan _ s => s
def COut.hp : COut → List HObj
  | .ret _ h => h
  | .pan _ h => h
section
variable {P : Program} {G : Nat → Option (List AV)} {g g' : Gh} {st : St} {a : Act} {w w' : World} {o : Oper} {tm : Array Value} {call : CallF} {lo : Nat}

theorem HeapRel.closed {hp : List HObj} (k : HeapRel g w hp) {id : Nat} {o : HObj} (h : hp[id]? = some o) : o.closed hp.length := by
  obtain ⟨b, _, _, k3⟩ := k.obj id o h
  have hn : g.hb.length ≤ hp.length := Nat.le_of_eq k.len
  cases o with
  | cells cs =>
    simp only [ObjRel] at k3; obtain ⟨vs, ty, _, ⟨h1, _⟩, _⟩ := k3
    exact VS.closed hn cs vs h1
  | map es =>
    simp only [ObjRel] at k3; obtain ⟨ents, clock, _, _, h1⟩ := k3
    intro i kk v he
    obtain ⟨e, _, e2, e3, _⟩ := h1 i kk v he
    exact ⟨V.closed hn _ _ e2, V.closed hn _ _ e3⟩
theorem Tail.cutb {n : Nat} {r : Root} (hr : ∀ i, (Tag.tail r i).cutb n = .tail r i) {i : Nat} {xs : List AV} {sz : Nat} {cv : Value} (hc : AV.closedL n xs = true) (h : Tail g w r i xs sz cv) : Tail (g.cutb n) w r i xs sz cv := by
  intro a m c e
  obtain ⟨h1, h2⟩ := h a m c e
  refine ⟨VE.cutb _ _ _ _ hc h1, fun o ho ho' => ?_⟩
  obtain ⟨p, q⟩ := h2 o ho ho'
  exact ⟨by show (g.ow _ _).cutb n = _; rw [p]; exact hr i, q⟩
theorem closedL_get {n : Nat} : ∀ {cs : List AV} {i : Nat} {v : AV}, AV.closedL n cs = true → cs[i]? = some v → v.closed n = true
  | [], _, _, _, h => by simp at h
  | c :: cs, 0, v, h, hv => by simp only [AV.closedL, Bool.and_eq_true] at h; simp at hv; subst hv; exact h.1
  | c :: cs, i + 1, v, h, hv => by simp only [AV.closedL, Bool.and_eq_true] at h; exact closedL_get h.2 (by simpa using hv)
theorem OwnsL.cutb {n : Nat} {r : Root} (hr : ∀ i, (Tag.tail r i).cutb n = .tail r i) {cs : List AV} {vs : List Value} (hc : AV.closedL n cs = true) (h : OwnsL g w r cs vs) : OwnsL (g.cutb n) w r cs vs := fun i xs sz cv h1 h2 =>
  Tail.cutb hr (by have := closedL_get hc h1; simpa only [AV.closed] using this) (h i xs sz cv h1 h2)
theorem Owns.cutb {n : Nat} {r : Root} (hr : ∀ i, (Tag.tail r i).cutb n = .tail r i) {v : AV} {cv : Value} (hc : v.closed n = true) (h : Owns g w r v cv) : Owns (g.cutb n) w r v cv := by
  unfold Owns at *
  split
  · exact Tail.cutb hr (by simpa only [AV.closed] using hc) h
  · exact fun us e => OwnsL.cutb hr (by simpa only [AV.closed] using hc) (h us e)
  · trivial
theorem take_get {α : Type} {l m : List α} (h : m.take l.length = l) {i : Nat} {x : α} (hx : l[i]? = some x) : m[i]? = some x := by
  rw [← h, List.getElem?_take] at hx
  split at hx
  · exact hx
  · cases hx
theorem Rel.cutb {hp hp' : List HObj} {qs : List (AV × Value)} (k : Rel G g ⟨[], hp'⟩ qs #[] w) (hpre : hp'.take hp.length = hp) {g0 : Gh} {w0 : World} (k0 : HeapRel g0 w0 hp) (gl0 : GlobRel G g0 w0)
    (hq : ∀ (j : Nat) v cv, qs[j]? = some (v, cv) → v.closed hp.length = true) : Rel G (g.cutb hp.length) ⟨[], hp⟩ qs #[] w := by
  refine ⟨fun s => by simp [Fr.get, VF, VX, V, Owns], fun j v cv hj => ?_, ⟨?_, fun id o ho => ?_⟩, fun b o hb => by show (g.ow b o).cutb _ = _; rw [k.fresh b o hb]; rfl, fun b cs hG => ?_⟩
  · have hc := hq j v cv hj
    have f := k.ps j v cv hj
    have hl : v.loose = true := by cases v <;> first | rfl | simp [AV.closed] at hc
    rw [VF_loose hl] at f ⊢
    refine ⟨?_, Owns.cutb (fun _ => rfl) hc f.2⟩
    have f1 := f.1
    cases v <;> simp only [VX] at f1 ⊢ <;> first | exact V.cutb _ _ hc f1 | (simp [AV.closed] at hc; done)
  · simp only [Gh.cutb, List.length_take]
    have h1 := k.hp.len
    simp only at h1
    have h2 : (hp'.take hp.length).length = hp.length := by rw [hpre]
    rw [List.length_take] at h2
    omega
  · have hid := (List.getElem?_eq_some_iff.1 ho).1
    obtain ⟨b, k1, k2, k3⟩ := k.hp.obj id o (take_get hpre ho)
    have hc := k0.closed ho
    refine ⟨b, by simp only [Gh.cutb]; rw [List.getElem?_take, if_pos hid]; exact k1, fun i => by show (g.ow b i).cutb _ = _; rw [k2 i]; simp [Tag.cutb, hid], ?_⟩
    cases o with
    | cells cs =>
      simp only [ObjRel] at k3 ⊢
      obtain ⟨vs, ty, h1, ⟨h2, h3⟩, h4⟩ := k3
      exact ⟨vs, ty, h1, ⟨VS.cutb _ _ hc h2, h3⟩, OwnsL.cutb (fun _ => by simp [Tag.cutb, hid]) hc h4⟩
    | map es =>
      simp only [ObjRel] at k3 ⊢
      obtain ⟨ents, clock, h1, h2, h3⟩ := k3
      refine ⟨ents, clock, h1, h2, fun i kk v he => ?_⟩
      obtain ⟨e, e1, e2, e3, e4⟩ := h3 i kk v he
      obtain ⟨c1, c2⟩ := hc i kk v he
      exact ⟨e, e1, V.cutb _ _ c1 e2, V.cutb _ _ c2 e3, Owns.cutb (fun _ => by simp [Tag.cutb, hid]) c2 e4⟩
  · obtain ⟨vs0, _, _, ⟨h0, _⟩, _⟩ := gl0 b cs hG
    obtain ⟨vs, ty, h1, ⟨h2, h3⟩, h4⟩ := k.gl b cs hG
    exact ⟨vs, ty, h1, ⟨VS.cutb _ _ (VS.closed (Nat.le_of_eq k0.len) _ _ h0) h2, h3⟩, fun o => by show (g.ow b o).cutb _ = _; rw [h4 o]; rfl⟩
theorem cutb_stay (g : Gh) (w : World) (n : Nat) (hb : ∀ (i b : Nat), g.hb[i]? = some b → i < n) : Stay g w (g.cutb n) w :=
  { ow := fun b o hl ht => by show (g.ow b o).cutb n = _; revert ht; cases g.ow b o <;> simp [Tag.kept, Tag.cutb]
    cell := fun _ _ _ _ => rfl, frz := fun _ _ _ _ => rfl, blk := fun _ _ _ => rfl
    hb := fun i b h => by simp only [Gh.cutb]; rw [List.getElem?_take, if_pos (hb i b h)]; exact h
    os := rfl, tape := rfl, output := rfl, size := Nat.le_refl _ }
/-- the like, from an earlier state whose heap was the shorter one -/
theorem Stay.cutb {g0 : Gh} {w0 : World} (s : Stay g0 w0 g w) {n : Nat} (hn : g0.hb.length ≤ n) : Stay g0 w0 (g.cutb n) w :=
  { ow := fun b o hl ht => by
      show (g.ow b o).cutb n = _
      rw [s.ow b o hl ht]; revert ht; cases g0.ow b o <;> simp [Tag.kept, Tag.cutb]
    cell := s.cell, frz := s.frz, blk := s.blk
    hb := fun i b h => by
      have := (List.getElem?_eq_some_iff.1 h).1
      simp only [Gh.cutb]; rw [List.getElem?_take, if_pos (by omega)]; exact s.hb i b h
    os := s.os, tape := s.tape, output := s.output, size := s.size }

/-! the heap below lo stays -/
def Pre (lo : Nat) (hp hp' : List HObj) : Prop := hp'.take lo = hp.take lo ∧ lo ≤ hp'.length
theorem Pre.refl {hp : List HObj} (h : lo ≤ hp.length) : Pre lo hp hp := ⟨rfl, h⟩
theorem Pre.trans {a b c : List HObj} (h : Pre lo a b) (k : Pre lo b c) : Pre lo a c := ⟨k.1.trans h.1, k.2⟩
theorem Pre.app {hp x : List HObj} (h : lo ≤ hp.length) : Pre lo hp (hp ++ x) := ⟨by rw [List.take_append_of_le_length h], by simp; omega⟩
theorem Pre.set {hp : List HObj} (h : lo ≤ hp.length) {id : Nat} (hi : lo ≤ id) (x : HObj) : Pre lo hp (hp.set id x) := ⟨by rw [List.take_set_of_le hi], by simpa using h⟩
def CallPre (call : CallF) : Prop := ∀ f vs hp lo q r, call f vs hp lo q = some r → lo ≤ hp.length → Pre lo hp r.hp
theorem behindPut_pre {s s' : St} {cs : List AV} {p : AV} (h : behindPut lo s cs p = some s') (hl : lo ≤ s.hp.length) : Pre lo s.hp s'.hp := by
  cases p <;> simp only [behindPut] at h <;> try (cases h; done)
  · split at h
    · cases h; exact Pre.set hl (by assumption) _
    · cases h
  · cases h; exact Pre.refl hl
theorem evalOp_pre (hc : CallPre call) {i : IOp} {r : OpR} (h : evalOp G call lo i st = some r) (hl : lo ≤ st.hp.length) : Pre lo st.hp r.stt.hp := by
  have done : ∀ {v : AV} {s : St}, ret1 v s = some r → s.hp = st.hp → Pre lo st.hp r.stt.hp := fun h1 h2 => by
    cases ret1_some h1; simp only [OpR.stt]; rw [h2]; exact Pre.refl hl
  cases i
  case alloc heap cs =>
    simp only [evalOp] at h; split at h <;> cases ret1_some h
    · exact Pre.app hl
    · exact Pre.refl hl
  case box heap x =>
    simp only [evalOp] at h
    split at h
    · cases h
    · split at h <;> cases ret1_some h
      · exact Pre.app hl
      · exact Pre.refl hl
  case mkmap => simp only [evalOp] at h; cases ret1_some h; exact Pre.app hl
  case load x m n agg tk =>
    simp only [evalOp] at h
    repeat' split at h
    all_goals first
      | (cases h; done)
      | exact done h rfl
      | (cases ret1_some h; rename_i hb; exact behindPut_pre hb hl)
  case store x m v n =>
    simp only [evalOp] at h
    repeat' split at h
    all_goals first
      | (cases h; done)
      | exact done h rfl
      | (cases ret1_some h; rename_i hb; have := behindPut_pre hb hl; exact this)
  case lookup kd m k z ok tk =>
    simp only [evalOp] at h
    repeat' split at h
    all_goals first
      | (cases h; done)
      | exact done h rfl
      | (rename_i hb _; cases ret1_some h; exact Pre.set hl hb.1 _)
      | (cases ret1_some h; rename_i hb; exact Pre.set hl hb.1 _)
  case mapset kd m k v z =>
    simp only [evalOp] at h
    repeat' split at h
    all_goals first
      | (cases h; done)
      | exact done h rfl
      | (cases ret1_some h; exact Pre.set hl (by assumption) _)
  case call f xs q =>
    simp only [evalOp] at h
    repeat' split at h
    all_goals first
      | (cases h; done)
      | (rename_i hcall; cases ret1_some h; exact hc _ _ _ _ _ _ hcall hl)
      | (rename_i hcall; cases h; exact hc _ _ _ _ _ _ hcall hl)
  all_goals
    simp only [evalOp] at h
    repeat' split at h
    all_goals first
      | (cases h; done)
      | exact done h rfl
      | (cases h; exact Pre.refl hl)
theorem St.put_hp {s s' : St} {d : Option Nat} {v : AV} (h : s.put d v = some s') : s'.hp = s.hp := by
  cases d <;> simp only [St.put] at h
  · cases h; rfl
  · split at h
    · cases h; rfl
    · cases h
theorem evalOps_pre (hc : CallPre call) : ∀ {is : List IOper} {st : St} {ex : Ex} {st' : St}, evalOps G call lo is st = some (ex, st') → lo ≤ st.hp.length → Pre lo st.hp st'.hp
  | [], st, ex, st', h, hl => by simp [evalOps] at h; obtain ⟨rfl, rfl⟩ := h; exact Pre.refl hl
  | x :: r, st, ex, st', h, hl => by
    simp only [evalOps] at h
    split at h
    · split at h
      · rename_i v s1 he
        have h1 := evalOp_pre hc he hl
        split at h
        · rename_i s2 hp
          have h2 := St.put_hp hp
          simp only [OpR.stt] at h1
          exact h1.trans (by rw [← h2]; exact evalOps_pre hc h (by rw [h2]; exact h1.2))
        · cases h
      · rename_i v s1 he; cases h; exact evalOp_pre hc he hl
      · cases h
    · split at h
      · rename_i s2 hp
        have h2 := St.put_hp hp
        rw [← h2]; exact evalOps_pre hc h (by rw [h2]; exact hl)
      · cases h
    · cases h
theorem evalDraw_pre (hc : CallPre call) {ops : List IOper} {pans : List Nat} : ∀ {ord : List Nat} {st : St} {ex : Ex} {st' : St}, evalDraw G call lo ops pans ord st = some (ex, st') → lo ≤ st.hp.length → Pre lo st.hp st'.hp
  | [], st, ex, st', h, hl => by simp [evalDraw] at h; obtain ⟨rfl, rfl⟩ := h; exact Pre.refl hl
  | x :: r, st, ex, st', h, hl => by
    simp only [evalDraw] at h
    split at h
    · cases h
    · split at h
      · rename_i s1 he
        have h1 := evalOps_pre hc he hl
        exact h1.trans (evalDraw_pre hc h h1.2)
      · rename_i v s1 he
        split at h
        · cases h; exact (evalOps_pre hc he hl : Pre lo st.hp s1.hp)
        · cases h
      · cases h
def LoopPre (lo : Nat) (loop : LoopF) : Prop := ∀ b st ex st', loop b st = some (ex, st') → lo ≤ st.hp.length → Pre lo st.hp st'.hp
theorem evalC_pre (hc : CallPre call) {loop : LoopF} (hlp : LoopPre lo loop) : ∀ {c : ICode} {st : St} {ex : Ex} {st' : St}, evalC G call loop lo c st = some (ex, st') → lo ≤ st.hp.length → Pre lo st.hp st'.hp := by
  intro c
  induction c with
  | skip => intro st ex st' h hl; simp [evalC] at h; obtain ⟨rfl, rfl⟩ := h; exact Pre.refl hl
  | region ops live =>
    intro st ex st' h hl
    simp only [evalC] at h
    split at h
    · rename_i s1 he
      split at h
      · cases h; exact (evalOps_pre hc he hl : Pre lo st.hp s1.hp)
      · cases h
    · exact evalOps_pre hc h hl
  | draw ops ord pans live =>
    intro st ex st' h hl
    simp only [evalC] at h
    split at h
    · rename_i s1 he
      split at h
      · cases h; exact (evalDraw_pre hc he hl : Pre lo st.hp s1.hp)
      · cases h
    · exact evalDraw_pre hc h hl
  | seq a b iha ihb =>
    intro st ex st' h hl
    simp only [evalC] at h
    split at h
    · rename_i s1 he
      have h1 := iha he hl
      exact h1.trans (ihb h h1.2)
    · exact iha h hl
  | cond c a b iha ihb =>
    intro st ex st' h hl
    simp only [evalC] at h
    split at h
    · split at h
      · exact iha h hl
      · exact ihb h hl
    · cases h
  | block id b ih =>
    intro st ex st' h hl
    simp only [evalC] at h
    split at h
    · rename_i i s1 he
      split at h <;> (cases h; exact ih he hl)
    · exact ih h hl
  | loop b ih => intro st ex st' h hl; exact hlp _ _ _ _ h hl
  | exit id => intro st ex st' h hl; simp [evalC] at h; obtain ⟨rfl, rfl⟩ := h; exact Pre.refl hl
  | ret => intro st ex st' h hl; simp [evalC] at h; obtain ⟨rfl, rfl⟩ := h; exact Pre.refl hl
theorem run_pre (IP : IProg) : ∀ k, CallPre (run G IP k).1 ∧ ∀ lo, LoopPre lo ((run G IP k).2 lo)
  | 0 => ⟨fun f vs hp lo q r h => by simp [run] at h, fun lo b st ex st' h => by simp [run] at h⟩
  | k + 1 => by
    obtain ⟨h1, h2⟩ := run_pre IP k
    refine ⟨fun f vs hp lo q r h hl => ?_, fun lo b st ex st' h hl => ?_⟩
    · simp only [run, callBody] at h
      split at h
      · cases h
      · rename_i fn hfn
        split at h
        · cases h
        · cases hs : fn.still with
          | true =>
            simp only [hs, if_true] at h
            repeat' split at h
            all_goals first
              | (cases h; done)
              | (cases h; exact Pre.refl hl)
          | false =>
            simp only [hs, Bool.false_eq_true, if_false] at h
            split at h
            · rename_i s1 he
              split at h
              · cases h; exact evalC_pre h1 (h2 lo) he hl
              · cases h
            · rename_i s1 he
              split at h
              · cases h; exact evalC_pre h1 (h2 lo) he hl
              · cases h
            · rename_i v s1 he; cases h; exact evalC_pre h1 (h2 lo) he hl
            · cases h
    · simp only [run, loopBody] at h
      split at h
      · rename_i s1 he
        have h3 := evalC_pre h1 (h2 lo) he hl
        exact h3.trans (h2 lo _ _ _ _ h h3.2)
      · exact evalC_pre h1 (h2 lo) h hl
end
end Go.Proofs.Ytajlmldpbhendaa.Rf
