/- Laws of the relation: pointwise lists, copies, what stays under 'Same', moving what is owned from one root to another. -/
import Derived.Test.YtajlmldpbhendaaRfB
set_option linter.unusedSimpArgs false
set_option linter.unusedVariables false
namespace Go.Proofs.Ytajlmldpbhendaa.Rf

section
variable {g g' : Gh} {w w' : World}

theorem Same.ext {T : Tag → Prop} (h : Same T g w g' w') (hT : T .imm) : Ext g w g' w' :=
  ⟨fun b o hl hi => ⟨(h.ow b o hl (by rw [hi]; exact hT)).trans hi, h.cell b o hl (by rw [hi]; exact hT)⟩, h.hb⟩

theorem VS.len : ∀ {cs : List AV} {vs : List Value}, VS g w cs vs → vs.length = cs.length
  | [], _, h => by simp only [VS] at h; simp [h]
  | _ :: cs, _, h => by simp only [VS] at h; obtain ⟨u, r, rfl, _, k⟩ := h; simp [VS.len k]
theorem VS.get : ∀ {cs : List AV} {vs : List Value}, VS g w cs vs → ∀ {i : Nat} {v : AV}, cs[i]? = some v → ∃ u, vs[i]? = some u ∧ V g w v u
  | [], _, _, _, _, h => by simp at h
  | c :: cs, _, h, 0, v, hv => by simp only [VS] at h; obtain ⟨u, r, rfl, k, _⟩ := h; simp at hv; subst hv; exact ⟨u, rfl, k⟩
  | c :: cs, _, h, i + 1, v, hv => by simp only [VS] at h; obtain ⟨u, r, rfl, _, k⟩ := h; simp at hv; simpa using VS.get k hv
theorem VS.get' {cs : List AV} {vs : List Value} (h : VS g w cs vs) {i : Nat} {v : AV} {u : Value} (hv : cs[i]? = some v) (hu : vs[i]? = some u) : V g w v u := by
  obtain ⟨u', h1, h2⟩ := h.get hv; rw [hu] at h1; cases h1; exact h2
theorem VS.mk : ∀ {cs : List AV} {vs : List Value}, vs.length = cs.length → (∀ (i : Nat) v u, cs[i]? = some v → vs[i]? = some u → V g w v u) → VS g w cs vs
  | [], [], _, _ => by simp [VS]
  | [], _ :: _, h, _ => by simp at h
  | _ :: _, [], h, _ => by simp at h
  | c :: cs, v :: vs, h, k => by
    simp only [VS]
    exact ⟨v, vs, rfl, k 0 c v rfl rfl, VS.mk (by simpa using h) fun i x y hx hy => k (i + 1) x y (by simpa using hx) (by simpa using hy)⟩
theorem VS.append : ∀ {cs ds : List AV} {vs us : List Value}, VS g w cs vs → VS g w ds us → VS g w (cs ++ ds) (vs ++ us)
  | [], _, _, _, h, k => by simp only [VS] at h; subst h; simpa using k
  | _ :: _, _, _, _, h, k => by simp only [VS] at h; obtain ⟨u, r, rfl, l, m⟩ := h; simp only [List.cons_append, VS]; exact ⟨u, _, rfl, l, VS.append m k⟩
theorem VS.take {cs : List AV} {vs : List Value} (h : VS g w cs vs) (n : Nat) : VS g w (cs.take n) (vs.take n) :=
  VS.mk (by simp [h.len]) fun i v u hv hu => by
    rw [List.getElem?_take] at hv hu; split at hv
    · rename_i hi; rw [if_pos hi] at hu; exact h.get' hv hu
    · cases hv
theorem VS.drop {cs : List AV} {vs : List Value} (h : VS g w cs vs) (n : Nat) : VS g w (cs.drop n) (vs.drop n) :=
  VS.mk (by simp [h.len]) fun i v u hv hu => by rw [List.getElem?_drop] at hv hu; exact h.get' hv hu
theorem VS.set {cs : List AV} {vs : List Value} (h : VS g w cs vs) (n : Nat) {v : AV} {u : Value} (hv : V g w v u) : VS g w (cs.set n v) (vs.set n u) :=
  VS.mk (by simp [h.len]) fun i x y hx hy => by
    rw [List.getElem?_set] at hx hy
    by_cases hn : n = i
    · subst hn; simp only [if_true] at hx hy
      split at hx
      · rename_i h1; rw [if_pos (by rw [h.len]; exact h1)] at hy; cases hx; cases hy; exact hv
      · cases hx
    · rw [if_neg hn] at hx hy; exact h.get' hx hy

/-! copies -/
theorem V.cp1 {v : AV} {cv : Value} (h : V g w v cv) : V g w v.cp1 cv := by
  cases v <;> simp only [AV.cp1] <;> try exact h
  case list xs o =>
    cases o <;> simp only [AV.cp1] <;> first
      | exact h
      | (simp only [V] at h ⊢; obtain ⟨A, c, h1, h2, h3, _, h5, h6⟩ := h; exact ⟨A, c, h1, h2, h3, (fun e => by cases e), h5, fun a ha => ⟨fun hc => (h6 a ha).1 (.inr (hc.resolve_left (by simp))), (h6 a ha).2⟩⟩)
  case pend => simp [V]
theorem VS.cp1 : ∀ {cs : List AV} {vs : List Value}, VS g w cs vs → VS g w (cs.map AV.cp1) vs
  | [], _, h => by simpa [VS] using h
  | _ :: _, _, h => by simp only [VS] at h; obtain ⟨u, r, rfl, l, m⟩ := h; simp only [List.map_cons, VS]; exact ⟨u, r, rfl, l.cp1, VS.cp1 m⟩
theorem V.cpA {v : AV} {cv : Value} (h : V g w v cv) : V g w v.cpA cv := by
  cases v <;> simp only [AV.cpA] <;> try exact h.cp1
  case agg cs => simp only [V] at h ⊢; obtain ⟨vs, h1, h2, h3⟩ := h; exact ⟨vs, h1, h2.cp1, h3⟩
theorem VS.cpA : ∀ {cs : List AV} {vs : List Value}, VS g w cs vs → VS g w (cs.map AV.cpA) vs
  | [], _, h => by simpa [VS] using h
  | _ :: _, _, h => by simp only [VS] at h; obtain ⟨u, r, rfl, l, m⟩ := h; simp only [List.map_cons, VS]; exact ⟨u, r, rfl, l.cpA, VS.cpA m⟩
theorem V.cp {v : AV} {cv : Value} (h : V g w v cv) : V g w v.cp cv := by
  cases v <;> simp only [AV.cp] <;> try exact h.cpA
  case tup cs => simp only [V] at h ⊢; obtain ⟨vs, h1, h2⟩ := h; exact ⟨vs, h1, h2.cpA⟩
theorem AV.cp1_not_own (v : AV) (xs : List AV) (sz : Nat) : v.cp1 ≠ .list xs (.own sz) := by
  cases v <;> simp only [AV.cp1] <;> try (intro h; cases h; done)
  case list ys o => cases o <;> simp only [AV.cp1] <;> intro h <;> cases h
theorem AV.cpA_not_own (v : AV) (xs : List AV) (sz : Nat) : v.cpA ≠ .list xs (.own sz) := by
  cases v <;> simp only [AV.cpA] <;> first | exact AV.cp1_not_own _ _ _ | (intro h; cases h; done)
theorem OwnsL.none {r : Root} {cs : List AV} {vs : List Value} (h : ∀ (i : Nat) xs sz, cs[i]? ≠ some (AV.list xs (.own sz))) : OwnsL g w r cs vs := fun i xs sz _ hx _ => absurd hx (h i xs sz)
theorem OwnsL.cp1 {r : Root} {cs : List AV} {vs : List Value} : OwnsL g w r (cs.map AV.cp1) vs :=
  OwnsL.none fun i xs sz h => by
    rw [List.getElem?_map] at h
    cases hc : cs[i]? <;> rw [hc] at h <;> simp at h
    exact AV.cp1_not_own _ _ _ h
theorem OwnsL.cpA {r : Root} {cs : List AV} {vs : List Value} : OwnsL g w r (cs.map AV.cpA) vs :=
  OwnsL.none fun i xs sz h => by
    rw [List.getElem?_map] at h
    cases hc : cs[i]? <;> rw [hc] at h <;> simp at h
    exact AV.cpA_not_own _ _ _ h
theorem Owns.cp {r : Root} {v : AV} {cv : Value} : Owns g w r v.cp cv := by
  cases v <;> simp only [AV.cp, AV.cpA, AV.cp1, Owns]
  case list xs o => cases o <;> simp only [AV.cp1, Owns]
  case tup vs => intro us _; exact OwnsL.cpA

/-! what stays -/
variable {T : Tag → Prop}
theorem Tail.same (h : Same T g w g' w') (hi : T .imm) {r : Root} {i : Nat} (ht : T (.tail r i)) {xs : List AV} {sz : Nat} {cv : Value} (k : Tail g w r i xs sz cv) : Tail g' w' r i xs sz cv := by
  intro a n c e
  obtain ⟨h1, h2⟩ := k a n c e
  refine ⟨VE.mono (h.ext hi) _ _ _ _ h1, fun o ho ho' => ?_⟩
  obtain ⟨p, ⟨u, q⟩, s⟩ := h2 o ho ho'
  have hl := World.block_lt_of_cell? w ⟨a.block, o, none⟩ q
  exact ⟨(h.ow _ _ hl (by rw [p]; exact ht)).trans p, ⟨u, by rw [h.cell _ _ hl (by rw [p]; exact ht)]; exact q⟩, (h.frz _ _ hl (by rw [p]; exact ht)).trans s⟩
theorem OwnsL.same (h : Same T g w g' w') (hi : T .imm) {r : Root} (ht : ∀ i, T (.tail r i)) {cs : List AV} {vs : List Value} (k : OwnsL g w r cs vs) : OwnsL g' w' r cs vs :=
  fun i xs sz cv h1 h2 => (k i xs sz cv h1 h2).same h hi (ht i)
theorem Owns.same (h : Same T g w g' w') (hi : T .imm) {r : Root} (ht : ∀ i, T (.tail r i)) {v : AV} {cv : Value} (k : Owns g w r v cv) : Owns g' w' r v cv := by
  unfold Owns at *
  split
  · exact k.same h hi (ht 0)
  · exact fun us e => (k us e).same h hi ht
  · trivial
theorem VX.same (h : Same T g w g' w') (hi : T .imm) {fr : Fr} {tm : Array Value} (hb : ∀ t cs, fr.get t = .box cs → g'.bx (.fr t) = g.bx (.fr t)) {v : AV} {cv : Value} (k : VX g w fr tm v cv) : VX g' w' fr tm v cv := by
  cases v <;> simp only [VX] at k ⊢ <;> try exact V.mono (h.ext hi) _ _ k
  case lref t off => obtain ⟨k1, cs, k2⟩ := k; exact ⟨by rw [hb t cs k2]; exact k1, cs, k2⟩
  case eref x off => obtain ⟨b, o0, k1, k2⟩ := k; exact ⟨b, o0, k1, VC.mono (h.ext hi) _ _ _ k2⟩
  case lastr t => exact k
theorem VF.same (h : Same T g w g' w') (hi : T .imm) {fr : Fr} {tm : Array Value} (hb : ∀ t cs, fr.get t = .box cs → g'.bx (.fr t) = g.bx (.fr t)) {r : Root} (hr : ∀ i, T (.tail r i)) (hx : T (.box r)) (hrb : g'.bx r = g.bx r)
    {v : AV} {cv : Value} (k : VF g w fr tm r v cv) : VF g' w' fr tm r v cv := by
  cases v <;> simp only [VF] at k ⊢ <;> try exact ⟨VX.same h hi hb k.1, k.2.same h hi hr⟩
  case box cs =>
    obtain ⟨vs, ty, k1, k2, k3, k4, k5⟩ := k
    have hlt : g.bx r < w.heap.size := (Array.getElem?_eq_some_iff.1 k2).1
    refine ⟨vs, ty, by rw [hrb]; exact k1, ?_, ⟨VS.mono (h.ext hi) _ _ k3.1, k3.2⟩, fun o => ?_, k5.same h hi hr⟩
    · rw [hrb, h.blk _ hlt (fun o => by rw [k4 o]; exact hx)]; exact k2
    · rw [hrb, h.ow _ _ hlt (by rw [k4 o]; exact hx)]; exact k4 o
  case pend xs sz => obtain ⟨a, c, k1, k2, k3, k4, k5⟩ := k; exact ⟨a, c, k1, k2, k3, k4, k5.same h hi (hr 0)⟩
theorem ObjRel.same (h : Same T g w g' w') (hi : T .imm) {id b : Nat} (ho : ∀ i, g.ow b i = .obj id) (hx : T (.obj id)) (hr : ∀ i, T (.tail (.ob id) i)) (hm : ∀ i j, T (.tail (.mp id i) j)) {o : HObj} (k : ObjRel g w id b o) : ObjRel g' w' id b o := by
  cases o with
  | cells cs =>
    simp only [ObjRel] at k ⊢
    obtain ⟨vs, ty, k1, k2, k3⟩ := k
    have hlt : b < w.heap.size := (Array.getElem?_eq_some_iff.1 k1).1
    exact ⟨vs, ty, by rw [h.blk b hlt (fun o => by rw [ho o]; exact hx)]; exact k1, ⟨VS.mono (h.ext hi) _ _ k2.1, k2.2⟩, k3.same h hi hr⟩
  | map es =>
    simp only [ObjRel] at k ⊢
    obtain ⟨ents, clock, k1, k2, k3⟩ := k
    have hlt : b < w.heap.size := (Array.getElem?_eq_some_iff.1 k1).1
    refine ⟨ents, clock, by rw [h.blk b hlt (fun o => by rw [ho o]; exact hx)]; exact k1, k2, fun i kk v he => ?_⟩
    obtain ⟨e, e1, e2, e3, e4⟩ := k3 i kk v he
    exact ⟨e, e1, V.mono (h.ext hi) _ _ e2, V.mono (h.ext hi) _ _ e3, e4.same h hi (hm i)⟩
theorem HeapRel.same (h : Same T g w g' w') (hi : T .imm) (hx : ∀ id, T (.obj id)) (hr : ∀ id i, T (.tail (.ob id) i)) (hm : ∀ id i j, T (.tail (.mp id i) j)) (hb : g'.hb = g.hb) {hp : List HObj} (k : HeapRel g w hp) : HeapRel g' w' hp :=
  ⟨by rw [hb]; exact k.len, fun id o ho => by
    obtain ⟨b, k1, k2, k3⟩ := k.obj id o ho
    have hlt : b < w.heap.size := by
      cases o with
      | cells cs => simp only [ObjRel] at k3; obtain ⟨vs, ty, e, _⟩ := k3; exact (Array.getElem?_eq_some_iff.1 e).1
      | map es => simp only [ObjRel] at k3; obtain ⟨vs, ty, e, _⟩ := k3; exact (Array.getElem?_eq_some_iff.1 e).1
    exact ⟨b, by rw [hb]; exact k1, fun i => (h.ow _ _ hlt (by rw [k2 i]; exact hx id)).trans (k2 i), k3.same h hi k2 (hx id) (hr id) (hm id)⟩⟩
theorem GlobRel.same (h : Same T g w g' w') (hi : T .imm) (ho : T .out) {G : Nat → Option (List AV)} (k : GlobRel G g w) : GlobRel G g' w' := by
  intro b cs hb
  obtain ⟨vs, ty, k1, k2, k3⟩ := k b cs hb
  have hlt : b < w.heap.size := (Array.getElem?_eq_some_iff.1 k1).1
  exact ⟨vs, ty, by rw [h.blk b hlt (fun o => by rw [k3 o]; exact ho)]; exact k1, ⟨VS.mono (h.ext hi) _ _ k2.1, k2.2⟩, fun o => (h.ow _ _ hlt (by rw [k3 o]; exact ho)).trans (k3 o)⟩
/-- All stays. -/
theorem Rel.same {G : Nat → Option (List AV)} {st : St} {ps : List (AV × Value)} {tm : Array Value} (h : Same (fun _ => True) g w g' w') (hb : g'.hb = g.hb) (hx : ∀ r, g'.bx r = g.bx r) (hf : ∀ b o, w'.heap.size ≤ b → g'.ow b o = .out)
    (k : Rel G g st ps tm w) : Rel G g' st ps tm w' :=
  ⟨fun s => (k.fr s).same h trivial (fun _ _ _ => hx _) (fun _ => trivial) trivial (hx _), fun j v cv hj => (k.ps j v cv hj).same h trivial (fun _ _ _ => hx _) (fun _ => trivial) trivial (hx _),
    k.hp.same h trivial (fun _ => trivial) (fun _ _ => trivial) (fun _ _ _ => trivial) hb, hf, k.gl.same h trivial trivial⟩
end

/-! moving -/
def Tag.mv (r q : Root) : Tag → Tag
  | .box x => if x = r then .box q else if x = q then .out else .box x
  | .tail x i => if x = r then .tail q i else if x = q then .out else .tail x i
  | t => t
def Gh.mv (g : Gh) (r q : Root) : Gh := { ow := fun b o => (g.ow b o).mv r q, hb := g.hb, bx := fun x => if x = q then g.bx r else g.bx x }
def Tag.offRoots (r q : Root) : Tag → Prop
  | .box x => x ≠ r ∧ x ≠ q
  | .tail x _ => x ≠ r ∧ x ≠ q
  | _ => True
theorem Tag.mv_off {r q : Root} {t : Tag} (h : t.offRoots r q) : t.mv r q = t := by
  cases t <;> simp_all [Tag.mv, Tag.offRoots]
theorem Gh.mv_same (g : Gh) (w : World) (r q : Root) : Same (Tag.offRoots r q) g w (g.mv r q) w :=
  ⟨fun _ _ _ h => Tag.mv_off h, fun _ _ _ _ => rfl, fun _ _ _ _ => rfl, fun _ _ _ => rfl, fun _ _ h => h⟩
theorem Gh.mv_stay (g : Gh) (w : World) (r q : Root) : Stay g w (g.mv r q) w :=
  { ow := fun b o _ h => by
      show (g.ow b o).mv r q = g.ow b o
      revert h; cases g.ow b o <;> simp [Tag.kept, Tag.mv]
    cell := fun _ _ _ _ => rfl, frz := fun _ _ _ _ => rfl, blk := fun _ _ _ => rfl, hb := fun _ _ h => h, os := rfl, tape := rfl, output := rfl, size := Nat.le_refl _ }
theorem Gh.mv_ext (g : Gh) (w : World) (r q : Root) : Ext g w (g.mv r q) w := (Gh.mv_same g w r q).ext trivial

section
variable {g : Gh} {w : World} {r q : Root}
theorem Tail.mv {i : Nat} {xs : List AV} {sz : Nat} {cv : Value} (k : Tail g w r i xs sz cv) : Tail (g.mv r q) w q i xs sz cv := by
  intro a n c e
  obtain ⟨h1, h2⟩ := k a n c e
  refine ⟨VE.mono (g.mv_ext w r q) _ _ _ _ h1, fun o ho ho' => ?_⟩
  obtain ⟨p, s, t⟩ := h2 o ho ho'
  exact ⟨by show (g.ow _ _).mv r q = _; rw [p]; simp [Tag.mv], s, t⟩
theorem OwnsL.mv {cs : List AV} {vs : List Value} (k : OwnsL g w r cs vs) : OwnsL (g.mv r q) w q cs vs := fun i xs sz cv h1 h2 => (k i xs sz cv h1 h2).mv
theorem Owns.mv {v : AV} {cv : Value} (k : Owns g w r v cv) : Owns (g.mv r q) w q v cv := by
  unfold Owns at *
  split
  · exact k.mv
  · exact fun us e => (k us e).mv
  · trivial
/-- What stands at r now stands at q. -/
theorem VF.mv {fr fr' : Fr} {tm tm' : Array Value} {v : AV} {cv : Value} (hv : ∀ v cv, VX g w fr tm v cv → VX (g.mv r q) w fr' tm' v cv) (k : VF g w fr tm r v cv) : VF (g.mv r q) w fr' tm' q v cv := by
  cases v <;> simp only [VF] at k ⊢ <;> try exact ⟨hv _ _ k.1, k.2.mv⟩
  case box cs =>
    obtain ⟨vs, ty, k1, k2, k3, k4, k5⟩ := k
    have hq : (g.mv r q).bx q = g.bx r := by simp [Gh.mv]
    refine ⟨vs, ty, by rw [hq]; exact k1, by rw [hq]; exact k2, ⟨VS.mono (g.mv_ext w r q) _ _ k3.1, k3.2⟩, fun o => ?_, k5.mv⟩
    rw [hq]; show (g.ow _ _).mv r q = _; rw [k4 o]; simp [Tag.mv]
  case pend xs sz => obtain ⟨a, c, k1, k2, k3, k4, k5⟩ := k; exact ⟨a, c, k1, k2, k3, k4, k5.mv⟩
end
end Go.Proofs.Ytajlmldpbhendaa.Rf
