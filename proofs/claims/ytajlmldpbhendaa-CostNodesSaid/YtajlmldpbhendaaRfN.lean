/- append, the relation behind it. -/
import Derived.Test.YtajlmldpbhendaaRfM
set_option linter.unusedSimpArgs false
set_option linter.unusedVariables false
namespace Go.Proofs.Ytajlmldpbhendaa.Rf

section
variable {P : Program} {G : Nat → Option (List AV)} {g g' : Gh} {st : St} {a : Act} {w w' : World} {o : Oper} {tm : Array Value} {ps : List (AV × Value)}

/-- The new elements stand wherever their cells stand. -/
def Lay (g : Gh) (w : World) (sz : Nat) (ys : List AV) (news : List Value) : Prop :=
  news.length = ys.length * sz ∧ Ones news ∧
  ∀ g' w' b' q', Ext g w g' w' → (∀ (j : Nat) v, news[j]? = some v → g'.ow b' (q' + j) = .imm ∧ w'.cell? ⟨b', q' + j, none⟩ = some v) → VE g' w' sz ys b' q'
theorem Lay.of_VE {sz : Nat} {ys : List AV} {b q : Nat} (h : VE g w sz ys b q) : ∃ news, Lay g w sz ys news ∧ ∀ (j : Nat) v, news[j]? = some v → w.cell? ⟨b, q + j, none⟩ = some v := by
  obtain ⟨us, u1, u2, u3⟩ := h.flat
  refine ⟨us, ⟨u1, u2, fun g' w' b' q' e hc => VE.copy e h fun j hj => ?_⟩, u3⟩
  have hu : us[j]? = some us[j] := List.getElem?_eq_getElem (by omega)
  exact ⟨(hc j _ hu).1, by rw [(hc j _ hu).2, u3 j _ hu]⟩
theorem Lay.nil {sz : Nat} : Lay g w sz [] [] := ⟨by simp, by simp [Ones], fun _ _ _ _ _ _ => by simp [VE]⟩
theorem Lay.bytes (s : List UInt8) : Lay g w 1 (s.map fun b => AV.int .u8 b.toNat) (s.map fun b => Value.int .u8 b.toNat) := by
  refine ⟨by simp, by intro u hu; simp at hu; obtain ⟨b, _, rfl⟩ := hu; rfl, fun g' w' b' q' e hc => ?_⟩
  induction s generalizing q' with
  | nil => simp [VE]
  | cons x s ih =>
    simp only [List.map_cons]
    refine VE.cons_mk rfl ?_ (ih _ fun j v hv => ?_)
    · have := hc 0 (.int .u8 x.toNat) (by simp)
      rw [Nat.add_zero] at this
      simp only [AV.cells, VC]
      exact ⟨⟨this.1, _, this.2, rfl, by simp [V]⟩, trivial⟩
    · have := hc (j + 1) v (by simpa using hv)
      rwa [show q' + (j + 1) = q' + 1 + j by omega] at this

theorem Tail.get {r : Root} {i : Nat} {xs : List AV} {sz : Nat} {ad : Addr} {n c : Nat} (h : Tail g w r i xs sz (.slice (some ad) n c)) : VE g w sz xs ad.block ad.off ∧
    ∀ o, ad.off + xs.length * sz ≤ o → o < ad.off + c * sz → g.ow ad.block o = .tail r i ∧ (∃ u, w.cell? ⟨ad.block, o, none⟩ = some u) ∧ w.frozen? ⟨ad.block, o, none⟩ = false := h ad n c rfl

theorem fill_in {b q m o : Nat} (h1 : q ≤ o) (h2 : o < q + m) : (g.fill b q m).ow b o = .imm := if_pos ⟨rfl, h1, h2⟩
theorem fill_out {b q m o : Nat} (h : ¬ (q ≤ o ∧ o < q + m)) : (g.fill b q m).ow b o = g.ow b o := if_neg fun ⟨_, h1, h2⟩ => h ⟨h1, h2⟩
/-- in the room, the new elements read-only -/
theorem Rel.append_in {v : AV} {cv : Value} (k : Rel G g st [(v, cv)] tm w) {xs ys : List AV} {sz b q c : Nat} (hT : Tail g w (.arg 0) 0 xs sz (.slice (some ⟨b, q, none⟩) xs.length c)) (hc : c ≤ 9223372036854775807) {news : List Value} (hl : Lay g w sz ys news)
    (hroom : xs.length + ys.length ≤ c) (hw : Wr w w' b (q + xs.length * sz) news) :
    ∃ g', Rel G g' st [(.list (xs ++ ys) (.own sz), .slice (some ⟨b, q, none⟩) (xs.length + ys.length) c)] tm w' ∧ Stay g w g' w' := by
  obtain ⟨hE, htail⟩ := hT.get
  simp only at hE htail
  have hle : (xs.length + ys.length) * sz ≤ c * sz := Nat.mul_le_mul_right sz hroom
  rw [Nat.add_mul] at hle
  have htags : ∀ o, q + xs.length * sz ≤ o → o < q + xs.length * sz + news.length → g.ow b o = .tail (.arg 0) 0 := fun o h1 h2 => (htail o h1 (by rw [hl.1] at h2; omega)).1
  have sm := same_fill hw htags
  have hi : (fun t => t ≠ Tag.tail (.arg 0) 0) Tag.imm := by simp
  have hE2 : VE (g.fill b (q + xs.length * sz) news.length) w' sz (xs ++ ys) b q :=
    VE.append (VE.mono (sm.ext hi) _ _ _ _ hE) (hl.2.2 _ _ _ _ (sm.ext hi) fun j u hu => by
      have hj : j < news.length := (List.getElem?_eq_some_iff.1 hu).1
      exact ⟨fill_in (by omega) (by omega), hw.new j u hu⟩)
  refine ⟨g.fill b (q + xs.length * sz) news.length, ⟨fun s => (k.fr s).same sm hi (fun _ _ _ => rfl) (fun i => by simp) (by simp) rfl, fun j x cx hj => ?_, k.hp.same sm hi (fun _ => by simp) (fun _ _ => by simp) (fun _ _ _ => by simp) rfl, fun d o hd => ?_, k.gl.same sm hi (by simp)⟩, stay_fill hw htags⟩
  · cases j with
    | succ j => simp at hj
    | zero =>
      simp at hj; obtain ⟨rfl, rfl⟩ := hj
      rw [VF_loose rfl]
      refine ⟨?_, ?_⟩
      · simp only [VX, V]
        exact ⟨some ⟨b, q, none⟩, c, by simp, by simpa using hroom, hc, (fun e => by cases e), (fun e => by cases e), fun ad e => by cases e; exact ⟨fun _ => rfl, sz, hE2⟩⟩
      · simp only [Owns]
        intro ad n c' e
        cases e
        refine ⟨hE2, fun o h1 h2 => ?_⟩
        simp only [List.length_append, Nat.add_mul] at h1 h2
        obtain ⟨t1, t2, t3⟩ := htail o (by omega) h2
        exact ⟨by rw [fill_out (by rw [hl.1]; omega)]; exact t1, by rw [hw.old o (by rw [hl.1]; omega)]; exact t2, by rw [hw.frz o]; exact t3⟩
  · rw [hw.size] at hd
    simp only [Gh.fill]
    rw [k.fresh d o hd]
    split
    · rename_i h; obtain ⟨rfl, h1, h2⟩ := h
      have := htags o h1 h2
      rw [k.fresh d o hd] at this; cases this
    · rfl
/-- in the room, the one new element still to be written -/
theorem Rel.append_in_pend {v : AV} {cv : Value} (k : Rel G g st [(v, cv)] tm w) {xs : List AV} {sz b q c : Nat} (hT : Tail g w (.arg 0) 0 xs sz (.slice (some ⟨b, q, none⟩) xs.length c)) (hc : c ≤ 9223372036854775807) {news : List Value} (hl : news.length = sz)
    (hroom : xs.length + 1 ≤ c) (hw : Wr w w' b (q + xs.length * sz) news) :
    Rel G g st [(.pend xs sz, .slice (some ⟨b, q, none⟩) (xs.length + 1) c)] tm w' ∧ Stay g w g w' := by
  obtain ⟨hE, htail⟩ := hT.get
  simp only at hE htail
  have hle : (xs.length + 1) * sz ≤ c * sz := Nat.mul_le_mul_right sz hroom
  rw [Nat.add_mul, Nat.one_mul] at hle
  have htags : ∀ o, q + xs.length * sz ≤ o → o < q + xs.length * sz + news.length → g.ow b o = .tail (.arg 0) 0 := fun o h1 h2 => (htail o h1 (by rw [hl] at h2; omega)).1
  have cel : ∀ c o, g.ow c o ≠ .tail (.arg 0) 0 → w'.cell? ⟨c, o, none⟩ = w.cell? ⟨c, o, none⟩ := fun c o hn => by
    by_cases e : c = b
    · subst e
      refine hw.old o ?_
      by_cases h1 : q + xs.length * sz ≤ o <;> by_cases h2 : o < q + xs.length * sz + news.length
      · exact absurd (htags o h1 h2) hn
      all_goals omega
    · exact cell?_of_block' (hw.blk c e)
  have frz : ∀ c o, w'.frozen? ⟨c, o, none⟩ = w.frozen? ⟨c, o, none⟩ := fun c o => by
    by_cases e : c = b
    · subst e; exact hw.frz o
    · exact frozen?_of_block' (hw.blk c e)
  have sm : Same (fun t => t ≠ .tail (.arg 0) 0) g w g w' := ⟨fun _ _ _ _ => rfl, fun c o _ hn => cel c o hn, fun c o _ _ => frz c o, fun c _ hn => by
    by_cases e : c = b
    · subst e
      by_cases hz : news = []
      · rw [hw.none hz]
      · have : 0 < news.length := List.length_pos_iff.2 hz
        exact absurd (htags _ (Nat.le_refl _) (by omega)) (hn _)
    · exact hw.blk c e, fun _ _ h => h⟩
  have hi : (fun t => t ≠ Tag.tail (.arg 0) 0) Tag.imm := by simp
  have hk : ∀ c o, (g.ow c o).kept → g.ow c o ≠ .tail (.arg 0) 0 := fun c o hk e => by rw [e] at hk; exact hk
  refine ⟨⟨fun s => (k.fr s).same sm hi (fun _ _ _ => rfl) (fun i => by simp) (by simp) rfl, fun j x cx hj => ?_, k.hp.same sm hi (fun _ => by simp) (fun _ _ => by simp) (fun _ _ _ => by simp) rfl, fun d o hd => k.fresh d o (by rw [hw.size] at hd; exact hd), k.gl.same sm hi (by simp)⟩,
    { ow := fun _ _ _ _ => rfl, cell := fun c o _ h => cel c o (hk c o h), frz := fun c o _ _ => frz c o, blk := fun c hl' h => sm.blk c hl' (fun o => hk c o (h o)), hb := fun _ _ h => h, os := hw.os, tape := hw.tape, output := hw.output, size := by rw [hw.size]; exact Nat.le_refl _ }⟩
  cases j with
  | succ j => simp at hj
  | zero =>
    simp at hj; obtain ⟨rfl, rfl⟩ := hj
    simp only [VF]
    refine ⟨_, c, rfl, hroom, hc, rfl, ?_⟩
    intro ad n c' e
    cases e
    refine ⟨VE.mono (sm.ext hi) _ _ _ _ hE, fun o h1 h2 => ?_⟩
    simp only at h1 h2
    obtain ⟨t1, ⟨u, t2⟩, t3⟩ := htail o h1 h2
    refine ⟨t1, ?_, by rw [frz]; exact t3⟩
    by_cases h3 : o < q + xs.length * sz + news.length
    · have hj : o - (q + xs.length * sz) < news.length := by omega
      exact ⟨_, by rw [← hw.new (o - (q + xs.length * sz)) _ (List.getElem?_eq_getElem hj)]; congr 2; omega⟩
    · exact ⟨u, by rw [hw.old o (by omega)]; exact t2⟩

theorem fresh_in {n m o : Nat} (h : o < m) : (g.fresh n m).ow n o = .imm := (if_pos rfl).trans (if_pos h)
theorem fresh_tail {n m o : Nat} (h : ¬ o < m) : (g.fresh n m).ow n o = .tail (.arg 0) 0 := (if_pos rfl).trans (if_neg h)
theorem blk_frozen' {b : Nat} {cs : Array Value} {t : TypeId} (h : w.heap[b]? = some (.cells cs t (0, 0))) (o : Nat) : w.frozen? ⟨b, o, none⟩ = false := by
  unfold World.frozen?; rw [h]; simp
/-- into a new row: m elements read-only, the rest the owner's -/
theorem Rel.append_out {v : AV} {cv : Value} (k : Rel G g st [(v, cv)] tm w) {sz C m : Nat} {e : TypeId} {cells : List Value} (hlen : cells.length = C * sz) (hm : m ≤ C) :
    Same (fun t => t ≠ .tail (.arg 0) 0) g w (g.fresh w.heap.size (m * sz)) (w.drew.alloc (.cells cells.toArray e)) ∧
    (∀ j, j < m * sz → (g.fresh w.heap.size (m * sz)).ow w.heap.size (0 + j) = .imm) ∧
    (∀ (j : Nat) u, cells[j]? = some u → (w.drew.alloc (.cells cells.toArray e)).cell? ⟨w.heap.size, 0 + j, none⟩ = some u) ∧
    (∀ o, m * sz ≤ o → o < C * sz → (g.fresh w.heap.size (m * sz)).ow w.heap.size o = .tail (.arg 0) 0 ∧ (∃ u, (w.drew.alloc (.cells cells.toArray e)).cell? ⟨w.heap.size, o, none⟩ = some u) ∧ (w.drew.alloc (.cells cells.toArray e)).frozen? ⟨w.heap.size, o, none⟩ = false) ∧
    Stay g w (g.fresh w.heap.size (m * sz)) (w.drew.alloc (.cells cells.toArray e)) ∧
    ∀ x cx, VF (g.fresh w.heap.size (m * sz)) (w.drew.alloc (.cells cells.toArray e)) st.fr tm (.arg 0) x cx → Rel G (g.fresh w.heap.size (m * sz)) st [(x, cx)] tm (w.drew.alloc (.cells cells.toArray e)) := by
  have hold : ∀ b, b < w.heap.size → (w.drew.alloc (.cells cells.toArray e)).heap[b]? = w.heap[b]? := fun b hb => heap_alloc_old w.drew _ b hb
  have hnew : (w.drew.alloc (.cells cells.toArray e)).heap[w.heap.size]? = some (.cells cells.toArray e) := heap_alloc_new w.drew _
  have sm : Same (fun t => t ≠ .tail (.arg 0) 0) g w (g.fresh w.heap.size (m * sz)) (w.drew.alloc (.cells cells.toArray e)) :=
    Same.grow hold (fun b o hb hn => fresh_off (by omega) hn) (fun _ _ h => h)
  have hi : (fun t => t ≠ Tag.tail (.arg 0) 0) Tag.imm := by simp
  have hcell : ∀ (j : Nat) u, cells[j]? = some u → (w.drew.alloc (.cells cells.toArray e)).cell? ⟨w.heap.size, j, none⟩ = some u := fun j u hu => by
    have := cell_of_row _ w.heap.size j cells.toArray e (0, 0) hnew
    rw [this]; simpa using hu
  have hmul := Nat.mul_le_mul_right sz hm
  refine ⟨sm, fun j hj => fresh_in (by omega), fun j u hu => by rw [Nat.zero_add]; exact hcell j u hu, fun o h1 h2 => ⟨?_, ?_, ?_⟩, ?_, fun x cx hx => ?_⟩
  · exact fresh_tail (by omega)
  · exact ⟨_, hcell o _ (List.getElem?_eq_getElem (by omega))⟩
  · exact blk_frozen' hnew o
  · have hk : ∀ c o, (g.ow c o).kept → g.ow c o ≠ .tail (.arg 0) 0 := fun c o hk e => by rw [e] at hk; exact hk
    exact { ow := fun b o hl h => sm.ow b o hl (hk b o h), cell := fun b o hl h => sm.cell b o hl (hk b o h), frz := fun b o hl h => sm.frz b o hl (hk b o h), blk := fun b hl h => hold b hl, hb := sm.hb, os := rfl, tape := rfl, output := rfl, size := by simp }
  · refine ⟨fun s => (k.fr s).same sm hi (fun _ _ _ => rfl) (fun i => by simp) (by simp) rfl, fun j y cy hj => ?_, k.hp.same sm hi (fun _ => by simp) (fun _ _ => by simp) (fun _ _ _ => by simp) rfl, fun d o hd => ?_, k.gl.same sm hi (by simp)⟩
    · cases j with
      | succ j => simp at hj
      | zero => simp at hj; obtain ⟨rfl, rfl⟩ := hj; exact hx
    · simp at hd
      have h1 : d ≠ w.heap.size := by omega
      have h2 := k.fresh d o (by omega)
      rw [fresh_off h1 (by rw [h2]; simp)]; exact h2
end
end Go.Proofs.Ytajlmldpbhendaa.Rf
