/- Loads, stores, addresses. -/
import Derived.Test.YtajlmldpbhendaaRfG
import Derived.Laws.CopyRow
set_option linter.unusedSimpArgs false
set_option linter.unusedVariables false
namespace Go.Proofs.Ytajlmldpbhendaa.Rf

section
variable {P : Program} {G : Nat → Option (List AV)} {g : Gh} {st : St} {a : Act} {w : World} {o : Oper} {tm : Array Value} {ps : List (AV × Value)}

theorem VC.get : ∀ {cs : List AV} {b off : Nat}, VC g w cs b off → ∀ {i : Nat} {c : AV}, cs[i]? = some c → g.ow b (off + i) = .imm ∧ ∃ cv, w.cell? ⟨b, off + i, none⟩ = some cv ∧ cv.oneCell' = true ∧ V g w c cv
  | [], _, _, _, _, _, h => by simp at h
  | c :: cs, b, off, h, 0, d, hd => by simp only [VC] at h; simp at hd; subst hd; exact h.1
  | c :: cs, b, off, h, i + 1, d, hd => by
    simp only [VC] at h
    have := VC.get h.2 (i := i) (by simpa using hd)
    rwa [show off + 1 + i = off + (i + 1) by omega] at this
theorem V.loose {v : AV} {cv : Value} (h : V g w v cv) : v.loose = true := by
  cases v <;> first | rfl | (simp only [V] at h)

/-- The cells behind an address. -/
theorem Rel.behind (k : Rel G g st ps tm w) {p : AV} {cv : Value} (hp : VX g w st.fr tm p cv) {cs : List AV} {off : Nat} (h : behind G st p = some (cs, off)) :
    ∃ b o0, cv = .pointer (some ⟨b, o0 + off, none⟩) ∧ ∀ (i : Nat) c, cs[i]? = some c → ∃ u, w.cell? ⟨b, o0 + i, none⟩ = some u ∧ u.oneCell' = true ∧ V g w c u := by
  have rows : ∀ {b : Nat} {vs : List Value} {ty : TypeId}, w.heap[b]? = some (.cells vs.toArray ty (0, 0)) → (VS g w cs vs ∧ Ones vs) → ∀ (i : Nat) c, cs[i]? = some c → ∃ u, w.cell? ⟨b, 0 + i, none⟩ = some u ∧ u.oneCell' = true ∧ V g w c u := by
    intro b vs ty hb hv i c hc
    obtain ⟨u, hu, hv'⟩ := hv.1.get hc
    exact ⟨u, by rw [Nat.zero_add]; simp [World.cell?, hb, hu], hv.2 u (List.mem_of_getElem? hu), hv'⟩
  cases p <;> simp only [Rf.behind] at h <;> try (cases h; done)
  case ptr id off' =>
    cases ho : st.hp[id]? with
    | none => simp [ho] at h
    | some x =>
      cases x with
      | map es => simp [ho] at h
      | cells ds =>
        simp [ho] at h; obtain ⟨rfl, rfl⟩ := h
        obtain ⟨b, k1, k2, k3⟩ := k.hp.obj id _ ho
        simp only [ObjRel] at k3; obtain ⟨vs, ty, k4, k5, _⟩ := k3
        simp only [VX, V] at hp; obtain ⟨b', h1, h2⟩ := hp
        rw [k1] at h1; cases h1
        exact ⟨b, 0, by simpa using h2, rows k4 k5⟩
  case lref s off' =>
    have f := k.fr s
    cases hf : st.fr.get s <;> simp [hf] at h
    rw [hf] at f; obtain ⟨rfl, rfl⟩ := h
    simp only [VF] at f; obtain ⟨vs, ty, f1, f2, f3, _⟩ := f
    simp only [VX] at hp
    exact ⟨_, 0, by simpa using hp.1, rows f2 f3⟩
  case eref x off' =>
    simp at h; obtain ⟨rfl, rfl⟩ := h
    simp only [VX] at hp; obtain ⟨b, o0, h1, h2⟩ := hp
    exact ⟨b, o0, h1, fun i c hc => (h2.get hc).2⟩
  case glob b off' =>
    cases hG : G b with
    | none => simp [hG] at h
    | some ds =>
      simp [hG] at h; obtain ⟨rfl, rfl⟩ := h
      obtain ⟨vs, ty, h1, h2, _⟩ := k.gl b ds hG
      simp only [VX, V] at hp
      exact ⟨b, 0, by simpa using hp, rows h1 h2⟩

/-- type t: n cells, a struct or an array or not -/
def tyOk (P : Program) (t : TypeId) (n : Nat) (agg : Bool) : Bool :=
  match P.info? t, P.underlying t with
  | some i, some d => decide (i.size = n) && decide (0 < n) && (match d with | .struct _ | .array _ _ => agg | _ => !agg && decide (n = 1))
  | _, _ => false
theorem run_loadVar_at {t : TypeId} {n : Nat} {agg : Bool} (h : tyOk P t n agg = true) {b off : Nat} {us : List Value} (hl : us.length = n) (hc : ∀ (i : Nat) u, us[i]? = some u → w.cell? ⟨b, off + i, none⟩ = some u) :
    (loadVar t ⟨b, off, none⟩).run P w = .ok (if agg then .agg us.toArray else us.headD undef) w := by
  unfold tyOk at h
  cases hi : P.info? t with
  | none => simp [hi] at h
  | some i =>
    cases hu : P.underlying t with
    | none => simp [hi, hu] at h
    | some d =>
      simp only [hi, hu, Bool.and_eq_true, decide_eq_true_eq] at h
      obtain ⟨⟨h1, h0⟩, h2⟩ := h
      have hcs : (loadCells ⟨b, off, none⟩ us.length).run P w = .ok us.toArray w := run_loadCells_list (P := P) w ⟨b, off, none⟩ us (fun j v hv => by rw [Addr.add_lit]; exact hc j v hv)
      have hagg : (isAgg t).run P w = .ok agg w := by
        unfold isAgg
        rw [Sem.run_bind, run_underlying hu w]
        cases d <;> simp_all
      cases agg with
      | true => simp [loadVar, hagg, sizeOf, typeInfo, hi, h1, ← hl, hcs]
      | false =>
        have hn : n = 1 := by cases d <;> simp_all
        subst hn
        match us, hl with
        | [u], _ =>
          have h3 := hc 0 u rfl
          rw [Nat.add_zero] at h3
          simp [loadVar, hagg, load, Sem.run, h3]
theorem cut_get {cs l : List AV} {off n : Nat} (h : cut cs off n = some l) : l.length = n ∧ ∀ (i : Nat) c, l[i]? = some c → cs[off + i]? = some c := by
  unfold cut at h
  split at h
  · rename_i hle
    simp at h; subst h
    refine ⟨by simp; omega, fun i c hc => ?_⟩
    rw [List.getElem?_take] at hc
    split at hc
    · rw [List.getElem?_drop] at hc; exact hc
    · cases hc
  · cases h
/-- What a load finds. -/
theorem Rel.cutAt (k : Rel G g st ps tm w) {p : AV} {cv : Value} (hp : VX g w st.fr tm p cv) {cs l : List AV} {off n : Nat} (h : Rf.behind G st p = some (cs, off)) (hl : cut cs off n = some l) :
    ∃ b q, cv = .pointer (some ⟨b, q, none⟩) ∧ ∃ us : List Value, us.length = n ∧ (∀ (i : Nat) u, us[i]? = some u → w.cell? ⟨b, q + i, none⟩ = some u) ∧ VS g w l us ∧ Ones us := by
  obtain ⟨b, o0, h1, h2⟩ := k.behind hp h
  obtain ⟨hn, hg⟩ := cut_get hl
  have hall : ∀ i : Nat, i < n → ∃ u, w.cell? ⟨b, o0 + off + i, none⟩ = some u ∧ u.oneCell' = true ∧ ∀ c, l[i]? = some c → V g w c u := by
    intro i hi
    have hc : l[i]? = some l[i] := List.getElem?_eq_getElem (by omega)
    obtain ⟨u, e1, e2, e3⟩ := h2 (off + i) _ (hg i _ hc)
    exact ⟨u, by rw [← e1]; congr 2; omega, e2, fun c hc' => by rw [hc] at hc'; cases hc'; exact e3⟩
  have hf : ∃ f : Nat → Value, ∀ i, i < n → w.cell? ⟨b, o0 + off + i, none⟩ = some (f i) ∧ (f i).oneCell' = true ∧ ∀ c, l[i]? = some c → V g w c (f i) := by
    classical
    exact ⟨fun i => if h : i < n then (hall i h).choose else undef, fun i hi => by simp only [dif_pos hi]; exact (hall i hi).choose_spec⟩
  obtain ⟨f, hf⟩ := hf
  refine ⟨b, o0 + off, h1, (List.range n).map f, by simp, fun i u hu => ?_, VS.mk (by simp [hn]) fun i v u hv hu => ?_, fun u hu => ?_⟩
  · obtain ⟨hi, e⟩ := List.getElem?_eq_some_iff.1 hu
    simp at hi e; subst e; exact (hf i hi).1
  · obtain ⟨hi, e⟩ := List.getElem?_eq_some_iff.1 hu
    simp at hi e; subst e; exact (hf i hi).2.2 v hv
  · simp at hu; obtain ⟨i, hi, rfl⟩ := hu; exact (hf i hi).2.1
theorem VF_ofCells {r : Root} {agg : Bool} {l : List AV} {us : List Value} {fr : Fr} (hv : VS g w l us) (h1 : Ones us) (hn : agg = false → us.length = 1) (ho : agg = false → ∀ c u, l = [c] → us = [u] → Owns g w r c u) : VF g w fr tm r (ofCells agg l) (if agg then .agg us.toArray else us.headD undef) := by
  cases agg with
  | true => exact VF_scalar rfl (VX_of_V (by simp only [ofCells, if_true, V]; exact ⟨us, rfl, hv, h1⟩)) (by simp [ofCells]) (by simp [ofCells])
  | false =>
    have hu := hn rfl
    match us, hu with
    | [u], _ =>
      match l, hv.len with
      | [c], _ =>
        simp only [VS] at hv; obtain ⟨u', r', e, hv, _⟩ := hv; cases e
        simp only [ofCells, Bool.false_eq_true, if_false, List.headD]
        rw [VF_loose hv.loose]; exact ⟨VX_of_V hv, ho rfl c u rfl rfl⟩
theorem Owns.cp1 {r : Root} {v : AV} {cv : Value} (h : ∀ vs, v ≠ .tup vs) : Owns g w r v.cp1 cv := by
  refine Owns.not_own (fun xs sz e => AV.cp1_not_own v xs sz e) fun vs e => ?_
  cases v <;> simp only [AV.cp1] at e <;> try (cases e; done)
  case list xs o => cases o <;> simp [AV.cp1] at e
  case tup us => exact h us rfl
theorem V.not_tup {v : AV} {cv : Value} (h : V g w v cv) (h1 : cv.oneCell' = true) : ∀ vs, v ≠ .tup vs := by
  rintro vs rfl; simp only [V] at h; obtain ⟨us, rfl, _⟩ := h; simp [Value.oneCell'] at h1

theorem fits_load (k : Rel G g st [] a.tmps w) {x : Opd} {y : Operand} (hx : opdOk x y = true) {t : TypeId} {n : Nat} {agg : Bool} (ht : tyOk P t n agg = true) (ho : o.op = .load t y)
    {cs l : List AV} {off : Nat} (h : Rf.behind G st (opd st.fr x).1 = some (cs, off)) (hl : cut cs off n = some l) : Fits P G g st (.val (ofCells agg (l.map AV.cp1)) st) o a w := by
  have hr := k.read hx
  obtain ⟨b, q, h1, us, h2, h3, h4, h5⟩ := k.cutAt hr h hl
  have hn : agg = false → n = 1 := fun e => by
    subst e; unfold tyOk at ht
    cases hi : P.info? t <;> cases hu : P.underlying t <;> simp [hi, hu] at ht
    rename_i i d; cases d <;> simp_all
  refine fits_pure k (cv := if agg then .agg us.toArray else us.headD undef) ?_ (VF_ofCells h4.cp1 h5 (fun e => by rw [h2]; exact hn e) fun e c u e1 e2 => ?_)
  · simp [execOp, ho, Act.eval_eq, h1, Instr.loadAt, Instr.sureAddr, run_loadVar_at ht h2 h3]
  · cases l with
    | nil => simp at e1
    | cons d r =>
      simp at e1; obtain ⟨rfl, _⟩ := e1
      simp only [e2, VS] at h4; obtain ⟨u', r', e, hv, _⟩ := h4; cases e
      exact Owns.cp1 (hv.not_tup (h5 u (by rw [e2]; simp)))
end
end Go.Proofs.Ytajlmldpbhendaa.Rf
