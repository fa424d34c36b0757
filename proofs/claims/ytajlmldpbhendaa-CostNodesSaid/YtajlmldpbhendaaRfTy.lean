/- Arguments' shapes. -/
import Derived.Test.YtajlmldpbhendaaRfBr
import Derived.Test.YtajlmldpbhendaaRfBr2
set_option linter.unusedSimpArgs false
set_option linter.unusedVariables false
namespace Go.Proofs.Ytajlmldpbhendaa.Rf
section
variable {H : Type} {P : Program}
theorem HasTy.int {n : Nat} {t : TypeId} {k : IntKind} {cs : List AV} {d : DataW H} (hu : P.underlying t = some (.int k)) (h : HasTy P n t cs d) : ∃ m, cs = [.int k m] ∧ (Lit.int k m).wf = true := by
  cases n with
  | zero => exact h.elim
  | succ n => simp only [HasTy, hu] at h; obtain ⟨m, h1, h2, _⟩ := h; exact ⟨m, h1, h2⟩
theorem ints_flat {n : Nat} {e : TypeId} {k : IntKind} (he : P.underlying e = some (.int k)) : ∀ {parts : List (List AV)} {els : List (DataW H)}, els.length = parts.length → (∀ (i : Nat) ds d', parts[i]? = some ds → els[i]? = some d' → HasTy P n e ds d') → ∃ l : List Int, l.length = parts.length ∧ parts.flatten = l.map (AV.int k) ∧ ∀ m, m ∈ l → (Lit.int k m).wf = true
  | [], els, _, _ => ⟨[], rfl, rfl, fun m h => by simp at h⟩
  | ds :: parts, [], hl, _ => by simp at hl
  | ds :: parts, d :: els, hl, h => by
    obtain ⟨m, rfl, hm⟩ := HasTy.int he (h 0 _ _ rfl rfl)
    obtain ⟨l, h1, h2, h3⟩ := ints_flat he (parts := parts) (els := els) (by simpa using hl) fun i ds d' a b => h (i + 1) ds d' (by simpa using a) (by simpa using b)
    exact ⟨m :: l, by simp [h1], by simp [h2], fun x hx => by
      rcases List.mem_cons.1 hx with rfl | hx
      · exact hm
      · exact h3 x hx⟩
theorem ArgTy.ints {t e : TypeId} {k : IntKind} {m : Nat} {v : AV} {d : DataW H} (hu : P.underlying t = some (.array m e)) (he : P.underlying e = some (.int k)) (h : ArgTy P t v d) : ∃ l : List Int, l.length = m ∧ v = .agg (l.map (AV.int k)) ∧ ∀ x, x ∈ l → (Lit.int k x).wf = true := by
  obtain ⟨n, cs, rfl, h⟩ := h
  cases n with
  | zero => exact h.elim
  | succ n =>
    simp only [HasTy, hu] at h
    obtain ⟨parts, els, rfl, _, h1, h2, h3⟩ := h
    obtain ⟨l, l1, l2, l3⟩ := ints_flat he (by omega) h3
    exact ⟨l, by omega, by unfold elemAV aggTy; rw [hu, l2]; rfl, l3⟩
theorem ArgTy.int {t : TypeId} {k : IntKind} {v : AV} {d : DataW H} (hu : P.underlying t = some (.int k)) (h : ArgTy P t v d) : ∃ m, v = .int k m ∧ (Lit.int k m).wf = true := by
  obtain ⟨n, cs, rfl, h⟩ := h
  obtain ⟨m, rfl, hm⟩ := h.int hu
  exact ⟨m, by unfold elemAV aggTy; rw [hu]; rfl, hm⟩
theorem ArgsTy.cons' {t : TypeId} {ts : List TypeId} {avs : List AV} {ds : List (DataW H)} (h : ArgsTy P (t :: ts) avs ds) : ∃ v d vs ds', avs = v :: vs ∧ ds = d :: ds' ∧ ArgTy P t v d ∧ ArgsTy P ts vs ds' := by
  cases h with
  | cons h1 h2 => exact ⟨_, _, _, _, rfl, rfl, h1, h2⟩
theorem ArgsTy.nil' {avs : List AV} {ds : List (DataW H)} (h : ArgsTy P [] avs ds) : avs = [] ∧ ds = [] := by
  cases h; exact ⟨rfl, rfl⟩
end
end Go.Proofs.Ytajlmldpbhendaa.Rf
