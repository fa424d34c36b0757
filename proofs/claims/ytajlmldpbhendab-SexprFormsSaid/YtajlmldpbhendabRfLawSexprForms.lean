/- Proved: 'SexprForms' answers true whatever the input, and its arguments read afterwards as they did before. Conditions: those of the given row, none beside. -/
import Derived.Test.YtajlmldpbhendabRfG8
import Derived.Test.YtajlmldpbhendabRfG6
import Derived.Test.YtajlmldpbhendabRfG7
import Derived.ProofKit
import Derived.ShutString
import Derived.SizedLaws
namespace Go.Proofs.Ytajlmldpbhendab.Rf.sexprForms
open Go.Proofs Go.Proofs.Ytajlmldpbhendab
set_option maxRecDepth 100000 in
theorem lifted (os : Os) (started : os.Started) (H : Type) (enc : TypeId × Value → H) :
    ReturnsInHanded {} Try.checked os 3 .any (Rows.sexprFormsSpec.pre6 enc Try.prog Try.f3 Rows.sexprFormsRow.domain false) (Rows.sexprFormsSpec.post enc Try.prog Try.f3 false true false false) := by
  refine returnsInHanded_of_change_sized (C := Try.checked) P_own started (by kernel_rfl) Try.func3
    (ChangeSpec.witness6 (enc := enc) (C := Try.checked) false ⟨#[], #[.agg #[.string ⟨#[]⟩, .slice none 0 0], .agg #[.string ⟨#[]⟩, .slice none 0 0]], []⟩ 8 (by kernel_rfl) (by kernel_rfl) (by kernel_rfl) (by kernel_rfl)) ?_
  intro W base args ds gs before hval hW _ _ _
  refine law_endD P_mixed IP_ok P_laid P_tys (by rw [Try.params3]; kernel_rfl) rfl (tb := 4) rfl Try.underlying4 (fun ds h => ?_) hval hW fun avs ha => ?_
  · rw [Try.params3] at h
    match ds, h with
    | [d1, d2], _ => rfl
  · rw [Try.params3] at ha
    obtain ⟨v1, d1, vs1, ds1, rfl, rfl, a1, ha⟩ := ha.cons'
    obtain ⟨v2, d2, vs2, ds2, rfl, rfl, a2, ha⟩ := ha.cons'
    obtain ⟨rfl, rfl⟩ := ha.nil'
    obtain ⟨t, rfl, hw⟩ := a1.sexp (hu := Try.underlying24) (hf := rfl) (ha := Try.underlying9) (hs := Try.underlying22)
    obtain ⟨u, rfl, hu⟩ := a2.sexp (hu := Try.underlying24) (hf := rfl) (ha := Try.underlying9) (hs := Try.underlying22)
    exact ⟨false, [], sexprForms_D hw hu false⟩
theorem over : Rows.sexprFormsRow.holds Try.pinned (OpenSpec.ofChange Rows.sexprFormsSpec) :=
  OpenClaim.holds_of_wide 3 Try.f3 rfl rfl rfl rfl rfl rfl rfl ⟨rfl, rfl, rfl, rfl, rfl⟩ rfl rfl rfl rfl rfl (by kernel_rfl) Try.func3 (by kernel_rfl)
    (of_decide_eq_true (by kernel_rfl)) (by unfold Func.isWrapper; first | (rw [if_pos (by decide +kernel)]; kernel_rfl) | (rw [if_neg (by decide +kernel)]; exact ⟨rfl, rfl⟩))
    (fun os started H enc _ => lifted os started H enc)
theorem proved : Rows.SexprFormsSaid := over
end Go.Proofs.Ytajlmldpbhendab.Rf.sexprForms
#print axioms Go.Proofs.Ytajlmldpbhendab.Rf.sexprForms.proved
