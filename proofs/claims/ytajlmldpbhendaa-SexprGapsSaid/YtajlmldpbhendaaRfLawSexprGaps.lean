/- Proved: 'SexprGaps' answers true whatever the input, and its arguments read afterwards as they did before. Conditions: those of the given row, none beside. -/
import Derived.Test.YtajlmldpbhendaaRfG9
import Derived.Test.YtajlmldpbhendaaRfG7
import Derived.Test.YtajlmldpbhendaaRfG8
import Derived.ProofKit
import Derived.ShutString
import Derived.SizedLaws
namespace Go.Proofs.Ytajlmldpbhendaa.Rf.sexprGaps
open Go.Proofs Go.Proofs.Ytajlmldpbhendaa
set_option maxRecDepth 100000 in
theorem lifted (os : Os) (started : os.Started) (H : Type) (enc : TypeId × Value → H) :
    ReturnsInHanded {} Try.checked os 10 .any (Rows.sexprGapsSpec.pre6 enc Try.prog Try.f10 Rows.sexprGapsRow.domain false) (Rows.sexprGapsSpec.post enc Try.prog Try.f10 false true false false) := by
  refine returnsInHanded_of_change_sized (C := Try.checked) P_own started (by kernel_rfl) Try.func10
    (ChangeSpec.witness6 (enc := enc) (C := Try.checked) false ⟨#[], #[.agg #[.string ⟨#[]⟩, .slice none 0 0], .string ⟨#[]⟩], []⟩ 8 (by kernel_rfl) (by kernel_rfl) (by kernel_rfl) (by kernel_rfl)) ?_
  intro W base args ds gs before hval hW _ _ _
  refine law_endD P_mixed IP_ok P_laid P_tys (by rw [Try.params10]; kernel_rfl) rfl (tb := 4) rfl Try.underlying4 (fun ds h => ?_) hval hW fun avs ha => ?_
  · rw [Try.params10] at h
    match ds, h with
    | [d1, d2], _ => rfl
  · rw [Try.params10] at ha
    obtain ⟨v1, d1, vs1, ds1, rfl, rfl, a1, ha⟩ := ha.cons'
    obtain ⟨v2, d2, vs2, ds2, rfl, rfl, a2, ha⟩ := ha.cons'
    obtain ⟨rfl, rfl⟩ := ha.nil'
    obtain ⟨t, rfl, hw⟩ := a1.sexp (hu := Try.underlying47) (hf := rfl) (ha := Try.underlying9) (hs := Try.underlying45)
    obtain ⟨g, rfl, _⟩ := a2.str Try.underlying9
    exact ⟨false, [], sexprGaps_D hw g false⟩
theorem over : Rows.sexprGapsRow.holds Try.pinned (OpenSpec.ofChange Rows.sexprGapsSpec) :=
  OpenClaim.holds_of_wide 10 Try.f10 rfl rfl rfl rfl rfl rfl rfl ⟨rfl, rfl, rfl, rfl, rfl⟩ rfl rfl rfl rfl rfl (by kernel_rfl) Try.func10 (by kernel_rfl)
    (of_decide_eq_true (by kernel_rfl)) (by unfold Func.isWrapper; first | (rw [if_pos (by decide +kernel)]; kernel_rfl) | (rw [if_neg (by decide +kernel)]; exact ⟨rfl, rfl⟩))
    (fun os started H enc _ => lifted os started H enc)
theorem proved : Rows.SexprGapsSaid := over
end Go.Proofs.Ytajlmldpbhendaa.Rf.sexprGaps
#print axioms Go.Proofs.Ytajlmldpbhendaa.Rf.sexprGaps.proved
