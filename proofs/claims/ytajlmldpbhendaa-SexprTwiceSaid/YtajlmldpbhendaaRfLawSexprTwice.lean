/- Proved: 'SexprTwice' answers true whatever the input, and its arguments read afterwards as they did before. Conditions: those of the given row, none beside. -/
import Derived.Test.YtajlmldpbhendaaRfG9
import Derived.Test.YtajlmldpbhendaaRfG7
import Derived.Test.YtajlmldpbhendaaRfG8
import Derived.ProofKit
import Derived.ShutString
import Derived.SizedLaws
namespace Go.Proofs.Ytajlmldpbhendaa.Rf.sexprTwice
open Go.Proofs Go.Proofs.Ytajlmldpbhendaa
set_option maxRecDepth 100000 in
theorem lifted (os : Os) (started : os.Started) (H : Type) (enc : TypeId × Value → H) :
    ReturnsInHanded {} Try.checked os 14 .any (Rows.sexprTwiceSpec.pre6 enc Try.prog Try.f14 Rows.sexprTwiceRow.domain false) (Rows.sexprTwiceSpec.post enc Try.prog Try.f14 false true false false) := by
  refine returnsInHanded_of_change_sized (C := Try.checked) P_own started (by kernel_rfl) Try.func14
    (ChangeSpec.witness6 (enc := enc) (C := Try.checked) false ⟨#[], #[.string ⟨#[]⟩], []⟩ 8 (by kernel_rfl) (by kernel_rfl) (by kernel_rfl) (by kernel_rfl)) ?_
  intro W base args ds gs before hval hW _ _ _
  refine law_endD P_mixed IP_ok P_laid P_tys (by rw [Try.params14]; kernel_rfl) rfl (tb := 4) rfl Try.underlying4 (fun ds h => ?_) hval hW fun avs ha => ?_
  · rw [Try.params14] at h
    match ds, h with
    | [d1], _ => rfl
  · rw [Try.params14] at ha
    obtain ⟨v1, d1, vs1, ds1, rfl, rfl, a1, ha⟩ := ha.cons'
    obtain ⟨rfl, rfl⟩ := ha.nil'
    obtain ⟨s, rfl, _⟩ := a1.str Try.underlying9
    exact ⟨false, [], sexprTwice_D s false⟩
theorem over : Rows.sexprTwiceRow.holds Try.pinned (OpenSpec.ofChange Rows.sexprTwiceSpec) :=
  OpenClaim.holds_of_wide 14 Try.f14 rfl rfl rfl rfl rfl rfl rfl ⟨rfl, rfl, rfl, rfl, rfl⟩ rfl rfl rfl rfl rfl (by kernel_rfl) Try.func14 (by kernel_rfl)
    (of_decide_eq_true (by kernel_rfl)) (by unfold Func.isWrapper; first | (rw [if_pos (by decide +kernel)]; kernel_rfl) | (rw [if_neg (by decide +kernel)]; exact ⟨rfl, rfl⟩))
    (fun os started H enc _ => lifted os started H enc)
theorem proved : Rows.SexprTwiceSaid := over
end Go.Proofs.Ytajlmldpbhendaa.Rf.sexprTwice
#print axioms Go.Proofs.Ytajlmldpbhendaa.Rf.sexprTwice.proved
