/- Proved: 'CostGrows' answers true whatever the input, and its arguments read afterwards as they did before. Conditions: those of the given row, none beside. -/
import Derived.Test.YtajlmldpbhendaaRfG7
import Derived.Test.YtajlmldpbhendaaRfG6
import Derived.ProofKit
import Derived.ShutString
import Derived.SizedLaws
namespace Go.Proofs.Ytajlmldpbhendaa.Rf.costGrows
open Go.Proofs Go.Proofs.Ytajlmldpbhendaa
set_option maxRecDepth 100000 in
theorem lifted (os : Os) (started : os.Started) (H : Type) (enc : TypeId × Value → H) :
    ReturnsInHanded {} Try.checked os 8 .any (Rows.costGrowsSpec.pre6 enc Try.prog Try.f8 Rows.costGrowsRow.domain false) (Rows.costGrowsSpec.post enc Try.prog Try.f8 false true false false) := by
  refine returnsInHanded_of_change_sized (C := Try.checked) P_own started (by kernel_rfl) Try.func8
    (ChangeSpec.witness6 (enc := enc) (C := Try.checked) false ⟨#[], #[.agg (Array.replicate 32 (.int .i64 0)), .agg #[.int .i64 0, .int .i64 0, .int .u64 0, .string ⟨#[]⟩, .slice none 0 0]], []⟩ 8 (by kernel_rfl) (by kernel_rfl) (by kernel_rfl) (by kernel_rfl)) ?_
  intro W base args ds gs before hval hW _ _ _
  refine law_endD P_mixed IP_ok P_laid P_tys (by rw [Try.params8]; kernel_rfl) rfl (tb := 4) rfl Try.underlying4 (fun ds h => ?_) hval hW fun avs ha => ?_
  · rw [Try.params8] at h
    match ds, h with
    | [d1, d2], _ => rfl
  · rw [Try.params8] at ha
    obtain ⟨v1, d1, vs1, ds1, rfl, rfl, a1, ha⟩ := ha.cons'
    obtain ⟨v2, d2, vs2, ds2, rfl, rfl, a2, ha⟩ := ha.cons'
    obtain ⟨rfl, rfl⟩ := ha.nil'
    obtain ⟨l, hl, rfl, _⟩ := a1.ints Try.underlying23 Try.underlying2
    obtain ⟨t, rfl, hw⟩ := a2.term (hu := Try.underlying34) (hf := rfl) (ha := Try.underlying24) (hb := Try.underlying3) (hc := Try.underlying31) (he := Try.underlying9) (hs := Try.underlying32)
    exact ⟨false, [], costGrows_D l hl t hw false⟩
theorem over : Rows.costGrowsRow.holds Try.pinned (OpenSpec.ofChange Rows.costGrowsSpec) :=
  OpenClaim.holds_of_wide 8 Try.f8 rfl rfl rfl rfl rfl rfl rfl ⟨rfl, rfl, rfl, rfl, rfl⟩ rfl rfl rfl rfl rfl (by kernel_rfl) Try.func8 (by kernel_rfl)
    (of_decide_eq_true (by kernel_rfl)) (by unfold Func.isWrapper; first | (rw [if_pos (by decide +kernel)]; kernel_rfl) | (rw [if_neg (by decide +kernel)]; exact ⟨rfl, rfl⟩))
    (fun os started H enc _ => lifted os started H enc)
theorem proved : Rows.CostGrowsSaid := over
end Go.Proofs.Ytajlmldpbhendaa.Rf.costGrows
#print axioms Go.Proofs.Ytajlmldpbhendaa.Rf.costGrows.proved
