/- Proved: 'CostNodes' answers true whatever the input, and its arguments read afterwards as they did before. Conditions: those of the given row, none beside. -/
import Derived.Test.YtajlmldpbhendaaRfP1
import Derived.Test.YtajlmldpbhendaaRfL1
import Derived.ProofKit
import Derived.ShutString
import Derived.SizedLaws
namespace Go.Proofs.Ytajlmldpbhendaa.Rf.costNodes
open Go.Proofs Go.Proofs.Ytajlmldpbhendaa
set_option maxRecDepth 100000 in
theorem lifted (os : Os) (started : os.Started) (H : Type) (enc : TypeId × Value → H) :
    ReturnsInHanded {} Try.checked os 3 .any (Rows.costNodesSpec.pre6 enc Try.prog Try.f3 Rows.costNodesRow.domain false) (Rows.costNodesSpec.post enc Try.prog Try.f3 false true false false) := by
  refine returnsInHanded_of_change_sized (C := Try.checked) P_own started (by kernel_rfl) Try.func3
    (ChangeSpec.witness6 (enc := enc) (C := Try.checked) false ⟨#[], #[.agg (Array.replicate 32 (.int .i64 0)), .int .i64 0, .agg #[.int .i64 0, .int .i64 0]], []⟩ 8 (by kernel_rfl) (by kernel_rfl) (by kernel_rfl) (by kernel_rfl)) ?_
  intro W base args ds gs before hval hW _ _ _
  refine law_end P_mixed IP_ok P_laid P_tys (by rw [Try.params3]; kernel_rfl) rfl (tb := 4) rfl Try.underlying4 (fun ds h => ?_) hval hW fun avs ha => ?_
  · rw [Try.params3] at h
    match ds, h with
    | [d1, d2, d3], _ => rfl
  · rw [Try.params3] at ha
    obtain ⟨v1, d1, vs1, ds1, rfl, rfl, a1, ha⟩ := ha.cons'
    obtain ⟨v2, d2, vs2, ds2, rfl, rfl, a2, ha⟩ := ha.cons'
    obtain ⟨v3, d3, vs3, ds3, rfl, rfl, a3, ha⟩ := ha.cons'
    obtain ⟨rfl, rfl⟩ := ha.nil'
    obtain ⟨l, hl, rfl, _⟩ := a1.ints Try.underlying23 Try.underlying2
    obtain ⟨op, rfl, _⟩ := a2.int Try.underlying24
    obtain ⟨l2, hl2, rfl, _⟩ := a3.ints Try.underlying25 Try.underlying2
    match l2, hl2 with
    | [a, b], _ => exact costNodes_run l hl op a b
theorem over : Rows.costNodesRow.holds Try.pinned (OpenSpec.ofChange Rows.costNodesSpec) :=
  OpenClaim.holds_of_wide 3 Try.f3 rfl rfl rfl rfl rfl rfl rfl ⟨rfl, rfl, rfl, rfl, rfl⟩ rfl rfl rfl rfl rfl (by kernel_rfl) Try.func3 (by kernel_rfl)
    (of_decide_eq_true (by kernel_rfl)) (by unfold Func.isWrapper; first | (rw [if_pos (by decide +kernel)]; kernel_rfl) | (rw [if_neg (by decide +kernel)]; exact ⟨rfl, rfl⟩))
    (fun os started H enc _ => lifted os started H enc)
theorem proved : Rows.CostNodesSaid := over
end Go.Proofs.Ytajlmldpbhendaa.Rf.costNodes
#print axioms Go.Proofs.Ytajlmldpbhendaa.Rf.costNodes.proved
