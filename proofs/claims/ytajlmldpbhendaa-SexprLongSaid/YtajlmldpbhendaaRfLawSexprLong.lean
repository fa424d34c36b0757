/- Proved: 'SexprLong' answers true whatever the input, and its arguments read afterwards as they did before. Conditions: those of the given row, none beside. -/
import Derived.Test.YtajlmldpbhendaaRfG9
import Derived.Test.YtajlmldpbhendaaRfG8
import Derived.ProofKit
import Derived.ShutString
import Derived.SizedLaws
namespace Go.Proofs.Ytajlmldpbhendaa.Rf.sexprLong
open Go.Proofs Go.Proofs.Ytajlmldpbhendaa
set_option maxRecDepth 100000 in
theorem lifted (os : Os) (started : os.Started) (H : Type) (enc : TypeId × Value → H) :
    ReturnsInHanded {} Try.checked os 11 .any (Rows.sexprLongSpec.pre6 enc Try.prog Try.f11 Rows.sexprLongRow.domain false) (Rows.sexprLongSpec.post enc Try.prog Try.f11 false true false false) := by
  refine returnsInHanded_of_change_sized (C := Try.checked) P_own started (by kernel_rfl) Try.func11
    (ChangeSpec.witness6 (enc := enc) (C := Try.checked) false ⟨#[], #[.int .u8 0], []⟩ 8 (by kernel_rfl) (by kernel_rfl) (by kernel_rfl) (by kernel_rfl)) ?_
  intro W base args ds gs before hval hW _ _ _
  refine law_endD P_mixed IP_ok P_laid P_tys (by rw [Try.params11]; kernel_rfl) rfl (tb := 4) rfl Try.underlying4 (fun ds h => ?_) hval hW fun avs ha => ?_
  · rw [Try.params11] at h
    match ds, h with
    | [d1], _ => rfl
  · rw [Try.params11] at ha
    obtain ⟨v1, d1, vs1, ds1, rfl, rfl, a1, ha⟩ := ha.cons'
    obtain ⟨rfl, rfl⟩ := ha.nil'
    obtain ⟨m, rfl, hm⟩ := a1.int Try.underlying5
    have hm' : 0 ≤ m ∧ m < 256 := by simp [Lit.wf, IntKind.min, IntKind.max, IntKind.signed, IntKind.bits] at hm; omega
    exact ⟨false, [], sexprLong_D hm'.1 hm'.2 false⟩
theorem over : Rows.sexprLongRow.holds Try.pinned (OpenSpec.ofChange Rows.sexprLongSpec) :=
  OpenClaim.holds_of_wide 11 Try.f11 rfl rfl rfl rfl rfl rfl rfl ⟨rfl, rfl, rfl, rfl, rfl⟩ rfl rfl rfl rfl rfl (by kernel_rfl) Try.func11 (by kernel_rfl)
    (of_decide_eq_true (by kernel_rfl)) (by unfold Func.isWrapper; first | (rw [if_pos (by decide +kernel)]; kernel_rfl) | (rw [if_neg (by decide +kernel)]; exact ⟨rfl, rfl⟩))
    (fun os started H enc _ => lifted os started H enc)
theorem proved : Rows.SexprLongSaid := over
end Go.Proofs.Ytajlmldpbhendaa.Rf.sexprLong
#print axioms Go.Proofs.Ytajlmldpbhendaa.Rf.sexprLong.proved
