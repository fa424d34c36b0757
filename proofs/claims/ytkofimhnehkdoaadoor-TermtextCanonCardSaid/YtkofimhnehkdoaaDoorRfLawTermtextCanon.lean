/- Proved: 'TermtextCanon' answers true whatever the input, and its arguments read afterwards as they did before. Conditions: those of the given card, none beside. -/
import Derived.Test.YtkofimhnehkdoaaDoorRfG11
import Derived.Test.YtkofimhnehkdoaaDoorRfG8
import Derived.Test.YtkofimhnehkdoaaDoorRfG10
import Derived.Test.YtkofimhnehkdoaaDoorTie
import Derived.Test.YtkofimhnehkdoaaDoorCards
import Derived.ProofKit
import Derived.ShutString
import Derived.SizedLaws
import Derived.LaidMore
import Derived.OpenShut
import Derived.Stop.Joined
import Derived.SevenTiedAt
namespace Go.Proofs.YtkofimhnehkdoaaDoor.Rf.termtextCanon
open Go.Proofs Go.Proofs.YtkofimhnehkdoaaDoor
set_option maxRecDepth 100000
abbrev laid := Rows.termtextCanonRow.laid
theorem globs {W : World} (h : laidMet Tryd.prog laid W) : ∀ b cs, G0 b = some cs → GlobAt Tryd.prog W b cs := globs_of (laid := laid) (r := laid.drop 5) h (List.mem_of_getElem? (i := 3) rfl) (List.mem_of_getElem? (i := 2) rfl) ⟨laid.take 4, rfl⟩
theorem door_met (os : Os) (args : Array Value) : laidMetH Tryd.prog laid ((World.doorLaid Tryd.prog 400 os).forCall (fun _ _ => 0) ⟨#[], args, []⟩).memory :=
  laidMetH_of_parts3 (fuel := 8) (laidMet_of_run' 8 (by kernel_rfl) (by kernel_rfl)) (by kernel_rfl) (by kernel_rfl)
theorem lifted (os : Os) (started : os.Started) (H : Type) (enc : TypeId × Value → H) :
    ReturnsInHanded {} Tryd.checked os 3 .any (fun w args => (Rows.termtextCanonSpec.pre enc Tryd.prog Tryd.f3 [] false w args ∧ laidMetH Tryd.prog laid w) ∧ sizedMet enc Tryd.prog Tryd.f3 (OpenSpec.ofChange Rows.termtextCanonSpec) false w args)
      (Rows.termtextCanonSpec.post enc Tryd.prog Tryd.f3 false true false false) := by
  refine returnsInHanded_of_change_and (C := Tryd.checked) (X := fun w _ => laidMetH Tryd.prog laid w) (fun _ _ _ hh h => h.of_heap hh) P_own started (by kernel_rfl) Tryd.func3
    (ChangeSpec.witness_shaped (enc := enc) (C := Tryd.checked) (os := os) (X := fun w _ => laidMetH Tryd.prog laid w) false (World.doorLaid Tryd.prog 400 os) #[.agg #[.string ⟨#[]⟩, .slice none 0 0]] 8 rfl (World.shaped_of_RefB (by kernel_rfl) (by kernel_rfl)) (by kernel_rfl) (by kernel_rfl) (by kernel_rfl) (door_met os _)) ?_
  intro W base args ds gs before hval hW _ hz hL _
  rw [MakeChecks.laidMetH_plain _ _ _ (by kernel_rfl)] at hL
  refine law_endG (globs hL) P_mixed IP_ok P_laid P_tys (by rw [Tryd.params3]; kernel_rfl) rfl (tb := 4) rfl Tryd.underlying4 (fun ds h => ?_) hval hW hz fun avs ha hlim => ?_
  · rw [Tryd.params3] at h
    match ds, h with
    | [d1], _ => rfl
  · rw [Tryd.params3] at ha
    obtain ⟨v1, d1, vs1, ds1, rfl, rfl, a1, ha⟩ := ha.cons'
    obtain ⟨rfl, rfl⟩ := ha.nil'
    obtain ⟨t, rfl, hw⟩ := a1.sexp (hu := Tryd.underlying24) (hf := rfl) (ha := Tryd.underlying9) (hs := Tryd.underlying22)
    exact ⟨false, [], termtextCanon_D t hw false⟩
theorem over : Rows.TermtextCanonSaid :=
  OpenClaim.holds_of_wide 3 Tryd.f3 rfl rfl rfl rfl rfl rfl rfl ⟨rfl, rfl, rfl, rfl, rfl⟩ rfl rfl rfl rfl rfl (by kernel_rfl) Tryd.func3 (by kernel_rfl)
    (of_decide_eq_true (by kernel_rfl)) (by unfold Func.isWrapper; first | (rw [if_pos (by decide +kernel)]; kernel_rfl) | (rw [if_neg (by decide +kernel)]; exact ⟨rfl, rfl⟩))
    (fun os started H enc _ => lifted os started H enc)
theorem proved : Rows.TermtextCanonCardSaid :=
  Claim7.holds_tied_plain_at .later [] Rows.termtextCanonCard.laidKinds true Rows.termtextCanonCard.stood.harness true
    over (fun _ h => by cases h) (by kernel_rfl) (fun _ h => by cases h) termtextCanon_row_tie rfl ⟨rfl, rfl⟩ (by kernel_rfl) rfl
    (fun f fn hf hfn => by
      obtain rfl : f = 3 := Option.some.inj ((show Tryd.prog.funcNamed "saturate/saturatelaw07.TermtextCanon" = some 3 by kernel_rfl).symm.trans hf) |>.symm
      obtain rfl : fn = Tryd.f3 := (Option.some.inj (Tryd.func3.symm.trans hfn)).symm
      exact ⟨by kernel_rfl, fun j t ht => by
        have hall : (Tryd.f3.params.toList.all fun u => !Tryd.prog.wantsStandIn u) = true := by kernel_rfl
        have hm : t ∈ Tryd.f3.params.toList := by simpa using Array.mem_of_getElem? ht
        exact (show Tryd.prog.wantsStandIn t = false by simpa using List.all_eq_true.1 hall t hm)⟩)
    (by kernel_rfl)
end Go.Proofs.YtkofimhnehkdoaaDoor.Rf.termtextCanon
#print axioms Go.Proofs.YtkofimhnehkdoaaDoor.Rf.termtextCanon.proved
