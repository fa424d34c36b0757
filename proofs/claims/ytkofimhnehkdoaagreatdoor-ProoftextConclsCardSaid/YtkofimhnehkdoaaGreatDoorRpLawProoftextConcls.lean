/- Proved: 'ProoftextConcls' answers true whatever the input,and its arguments read afterwards as they did before. Conditions: those of the given card,none beside. -/
import Derived.Test.YtkofimhnehkdoaaGreatDoorRcG23
import Derived.Test.YtkofimhnehkdoaaGreatDoorTie
import Derived.Test.YtkofimhnehkdoaaGreatDoorCards
import Derived.ProofKit
import Derived.ShutString
import Derived.SizedLaws
import Derived.LaidMore
import Derived.OpenShut
import Derived.Stop.Joined
import Derived.SevenTiedAt
namespace Go.Proofs.YtkofimhnehkdoaaGreatDoor.Rf.prooftextConcls
open Go.Proofs Go.Proofs.YtkofimhnehkdoaaGreatDoor
set_option maxRecDepth 100000
abbrev laid := Rows.prooftextConclsRow.laid
theorem globs {W:World} (h:laidMet Tryz.prog laid W) : ∀ b cs,G0 b = some cs → GlobAt Tryz.prog W b cs := globs_of (laid := laid) (r := laid.drop 5) h (List.mem_of_getElem? (i := 3) rfl) (List.mem_of_getElem? (i := 2) rfl) (List.mem_of_getElem? (i := 6) rfl) ⟨laid.take 4,rfl⟩
theorem door_met (os:Os) (args:Array Value) : laidMetH Tryz.prog laid ((World.doorLaid Tryz.prog 400 os).forCall (fun _ _ => 0) ⟨#[],args,[]⟩).memory :=
 laidMetH_of_parts3 (fuel := 8) (laidMet_of_run' 8 (by kernel_rfl) (by kernel_rfl)) (by kernel_rfl) (by kernel_rfl)
theorem lifted (os:Os) (started:os.Started) (H:Type) (enc:TypeId × Value → H) :
   ReturnsInHanded {} Tryz.checked os 12 .any (fun w args => (Rows.prooftextConclsSpec.pre enc Tryz.prog Tryz.f12 [] false w args ∧ laidMetH Tryz.prog laid w) ∧ sizedMet enc Tryz.prog Tryz.f12 (OpenSpec.ofChange Rows.prooftextConclsSpec) false w args)
     (Rows.prooftextConclsSpec.post enc Tryz.prog Tryz.f12 false true false false) := by
 refine returnsInHanded_of_change_and (C := Tryz.checked) (X := fun w _ => laidMetH Tryz.prog laid w) (fun _ _ _ hh h => h.of_heap hh) P_own started (by kernel_rfl) Tryz.func12
   (ChangeSpec.witness_shaped (enc := enc) (C := Tryz.checked) (os := os) (X := fun w _ => laidMetH Tryz.prog laid w) false (World.doorLaid Tryz.prog 400 os) #[.agg #[.bool false,.int .i64 0,.int .i64 0,.int .u64 0,.string ⟨#[]⟩,.slice none 0 0,.int .i64 0,.int .i64 0,.int .u64 0,.string ⟨#[]⟩,.slice none 0 0,.int .i64 0,.int .u64 0,.int .u64 0,.int .u64 0,.int .u64 0]] 8 rfl (World.shaped_of_RefB (by kernel_rfl) (by kernel_rfl)) (by kernel_rfl) (by kernel_rfl) (by kernel_rfl) (door_met os _)) ?_
 intro W base args ds gs before hval hW _ hz hL _
 rw [MakeChecks.laidMetH_plain _ _ _ (by kernel_rfl)] at hL
 refine law_endG (globs hL) P_mixed IP_ok P_laid P_tys (by rw [Tryz.params12]; kernel_rfl) rfl (tb := 4) rfl Tryz.underlying4 (fun ds h => ?_) hval hW hz fun avs ha hlim => ?_
 · rw [Tryz.params12] at h
   match ds,h with
   | [d1],_ => rfl
 · rw [Tryz.params12] at ha
   obtain ⟨v1,d1,vs1,ds1,rfl,rfl,a1,ha⟩ := ha.cons'
   obtain ⟨rfl,rfl⟩ := ha.nil'
   obtain ⟨c,rfl,hw⟩ := a1.concl (hT := fun n ds d' h => HasTy.term (hu := Tryz.underlying31) (hf := rfl) (ha := Tryz.underlying27) (hb := Tryz.underlying3) (hc := Tryz.underlying28) (he := Tryz.underlying9) (hs := Tryz.underlying29) n ds d' h) (hu := Tryz.underlying67) (hf := rfl) (hb := Tryz.underlying4) (hg := Tryz.underlying65) (hgf := rfl) (hi := Tryz.underlying3) (hk := Tryz.underlying61) (hkf := rfl) (hr := Tryz.underlying63) (hrf := rfl) (hv := Tryz.underlying28)
   exact ⟨false,[],prooftextConcls_D c hw false⟩
theorem over : Rows.ProoftextConclsSaid :=
 OpenClaim.holds_of_wide 12 Tryz.f12 rfl rfl rfl rfl rfl rfl rfl ⟨rfl,rfl,rfl,rfl,rfl⟩ rfl rfl rfl rfl rfl (by kernel_rfl) Tryz.func12 (by kernel_rfl)
   (of_decide_eq_true (by kernel_rfl)) (by unfold Func.isWrapper; first | (rw [if_pos (by decide +kernel)]; kernel_rfl) | (rw [if_neg (by decide +kernel)]; exact ⟨rfl,rfl⟩))
   (fun os started H enc _ => lifted os started H enc)
theorem proved : Rows.ProoftextConclsCardSaid :=
 Claim7.holds_tied_plain_at .later [] Rows.prooftextConclsCard.laidKinds true Rows.prooftextConclsCard.stood.harness true
   over (fun _ h => by cases h) (by kernel_rfl) (fun _ h => by cases h) prooftextConcls_row_tie rfl ⟨rfl,rfl⟩ (by kernel_rfl) rfl
   (fun f fn hf hfn => by
     obtain rfl : f = 12 := Option.some.inj ((show Tryz.prog.funcNamed "saturate/saturatelaw36.ProoftextConcls" = some 12 by kernel_rfl).symm.trans hf) |>.symm
     obtain rfl : fn = Tryz.f12 := (Option.some.inj (Tryz.func12.symm.trans hfn)).symm
     exact ⟨by kernel_rfl,fun j t ht => by
       have hall : (Tryz.f12.params.toList.all fun u => !Tryz.prog.wantsStandIn u) = true := by kernel_rfl
       have hm : t ∈ Tryz.f12.params.toList := by simpa using Array.mem_of_getElem? ht
       exact (show Tryz.prog.wantsStandIn t = false by simpa using List.all_eq_true.1 hall t hm)⟩)
   (by kernel_rfl)
end Go.Proofs.YtkofimhnehkdoaaGreatDoor.Rf.prooftextConcls
#print axioms Go.Proofs.YtkofimhnehkdoaaGreatDoor.Rf.prooftextConcls.proved
