/- Proved: 'ProoftextExplains' answers true whatever the input of the bulk that the row names,and its arguments read afterwards as they did before. Conditions: those of the given card,none beside. -/
import Derived.Test.YtkofimhnehkdoaaGreatDoorRcG23
import Derived.Test.YtkofimhnehkdoaaGreatDoorTie
import Derived.Test.YtkofimhnehkdoaaGreatDoorCards
import Derived.ProofKit
import Derived.ShutString
import Derived.SizedLaws
import Derived.LaidMore
import Derived.OpenShut
import Derived.Stop.Joined
import Derived.SevenTiedAt
namespace Go.Proofs.YtkofimhnehkdoaaGreatDoor.Rf.prooftextExplains
open Go.Proofs Go.Proofs.YtkofimhnehkdoaaGreatDoor
set_option maxRecDepth 100000
theorem over : Rows.ProoftextExplainsUptoSaid :=
 OpenClaim.holds_of_cond 13 Tryz.f13 rfl rfl rfl rfl rfl rfl rfl ⟨rfl,rfl,rfl,rfl,rfl⟩ rfl rfl rfl rfl rfl (by kernel_rfl) Tryz.func13 closed
   (of_decide_eq_true (by kernel_rfl)) (by unfold Func.isWrapper; first | (rw [if_pos (by decide +kernel)]; kernel_rfl) | (rw [if_neg (by decide +kernel)]; exact ⟨rfl,rfl⟩))
   (fun os started H enc _ F => by rw [OpenClaim.pre_eq_preRow]; exact lifted os started H enc F)
theorem proved : Rows.ProoftextExplainsUptoCardSaid :=
 Claim7.holds_tied_plain_at .later [] Rows.prooftextExplainsUptoCard.laidKinds true Rows.prooftextExplainsUptoCard.stood.harness true
   over (fun _ h => by cases h) (by kernel_rfl) (fun _ h => by cases h) prooftextExplainsUpto_row_tie rfl ⟨rfl,rfl⟩ (by kernel_rfl) rfl
   (fun f fn hf hfn => by
     obtain rfl : f = 13 := Option.some.inj ((show Tryz.prog.funcNamed "saturate/saturatelaw36.ProoftextExplains" = some 13 by kernel_rfl).symm.trans hf) |>.symm
     obtain rfl : fn = Tryz.f13 := (Option.some.inj (Tryz.func13.symm.trans hfn)).symm
     exact ⟨by kernel_rfl,fun j t ht => by
       have hall : (Tryz.f13.params.toList.all fun u => !Tryz.prog.wantsStandIn u) = true := by kernel_rfl
       have hm : t ∈ Tryz.f13.params.toList := by simpa using Array.mem_of_getElem? ht
       exact (show Tryz.prog.wantsStandIn t = false by simpa using List.all_eq_true.1 hall t hm)⟩)
   (by kernel_rfl)
end Go.Proofs.YtkofimhnehkdoaaGreatDoor.Rf.prooftextExplains
#print axioms Go.Proofs.YtkofimhnehkdoaaGreatDoor.Rf.prooftextExplains.proved
