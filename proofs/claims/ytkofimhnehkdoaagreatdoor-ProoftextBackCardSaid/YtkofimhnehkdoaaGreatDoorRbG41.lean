/- A part. -/
import Derived.Test.YtkofimhnehkdoaaGreatDoorRows
import Derived.LaidLaws
import Derived.Test.YtkofimhnehkdoaaGreatDoorRbG40
import Derived.Test.YtkofimhnehkdoaaGreatDoorTie
import Derived.Test.YtkofimhnehkdoaaGreatDoorCards
import Derived.ProofKit
import Derived.ShutString
import Derived.SizedLaws
import Derived.LaidMore
import Derived.OpenShut
import Derived.Stop.Joined
import Derived.SevenTiedAt
set_option linter.unusedVariables false
set_option linter.unusedSimpArgs false
section
namespace Go.Proofs.YtkofimhnehkdoaaGreatDoor.Rf
theorem IPT_ok : IPT.all (fun f fn => chkFun Go.Proofs.Tryz.prog f fn) = true := by kernel_rfl
theorem IP_ok : ∀ f fn,IP f = some fn → chkFun Go.Proofs.Tryz.prog f fn = true := fun _ _ h => IT.all_get IPT_ok h
theorem P_mixed : Go.Proofs.Tryz.prog.follows .mixedOrders = true := by kernel_rfl
theorem P_laid : laidOutB Go.Proofs.Tryz.prog = true := by kernel_rfl
theorem P_own : ownKnob Go.Proofs.Tryz.prog.godebug = none := by kernel_rfl
def tys : List TypeId := [3,4,9,22,24,27,28,29,31,45,51,52,54,61,63,65,67,72,73,96,122,123,125,239,241]
theorem P_tys : covS Go.Proofs.Tryz.prog tys = true := by kernel_rfl
end Go.Proofs.YtkofimhnehkdoaaGreatDoor.Rf
end
section
namespace Go.Proofs.YtkofimhnehkdoaaGreatDoor.Rf
open Go.Proofs Go.Proofs.YtkofimhnehkdoaaGreatDoor
set_option maxRecDepth 100000
theorem S2_star : "*" ++ "errors.errorString" = "*errors.errorString" := by decide
theorem S2_row (u : TypeId) (h : Tryz.prog.typeName? 3 u = some "*errors.errorString") : u = 222 :=
 typeName_ptr_named (nm := "errors.errorString") (by rw [S2_star]; kernel_rfl) (by kernel_rfl) (by decide) u (by rw [S2_star]; exact h)
theorem S2_tys : covS Tryz.prog [9,147] = true := by kernel_rfl
theorem S2_tys2 : covS Tryz.prog [28,199] = true := by kernel_rfl
theorem S2_tys3 : covS Tryz.prog [9,3,153,154,155] = true := by kernel_rfl
theorem globs_of {W : World} {laid : List (String × DataW Unit)} (h : laidMet Tryz.prog laid W) (h1 : ("saturate/opinfo.names", Rows.laid_saturate_opinfo_names) ∈ laid) (h3 : ("internal/strconv.uint64pow10", Rows.laid_internal_strconv_uint64pow10) ∈ laid)
   (h4 : ("saturate/proof.kinds", Rows.laid_saturate_proof_kinds) ∈ laid) {r : List (String × DataW Unit)}
   (h2 : ∃ pre, laid = pre ++ ("strconv.ErrRange", Rows.laid_strconv_ErrRange) :: r) : ∀ b cs, G0 b = some cs → GlobAt Tryz.prog W b cs := by
 intro b cs hb
 by_cases h0 : b = 0
 · subst h0
   cases hb
   exact glob_dat S2_tys h h1 (g := 0) (by kernel_rfl) (t := 147) (by kernel_rfl) (by decide) (by kernel_rfl) (by rw [g_0]; simp)
 · by_cases h7 : b = 7
   · subst h7
     cases hb
     exact glob_err (n := "strconv.ErrRange") (nm := "*errors.errorString") h h2 (g := 7) (by kernel_rfl) (by kernel_rfl) Tryz.underlying112 S2_row Tryz.underlying222 Tryz.underlying224 rfl rfl Tryz.underlying9 (by kernel_rfl) (by kernel_rfl)
   · by_cases h2' : b = 2
     · subst h2'
       cases hb
       exact glob_dat S2_tys2 h h3 (g := 2) (by kernel_rfl) (t := 199) (by kernel_rfl) (by decide) (by kernel_rfl) (by rw [g_2]; simp)
     · by_cases h1' : b = 1
       · subst h1'
         cases hb
         exact glob_dat S2_tys3 h h4 (g := 1) (by kernel_rfl) (t := 155) (by kernel_rfl) (by decide) (by kernel_rfl) (by rw [g_1]; simp)
       · exact absurd hb (by simp [G0,h0,h7,h2',h1'])
end Go.Proofs.YtkofimhnehkdoaaGreatDoor.Rf
end
section
namespace Go.Proofs.YtkofimhnehkdoaaGreatDoor.Rf.prooftextBack
open Go.Proofs Go.Proofs.YtkofimhnehkdoaaGreatDoor
set_option maxRecDepth 100000
abbrev laid := Rows.prooftextBackRow.laid
theorem globs {W:World} (h:laidMet Tryz.prog laid W) : ∀ b cs,G0 b = some cs → GlobAt Tryz.prog W b cs := globs_of (laid := laid) (r := laid.drop 5) h (List.mem_of_getElem? (i := 3) rfl) (List.mem_of_getElem? (i := 2) rfl) (List.mem_of_getElem? (i := 6) rfl) ⟨laid.take 4,rfl⟩
theorem door_met (os:Os) (args:Array Value) : laidMetH Tryz.prog laid ((World.doorLaid Tryz.prog 400 os).forCall (fun _ _ => 0) ⟨#[],args,[]⟩).memory :=
 laidMetH_of_parts3 (fuel := 8) (laidMet_of_run' 8 (by kernel_rfl) (by kernel_rfl)) (by kernel_rfl) (by kernel_rfl)
theorem lifted (os:Os) (started:os.Started) (H:Type) (enc:TypeId × Value → H) :
   ReturnsInHanded {} Tryz.checked os 10 .any (fun w args => (Rows.prooftextBackSpec.pre enc Tryz.prog Tryz.f10 [] false w args ∧ laidMetH Tryz.prog laid w) ∧ sizedMet enc Tryz.prog Tryz.f10 (OpenSpec.ofChange Rows.prooftextBackSpec) false w args)
     (Rows.prooftextBackSpec.post enc Tryz.prog Tryz.f10 false true false false) := by
 refine returnsInHanded_of_change_and (C := Tryz.checked) (X := fun w _ => laidMetH Tryz.prog laid w) (fun _ _ _ hh h => h.of_heap hh) P_own started (by kernel_rfl) Tryz.func10
   (ChangeSpec.witness_shaped (enc := enc) (C := Tryz.checked) (os := os) (X := fun w _ => laidMetH Tryz.prog laid w) false (World.doorLaid Tryz.prog 400 os) #[.slice none 0 0] 8 rfl (World.shaped_of_RefB (by kernel_rfl) (by kernel_rfl)) (by kernel_rfl) (by kernel_rfl) (by kernel_rfl) (door_met os _)) ?_
 intro W base args ds gs before hval hW _ hz hL _
 rw [MakeChecks.laidMetH_plain _ _ _ (by kernel_rfl)] at hL
 refine law_endG (globs hL) P_mixed IP_ok P_laid P_tys (by rw [Tryz.params10]; kernel_rfl) rfl (tb := 4) rfl Tryz.underlying4 (fun ds h => ?_) hval hW hz fun avs ha hlim => ?_
 · rw [Tryz.params10] at h
   match ds,h with
   | [d1],_ => rfl
 · rw [Tryz.params10] at ha
   obtain ⟨v1,d1,vs1,ds1,rfl,rfl,a1,ha⟩ := ha.cons'
   obtain ⟨rfl,rfl⟩ := ha.nil'
   obtain ⟨o,p,rfl,hl,hw⟩ := a1.steps (hp := Tryz.underlying45) (hT := fun n ds d' h => HasTy.term (hu := Tryz.underlying31) (hf := rfl) (ha := Tryz.underlying27) (hb := Tryz.underlying3) (hc := Tryz.underlying28) (he := Tryz.underlying9) (hs := Tryz.underlying29) n ds d' h) (hu := Tryz.underlying54) (hf := rfl) (hi := Tryz.underlying3) (hl := Tryz.underlying51) (hs := Tryz.underlying52) (hv := Tryz.underlying96) (hg := rfl) (hn := Tryz.underlying9)
   exact ⟨false,[],prooftextBack_D p o hw hl false⟩
end Go.Proofs.YtkofimhnehkdoaaGreatDoor.Rf.prooftextBack
end
