/- A part of the proof: see the last text. -/
import Derived.Test.YtkofimhnehkdoaaGreatDoorRows
import Derived.Test.YtkofimhnehkdoaaGreatDoorRqG15
import Derived.Test.YtkofimhnehkdoaaGreatDoorRqG16
import Derived.Test.YtkofimhnehkdoaaGreatDoorRqG17
import Derived.LaidLaws
set_option linter.unusedVariables false
set_option linter.unusedSimpArgs false
section
namespace Go.Proofs.YtkofimhnehkdoaaGreatDoor.Rf
theorem IPT_ok : IPT.all (fun f fn => chkFun Go.Proofs.Tryz.prog f fn) = true := by kernel_rfl
theorem IP_ok : ∀ f fn,IP f = some fn → chkFun Go.Proofs.Tryz.prog f fn = true := fun _ _ h => IT.all_get IPT_ok h
theorem P_mixed : Go.Proofs.Tryz.prog.follows .mixedOrders = true := by kernel_rfl
theorem P_laid : laidOutB Go.Proofs.Tryz.prog = true := by kernel_rfl
theorem P_own : ownKnob Go.Proofs.Tryz.prog.godebug = none := by kernel_rfl
def tys : List TypeId := [3,4,9,22,24,27,28,29,31,45,51,52,54,61,63,65,67,72,73,96,122,123,125,239,241]
theorem P_tys : covS Go.Proofs.Tryz.prog tys = true := by kernel_rfl
end Go.Proofs.YtkofimhnehkdoaaGreatDoor.Rf
end
section
namespace Go.Proofs.YtkofimhnehkdoaaGreatDoor.Rf
open Go.Proofs Go.Proofs.YtkofimhnehkdoaaGreatDoor
set_option maxRecDepth 100000
theorem S2_star : "*" ++ "errors.errorString" = "*errors.errorString" := by decide
theorem S2_row (u : TypeId) (h : Tryz.prog.typeName? 3 u = some "*errors.errorString") : u = 222 :=
 typeName_ptr_named (nm := "errors.errorString") (by rw [S2_star]; kernel_rfl) (by kernel_rfl) (by decide) u (by rw [S2_star]; exact h)
theorem S2_tys : covS Tryz.prog [9,147] = true := by kernel_rfl
theorem S2_tys2 : covS Tryz.prog [28,199] = true := by kernel_rfl
theorem S2_tys3 : covS Tryz.prog [9,3,153,154,155] = true := by kernel_rfl
theorem globs_of {W : World} {laid : List (String × DataW Unit)} (h : laidMet Tryz.prog laid W) (h1 : ("saturate/opinfo.names", Rows.laid_saturate_opinfo_names) ∈ laid) (h3 : ("internal/strconv.uint64pow10", Rows.laid_internal_strconv_uint64pow10) ∈ laid)
   (h4 : ("saturate/proof.kinds", Rows.laid_saturate_proof_kinds) ∈ laid) {r : List (String × DataW Unit)}
   (h2 : ∃ pre, laid = pre ++ ("strconv.ErrRange", Rows.laid_strconv_ErrRange) :: r) : ∀ b cs, G0 b = some cs → GlobAt Tryz.prog W b cs := by
 intro b cs hb
 by_cases h0 : b = 0
 · subst h0
   cases hb
   exact glob_dat S2_tys h h1 (g := 0) (by kernel_rfl) (t := 147) (by kernel_rfl) (by decide) (by kernel_rfl) (by rw [g_0]; simp)
 · by_cases h7 : b = 7
   · subst h7
     cases hb
     exact glob_err (n := "strconv.ErrRange") (nm := "*errors.errorString") h h2 (g := 7) (by kernel_rfl) (by kernel_rfl) Tryz.underlying112 S2_row Tryz.underlying222 Tryz.underlying224 rfl rfl Tryz.underlying9 (by kernel_rfl) (by kernel_rfl)
   · by_cases h2' : b = 2
     · subst h2'
       cases hb
       exact glob_dat S2_tys2 h h3 (g := 2) (by kernel_rfl) (t := 199) (by kernel_rfl) (by decide) (by kernel_rfl) (by rw [g_2]; simp)
     · by_cases h1' : b = 1
       · subst h1'
         cases hb
         exact glob_dat S2_tys3 h h4 (g := 1) (by kernel_rfl) (t := 155) (by kernel_rfl) (by decide) (by kernel_rfl) (by rw [g_1]; simp)
       · exact absurd hb (by simp [G0,h0,h7,h2',h1'])
end Go.Proofs.YtkofimhnehkdoaaGreatDoor.Rf
end
