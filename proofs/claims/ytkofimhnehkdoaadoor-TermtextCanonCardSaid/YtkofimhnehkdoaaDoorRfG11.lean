/- A part of the proof: see the last text. -/
import Derived.Test.YtkofimhnehkdoaaDoorRows
import Derived.Test.YtkofimhnehkdoaaDoorRfG6
import Derived.Test.YtkofimhnehkdoaaDoorRfG7
import Derived.Test.YtkofimhnehkdoaaDoorRfG8
import Derived.LaidLaws
section
set_option linter.unusedSimpArgs false
set_option linter.unusedVariables false
namespace Go.Proofs.YtkofimhnehkdoaaDoor.Rf
theorem IPT_ok : IPT.all (fun f fn => chkFun Go.Proofs.Tryd.prog f fn) = true := by kernel_rfl
theorem IP_ok : ∀ f fn, IP f = some fn → chkFun Go.Proofs.Tryd.prog f fn = true := fun _ _ h => IT.all_get IPT_ok h
theorem P_mixed : Go.Proofs.Tryd.prog.follows .mixedOrders = true := by kernel_rfl
theorem P_laid : laidOutB Go.Proofs.Tryd.prog = true := by kernel_rfl
theorem P_own : ownKnob Go.Proofs.Tryd.prog.godebug = none := by kernel_rfl
def tys : List TypeId := [9, 22, 24]
theorem P_tys : covS Go.Proofs.Tryd.prog tys = true := by kernel_rfl
end Go.Proofs.YtkofimhnehkdoaaDoor.Rf
end
section
set_option linter.unusedSimpArgs false
set_option linter.unusedVariables false
namespace Go.Proofs.YtkofimhnehkdoaaDoor.Rf
open Go.Proofs Go.Proofs.YtkofimhnehkdoaaDoor
set_option maxRecDepth 100000
theorem S2_star : "*" ++ "errors.errorString" = "*errors.errorString" := by decide
theorem S2_row (u : TypeId) (h : Tryd.prog.typeName? 3 u = some "*errors.errorString") : u = 135 :=
  typeName_ptr_named (nm := "errors.errorString") (by rw [S2_star]; kernel_rfl) (by kernel_rfl) (by decide) u (by rw [S2_star]; exact h)
theorem S2_tys : covS Tryd.prog [9, 66] = true := by kernel_rfl
theorem S2_tys2 : covS Tryd.prog [28, 112] = true := by kernel_rfl
theorem globs_of {W : World} {laid : List (String × DataW Unit)} (h : laidMet Tryd.prog laid W) (h1 : ("saturate/opinfo.names", Rows.laid_saturate_opinfo_names) ∈ laid) (h3 : ("internal/strconv.uint64pow10", Rows.laid_internal_strconv_uint64pow10) ∈ laid) {r : List (String × DataW Unit)}
    (h2 : ∃ pre, laid = pre ++ ("strconv.ErrRange", Rows.laid_strconv_ErrRange) :: r) : ∀ b cs, G0 b = some cs → GlobAt Tryd.prog W b cs := by
  intro b cs hb
  by_cases h0 : b = 0
  · subst h0
    cases hb
    exact glob_dat S2_tys h h1 (g := 0) (by kernel_rfl) (t := 66) (by kernel_rfl) (by decide) (by kernel_rfl) (by rw [g_0]; simp)
  · by_cases h7 : b = 6
    · subst h7
      cases hb
      exact glob_err (n := "strconv.ErrRange") (nm := "*errors.errorString") h h2 (g := 6) (by kernel_rfl) (by kernel_rfl) Tryd.underlying92 S2_row Tryd.underlying135 Tryd.underlying137 rfl rfl Tryd.underlying9 (by kernel_rfl) (by kernel_rfl)
    · by_cases h2' : b = 1
      · subst h2'
        cases hb
        exact glob_dat S2_tys2 h h3 (g := 1) (by kernel_rfl) (t := 112) (by kernel_rfl) (by decide) (by kernel_rfl) (by rw [g_1]; simp)
      · exact absurd hb (by simp [G0, h0, h7, h2'])
end Go.Proofs.YtkofimhnehkdoaaDoor.Rf
end
