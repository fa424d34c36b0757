/- The program's functions stand to their plain forms. -/
import Derived.Test.YtajlmldpbhendaaRows
import Derived.Test.YtajlmldpbhendaaRfTy
import Derived.Test.YtajlmldpbhendaaRfC
namespace Go.Proofs.Ytajlmldpbhendaa.Rf
theorem c3 : chkFun Go.Proofs.Try.prog 3 i3 = true := by kernel_rfl
theorem c4 : chkFun Go.Proofs.Try.prog 4 i4 = true := by kernel_rfl
theorem c5 : chkFun Go.Proofs.Try.prog 5 i5 = true := by kernel_rfl
theorem c6 : chkFun Go.Proofs.Try.prog 6 i6 = true := by kernel_rfl
theorem c7 : chkFun Go.Proofs.Try.prog 7 i7 = true := by kernel_rfl
theorem c8 : chkFun Go.Proofs.Try.prog 8 i8 = true := by kernel_rfl
theorem c15 : chkFun Go.Proofs.Try.prog 15 i15 = true := by kernel_rfl
theorem c16 : chkFun Go.Proofs.Try.prog 16 i16 = true := by kernel_rfl
theorem c17 : chkFun Go.Proofs.Try.prog 17 i17 = true := by kernel_rfl
theorem c18 : chkFun Go.Proofs.Try.prog 18 i18 = true := by kernel_rfl
theorem c19 : chkFun Go.Proofs.Try.prog 19 i19 = true := by kernel_rfl
theorem c20 : chkFun Go.Proofs.Try.prog 20 i20 = true := by kernel_rfl
theorem c21 : chkFun Go.Proofs.Try.prog 21 i21 = true := by kernel_rfl
theorem c22 : chkFun Go.Proofs.Try.prog 22 i22 = true := by kernel_rfl
theorem c23 : chkFun Go.Proofs.Try.prog 23 i23 = true := by kernel_rfl
theorem c24 : chkFun Go.Proofs.Try.prog 24 i24 = true := by kernel_rfl
theorem c25 : chkFun Go.Proofs.Try.prog 25 i25 = true := by kernel_rfl
theorem c26 : chkFun Go.Proofs.Try.prog 26 i26 = true := by kernel_rfl
theorem c27 : chkFun Go.Proofs.Try.prog 27 i27 = true := by kernel_rfl
theorem c44 : chkFun Go.Proofs.Try.prog 44 i44 = true := by kernel_rfl
theorem c45 : chkFun Go.Proofs.Try.prog 45 i45 = true := by kernel_rfl
theorem c46 : chkFun Go.Proofs.Try.prog 46 i46 = true := by kernel_rfl
theorem c47 : chkFun Go.Proofs.Try.prog 47 i47 = true := by kernel_rfl
theorem c59 : chkFun Go.Proofs.Try.prog 59 i59 = true := by kernel_rfl
theorem c60 : chkFun Go.Proofs.Try.prog 60 i60 = true := by kernel_rfl
theorem c69 : chkFun Go.Proofs.Try.prog 69 i69 = true := by kernel_rfl
theorem IP_ok : ∀ f fn, IP f = some fn → chkFun Go.Proofs.Try.prog f fn = true := by
  intro f fn h
  unfold IP at h
  by_cases h3 : f = 3
  · subst h3; simp at h; subst h; exact c3
  rw [if_neg h3] at h
  by_cases h4 : f = 4
  · subst h4; simp at h; subst h; exact c4
  rw [if_neg h4] at h
  by_cases h5 : f = 5
  · subst h5; simp at h; subst h; exact c5
  rw [if_neg h5] at h
  by_cases h6 : f = 6
  · subst h6; simp at h; subst h; exact c6
  rw [if_neg h6] at h
  by_cases h7 : f = 7
  · subst h7; simp at h; subst h; exact c7
  rw [if_neg h7] at h
  by_cases h8 : f = 8
  · subst h8; simp at h; subst h; exact c8
  rw [if_neg h8] at h
  by_cases h15 : f = 15
  · subst h15; simp at h; subst h; exact c15
  rw [if_neg h15] at h
  by_cases h16 : f = 16
  · subst h16; simp at h; subst h; exact c16
  rw [if_neg h16] at h
  by_cases h17 : f = 17
  · subst h17; simp at h; subst h; exact c17
  rw [if_neg h17] at h
  by_cases h18 : f = 18
  · subst h18; simp at h; subst h; exact c18
  rw [if_neg h18] at h
  by_cases h19 : f = 19
  · subst h19; simp at h; subst h; exact c19
  rw [if_neg h19] at h
  by_cases h20 : f = 20
  · subst h20; simp at h; subst h; exact c20
  rw [if_neg h20] at h
  by_cases h21 : f = 21
  · subst h21; simp at h; subst h; exact c21
  rw [if_neg h21] at h
  by_cases h22 : f = 22
  · subst h22; simp at h; subst h; exact c22
  rw [if_neg h22] at h
  by_cases h23 : f = 23
  · subst h23; simp at h; subst h; exact c23
  rw [if_neg h23] at h
  by_cases h24 : f = 24
  · subst h24; simp at h; subst h; exact c24
  rw [if_neg h24] at h
  by_cases h25 : f = 25
  · subst h25; simp at h; subst h; exact c25
  rw [if_neg h25] at h
  by_cases h26 : f = 26
  · subst h26; simp at h; subst h; exact c26
  rw [if_neg h26] at h
  by_cases h27 : f = 27
  · subst h27; simp at h; subst h; exact c27
  rw [if_neg h27] at h
  by_cases h44 : f = 44
  · subst h44; simp at h; subst h; exact c44
  rw [if_neg h44] at h
  by_cases h45 : f = 45
  · subst h45; simp at h; subst h; exact c45
  rw [if_neg h45] at h
  by_cases h46 : f = 46
  · subst h46; simp at h; subst h; exact c46
  rw [if_neg h46] at h
  by_cases h47 : f = 47
  · subst h47; simp at h; subst h; exact c47
  rw [if_neg h47] at h
  by_cases h59 : f = 59
  · subst h59; simp at h; subst h; exact c59
  rw [if_neg h59] at h
  by_cases h60 : f = 60
  · subst h60; simp at h; subst h; exact c60
  rw [if_neg h60] at h
  by_cases h69 : f = 69
  · subst h69; simp at h; subst h; exact c69
  rw [if_neg h69] at h
  cases h
theorem P_mixed : Go.Proofs.Try.prog.follows .mixedOrders = true := by kernel_rfl
theorem P_laid : laidOutB Go.Proofs.Try.prog = true := by kernel_rfl
theorem P_own : ownKnob Go.Proofs.Try.prog.godebug = none := by kernel_rfl
def tys : List TypeId := [2, 3, 9, 22, 23, 24, 25, 31, 32, 34, 38]
theorem P_tys : covS Go.Proofs.Try.prog tys = true := by kernel_rfl
end Go.Proofs.Ytajlmldpbhendaa.Rf
