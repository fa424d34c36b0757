import Derived.Test.YtajlmldpbhendaaRows
import Derived.Test.YtajlmldpbhendaaRfG6
import Derived.Test.YtajlmldpbhendaaRfG7
section
namespace Go.Proofs.Ytajlmldpbhendaa.Rf
theorem IPT_ok : IPT.all (fun f fn => chkFun Go.Proofs.Try.prog f fn) = true := by kernel_rfl
theorem IP_ok : ∀ f fn, IP f = some fn → chkFun Go.Proofs.Try.prog f fn = true := fun _ _ h => IT.all_get IPT_ok h
theorem P_mixed : Go.Proofs.Try.prog.follows .mixedOrders = true := by kernel_rfl
theorem P_laid : laidOutB Go.Proofs.Try.prog = true := by kernel_rfl
theorem P_own : ownKnob Go.Proofs.Try.prog.godebug = none := by kernel_rfl
def tys : List TypeId := [2, 3, 5, 9, 23, 24, 25, 31, 32, 34, 38, 45, 47]
theorem P_tys : covS Go.Proofs.Try.prog tys = true := by kernel_rfl
end Go.Proofs.Ytajlmldpbhendaa.Rf
end
