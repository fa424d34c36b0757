import Derived.Test.YtajlmldpbhendabRows
import Derived.Test.YtajlmldpbhendabRfG5
import Derived.Test.YtajlmldpbhendabRfG6
section
namespace Go.Proofs.Ytajlmldpbhendab.Rf
theorem IPT_ok : IPT.all (fun f fn => chkFun Go.Proofs.Try.prog f fn) = true := by kernel_rfl
theorem IP_ok : ∀ f fn, IP f = some fn → chkFun Go.Proofs.Try.prog f fn = true := fun _ _ h => IT.all_get IPT_ok h
theorem P_mixed : Go.Proofs.Try.prog.follows .mixedOrders = true := by kernel_rfl
theorem P_laid : laidOutB Go.Proofs.Try.prog = true := by kernel_rfl
theorem P_own : ownKnob Go.Proofs.Try.prog.godebug = none := by kernel_rfl
def tys : List TypeId := [9, 22, 24]
theorem P_tys : covS Go.Proofs.Try.prog tys = true := by kernel_rfl
end Go.Proofs.Ytajlmldpbhendab.Rf
end
