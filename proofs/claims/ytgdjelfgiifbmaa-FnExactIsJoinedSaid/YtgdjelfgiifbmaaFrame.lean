/- What the step from a walk to a statement uses: the program's own closed facts. -/
import Derived.Test.YtgdjelfgiifbmaaLib
import Derived.ProofKit
import Derived.OpenShut
import Derived.ShutString
import Derived.ChangeOld
import Derived.Below
namespace Go.Proofs.Ytgdjelfgiifbmaa
theorem own_Ytgdjelfgiifbmaa : ownKnob Try.prog.godebug = none := by kernel_rfl
theorem laidOut_Ytgdjelfgiifbmaa : laidOutB Try.prog = true := by kernel_rfl
end Go.Proofs.Ytgdjelfgiifbmaa
