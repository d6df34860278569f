/- What the step from a walk to a statement uses: the program's own closed facts. -/
import Derived.Test.YtiipjlcmekakaaaLib
import Derived.ProofKit
import Derived.OpenShut
import Derived.ShutString
import Derived.ChangeOld
import Derived.Below
namespace Go.Proofs.Ytiipjlcmekakaaa
theorem own_Ytiipjlcmekakaaa : ownKnob Try.prog.godebug = none := by kernel_rfl
theorem laidOut_Ytiipjlcmekakaaa : laidOutB Try.prog = true := by kernel_rfl
end Go.Proofs.Ytiipjlcmekakaaa
