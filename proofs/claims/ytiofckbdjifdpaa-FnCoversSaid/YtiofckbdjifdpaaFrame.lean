/- What the step from a walk to a statement uses: the program's own closed facts. -/
import Derived.Test.YtiofckbdjifdpaaLib
import Derived.ProofKit
import Derived.OpenShut
import Derived.ShutString
import Derived.ChangeOld
import Derived.Below
namespace Go.Proofs.Ytiofckbdjifdpaa
theorem own_Ytiofckbdjifdpaa : ownKnob Try.prog.godebug = none := by kernel_rfl
theorem laidOut_Ytiofckbdjifdpaa : laidOutB Try.prog = true := by kernel_rfl
end Go.Proofs.Ytiofckbdjifdpaa
