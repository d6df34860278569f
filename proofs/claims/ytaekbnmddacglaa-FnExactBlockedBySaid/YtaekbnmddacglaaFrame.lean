/- What the step from a walk to a statement uses: the program's own closed facts. -/
import Derived.Test.YtaekbnmddacglaaLib
import Derived.ProofKit
import Derived.OpenShut
import Derived.ShutString
import Derived.ChangeOld
import Derived.Below
namespace Go.Proofs.Ytaekbnmddacglaa
theorem own_Ytaekbnmddacglaa : ownKnob Try.prog.godebug = none := by kernel_rfl
theorem laidOut_Ytaekbnmddacglaa : laidOutB Try.prog = true := by kernel_rfl
end Go.Proofs.Ytaekbnmddacglaa
