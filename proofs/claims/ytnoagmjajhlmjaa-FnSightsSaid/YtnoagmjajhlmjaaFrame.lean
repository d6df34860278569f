/- What the step from a walk to a statement uses: the program's own closed facts. -/
import Derived.Test.YtnoagmjajhlmjaaLib
import Derived.ProofKit
import Derived.OpenShut
import Derived.ShutString
import Derived.ChangeOld
import Derived.Below
namespace Go.Proofs.Ytnoagmjajhlmjaa
theorem own_Ytnoagmjajhlmjaa : ownKnob Try.prog.godebug = none := by kernel_rfl
theorem laidOut_Ytnoagmjajhlmjaa : laidOutB Try.prog = true := by kernel_rfl
end Go.Proofs.Ytnoagmjajhlmjaa
