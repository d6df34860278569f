/- What the step from a walk to a statement uses: the program's own closed facts. -/
import Derived.Test.YtmaaeemhbccpcaaDoorLib
import Derived.ProofKit
import Derived.OpenShut
import Derived.ShutString
import Derived.ChangeOld
import Derived.Below
namespace Go.Proofs.YtmaaeemhbccpcaaDoor
theorem own_YtmaaeemhbccpcaaDoor : ownKnob Tryd.prog.godebug = none := by kernel_rfl
theorem laidOut_YtmaaeemhbccpcaaDoor : laidOutB Tryd.prog = true := by kernel_rfl
end Go.Proofs.YtmaaeemhbccpcaaDoor
