/- What the step from a walk to a statement uses: the program's own closed facts. -/
import Derived.Test.YtickoloadgnenaaLib
import Derived.ProofKit
import Derived.OpenShut
import Derived.ShutString
import Derived.ChangeOld
import Derived.Below
namespace Go.Proofs.Ytickoloadgnenaa
theorem own_Ytickoloadgnenaa : ownKnob Try.prog.godebug = none := by kernel_rfl
theorem laidOut_Ytickoloadgnenaa : laidOutB Try.prog = true := by kernel_rfl
end Go.Proofs.Ytickoloadgnenaa
