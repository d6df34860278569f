
/- AreSites: the reference's contract. -/
import Derived.Test.YtiofckbdjifdpaaSites
namespace Go.Proofs.Ytiofckbdjifdpaa
open Go.RowKit
end Go.Proofs.Ytiofckbdjifdpaa
