
/- The walk of FnExactIsSight. -/
import Derived.Test.YtnoagmjajhlmjaaSight
import Derived.Test.YtnoagmjajhlmjaaSightH
namespace Go.Proofs.Ytnoagmjajhlmjaa
open Go.RowKit

/-- An argument that is a sight. -/
def ArgSight (w : World) (v : Value) (x : Int × Int × Int × List GroundT) : Prop :=
  ∃ vg, v = .agg #[.int .i64 x.1, .int .i64 x.2.1, .int .i64 x.2.2.1, vg] ∧ Grounds w 0 w.heap.size vg x.2.2.2

theorem szI_neg {n : Nat} (h : 1048576 < n) : szI 1048576 n = -1 := by unfold szI; rw [if_neg (by omega)]
theorem szI_pos {n : Nat} (h : n ≤ 1048576) : szI 1048576 n = 1048576 - n := by unfold szI; rw [if_pos (by omega)]

end Go.Proofs.Ytnoagmjajhlmjaa
