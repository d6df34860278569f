

/- LinkBetween of the program and of the reference: their contracts. -/
import Derived.Test.YtngnagicgheenaaLinkI
namespace Go.Proofs.Ytngnagicgheenaa
open Go.RowKit
def lbOk (x : NetT) (i j : Int) : Bool := has2 x i j && decide (0 ≤ idxG (lkEq2 i j) 0 x.2)
def lbV (x : NetT) (i j : Int) : Int := if lbOk x i j then idxG (lkEq2 i j) 0 x.2 else 0
theorem has_netB {x : NetT} {i : Int} (h : hasT x i = true) : netB x = true := by
  simp only [hasT, Bool.and_eq_true] at h
  exact h.1
end Go.Proofs.Ytngnagicgheenaa
