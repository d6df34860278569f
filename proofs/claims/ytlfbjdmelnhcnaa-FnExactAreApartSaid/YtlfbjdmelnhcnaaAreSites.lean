
/- AreSites: the reference's contract. -/
import Derived.Test.YtlfbjdmelnhcnaaSites
namespace Go.Proofs.Ytlfbjdmelnhcnaa
open Go.RowKit
set_option maxRecDepth 100000 in
theorem c_sAreSites (v : Value) (la ha : Nat) (xss : List (List Int)) (n : Int) (w : World) (h : Intss w la ha v xss) (hh : ha ≤ w.heap.size) :
    Calls Try.prog 16 #[v, .int .i64 n] w fun e w' => e = .returned (.bool (sitesB xss n)) ∧ Ext w w' := by
  have H := Lib.hid (c_stGood v la ha xss n w h hh)
  clear h
  go_enter Try.func16, Try.ntmps16
  go_wp2_with (go_at_call 53; refine H.out.mono ?_; rintro e w2 ⟨rfl, hx2⟩)
  go_ret
  exact ⟨rfl, hx2⟩
end Go.Proofs.Ytlfbjdmelnhcnaa
