
/- SeesAt of the program and of the reference. -/
import Derived.Test.YtickoloadgnenaaSees
import Derived.Test.YtickoloadgnenaaIsSight
namespace Go.Proofs.Ytickoloadgnenaa
open Go.RowKit

def askedB (D A B n : Int) (gs : List GroundT) : Bool := sightOk D A B gs && inB 0 3 n
set_option maxRecDepth 100000 in
theorem c_siAsked (D A B n : Int) (vg : Value) (lo hi : Nat) (gs : List GroundT) (w : World) (h : Grounds w lo hi vg gs) (hh : hi ≤ w.heap.size) :
    Calls Try.prog 16 #[.agg #[.int .i64 D, .int .i64 A, .int .i64 B, vg], .int .i64 n] w fun e w' => e = .returned (.bool (askedB D A B n gs)) ∧ Ext w w' := by
  have h0 := h
  obtain ⟨a, cap, rfl, m1, m2, _⟩ := h0
  have H := Lib.hid h
  clear h
  obtain ⟨r, hr⟩ : ∃ r, r = askedB D A B n gs := ⟨_, rfl⟩
  rw [← hr]
  unfold askedB at hr
  obtain ⟨s, hs⟩ : ∃ s, s = sightOk D A B gs := ⟨_, rfl⟩
  have CS : Hid (∀ W, Ext w W → Calls Try.prog 28 #[.agg #[.int .i64 D, .int .i64 A, .int .i64 B, .slice a gs.length cap]] W fun e w' => e = .returned (.bool s) ∧ Ext W w') :=
    fun W hX => by rw [hs]; exact c_siGood D A B _ lo hi gs W (H.out.ext hX hh)
  rw [← hs] at hr
  clear hs
  cases s
  all_goals
    simp at hr
    have HR := Lib.hid hr
    clear hr
    go_enter Try.func16, Try.ntmps16
    go_wp2_with fail
    have B1 : (w.alloc (.cells #[.int .i64 D, .int .i64 A, .int .i64 B, .slice a gs.length cap] 30)).heap[w.heap.size]? = some (.cells #[.int .i64 D, .int .i64 A, .int .i64 B, .slice a gs.length cap] 30) := blk_alloc _ _
    have X1 := Ext.alloc w (.cells #[.int .i64 D, .int .i64 A, .int .i64 B, .slice a gs.length cap] 30)
    generalize w.alloc (.cells #[.int .i64 D, .int .i64 A, .int .i64 B, .slice a gs.length cap] 30) = w1 at *
    refine (CS.out _ X1).mono ?_
    rintro e w2 ⟨rfl, hx2⟩
    go_wp2_with (go_at_call 29; refine (c_siBend _ _).mono ?_; rintro e w' ⟨rfl, rfl⟩)
    go_ret
    exact ⟨by rw [HR.out]; rfl, X1.trans hx2⟩

def seesV (D A B n : Int) (gs : List GroundT) : Bool := askedB D A B n gs && seesB D A B n gs
end Go.Proofs.Ytickoloadgnenaa
