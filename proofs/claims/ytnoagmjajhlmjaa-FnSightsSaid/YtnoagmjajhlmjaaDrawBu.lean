

/- Drawn bulges: the reference's draw function. -/
import Derived.Test.YtnoagmjajhlmjaaDrawT
namespace Go.Proofs.Ytnoagmjajhlmjaa
open Go.RowKit
set_option linter.unusedSimpArgs false
set_option linter.unusedVariables false
set_option maxRecDepth 100000 in
set_option maxHeartbeats 1000000 in
theorem c_DrawBulgeAt (v : Value) (la ha : Nat) (bs : List Int) (w : World) (h : Bytes w la ha v bs) (hh : ha ≤ w.heap.size) : Calls Try.prog 32 #[v] w (GiveIII (-1) 1001 w) := by
  obtain ⟨a, cap, rfl, _⟩ := h.1.formY
  have HY := Lib.hid h
  clear h
  go_enter Try.func32, Try.ntmps32
  go_wp2_with fail
  obtain ⟨w1, hw1⟩ : ∃ W, W = w.alloc (.cells #[.slice a bs.length cap, .int .i64 0, .int .u64 0] 73) := ⟨_, rfl⟩
  rw [← hw1]
  have hC : Cur w1 w.heap.size 0 := by rw [hw1]; exact cur_new w _ la ha bs HY.out.1 hh HY.out.2
  have X1 : Ext w w1 := by rw [hw1]; exact Ext.alloc _ _
  have s1 : w.heap.size < w1.heap.size := by rw [hw1, size_alloc]; omega
  clear hw1
  refine (c_pick _ _ 900 w1 hC (by omega) (by omega)).mono ?_
  rintro e w2 ⟨r, rfl, r0, r1, hc, hk⟩
  have HK := Lib.hid (X1.keep hk (Nat.le_refl _))
  have C := Lib.hid (c_amongL w.heap.size _ [1, 100, 200, 999, 1000, 0, 1 + r] 0 1000 w2 hc (by omega) (by simp) (by simp) (by intro x hx; simp at hx; omega))
  clear hc hk hC
  go_wp2_with fail
  refine C.out.mono ?_
  rintro e w3 ⟨d, rfl, d0, d1, hc, hk⟩
  have HK3 := Lib.hid (HK.out.keep hk (Nat.le_refl _))
  have hq0 := Int.tdiv_nonneg (show 0 ≤ d by omega) (show (0 : Int) ≤ 2 by omega)
  have hq1 := Int.tdiv_le_self (2 : Int) (show 0 ≤ d by omega)
  have C3 := Lib.hid (c_amongL w.heap.size _ [0, 1, d.tdiv 2, d, d + 1, -1] (-1) 1001 w3 hc (by omega) (by simp) (by simp) (by intro x hx; simp at hx; omega))
  clear hc hk C HK
  go_wp2_with fail
  refine C3.out.mono ?_
  rintro e w4 ⟨r4, rfl, r40, r41, hc, hk⟩
  have HK4 := Lib.hid (HK3.out.keep hk (Nat.le_refl _))
  have C4 := Lib.hid (c_bend w.heap.size _ w4 hc (by omega))
  clear hc hk C3 HK3
  go_wp2_with fail
  refine C4.out.mono ?_
  rintro e w5 ⟨n, rfl, n0, n1, hc, hk⟩
  have HK5 := Lib.hid (HK4.out.keep hk (Nat.le_refl _))
  clear hc hk C4 HK4
  go_wp2
  go_ret3
  exact ⟨d, r4, n, rfl, d0, d1, r40, r41, n0, n1, HK5.out⟩
end Go.Proofs.Ytnoagmjajhlmjaa
