
/- Comparing links: the program's function. -/
import Derived.Test.YtmaaeemhbccpcaaGreatDoorCmp
import Derived.StillTailTactics
namespace Go.Proofs.YtmaaeemhbccpcaaGreatDoor
open Go.RowKit
set_option maxRecDepth 100000 in
set_option maxHeartbeats 1000000 in
theorem c_compareLinks (x y : LinkT) (w : World) :
    Calls Tryz.prog 40 #[.agg #[.int .i64 x.1, .int .i64 x.2.1, .int .i64 x.2.2], .agg #[.int .i64 y.1, .int .i64 y.2.1, .int .i64 y.2.2]] w fun e w' => e = .returned (.int .i64 (cmpL x y)) ∧ Ext w w' := by
  obtain ⟨x1, x2, x3⟩ := x
  obtain ⟨y1, y2, y3⟩ := y
  obtain ⟨p, hp⟩ : ∃ p, p = cmpI x1 y1 := ⟨_, rfl⟩
  obtain ⟨q, hq⟩ : ∃ p, p = cmpI x2 y2 := ⟨_, rfl⟩
  obtain ⟨r, hr⟩ : ∃ r, r = if p = 0 then q else p := ⟨_, rfl⟩
  have hrr : cmpL (x1, x2, x3) (y1, y2, y3) = r := by rw [hr, hp, hq]; unfold cmpL; rfl
  rw [hrr]
  have C1 : Hid (∀ W, Calls Tryz.prog 65 #[.int .i64 x1, .int .i64 y1] W fun e w' => e = .returned (.int .i64 p) ∧ W = w') := fun W => by rw [hp]; exact c_Compare _ _ W
  have C2 : Hid (∀ W, Calls Tryz.prog 65 #[.int .i64 x2, .int .i64 y2] W fun e w' => e = .returned (.int .i64 q) ∧ W = w') := fun W => by rw [hq]; exact c_Compare _ _ W
  have HR := Lib.hid hr
  clear hr hp hq hrr
  go_enter Tryz.func40, Tryz.ntmps40
  go_wp2_with fail
  obtain ⟨W1, hW1⟩ : ∃ W, W = ((w.alloc (.cells #[.int .i64 x1, .int .i64 x2, .int .i64 x3] 42)).alloc (.cells #[.int .i64 y1, .int .i64 y2, .int .i64 y3] 42)) := ⟨_, rfl⟩
  rw [← hW1]
  have X1 : Ext w W1 := by rw [hW1]; exact ((Ext.refl w).al _).al _
  have B1 : W1.heap[w.heap.size]? = some (.cells #[.int .i64 x1, .int .i64 x2, .int .i64 x3] 42) := by rw [hW1]; exact blk_old (blk_alloc _ _)
  have B2 : W1.heap[w.heap.size + 1]? = some (.cells #[.int .i64 y1, .int .i64 y2, .int .i64 y3] 42) := by rw [hW1]; exact blk_alloc2 _ _ _
  have k10 : W1.cell? ⟨w.heap.size, 0, none⟩ = some (.int .i64 x1) := blk_cell B1 (j := 0) rfl
  have k11 : W1.cell? ⟨w.heap.size, 1, none⟩ = some (.int .i64 x2) := blk_cell B1 (j := 1) rfl
  have k20 : W1.cell? ⟨w.heap.size + 1, 0, none⟩ = some (.int .i64 y1) := blk_cell B2 (j := 0) rfl
  have k21 : W1.cell? ⟨w.heap.size + 1, 1, none⟩ = some (.int .i64 y2) := blk_cell B2 (j := 1) rfl
  clear hW1 B1 B2
  have S1 : Hid (Calls Tryz.prog 65 #[.int .i64 x1, .int .i64 y1] W1.drew fun e w' => e = .returned (.int .i64 p) ∧ w' = W1.drew) := (C1.out W1.drew).mono fun e w' ⟨h1, h2⟩ => ⟨h1, h2.symm⟩
  have S2 : Hid (Calls Tryz.prog 65 #[.int .i64 x2, .int .i64 y2] W1.drew fun e w' => e = .returned (.int .i64 q) ∧ w' = W1.drew) := (C2.out W1.drew).mono fun e w' ⟨h1, h2⟩ => ⟨h1, h2.symm⟩
  refine wp_region_still_tail 10 (by kernel_rfl) (by kernel_rfl) ?_
  simp only [List.take_succ_cons, List.take_zero, List.drop_succ_cons, List.drop_zero]
  still_step
  still_step
  still_step
  still_step
  still_call S1.out
  still_step
  still_step
  still_step
  still_step
  still_call S2.out
  refine wpStill_nil ?_
  change wpList _ _ _ _ _ W1.drew
  have X2 : Ext w W1.drew := X1.dr
  generalize W1.drew = W2 at *
  clear k10 k11 k20 k21
  have CO2 : Hid (Calls Tryz.prog 64 #[.slice (some ⟨W2.heap.size, 0, none⟩) 2 2] (W2.alloc (.cells #[.int .i64 p, .int .i64 q] 3)) fun e w' => e = .returned (.int .i64 r) ∧ (W2.alloc (.cells #[.int .i64 p, .int .i64 q] 3)) = w') := by
    rw [HR.out]
    exact c_Or W2.heap.size p q _ (box_cell W2 _ _ 0 _ rfl) (box_cell W2 _ _ 1 _ rfl)
  go_wp2_with (go_at_call 64; refine CO2.out.mono ?_; rintro e w' ⟨rfl, rfl⟩)
  go_ret
  exact ⟨rfl, X2.al _⟩
end Go.Proofs.YtmaaeemhbccpcaaGreatDoor
