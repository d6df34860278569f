

/- LinkBetween of the program and of the reference: their contracts. -/
import Derived.Test.YtmaaeemhbccpcaaGreatDoorLinkI
namespace Go.Proofs.YtmaaeemhbccpcaaGreatDoor
open Go.RowKit
def lbOk (x : NetT) (i j : Int) : Bool := has2 x i j && decide (0 ≤ idxG (lkEq2 i j) 0 x.2)
def lbV (x : NetT) (i j : Int) : Int := if lbOk x i j then idxG (lkEq2 i j) 0 x.2 else 0
theorem has_netB {x : NetT} {i : Int} (h : hasT x i = true) : netB x = true := by
  simp only [hasT, Bool.and_eq_true] at h
  exact h.1
set_option maxRecDepth 100000 in
set_option maxHeartbeats 1000000 in
theorem c_iLinkBetween (v : Value) (la ha : Nat) (x : NetT) (i j : Int) (w : World) (h : Nets w la ha v x) (hh : ha ≤ w.heap.size) :
    Calls Tryz.prog 16 #[v, .int .i64 i, .int .i64 j] w fun e w' => e = .returned (.tuple #[.int .i64 (lbV x i j), .bool (lbOk x i j)]) ∧ Ext w w' := by
  obtain ⟨r, hr⟩ : ∃ r, r = lbV x i j := ⟨_, rfl⟩
  obtain ⟨q, hq⟩ : ∃ q, q = lbOk x i j := ⟨_, rfl⟩
  rw [← hr, ← hq]
  unfold lbV at hr
  rw [← hq] at hr
  unfold lbOk has2 at hq
  obtain ⟨q1, hq1⟩ : ∃ q, q = hasT x i := ⟨_, rfl⟩
  obtain ⟨q2, hq2⟩ : ∃ q, q = hasT x j := ⟨_, rfl⟩
  obtain ⟨z, hz⟩ : ∃ z, z = idxG (lkEq2 i j) 0 x.2 := ⟨_, rfl⟩
  rw [← hq1, ← hq2, ← hz] at hq
  rw [← hz] at hr
  have hzb : -1 ≤ z := by rw [hz]; exact (idxG_bd _ _ _).1
  have C1 : Hid (∀ W, Ext w W → Calls Tryz.prog 44 #[v, .int .i64 i] W fun e w' => e = .returned (.bool q1) ∧ Ext W w') := fun W hX => by rw [hq1]; exact c_isTower v la ha x i W (h.ext hX hh) (Nat.le_trans hh hX.size)
  have C2 : Hid (∀ W, Ext w W → Calls Tryz.prog 44 #[v, .int .i64 j] W fun e w' => e = .returned (.bool q2) ∧ Ext W w') := fun W hX => by rw [hq2]; exact c_isTower v la ha x j W (h.ext hX hh) (Nat.le_trans hh hX.size)
  have C3 : Hid (q1 = true → ∀ W, Ext w W → Calls Tryz.prog 45 #[v, .int .i64 i, .int .i64 j] W fun e w' => e = .returned (.int .i64 z) ∧ Ext W w') := fun hqt W hX => by
    have hnb := has_netB (hq1 ▸ hqt : hasT x i = true)
    rw [hz]
    exact (by rw [← idx_same hnb]; exact c_linkIndex v la ha x i j W (h.ext hX hh) (Nat.le_trans hh hX.size))
  have hr0 : q = false → r = 0 := fun e => by rw [hr, e]; rfl
  have hr1 : q = true → r = z := fun e => by rw [hr, e]; rfl
  clear hr hq1 hq2 hz
  obtain ⟨a, ca, b, cb, rfl, ⟨m1, m2⟩, m3, m4⟩ := h.form
  obtain ⟨T, L⟩ := x
  simp only at m1 m3 C1 C2 C3 ⊢
  obtain ⟨m, hm⟩ : ∃ n, n = T.length := ⟨_, rfl⟩
  obtain ⟨l, hl⟩ : ∃ n, n = L.length := ⟨_, rfl⟩
  rw [← hm] at m1 C1 C2 C3 ⊢
  rw [← hl] at m3 C1 C2 C3 ⊢
  clear h hm hl
  cases q1
  · simp at hq
    subst hq
    have hr2 := hr0 rfl
    subst hr2
    go_enter Tryz.func16, Tryz.ntmps16
    go_wp2_with fail
    obtain ⟨W1, hW1⟩ : ∃ W, W = w.alloc (.cells #[.slice a m ca, .slice b l cb] 27) := ⟨_, rfl⟩
    rw [← hW1]
    have X1 : Ext w W1 := by rw [hW1]; exact Ext.alloc _ _
    have B1 : W1.heap[w.heap.size]? = some (.cells #[.slice a m ca, .slice b l cb] 27) := by rw [hW1]; exact blk_alloc _ _
    clear hW1
    refine (C1.out _ X1).mono ?_
    rintro e W2 ⟨rfl, X2⟩
    have k0 := blk_cell (X2.blk B1) (j := 0) rfl
    have k1 := blk_cell (X2.blk B1) (j := 1) rfl
    go_wp2
    go_ret2
    exact ⟨rfl, X1.trans X2⟩
  have C4 := Lib.hid (C3.out rfl)
  clear C3
  cases q2
  · simp at hq
    subst hq
    have hr2 := hr0 rfl
    subst hr2
    go_enter Tryz.func16, Tryz.ntmps16
    go_wp2_with fail
    obtain ⟨W1, hW1⟩ : ∃ W, W = w.alloc (.cells #[.slice a m ca, .slice b l cb] 27) := ⟨_, rfl⟩
    rw [← hW1]
    have X1 : Ext w W1 := by rw [hW1]; exact Ext.alloc _ _
    have B1 : W1.heap[w.heap.size]? = some (.cells #[.slice a m ca, .slice b l cb] 27) := by rw [hW1]; exact blk_alloc _ _
    clear hW1
    refine (C1.out _ X1).mono ?_
    rintro e W2 ⟨rfl, X2⟩
    have k0 := blk_cell (X2.blk B1) (j := 0) rfl
    have k1 := blk_cell (X2.blk B1) (j := 1) rfl
    go_wp2_with fail
    refine (C2.out _ (X1.trans X2)).mono ?_
    rintro e W3 ⟨rfl, X3⟩
    go_wp2
    go_ret2
    exact ⟨rfl, (X1.trans X2).trans X3⟩
  rw [Bool.and_self, Bool.true_and] at hq
  by_cases hz0 : 0 ≤ z
  · rw [decide_eq_true hz0] at hq
    subst hq
    have hr2 := hr1 rfl
    subst hr2
    have hz1 : ¬ r < 0 := by omega
    clear hr0 hr1
    go_enter Tryz.func16, Tryz.ntmps16
    go_wp2_with fail
    obtain ⟨W1, hW1⟩ : ∃ W, W = w.alloc (.cells #[.slice a m ca, .slice b l cb] 27) := ⟨_, rfl⟩
    rw [← hW1]
    have X1 : Ext w W1 := by rw [hW1]; exact Ext.alloc _ _
    have B1 : W1.heap[w.heap.size]? = some (.cells #[.slice a m ca, .slice b l cb] 27) := by rw [hW1]; exact blk_alloc _ _
    clear hW1
    refine (C1.out _ X1).mono ?_
    rintro e W2 ⟨rfl, X2⟩
    have k0 := blk_cell (X2.blk B1) (j := 0) rfl
    have k1 := blk_cell (X2.blk B1) (j := 1) rfl
    go_wp2_with fail
    refine (C2.out _ (X1.trans X2)).mono ?_
    rintro e W3 ⟨rfl, X3⟩
    have X13 := (X1.trans X2).trans X3
    have j0 := blk_cell ((X2.trans X3).blk B1) (j := 0) rfl
    have j1 := blk_cell ((X2.trans X3).blk B1) (j := 1) rfl
    clear k0 k1
    go_wp2_with fail
    refine (C4.out _ X13).mono ?_
    rintro e W4 ⟨rfl, X4⟩
    have X14 := X13.trans X4
    go_wp2
    go_ret2
    exact ⟨rfl, X14⟩
  · rw [decide_eq_false hz0] at hq
    subst hq
    have hr2 := hr0 rfl
    subst hr2
    have hz1 : z < 0 := by omega
    clear hr0 hr1
    go_enter Tryz.func16, Tryz.ntmps16
    go_wp2_with fail
    obtain ⟨W1, hW1⟩ : ∃ W, W = w.alloc (.cells #[.slice a m ca, .slice b l cb] 27) := ⟨_, rfl⟩
    rw [← hW1]
    have X1 : Ext w W1 := by rw [hW1]; exact Ext.alloc _ _
    have B1 : W1.heap[w.heap.size]? = some (.cells #[.slice a m ca, .slice b l cb] 27) := by rw [hW1]; exact blk_alloc _ _
    clear hW1
    refine (C1.out _ X1).mono ?_
    rintro e W2 ⟨rfl, X2⟩
    have k0 := blk_cell (X2.blk B1) (j := 0) rfl
    have k1 := blk_cell (X2.blk B1) (j := 1) rfl
    go_wp2_with fail
    refine (C2.out _ (X1.trans X2)).mono ?_
    rintro e W3 ⟨rfl, X3⟩
    have X13 := (X1.trans X2).trans X3
    have j0 := blk_cell ((X2.trans X3).blk B1) (j := 0) rfl
    have j1 := blk_cell ((X2.trans X3).blk B1) (j := 1) rfl
    clear k0 k1
    go_wp2_with fail
    refine (C4.out _ X13).mono ?_
    rintro e W4 ⟨rfl, X4⟩
    have X14 := X13.trans X4
    go_wp2
    go_ret2
    exact ⟨rfl, X14⟩
end Go.Proofs.YtmaaeemhbccpcaaGreatDoor
