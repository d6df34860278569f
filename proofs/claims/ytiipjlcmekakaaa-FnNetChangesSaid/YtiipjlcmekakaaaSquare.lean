

/- SquareBetween of the program and of the reference: their contracts. -/
import Derived.Test.YtiipjlcmekakaaaHasT
namespace Go.Proofs.Ytiipjlcmekakaaa
open Go.RowKit
def has2 (x : NetT) (i j : Int) : Bool := hasT x i && hasT x j
def sqbV (x : NetT) (i j : Int) : Int := if has2 x i j then sqV (x.1.getD i.toNat (0, 0, 0)) (x.1.getD j.toNat (0, 0, 0)) else 0
theorem hasT_get {x : NetT} {i : Int} (h : hasT x i = true) : ∃ (k : Nat) (t : TowerT), i = k ∧ x.1[k]? = some t ∧ towB t = true := by
  simp only [hasT, Bool.and_eq_true] at h
  obtain ⟨h1, h2⟩ := h
  obtain ⟨i1, i2⟩ := inB_t h2
  have hk : i.toNat < x.1.length := by omega
  refine ⟨i.toNat, x.1[i.toNat], by omega, List.getElem?_eq_getElem hk, ?_⟩
  simp only [netB, Bool.and_eq_true, List.all_eq_true] at h1
  exact h1.2.2.1 _ (List.getElem_mem hk)
set_option maxRecDepth 100000 in
set_option maxHeartbeats 1000000 in
theorem c_iSquareBetween (v : Value) (la ha : Nat) (x : NetT) (i j : Int) (w : World) (h : Nets w la ha v x) (hh : ha ≤ w.heap.size) :
    Calls Try.prog 24 #[v, .int .i64 i, .int .i64 j] w fun e w' => e = .returned (.tuple #[.int .i64 (sqbV x i j), .bool (has2 x i j)]) ∧ Ext w w' := by
  obtain ⟨r, hr⟩ : ∃ r, r = sqbV x i j := ⟨_, rfl⟩
  obtain ⟨q, hq⟩ : ∃ q, q = has2 x i j := ⟨_, rfl⟩
  rw [← hr, ← hq]
  unfold sqbV at hr
  rw [← hq] at hr
  unfold has2 at hq
  obtain ⟨q1, hq1⟩ : ∃ q, q = hasT x i := ⟨_, rfl⟩
  obtain ⟨q2, hq2⟩ : ∃ q, q = hasT x j := ⟨_, rfl⟩
  rw [← hq1, ← hq2] at hq
  have C1 : Hid (∀ W, Ext w W → Calls Try.prog 47 #[v, .int .i64 i] W fun e w' => e = .returned (.bool q1) ∧ Ext W w') := fun W hX => by rw [hq1]; exact c_isTower v la ha x i W (h.ext hX hh) (Nat.le_trans hh hX.size)
  have C2 : Hid (∀ W, Ext w W → Calls Try.prog 47 #[v, .int .i64 j] W fun e w' => e = .returned (.bool q2) ∧ Ext W w') := fun W hX => by rw [hq2]; exact c_isTower v la ha x j W (h.ext hX hh) (Nat.le_trans hh hX.size)
  have C3 : Hid (q = true → ∀ W, Ext w W → Calls Try.prog 57 #[v, .int .i64 i, .int .i64 j] W fun e w' => e = .returned (.int .i64 r) ∧ Ext W w') := fun hqt W hX => by
    rw [hqt] at hq
    have hq3 : q1 = true ∧ q2 = true := by simpa using hq.symm
    obtain ⟨k1, t1, e1, g1, b1⟩ := hasT_get (hq1 ▸ hq3.1 : hasT x i = true)
    obtain ⟨k2, t2, e2, g2, b2⟩ := hasT_get (hq2 ▸ hq3.2 : hasT x j = true)
    have hrr : r = sqV t1 t2 := by
      rw [hr, hqt, if_pos rfl, e1, e2, Int.toNat_natCast, Int.toNat_natCast, List.getD_eq_getElem?_getD, List.getD_eq_getElem?_getD, g1, g2]; rfl
    rw [hrr, e1, e2]
    exact c_squareBetween v la ha x k1 k2 t1 t2 W (h.ext hX hh) g1 g2 b1 b2
  have hr0 : q = false → r = 0 := fun e => by rw [hr, e]; rfl
  clear hr hq1 hq2
  obtain ⟨a, ca, b, cb, rfl, ⟨m1, m2⟩, m3, m4⟩ := h.form
  obtain ⟨T, L⟩ := x
  simp only at m1 m3 C1 C2 C3 ⊢
  obtain ⟨m, hm⟩ : ∃ n, n = T.length := ⟨_, rfl⟩
  obtain ⟨l, hl⟩ : ∃ n, n = L.length := ⟨_, rfl⟩
  rw [← hm] at m1 C1 C2 C3 ⊢
  rw [← hl] at m3 C1 C2 C3 ⊢
  clear h hm hl
  cases q1
  · simp at hq
    subst hq
    have hr1 := hr0 rfl
    subst hr1
    go_enter Try.func24, Try.ntmps24
    go_wp2_with fail
    obtain ⟨W1, hW1⟩ : ∃ W, W = w.alloc (.cells #[.slice a m ca, .slice b l cb] 27) := ⟨_, rfl⟩
    rw [← hW1]
    have X1 : Ext w W1 := by rw [hW1]; exact Ext.alloc _ _
    have B1 : W1.heap[w.heap.size]? = some (.cells #[.slice a m ca, .slice b l cb] 27) := by rw [hW1]; exact blk_alloc _ _
    clear hW1
    refine (C1.out _ X1).mono ?_
    rintro e W2 ⟨rfl, X2⟩
    have k0 := blk_cell (X2.blk B1) (j := 0) rfl
    have k1 := blk_cell (X2.blk B1) (j := 1) rfl
    go_wp2
    go_ret2
    exact ⟨rfl, X1.trans X2⟩
  cases q2
  · simp at hq
    subst hq
    have hr1 := hr0 rfl
    subst hr1
    go_enter Try.func24, Try.ntmps24
    go_wp2_with fail
    obtain ⟨W1, hW1⟩ : ∃ W, W = w.alloc (.cells #[.slice a m ca, .slice b l cb] 27) := ⟨_, rfl⟩
    rw [← hW1]
    have X1 : Ext w W1 := by rw [hW1]; exact Ext.alloc _ _
    have B1 : W1.heap[w.heap.size]? = some (.cells #[.slice a m ca, .slice b l cb] 27) := by rw [hW1]; exact blk_alloc _ _
    clear hW1
    refine (C1.out _ X1).mono ?_
    rintro e W2 ⟨rfl, X2⟩
    have k0 := blk_cell (X2.blk B1) (j := 0) rfl
    have k1 := blk_cell (X2.blk B1) (j := 1) rfl
    go_wp2_with fail
    refine (C2.out _ (X1.trans X2)).mono ?_
    rintro e W3 ⟨rfl, X3⟩
    go_wp2
    go_ret2
    exact ⟨rfl, (X1.trans X2).trans X3⟩
  · simp at hq
    subst hq
    have C4 := Lib.hid (C3.out rfl)
    clear hr0 C3
    go_enter Try.func24, Try.ntmps24
    go_wp2_with fail
    obtain ⟨W1, hW1⟩ : ∃ W, W = w.alloc (.cells #[.slice a m ca, .slice b l cb] 27) := ⟨_, rfl⟩
    rw [← hW1]
    have X1 : Ext w W1 := by rw [hW1]; exact Ext.alloc _ _
    have B1 : W1.heap[w.heap.size]? = some (.cells #[.slice a m ca, .slice b l cb] 27) := by rw [hW1]; exact blk_alloc _ _
    clear hW1
    refine (C1.out _ X1).mono ?_
    rintro e W2 ⟨rfl, X2⟩
    have k0 := blk_cell (X2.blk B1) (j := 0) rfl
    have k1 := blk_cell (X2.blk B1) (j := 1) rfl
    go_wp2_with fail
    refine (C2.out _ (X1.trans X2)).mono ?_
    rintro e W3 ⟨rfl, X3⟩
    have j0 := blk_cell ((X2.trans X3).blk B1) (j := 0) rfl
    have j1 := blk_cell ((X2.trans X3).blk B1) (j := 1) rfl
    clear k0 k1
    go_wp2_with fail
    refine (C4.out _ ((X1.trans X2).trans X3)).mono ?_
    rintro e W4 ⟨rfl, X4⟩
    go_wp2
    go_ret2
    exact ⟨rfl, ((X1.trans X2).trans X3).trans X4⟩
set_option maxRecDepth 100000 in
set_option maxHeartbeats 1000000 in
theorem c_sSquareBetween (v : Value) (la ha : Nat) (x : NetT) (i j : Int) (w : World) (h : Nets w la ha v x) (hh : ha ≤ w.heap.size) :
    Calls Try.prog 26 #[v, .int .i64 i, .int .i64 j] w fun e w' => e = .returned (.tuple #[.int .i64 (sqbV x i j), .bool (has2 x i j)]) ∧ Ext w w' := by
  obtain ⟨r, hr⟩ : ∃ r, r = sqbV x i j := ⟨_, rfl⟩
  obtain ⟨q, hq⟩ : ∃ q, q = has2 x i j := ⟨_, rfl⟩
  rw [← hr, ← hq]
  unfold sqbV at hr
  rw [← hq] at hr
  unfold has2 at hq
  obtain ⟨q1, hq1⟩ : ∃ q, q = hasT x i := ⟨_, rfl⟩
  obtain ⟨q2, hq2⟩ : ∃ q, q = hasT x j := ⟨_, rfl⟩
  rw [← hq1, ← hq2] at hq
  have C1 : Hid (∀ W, Ext w W → Calls Try.prog 49 #[v, .int .i64 i] W fun e w' => e = .returned (.bool q1) ∧ Ext W w') := fun W hX => by rw [hq1]; exact c_neHas v la ha x i W (h.ext hX hh) (Nat.le_trans hh hX.size)
  have C2 : Hid (∀ W, Ext w W → Calls Try.prog 49 #[v, .int .i64 j] W fun e w' => e = .returned (.bool q2) ∧ Ext W w') := fun W hX => by rw [hq2]; exact c_neHas v la ha x j W (h.ext hX hh) (Nat.le_trans hh hX.size)
  have C3 : Hid (q = true → ∀ W, Ext w W → Calls Try.prog 58 #[v, .int .i64 i, .int .i64 j] W fun e w' => e = .returned (.int .i64 r) ∧ Ext W w') := fun hqt W hX => by
    rw [hqt] at hq
    have hq3 : q1 = true ∧ q2 = true := by simpa using hq.symm
    obtain ⟨k1, t1, e1, g1, b1⟩ := hasT_get (hq1 ▸ hq3.1 : hasT x i = true)
    obtain ⟨k2, t2, e2, g2, b2⟩ := hasT_get (hq2 ▸ hq3.2 : hasT x j = true)
    have hrr : r = sqV t1 t2 := by
      rw [hr, hqt, if_pos rfl, e1, e2, Int.toNat_natCast, Int.toNat_natCast, List.getD_eq_getElem?_getD, List.getD_eq_getElem?_getD, g1, g2]; rfl
    rw [hrr, e1, e2]
    exact c_neSquare v la ha x k1 k2 t1 t2 W (h.ext hX hh) g1 g2 b1 b2
  have hr0 : q = false → r = 0 := fun e => by rw [hr, e]; rfl
  clear hr hq1 hq2
  obtain ⟨a, ca, b, cb, rfl, ⟨m1, m2⟩, m3, m4⟩ := h.form
  obtain ⟨T, L⟩ := x
  simp only at m1 m3 C1 C2 C3 ⊢
  obtain ⟨m, hm⟩ : ∃ n, n = T.length := ⟨_, rfl⟩
  obtain ⟨l, hl⟩ : ∃ n, n = L.length := ⟨_, rfl⟩
  rw [← hm] at m1 C1 C2 C3 ⊢
  rw [← hl] at m3 C1 C2 C3 ⊢
  clear h hm hl
  cases q1
  · simp at hq
    subst hq
    have hr1 := hr0 rfl
    subst hr1
    go_enter Try.func26, Try.ntmps26
    go_wp2_with fail
    obtain ⟨W1, hW1⟩ : ∃ W, W = w.alloc (.cells #[.slice a m ca, .slice b l cb] 27) := ⟨_, rfl⟩
    rw [← hW1]
    have X1 : Ext w W1 := by rw [hW1]; exact Ext.alloc _ _
    have B1 : W1.heap[w.heap.size]? = some (.cells #[.slice a m ca, .slice b l cb] 27) := by rw [hW1]; exact blk_alloc _ _
    clear hW1
    refine (C1.out _ X1).mono ?_
    rintro e W2 ⟨rfl, X2⟩
    have k0 := blk_cell (X2.blk B1) (j := 0) rfl
    have k1 := blk_cell (X2.blk B1) (j := 1) rfl
    go_wp2
    go_ret2
    exact ⟨rfl, X1.trans X2⟩
  cases q2
  · simp at hq
    subst hq
    have hr1 := hr0 rfl
    subst hr1
    go_enter Try.func26, Try.ntmps26
    go_wp2_with fail
    obtain ⟨W1, hW1⟩ : ∃ W, W = w.alloc (.cells #[.slice a m ca, .slice b l cb] 27) := ⟨_, rfl⟩
    rw [← hW1]
    have X1 : Ext w W1 := by rw [hW1]; exact Ext.alloc _ _
    have B1 : W1.heap[w.heap.size]? = some (.cells #[.slice a m ca, .slice b l cb] 27) := by rw [hW1]; exact blk_alloc _ _
    clear hW1
    refine (C1.out _ X1).mono ?_
    rintro e W2 ⟨rfl, X2⟩
    have k0 := blk_cell (X2.blk B1) (j := 0) rfl
    have k1 := blk_cell (X2.blk B1) (j := 1) rfl
    go_wp2_with fail
    refine (C2.out _ (X1.trans X2)).mono ?_
    rintro e W3 ⟨rfl, X3⟩
    go_wp2
    go_ret2
    exact ⟨rfl, (X1.trans X2).trans X3⟩
  · simp at hq
    subst hq
    have C4 := Lib.hid (C3.out rfl)
    clear hr0 C3
    go_enter Try.func26, Try.ntmps26
    go_wp2_with fail
    obtain ⟨W1, hW1⟩ : ∃ W, W = w.alloc (.cells #[.slice a m ca, .slice b l cb] 27) := ⟨_, rfl⟩
    rw [← hW1]
    have X1 : Ext w W1 := by rw [hW1]; exact Ext.alloc _ _
    have B1 : W1.heap[w.heap.size]? = some (.cells #[.slice a m ca, .slice b l cb] 27) := by rw [hW1]; exact blk_alloc _ _
    clear hW1
    refine (C1.out _ X1).mono ?_
    rintro e W2 ⟨rfl, X2⟩
    have k0 := blk_cell (X2.blk B1) (j := 0) rfl
    have k1 := blk_cell (X2.blk B1) (j := 1) rfl
    go_wp2_with fail
    refine (C2.out _ (X1.trans X2)).mono ?_
    rintro e W3 ⟨rfl, X3⟩
    have j0 := blk_cell ((X2.trans X3).blk B1) (j := 0) rfl
    have j1 := blk_cell ((X2.trans X3).blk B1) (j := 1) rfl
    clear k0 k1
    go_wp2_with fail
    refine (C4.out _ ((X1.trans X2).trans X3)).mono ?_
    rintro e W4 ⟨rfl, X4⟩
    go_wp2
    go_ret2
    exact ⟨rfl, ((X1.trans X2).trans X3).trans X4⟩
end Go.Proofs.Ytiipjlcmekakaaa
