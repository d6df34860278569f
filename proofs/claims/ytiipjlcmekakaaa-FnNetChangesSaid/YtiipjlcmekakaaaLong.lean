

/- LongestLink of the program and of the reference: their contracts. -/
import Derived.Test.YtiipjlcmekakaaaLinkI
namespace Go.Proofs.Ytiipjlcmekakaaa
open Go.RowKit
def lgD (T : List TowerT) (y : LinkT) : Int := sqV (T.getD y.1.toNat (0, 0, 0)) (T.getD y.2.1.toNat (0, 0, 0))
def lgS (T : List TowerT) : Nat → Int → Int → List LinkT → Int
  | _, bst, _, [] => bst
  | k, bst, mst, y :: r => if mst < lgD T y then lgS T (k + 1) (k : Int) (lgD T y) r else lgS T (k + 1) bst mst r
theorem lgS_drop {T : List TowerT} {xs : List LinkT} {k : Nat} {y : LinkT} (h : xs[k]? = some y) (bst mst : Int) :
    lgS T k bst mst (xs.drop k) = if mst < lgD T y then lgS T (k + 1) (k : Int) (lgD T y) (xs.drop (k + 1)) else lgS T (k + 1) bst mst (xs.drop (k + 1)) := by
  have hk : k < xs.length := (List.getElem?_eq_some_iff.1 h).1
  have e : xs.drop k = y :: xs.drop (k + 1) := by
    rw [List.drop_eq_getElem_cons hk]; congr 1; exact (List.getElem?_eq_some_iff.1 h).2
  rw [e]; rfl
def lgOk (x : NetT) : Bool := netB x && decide (0 < x.2.length)
def lgV (x : NetT) : Int := if lgOk x then lgS x.1 0 0 (-1) x.2 else 0
theorem netB_ends {x : NetT} (h : netB x = true) {y : LinkT} (hy : y ∈ x.2) : ∃ (i j : Nat) (p q : TowerT), y.1 = i ∧ y.2.1 = j ∧ x.1[i]? = some p ∧ x.1[j]? = some q ∧ towB p = true ∧ towB q = true ∧ lgD x.1 y = sqV p q := by
  have h1 := netB_links h y hy
  simp only [lkB, Bool.and_eq_true, decide_eq_true_eq] at h1
  obtain ⟨a1, a2, a3, _⟩ := h1
  simp only [netB, Bool.and_eq_true, List.all_eq_true] at h
  have hi : y.1.toNat < x.1.length := by omega
  have hj : y.2.1.toNat < x.1.length := by omega
  have gi := List.getElem?_eq_getElem hi
  have gj := List.getElem?_eq_getElem hj
  refine ⟨y.1.toNat, y.2.1.toNat, _, _, by omega, by omega, gi, gj, h.2.2.1 _ (List.getElem_mem hi), h.2.2.1 _ (List.getElem_mem hj), ?_⟩
  unfold lgD
  rw [List.getD_eq_getElem?_getD, List.getD_eq_getElem?_getD, gi, gj]; rfl
set_option maxRecDepth 100000 in
set_option maxHeartbeats 2000000 in
theorem c_iLongest (v : Value) (la ha : Nat) (x : NetT) (w : World) (h : Nets w la ha v x) (hh : ha ≤ w.heap.size) :
    Calls Try.prog 22 #[v] w fun e w' => e = .returned (.tuple #[.int .i64 (lgV x), .bool (lgOk x)]) ∧ Ext w w' := by
  obtain ⟨r, hr⟩ : ∃ r, r = lgV x := ⟨_, rfl⟩
  obtain ⟨q, hq⟩ : ∃ q, q = lgOk x := ⟨_, rfl⟩
  rw [← hr, ← hq]
  unfold lgV at hr
  rw [← hq] at hr
  unfold lgOk at hq
  obtain ⟨q1, hq1⟩ : ∃ q, q = netB x := ⟨_, rfl⟩
  rw [← hq1] at hq
  have C1 : Hid (∀ W, Ext w W → Calls Try.prog 14 #[v] W fun e w' => e = .returned (.bool q1) ∧ Ext W w') := fun W hX => by rw [hq1]; exact c_IsNet v la ha x W (h.ext hX hh) (Nat.le_trans hh hX.size)
  have C2 : Hid (q1 = true → ∀ W y, Ext w W → y ∈ x.2 → 0 ≤ lgD x.1 y ∧ lgD x.1 y ≤ 1996002 ∧ Calls Try.prog 57 #[v, .int .i64 y.1, .int .i64 y.2.1] W fun e w' => e = .returned (.int .i64 (lgD x.1 y)) ∧ Ext W w') := fun hqt W y hX hy => by
    obtain ⟨i, j, p, q, e1, e2, g1, g2, t1, t2, e3⟩ := netB_ends (hq1 ▸ hqt : netB x = true) hy
    rw [e3, e1, e2]
    have := sqV_bd t1 t2
    exact ⟨this.1, this.2, c_squareBetween v la ha x i j p q W (h.ext hX hh) g1 g2 t1 t2⟩
  have hr0 : q = false → r = 0 := fun e => by rw [hr, e]; rfl
  have hr1 : Hid (q = true → r = lgS x.1 0 0 (-1) x.2) := fun e => by rw [hr, e]; rfl
  clear hr hq1
  obtain ⟨a, ca, b, cb, rfl, ⟨m1, m2⟩, m3, m4⟩ := h.form
  obtain ⟨p1, p2⟩ := h.parts
  obtain ⟨T, L⟩ := x
  have HL := Lib.hid p2
  simp only at m1 m3 C1 C2 HL hr1 hq ⊢
  obtain ⟨m, hm⟩ : ∃ n, n = T.length := ⟨_, rfl⟩
  obtain ⟨l, hl⟩ : ∃ n, n = L.length := ⟨_, rfl⟩
  have HLL := Lib.hid hl
  rw [← hm] at m1 C1 C2 ⊢
  rw [← hl] at m3 C1 C2 HL hq ⊢
  clear h hm hl p1 p2
  cases q1
  · simp at hq
    subst hq
    have hr2 := hr0 rfl
    subst hr2
    go_enter Try.func22, Try.ntmps22
    go_wp2_with fail
    obtain ⟨W1, hW1⟩ : ∃ W, W = w.alloc (.cells #[.slice a m ca, .slice b l cb] 27) := ⟨_, rfl⟩
    rw [← hW1]
    have X1 : Ext w W1 := by rw [hW1]; exact Ext.alloc _ _
    have B1 : W1.heap[w.heap.size]? = some (.cells #[.slice a m ca, .slice b l cb] 27) := by rw [hW1]; exact blk_alloc _ _
    clear hW1
    refine (C1.out _ X1).mono ?_
    rintro e W2 ⟨rfl, X2⟩
    have k0 := blk_cell (X2.blk B1) (j := 0) rfl
    have k1 := blk_cell (X2.blk B1) (j := 1) rfl
    go_wp2
    go_ret2
    exact ⟨rfl, X1.trans X2⟩
  rw [Bool.true_and] at hq
  by_cases hl0 : 0 < l
  · rw [decide_eq_true hl0] at hq
    subst hq
    have HR := Lib.hid (hr1.out rfl)
    have C3 := Lib.hid (C2.out rfl)
    have hlb : ((l : Int) == 0) = false := by simp; omega
    clear hr0 hr1 C2
    go_enter Try.func22, Try.ntmps22
    go_wp2_with fail
    obtain ⟨W1, hW1⟩ : ∃ W, W = w.alloc (.cells #[.slice a m ca, .slice b l cb] 27) := ⟨_, rfl⟩
    rw [← hW1]
    have X1 : Ext w W1 := by rw [hW1]; exact Ext.alloc _ _
    have B1 : W1.heap[w.heap.size]? = some (.cells #[.slice a m ca, .slice b l cb] 27) := by rw [hW1]; exact blk_alloc _ _
    clear hW1
    refine (C1.out _ X1).mono ?_
    rintro e W2 ⟨rfl, X2⟩
    have k0 := blk_cell (X2.blk B1) (j := 0) rfl
    have k1 := blk_cell (X2.blk B1) (j := 1) rfl
    have B2 := X2.blk B1
    have X12 := X1.trans X2
    go_wp2
    clear k0 k1
    go_loopw [4, 5, 21] (fun sb sm t wr => ∃ (k : Nat) (bst mst : Int), k ≤ l ∧ t = .int .i64 k ∧ sb = .int .i64 bst ∧ sm = .int .i64 mst ∧ Ext W2 wr ∧ Hid (r = lgS T k bst mst (L.drop k))) (fun _ _ t _ => l - (intOf t).toNat)
    case atStart => exact ⟨0, 0, -1, by omega, rfl, rfl, rfl, Ext.refl _, HR.out⟩
    case round =>
      obtain ⟨k, bst, mst, hk, rfl, rfl, rfl, hx, hT⟩ := hrel
      by_cases hlt : k < l
      · obtain ⟨b1, o1, y, rfl, hg, c0, c1, c2⟩ := Links_at HL.out hlt
        have d0 := hx.cell (X12.cell c0)
        have d1 := hx.cell (X12.cell c1)
        have d2 := hx.cell (X12.cell c2)
        have hs := hT.out.trans (lgS_drop hg.out bst mst)
        have hltI : (k : Int) < (l : Int) := by omega
        have hym := List.mem_of_getElem? hg.out
        have GX := hx.trans (Ext.alloc wr (.cells #[.int .i64 y.1, .int .i64 y.2.1, .int .i64 y.2.2] 29))
        have C5 := C3.out _ y (X12.trans GX) hym
        have n0 := blk_cell (GX.blk B2) (j := 0) rfl
        have n1 := blk_cell (GX.blk B2) (j := 1) rfl
        obtain ⟨d, hd⟩ : ∃ d, d = lgD T y := ⟨_, rfl⟩
        rw [← hd] at hs C5
        obtain ⟨db0, db1, C6⟩ := C5
        have HC := Lib.hid C6
        clear c0 c1 c2 hd C6 hym
        by_cases hmd : mst < d
        · rw [if_pos hmd] at hs
          have HS := Lib.hid hs
          clear hs
          go_wp2_with (go_at_call 57; refine HC.out.mono ?_; rintro e w5 ⟨rfl, hx5⟩)
          go_roundw
          case rel => exact ⟨k + 1, _, _, by omega, by go_num, rfl, rfl, GX.trans hx5, HS.out⟩
          case measure => simp [intOf]; omega
        · rw [if_neg hmd] at hs
          have HS := Lib.hid hs
          clear hs
          go_wp2_with (go_at_call 57; refine HC.out.mono ?_; rintro e w5 ⟨rfl, hx5⟩)
          go_roundw
          case rel => exact ⟨k + 1, _, _, by omega, by go_num, rfl, rfl, GX.trans hx5, HS.out⟩
          case measure => simp [intOf]; omega
      · have hge : ¬ ((k : Int) < (l : Int)) := by omega
        have HS : Hid (r = bst) := by
          have e := hT.out
          rw [List.drop_eq_nil_of_le (by rw [← HLL.out]; omega)] at e
          exact e
        go_wp2
        go_ret2
        exact ⟨by rw [HS.out]; rfl, X12.trans hx⟩
  · rw [decide_eq_false hl0] at hq
    subst hq
    have hr2 := hr0 rfl
    subst hr2
    have hlz : ((l : Int) == 0) = true := by simp; omega
    go_enter Try.func22, Try.ntmps22
    go_wp2_with fail
    obtain ⟨W1, hW1⟩ : ∃ W, W = w.alloc (.cells #[.slice a m ca, .slice b l cb] 27) := ⟨_, rfl⟩
    rw [← hW1]
    have X1 : Ext w W1 := by rw [hW1]; exact Ext.alloc _ _
    have B1 : W1.heap[w.heap.size]? = some (.cells #[.slice a m ca, .slice b l cb] 27) := by rw [hW1]; exact blk_alloc _ _
    clear hW1
    refine (C1.out _ X1).mono ?_
    rintro e W2 ⟨rfl, X2⟩
    have k0 := blk_cell (X2.blk B1) (j := 0) rfl
    have k1 := blk_cell (X2.blk B1) (j := 1) rfl
    go_wp2
    go_ret2
    exact ⟨rfl, X1.trans X2⟩
set_option maxRecDepth 100000 in
set_option maxHeartbeats 2000000 in
theorem c_sLongest (v : Value) (la ha : Nat) (x : NetT) (w : World) (h : Nets w la ha v x) (hh : ha ≤ w.heap.size) :
    Calls Try.prog 23 #[v] w fun e w' => e = .returned (.tuple #[.int .i64 (lgV x), .bool (lgOk x)]) ∧ Ext w w' := by
  obtain ⟨r, hr⟩ : ∃ r, r = lgV x := ⟨_, rfl⟩
  obtain ⟨q, hq⟩ : ∃ q, q = lgOk x := ⟨_, rfl⟩
  rw [← hr, ← hq]
  unfold lgV at hr
  rw [← hq] at hr
  unfold lgOk at hq
  obtain ⟨q1, hq1⟩ : ∃ q, q = netB x := ⟨_, rfl⟩
  rw [← hq1] at hq
  have C1 : Hid (∀ W, Ext w W → Calls Try.prog 44 #[v] W fun e w' => e = .returned (.bool q1) ∧ Ext W w') := fun W hX => by rw [hq1]; exact c_neGood v la ha x W (h.ext hX hh) (Nat.le_trans hh hX.size)
  have C2 : Hid (q1 = true → ∀ W y, Ext w W → y ∈ x.2 → 0 ≤ lgD x.1 y ∧ lgD x.1 y ≤ 1996002 ∧ Calls Try.prog 58 #[v, .int .i64 y.1, .int .i64 y.2.1] W fun e w' => e = .returned (.int .i64 (lgD x.1 y)) ∧ Ext W w') := fun hqt W y hX hy => by
    obtain ⟨i, j, p, q, e1, e2, g1, g2, t1, t2, e3⟩ := netB_ends (hq1 ▸ hqt : netB x = true) hy
    rw [e3, e1, e2]
    have := sqV_bd t1 t2
    exact ⟨this.1, this.2, c_neSquare v la ha x i j p q W (h.ext hX hh) g1 g2 t1 t2⟩
  have hr0 : q = false → r = 0 := fun e => by rw [hr, e]; rfl
  have hr1 : Hid (q = true → r = lgS x.1 0 0 (-1) x.2) := fun e => by rw [hr, e]; rfl
  clear hr hq1
  obtain ⟨a, ca, b, cb, rfl, ⟨m1, m2⟩, m3, m4⟩ := h.form
  obtain ⟨p1, p2⟩ := h.parts
  obtain ⟨T, L⟩ := x
  have HL := Lib.hid p2
  simp only at m1 m3 C1 C2 HL hr1 hq ⊢
  obtain ⟨m, hm⟩ : ∃ n, n = T.length := ⟨_, rfl⟩
  obtain ⟨l, hl⟩ : ∃ n, n = L.length := ⟨_, rfl⟩
  have HLL := Lib.hid hl
  rw [← hm] at m1 C1 C2 ⊢
  rw [← hl] at m3 C1 C2 HL hq ⊢
  clear h hm hl p1 p2
  cases q1
  · simp at hq
    subst hq
    have hr2 := hr0 rfl
    subst hr2
    go_enter Try.func23, Try.ntmps23
    go_wp2_with fail
    obtain ⟨W1, hW1⟩ : ∃ W, W = w.alloc (.cells #[.slice a m ca, .slice b l cb] 27) := ⟨_, rfl⟩
    rw [← hW1]
    have X1 : Ext w W1 := by rw [hW1]; exact Ext.alloc _ _
    have B1 : W1.heap[w.heap.size]? = some (.cells #[.slice a m ca, .slice b l cb] 27) := by rw [hW1]; exact blk_alloc _ _
    clear hW1
    refine (C1.out _ X1).mono ?_
    rintro e W2 ⟨rfl, X2⟩
    have k0 := blk_cell (X2.blk B1) (j := 0) rfl
    have k1 := blk_cell (X2.blk B1) (j := 1) rfl
    go_wp2
    go_ret2
    exact ⟨rfl, X1.trans X2⟩
  rw [Bool.true_and] at hq
  by_cases hl0 : 0 < l
  · rw [decide_eq_true hl0] at hq
    subst hq
    have HR := Lib.hid (hr1.out rfl)
    have C3 := Lib.hid (C2.out rfl)
    have hlb : ((l : Int) == 0) = false := by simp; omega
    clear hr0 hr1 C2
    go_enter Try.func23, Try.ntmps23
    go_wp2_with fail
    obtain ⟨W1, hW1⟩ : ∃ W, W = w.alloc (.cells #[.slice a m ca, .slice b l cb] 27) := ⟨_, rfl⟩
    rw [← hW1]
    have X1 : Ext w W1 := by rw [hW1]; exact Ext.alloc _ _
    have B1 : W1.heap[w.heap.size]? = some (.cells #[.slice a m ca, .slice b l cb] 27) := by rw [hW1]; exact blk_alloc _ _
    clear hW1
    refine (C1.out _ X1).mono ?_
    rintro e W2 ⟨rfl, X2⟩
    have k0 := blk_cell (X2.blk B1) (j := 0) rfl
    have k1 := blk_cell (X2.blk B1) (j := 1) rfl
    have B2 := X2.blk B1
    have X12 := X1.trans X2
    go_wp2
    clear k0 k1
    go_loopw [4, 5, 21] (fun sb sm t wr => ∃ (k : Nat) (bst mst : Int), k ≤ l ∧ t = .int .i64 k ∧ sb = .int .i64 bst ∧ sm = .int .i64 mst ∧ Ext W2 wr ∧ Hid (r = lgS T k bst mst (L.drop k))) (fun _ _ t _ => l - (intOf t).toNat)
    case atStart => exact ⟨0, 0, -1, by omega, rfl, rfl, rfl, Ext.refl _, HR.out⟩
    case round =>
      obtain ⟨k, bst, mst, hk, rfl, rfl, rfl, hx, hT⟩ := hrel
      by_cases hlt : k < l
      · obtain ⟨b1, o1, y, rfl, hg, c0, c1, c2⟩ := Links_at HL.out hlt
        have d0 := hx.cell (X12.cell c0)
        have d1 := hx.cell (X12.cell c1)
        have d2 := hx.cell (X12.cell c2)
        have hs := hT.out.trans (lgS_drop hg.out bst mst)
        have hltI : (k : Int) < (l : Int) := by omega
        have hym := List.mem_of_getElem? hg.out
        have GX := hx.trans (Ext.alloc wr (.cells #[.int .i64 y.1, .int .i64 y.2.1, .int .i64 y.2.2] 29))
        have C5 := C3.out _ y (X12.trans GX) hym
        have n0 := blk_cell (GX.blk B2) (j := 0) rfl
        have n1 := blk_cell (GX.blk B2) (j := 1) rfl
        obtain ⟨d, hd⟩ : ∃ d, d = lgD T y := ⟨_, rfl⟩
        rw [← hd] at hs C5
        obtain ⟨db0, db1, C6⟩ := C5
        have HC := Lib.hid C6
        clear c0 c1 c2 hd C6 hym
        by_cases hmd : mst < d
        · rw [if_pos hmd] at hs
          have HS := Lib.hid hs
          clear hs
          go_wp2_with (go_at_call 58; refine HC.out.mono ?_; rintro e w5 ⟨rfl, hx5⟩)
          go_roundw
          case rel => exact ⟨k + 1, _, _, by omega, by go_num, rfl, rfl, GX.trans hx5, HS.out⟩
          case measure => simp [intOf]; omega
        · rw [if_neg hmd] at hs
          have HS := Lib.hid hs
          clear hs
          go_wp2_with (go_at_call 58; refine HC.out.mono ?_; rintro e w5 ⟨rfl, hx5⟩)
          go_roundw
          case rel => exact ⟨k + 1, _, _, by omega, by go_num, rfl, rfl, GX.trans hx5, HS.out⟩
          case measure => simp [intOf]; omega
      · have hge : ¬ ((k : Int) < (l : Int)) := by omega
        have HS : Hid (r = bst) := by
          have e := hT.out
          rw [List.drop_eq_nil_of_le (by rw [← HLL.out]; omega)] at e
          exact e
        go_wp2
        go_ret2
        exact ⟨by rw [HS.out]; rfl, X12.trans hx⟩
  · rw [decide_eq_false hl0] at hq
    subst hq
    have hr2 := hr0 rfl
    subst hr2
    have hlz : ((l : Int) == 0) = true := by simp; omega
    go_enter Try.func23, Try.ntmps23
    go_wp2_with fail
    obtain ⟨W1, hW1⟩ : ∃ W, W = w.alloc (.cells #[.slice a m ca, .slice b l cb] 27) := ⟨_, rfl⟩
    rw [← hW1]
    have X1 : Ext w W1 := by rw [hW1]; exact Ext.alloc _ _
    have B1 : W1.heap[w.heap.size]? = some (.cells #[.slice a m ca, .slice b l cb] 27) := by rw [hW1]; exact blk_alloc _ _
    clear hW1
    refine (C1.out _ X1).mono ?_
    rintro e W2 ⟨rfl, X2⟩
    have k0 := blk_cell (X2.blk B1) (j := 0) rfl
    have k1 := blk_cell (X2.blk B1) (j := 1) rfl
    go_wp2
    go_ret2
    exact ⟨rfl, X1.trans X2⟩
end Go.Proofs.Ytiipjlcmekakaaa
