
/- Drawn nets that may be spoilt: the contract of anyNet. -/
import Derived.Test.YtmaaeemhbccpcaaGreatDoorDrawN
namespace Go.Proofs.YtmaaeemhbccpcaaGreatDoor
open Go.RowKit
set_option linter.unusedSimpArgs false
set_option linter.unusedVariables false
theorem flat_get3 : ∀ (T : List (Int × Int × Int)) (i : Nat) (y : Int × Int × Int), T[i]? = some y →
    (T.flatMap fun g => [Value.int .i64 g.1, .int .i64 g.2.1, .int .i64 g.2.2])[i * 3]? = some (.int .i64 y.1) ∧ (T.flatMap fun g => [Value.int .i64 g.1, .int .i64 g.2.1, .int .i64 g.2.2])[i * 3 + 1]? = some (.int .i64 y.2.1) ∧ (T.flatMap fun g => [Value.int .i64 g.1, .int .i64 g.2.1, .int .i64 g.2.2])[i * 3 + 2]? = some (.int .i64 y.2.2)
  | [], i, y, h => by simp at h
  | z :: r, 0, y, h => by simp at h; subst h; simp
  | z :: r, i + 1, y, h => by
    have := flat_get3 r i y (by simpa using h)
    rw [show (i + 1) * 3 + 1 = i * 3 + 1 + 1 + 1 + 1 by omega, show (i + 1) * 3 + 2 = i * 3 + 2 + 1 + 1 + 1 by omega, show (i + 1) * 3 = i * 3 + 1 + 1 + 1 by omega]
    simpa using this
section
variable {b rs lb bo g : Nat} {w0 : World} {ta : Option Addr} {tc : Nat} {T : List TowerT} {la : Option Addr} {lc : Nat} {L : List LinkT} {k : Nat} {w : World}
theorem NX.cellT (h : NX b rs lb bo w0 (some ⟨g, 0, none⟩) tc T la lc L k w) {i : Nat} {y : TowerT} (hy : T[i]? = some y) :
    w.cell? ⟨g, i * 3, none⟩ = some (.int .i64 y.1) ∧ w.cell? ⟨g, i * 3 + 1, none⟩ = some (.int .i64 y.2.1) ∧ w.cell? ⟨g, i * 3 + 2, none⟩ = some (.int .i64 y.2.2) := by
  have hi := (List.getElem?_eq_some_iff.1 hy).1
  obtain ⟨h1, h2, h3⟩ := flat_get3 T i y hy
  exact ⟨by rw [h.ownT.cellAt (i * 3) (by omega)]; exact h1, by rw [h.ownT.cellAt (i * 3 + 1) (by omega)]; exact h2, by rw [h.ownT.cellAt (i * 3 + 2) (by omega)]; exact h3⟩
theorem NX.cellL (h : NX b rs lb bo w0 ta tc T (some ⟨g, 0, none⟩) lc L k w) {i : Nat} {y : LinkT} (hy : L[i]? = some y) :
    w.cell? ⟨g, i * 3, none⟩ = some (.int .i64 y.1) ∧ w.cell? ⟨g, i * 3 + 1, none⟩ = some (.int .i64 y.2.1) ∧ w.cell? ⟨g, i * 3 + 2, none⟩ = some (.int .i64 y.2.2) := by
  have hi := (List.getElem?_eq_some_iff.1 hy).1
  obtain ⟨h1, h2, h3⟩ := flat_get3 L i y hy
  exact ⟨by rw [h.ownL.cellAt (i * 3) (by omega)]; exact h1, by rw [h.ownL.cellAt (i * 3 + 1) (by omega)]; exact h2, by rw [h.ownL.cellAt (i * 3 + 2) (by omega)]; exact h3⟩
theorem NX.setTex {j : Nat} {x : Int} (h : NX b rs lb bo w0 (some ⟨g, 0, none⟩) tc T la lc L k w) {i : Nat} (hi : i < T.length) (hj : j < 3) :
    ∃ T' : List TowerT, T'.length = T.length ∧ NX b rs lb bo w0 (some ⟨g, 0, none⟩) tc T' la lc L k (w.setCell ⟨g, i * 3 + j, none⟩ (.int .i64 x)) := by
  obtain ⟨T', h1, h2⟩ := flat_setT T i j x hi hj
  exact ⟨T', h1, h.setT h1 h2⟩
theorem NX.setLex {j : Nat} {x : Int} (h : NX b rs lb bo w0 ta tc T (some ⟨g, 0, none⟩) lc L k w) {i : Nat} (hi : i < L.length) (hj : j < 3) :
    ∃ L' : List LinkT, L'.length = L.length ∧ NX b rs lb bo w0 ta tc T (some ⟨g, 0, none⟩) lc L' k (w.setCell ⟨g, i * 3 + j, none⟩ (.int .i64 x)) := by
  obtain ⟨L', h1, h2⟩ := flat_setL L i j x hi hj
  exact ⟨L', h1, h.setL h1 h2⟩
end
theorem OwnNet.rows {w : World} {lo hi : Nat} {a c : Option Addr} {n m p q : Nat} {x : NetT} (h : OwnNet w lo hi (.agg #[.slice a n p, .slice c m q]) x) :
    w.ownsRow lo 54 3 (.slice a n p) x.1.length (x.1.flatMap encTower) ∧ w.ownsRow lo 42 3 (.slice c m q) x.2.length (x.2.flatMap encLink) := by
  obtain ⟨vt, vl, e, h1, h2, _⟩ := h
  simp only [Value.agg.injEq, Array.mk.injEq, List.cons.injEq, and_true] at e
  obtain ⟨rfl, rfl⟩ := e
  exact ⟨h1.own, h2.own⟩
theorem made10 : (madeCells (Value.agg #[.int .i64 0, .int .i64 0, .int .i64 0]).cells (10 * 3)).toList = (List.replicate 10 ((0, 0, 0) : TowerT)).flatMap encTower := by
  simp only [madeCells, Value.cells, encTower, List.replicate, List.flatMap_cons, List.flatMap_nil]
  kernel_rfl
set_option maxRecDepth 100000 in
set_option maxHeartbeats 4000000 in
theorem c_anyNet (b k : Nat) (w : World) (h : Cur w b k) (hk : k ≤ 700000) : Calls Tryz.prog 54 #[.pointer (some ⟨b, 0, none⟩)] w (DrawNet b (k + 6000) 0 17 41 w) := by
  obtain ⟨t0, ht0, htz0, htz1, htz2⟩ := info_parts Tryz.info_tower
  obtain ⟨l0, hl0, hlz0, hlz1, hlz2⟩ := info_parts Tryz.info_link
  have hbs := h.lt
  obtain ⟨W0, hW0⟩ : ∃ W, W = w.alloc (.cells #[.slice none 0 0, .slice none 0 0] 27) := ⟨_, rfl⟩
  have hX0 : Ext w W0 := by rw [hW0]; exact (Ext.refl w).al _
  have hs0 : W0.heap.size = w.heap.size + 1 := by rw [hW0, size_alloc]
  have B0 : Hid (W0.heap[w.heap.size]? = some (.cells #[.slice none 0 0, .slice none 0 0] 27)) := by unfold Hid; rw [hW0]; exact blk_alloc _ _
  have C1 := Lib.hid (c_net b k W0 (h.ext hX0) (by omega))
  have HX0 := Lib.hid hX0
  have HW0 := Lib.hid hW0
  clear h hW0 hX0
  go_enter Tryz.func54, Tryz.ntmps54
  go_wp2_with fail
  rw [← HW0.out]
  refine C1.out.mono ?_
  rintro e w1 ⟨ta, tc, T, la, lc, L, rfl, hO, hT1, hT16, hL40, hc, hk1⟩
  obtain ⟨hoT, hoL⟩ := hO.rows
  have B1 := Lib.hid (hk1.blk B0.out (Or.inr (by omega)))
  have HC1 := Lib.hid hc
  have HK1 := Lib.hid ((Keep.of_ext HX0.out).trans hk1)
  rw [hs0] at hoT hoL
  have HoT := Lib.hid hoT
  have HoL := Lib.hid hoL
  have hs1 := hk1.size
  clear hc hk1 hoT hoL hO C1 HW0 B0 HX0
  go_upto_region 2 with fail
  obtain ⟨bo, hbo⟩ : ∃ n, n = w1.heap.size := ⟨_, rfl⟩
  obtain ⟨W2, hW2⟩ : ∃ W, W = w1.alloc (.cells #[.slice ta T.length tc, .slice la L.length lc] 27) := ⟨_, rfl⟩
  rw [← hW2, ← hbo]
  have hx2 : Ext w1 W2 := by rw [hW2]; exact Ext.alloc _ _
  have HS2 : Hid (NX b w.heap.size (w.heap.size + 1) bo w ta tc T la lc L (k + 5000) W2) := ⟨hbs, by omega, by omega, Nat.le_refl _, by have := hx2.size; omega, by rw [hW2, hbo]; exact blk_alloc _ _, own_ext HoT.out hx2, own_ext HoL.out hx2, hx2.blk B1.out, HC1.out.ext hx2, HK1.out.trans (Keep.of_ext hx2)⟩
  clear hbo hW2 hx2 B1 HC1 HK1 HoT HoL
  obtain ⟨g, rfl, hg1, hg2⟩ := HS2.out.atT (by omega)
  obtain ⟨w20, hwd⟩ : ∃ W, W = W2.drew := ⟨_, rfl⟩
  have HS20 : Hid (NX b w.heap.size (w.heap.size + 1) bo w (some ⟨g, 0, none⟩) tc T la lc L (k + 5000) w20) := by unfold Hid; rw [hwd]; exact HS2.out.ext (Ext.drew _)
  refine wp_region_E (S := fun W => W.cell? ⟨bo, 0, none⟩ = some (.slice (some ⟨g, 0, none⟩) T.length tc)) (by kernel_rfl) ?_
  rw [← hwd]
  clear hwd HS2
  have hSS : (fun W : World => W.cell? ⟨bo, 0, none⟩ = some (.slice (some ⟨g, 0, none⟩) T.length tc)) w20 := blk_cell HS20.out.box (j := 0) rfl
  refine wpAnyE_take (i := 0) (v := ?_) rfl (by kernel_rfl) (by kernel_rfl) (by kernel_rfl) (fun _ _ _ h => h) (Or.inl ⟨by rfl, ?_⟩) (by assumption) ?_
  rotate_left 1
  focus (intro W hSW; (try dsimp only at hSW); go_simp; try with_reducible rfl)
  (try simp only [Act.put, List.setIfInBounds_toArray, List.set_cons_zero, List.set_cons_succ])
  refine wpAnyE_take (i := 1) (v := ?_) rfl (by kernel_rfl) (by kernel_rfl) (by kernel_rfl) (fun _ _ _ h => h) (Or.inl ⟨by rfl, ?_⟩) (by assumption) ?_
  rotate_left 1
  focus (intro W hSW; (try dsimp only at hSW); go_simp; try with_reducible rfl)
  (try simp only [Act.put, List.setIfInBounds_toArray, List.set_cons_zero, List.set_cons_succ])
  refine wpAnyE_take (i := 2) (v := ?_) rfl (by kernel_rfl) (by kernel_rfl) (by kernel_rfl) (fun _ _ _ h => h) (Or.inl ⟨by rfl, ?_⟩) (by assumption) ?_
  rotate_left 1
  focus (intro W hSW; (try dsimp only at hSW); go_simp; try with_reducible rfl)
  (try simp only [Act.put, List.setIfInBounds_toArray, List.set_cons_zero, List.set_cons_succ])
  refine wpAnyE_take (i := 3) (v := ?_) rfl (by kernel_rfl) (by kernel_rfl) (by kernel_rfl) (fun _ _ _ h => h) (Or.inl ⟨by rfl, ?_⟩) (by assumption) ?_
  rotate_left 1
  focus (intro W hSW; (try dsimp only at hSW); go_simp; try with_reducible rfl)
  (try simp only [Act.put, List.setIfInBounds_toArray, List.set_cons_zero, List.set_cons_succ])
  refine wpAnyE_take (i := 4) (v := ?_) rfl (by kernel_rfl) (by kernel_rfl) (by kernel_rfl) (fun _ _ _ h => h) (Or.inl ⟨by rfl, ?_⟩) (by assumption) ?_
  rotate_left 1
  focus (intro W hSW; (try dsimp only at hSW); go_simp; try with_reducible rfl)
  (try simp only [Act.put, List.setIfInBounds_toArray, List.set_cons_zero, List.set_cons_succ])
  refine wpAnyE_take (i := 5) (v := ?_) rfl (by kernel_rfl) (by kernel_rfl) (by kernel_rfl) (fun _ _ _ h => h) (Or.inl ⟨by rfl, ?_⟩) (by assumption) ?_
  rotate_left 1
  focus (intro W hSW; (try dsimp only at hSW); go_simp; try with_reducible rfl)
  (try simp only [Act.put, List.setIfInBounds_toArray, List.set_cons_zero, List.set_cons_succ])
  refine wpAnyE_one (i := 6) (by kernel_rfl) rfl (fun K hK => ?_)
  have HK := Lib.hid hK
  clear hK
  go_simp
  refine (c_pick b _ T.length w20 HS20.out.cur (by omega) (by omega)).mono ?_
  rintro e w21 ⟨r, rfl, r0, r1, hc, hk1⟩
  obtain ⟨i, rfl⟩ : ∃ i : Nat, r = i := ⟨r.toNat, by omega⟩
  have hiT : i < T.length := by omega
  have hiI : (i : Int) < (T.length : Int) := by omega
  have HS21 := Lib.hid (HS20.out.draw hc hk1)
  clear hc hk1 hSS HS20 r1
  have hSS : (fun W : World => W.cell? ⟨bo, 0, none⟩ = some (.slice (some ⟨g, 0, none⟩) T.length tc)) w21 := blk_cell HS21.out.box (j := 0) rfl
  refine HK.out _ _ (fun _ => hSS) ?_
  clear HK
  refine wpAnyE_take (i := 7) (v := ?_) rfl (by kernel_rfl) (by kernel_rfl) (by kernel_rfl) (fun _ _ _ h => h) (Or.inl ⟨by rfl, ?_⟩) (by assumption) ?_
  rotate_left 1
  focus (intro W hSW; (try dsimp only at hSW); go_simp; try with_reducible rfl)
  (try simp only [Act.put, List.setIfInBounds_toArray, List.set_cons_zero, List.set_cons_succ])
  refine wpAnyE_take (i := 8) (v := ?_) rfl (by kernel_rfl) (by kernel_rfl) (by kernel_rfl) (fun _ _ _ h => h) (Or.inl ⟨by rfl, ?_⟩) (by assumption) ?_
  rotate_left 1
  focus (intro W hSW; (try dsimp only at hSW); go_simp; try with_reducible rfl)
  (try simp only [Act.put, List.setIfInBounds_toArray, List.set_cons_zero, List.set_cons_succ])
  clear hSS
  refine wpAnyE_done (by kernel_rfl) ?_ _
  go_wp2_with fail
  refine (c_pick b _ 36 w21 HS21.out.cur (by omega) (by omega)).mono ?_
  rintro e w5 ⟨r, rfl, r0', r1, hc, hk1⟩
  have HS5 := Lib.hid (HS21.out.draw hc hk1)
  clear hc hk1 HS21
  rcases (show r = 0 ∨ r = 1 ∨ r = 2 ∨ r = 3 ∨ r = 4 ∨ r = 5 ∨ r = 6 ∨ r = 7 ∨ 8 ≤ r by omega) with rfl | rfl | rfl | rfl | rfl | rfl | rfl | rfl | hr8
  · go_wp2_with fail
    refine (c_amongL b _ [-1, 999, 1000] (-1) (1000) _ HS5.out.cur (by omega) (by simp) (by simp) (by intro x hx; simp at hx; omega)).mono ?_
    rintro e w6 ⟨q, rfl, q0, q1, hc, hk1⟩
    have HS6 := Lib.hid (HS5.out.draw hc hk1)
    clear hc hk1
    obtain ⟨y, hy⟩ : ∃ y, T[i]? = some y := ⟨_, List.getElem?_eq_getElem hiT⟩
    obtain ⟨c0, c1, c2⟩ := HS6.out.cellT hy
    have f6 := HS6.out.ownT.frozenAt (i * 3)
    obtain ⟨T', hT', HT'⟩ := HS6.out.setTex (j := 0) (x := q) hiT (by omega)
    go_upto_region 40 with fail
    obtain ⟨wz, hwz⟩ : ∃ W, W = w6.setCell ⟨g, i * 3, none⟩ (.int .i64 q) := ⟨_, rfl⟩
    rw [← hwz]
    obtain ⟨ta9, tc9, T9, la9, lc9, L9, hT9, hL9, HZ⟩ : ∃ (ta : Option Addr) (tc : Nat) (T : List TowerT) (la : Option Addr) (lc : Nat) (L : List LinkT), T.length ≤ 17 ∧ L.length ≤ 41 ∧ Hid (NX b w.heap.size (w.heap.size + 1) bo w ta tc T la lc L (k + 5900) wz) := by
      rw [hwz]
      exact ⟨_, tc, T', la, lc, L, by omega, by omega, HT'.mono (by omega)⟩
    clear hwz
    have y0 := blk_cell HZ.out.box (j := 0) (v := .slice ta9 T9.length tc9) rfl
    have y1 := blk_cell HZ.out.box (j := 1) (v := .slice la9 L9.length lc9) rfl
    have z0 := blk_cell HZ.out.res (j := 0) (v := .slice none 0 0) rfl
    have z1 := blk_cell HZ.out.res (j := 1) (v := .slice none 0 0) rfl
    have f0 := blk_free HZ.out.res 0
    have f1 := blk_free HZ.out.res 1
    go_wp2
    obtain ⟨w9, hw9⟩ : ∃ W, W = (wz.setCell ⟨w.heap.size, 0, none⟩ (.slice ta9 T9.length tc9)).setCell ⟨w.heap.size, 1, none⟩ (.slice la9 L9.length lc9) := ⟨_, rfl⟩
    rw [← hw9]
    obtain ⟨g2, hO, hC, hK⟩ := HZ.out.fin hw9
    have x0 := blk_cell g2 (j := 0) (v := .slice ta9 T9.length tc9) rfl
    have x1 := blk_cell g2 (j := 1) (v := .slice la9 L9.length lc9) rfl
    refine bodyPost_ret (v := .agg #[.slice ta9 T9.length tc9, .slice la9 L9.length lc9]) (by simp [results, Tryz.results54, go_sem, x0, x1]) rfl ⟨ta9, tc9, T9, la9, lc9, L9, rfl, hO, by omega, hT9, hL9, hC.mono (by omega), hK⟩
  · go_wp2_with fail
    refine (c_amongL b _ [-1, 999, 1000] (-1) (1000) _ HS5.out.cur (by omega) (by simp) (by simp) (by intro x hx; simp at hx; omega)).mono ?_
    rintro e w6 ⟨q, rfl, q0, q1, hc, hk1⟩
    have HS6 := Lib.hid (HS5.out.draw hc hk1)
    clear hc hk1
    obtain ⟨y, hy⟩ : ∃ y, T[i]? = some y := ⟨_, List.getElem?_eq_getElem hiT⟩
    obtain ⟨c0, c1, c2⟩ := HS6.out.cellT hy
    have f6 := HS6.out.ownT.frozenAt (i * 3 + 1)
    obtain ⟨T', hT', HT'⟩ := HS6.out.setTex (j := 1) (x := q) hiT (by omega)
    go_upto_region 40 with fail
    obtain ⟨wz, hwz⟩ : ∃ W, W = w6.setCell ⟨g, i * 3 + 1, none⟩ (.int .i64 q) := ⟨_, rfl⟩
    rw [← hwz]
    obtain ⟨ta9, tc9, T9, la9, lc9, L9, hT9, hL9, HZ⟩ : ∃ (ta : Option Addr) (tc : Nat) (T : List TowerT) (la : Option Addr) (lc : Nat) (L : List LinkT), T.length ≤ 17 ∧ L.length ≤ 41 ∧ Hid (NX b w.heap.size (w.heap.size + 1) bo w ta tc T la lc L (k + 5900) wz) := by
      rw [hwz]
      exact ⟨_, tc, T', la, lc, L, by omega, by omega, HT'.mono (by omega)⟩
    clear hwz
    have y0 := blk_cell HZ.out.box (j := 0) (v := .slice ta9 T9.length tc9) rfl
    have y1 := blk_cell HZ.out.box (j := 1) (v := .slice la9 L9.length lc9) rfl
    have z0 := blk_cell HZ.out.res (j := 0) (v := .slice none 0 0) rfl
    have z1 := blk_cell HZ.out.res (j := 1) (v := .slice none 0 0) rfl
    have f0 := blk_free HZ.out.res 0
    have f1 := blk_free HZ.out.res 1
    go_wp2
    obtain ⟨w9, hw9⟩ : ∃ W, W = (wz.setCell ⟨w.heap.size, 0, none⟩ (.slice ta9 T9.length tc9)).setCell ⟨w.heap.size, 1, none⟩ (.slice la9 L9.length lc9) := ⟨_, rfl⟩
    rw [← hw9]
    obtain ⟨g2, hO, hC, hK⟩ := HZ.out.fin hw9
    have x0 := blk_cell g2 (j := 0) (v := .slice ta9 T9.length tc9) rfl
    have x1 := blk_cell g2 (j := 1) (v := .slice la9 L9.length lc9) rfl
    refine bodyPost_ret (v := .agg #[.slice ta9 T9.length tc9, .slice la9 L9.length lc9]) (by simp [results, Tryz.results54, go_sem, x0, x1]) rfl ⟨ta9, tc9, T9, la9, lc9, L9, rfl, hO, by omega, hT9, hL9, hC.mono (by omega), hK⟩
  · go_wp2_with fail
    refine (c_amongL b _ [-1, 500, 501] (-1) (501) _ HS5.out.cur (by omega) (by simp) (by simp) (by intro x hx; simp at hx; omega)).mono ?_
    rintro e w6 ⟨q, rfl, q0, q1, hc, hk1⟩
    have HS6 := Lib.hid (HS5.out.draw hc hk1)
    clear hc hk1
    obtain ⟨y, hy⟩ : ∃ y, T[i]? = some y := ⟨_, List.getElem?_eq_getElem hiT⟩
    obtain ⟨c0, c1, c2⟩ := HS6.out.cellT hy
    have f6 := HS6.out.ownT.frozenAt (i * 3 + 2)
    obtain ⟨T', hT', HT'⟩ := HS6.out.setTex (j := 2) (x := q) hiT (by omega)
    go_upto_region 40 with fail
    obtain ⟨wz, hwz⟩ : ∃ W, W = w6.setCell ⟨g, i * 3 + 2, none⟩ (.int .i64 q) := ⟨_, rfl⟩
    rw [← hwz]
    obtain ⟨ta9, tc9, T9, la9, lc9, L9, hT9, hL9, HZ⟩ : ∃ (ta : Option Addr) (tc : Nat) (T : List TowerT) (la : Option Addr) (lc : Nat) (L : List LinkT), T.length ≤ 17 ∧ L.length ≤ 41 ∧ Hid (NX b w.heap.size (w.heap.size + 1) bo w ta tc T la lc L (k + 5900) wz) := by
      rw [hwz]
      exact ⟨_, tc, T', la, lc, L, by omega, by omega, HT'.mono (by omega)⟩
    clear hwz
    have y0 := blk_cell HZ.out.box (j := 0) (v := .slice ta9 T9.length tc9) rfl
    have y1 := blk_cell HZ.out.box (j := 1) (v := .slice la9 L9.length lc9) rfl
    have z0 := blk_cell HZ.out.res (j := 0) (v := .slice none 0 0) rfl
    have z1 := blk_cell HZ.out.res (j := 1) (v := .slice none 0 0) rfl
    have f0 := blk_free HZ.out.res 0
    have f1 := blk_free HZ.out.res 1
    go_wp2
    obtain ⟨w9, hw9⟩ : ∃ W, W = (wz.setCell ⟨w.heap.size, 0, none⟩ (.slice ta9 T9.length tc9)).setCell ⟨w.heap.size, 1, none⟩ (.slice la9 L9.length lc9) := ⟨_, rfl⟩
    rw [← hw9]
    obtain ⟨g2, hO, hC, hK⟩ := HZ.out.fin hw9
    have x0 := blk_cell g2 (j := 0) (v := .slice ta9 T9.length tc9) rfl
    have x1 := blk_cell g2 (j := 1) (v := .slice la9 L9.length lc9) rfl
    refine bodyPost_ret (v := .agg #[.slice ta9 T9.length tc9, .slice la9 L9.length lc9]) (by simp [results, Tryz.results54, go_sem, x0, x1]) rfl ⟨ta9, tc9, T9, la9, lc9, L9, rfl, hO, by omega, hT9, hL9, hC.mono (by omega), hK⟩
  · have e0 := blk_cell HS5.out.box (j := 0) (v := .slice (some ⟨g, 0, none⟩) T.length tc) rfl
    have e1 := blk_free HS5.out.box 0
    have HT' := HS5.out.pushT (T' := []) (ta' := none) (tc' := 0) (World.ownsRow_nil _ _ _ _) (World.grownBy.refl _ _)
    go_upto_region 40 with fail
    obtain ⟨wz, hwz⟩ : ∃ W, W = w5.setCell ⟨bo, 0, none⟩ (.slice none 0 0) := ⟨_, rfl⟩
    rw [← hwz]
    obtain ⟨ta9, tc9, T9, la9, lc9, L9, hT9, hL9, HZ⟩ : ∃ (ta : Option Addr) (tc : Nat) (T : List TowerT) (la : Option Addr) (lc : Nat) (L : List LinkT), T.length ≤ 17 ∧ L.length ≤ 41 ∧ Hid (NX b w.heap.size (w.heap.size + 1) bo w ta tc T la lc L (k + 5900) wz) := by
      rw [hwz]
      exact ⟨none, 0, [], la, lc, L, by simp, by omega, HT'.mono (by omega)⟩
    clear hwz
    have y0 := blk_cell HZ.out.box (j := 0) (v := .slice ta9 T9.length tc9) rfl
    have y1 := blk_cell HZ.out.box (j := 1) (v := .slice la9 L9.length lc9) rfl
    have z0 := blk_cell HZ.out.res (j := 0) (v := .slice none 0 0) rfl
    have z1 := blk_cell HZ.out.res (j := 1) (v := .slice none 0 0) rfl
    have f0 := blk_free HZ.out.res 0
    have f1 := blk_free HZ.out.res 1
    go_wp2
    obtain ⟨w9, hw9⟩ : ∃ W, W = (wz.setCell ⟨w.heap.size, 0, none⟩ (.slice ta9 T9.length tc9)).setCell ⟨w.heap.size, 1, none⟩ (.slice la9 L9.length lc9) := ⟨_, rfl⟩
    rw [← hw9]
    obtain ⟨g2, hO, hC, hK⟩ := HZ.out.fin hw9
    have x0 := blk_cell g2 (j := 0) (v := .slice ta9 T9.length tc9) rfl
    have x1 := blk_cell g2 (j := 1) (v := .slice la9 L9.length lc9) rfl
    refine bodyPost_ret (v := .agg #[.slice ta9 T9.length tc9, .slice la9 L9.length lc9]) (by simp [results, Tryz.results54, go_sem, x0, x1]) rfl ⟨ta9, tc9, T9, la9, lc9, L9, rfl, hO, by omega, hT9, hL9, hC.mono (by omega), hK⟩
  · go_wp2_with fail
    refine (c_pick b _ 2 w5 HS5.out.cur (by omega) (by omega)).mono ?_
    rintro e w6 ⟨m0, rfl, m00, m01, hc, hk1⟩
    have HS6 := Lib.hid (HS5.out.draw hc hk1)
    obtain ⟨m, hm⟩ : ∃ m : Int, m = 16 + m0 := ⟨_, rfl⟩
    have hm0 : 16 ≤ m := by omega
    have hm1 : m ≤ 17 := by omega
    have HM := Lib.hid hm
    clear hc hk1 HS5 hm
    go_upto_region 14 with fail
    rw [← HM.out]
    clear HM m00 m01
    go_loopg [] 20 (fun gg wr => ∃ (ta : Option Addr) (tc : Nat) (T : List TowerT), 0 < T.length ∧ (T.length : Int) ≤ m ∧ m ≤ T.length + gg ∧ Hid (NX b w.heap.size (w.heap.size + 1) bo w ta tc T la lc L (k + 5100) wr))
    case atStart => exact ⟨_, tc, T, by omega, by omega, by omega, HS6.out.mono (by omega)⟩
    case round =>
      clear HS6 hiI hiT
      obtain ⟨ta, tc, T, len0, len1, len2, HS1⟩ := hrel
      have e0 := blk_cell HS1.out.box (j := 0) (v := .slice ta T.length tc) rfl
      by_cases hlt : (T.length : Int) < m
      · go_upto_region 15 with fail
        clear e0
        obtain ⟨g, rfl, hg3, hg4⟩ := HS1.out.atT len0
        obtain ⟨w20, hwd⟩ : ∃ W, W = wr.drew := ⟨_, rfl⟩
        have HS20 : Hid (NX b w.heap.size (w.heap.size + 1) bo w (some ⟨g, 0, none⟩) tc T la lc L (k + 5100) w20) := by unfold Hid; rw [hwd]; exact HS1.out.ext (Ext.drew _)
        obtain ⟨⟨y1, y2, y3⟩, hy⟩ : ∃ y, T[0]? = some y := ⟨_, List.getElem?_eq_getElem len0⟩
        obtain ⟨c0, c1, c2⟩ := HS20.out.cellT hy
        simp only [Nat.zero_mul, Nat.zero_add] at c0 c1 c2
        have hlI : (0 : Int) < (T.length : Int) := by omega
        refine wp_region_E (S := fun W => W.cell? ⟨bo, 0, none⟩ = some (.slice (some ⟨g, 0, none⟩) T.length tc)) (by kernel_rfl) ?_
        rw [← hwd]
        clear hwd HS1 hy
        have hSS : (fun W : World => W.cell? ⟨bo, 0, none⟩ = some (.slice (some ⟨g, 0, none⟩) T.length tc)) w20 := blk_cell HS20.out.box (j := 0) (v := .slice (some ⟨g, 0, none⟩) T.length tc) rfl
        refine wpAnyE_take (i := 0) (v := ?_) rfl (by kernel_rfl) (by kernel_rfl) (by kernel_rfl) (fun _ _ _ h => h) (Or.inl ⟨by rfl, ?_⟩) (by assumption) ?_
        rotate_left 1
        focus (intro W hSW; (try dsimp only at hSW); go_simp; try with_reducible rfl)
        (try simp only [Act.put, List.setIfInBounds_toArray, List.set_cons_zero, List.set_cons_succ])
        refine wpAnyE_take (i := 1) (v := ?_) rfl (by kernel_rfl) (by kernel_rfl) (by kernel_rfl) (fun _ _ _ h => h) (Or.inl ⟨by rfl, ?_⟩) (by assumption) ?_
        rotate_left 1
        focus (intro W hSW; (try dsimp only at hSW); go_simp; try with_reducible rfl)
        (try simp only [Act.put, List.setIfInBounds_toArray, List.set_cons_zero, List.set_cons_succ])
        refine wpAnyE_take (i := 2) (v := ?_) rfl (by kernel_rfl) (by kernel_rfl) (by kernel_rfl) (fun _ _ _ h => h) (Or.inl ⟨by rfl, ?_⟩) (by assumption) ?_
        rotate_left 1
        focus (intro W hSW; (try dsimp only at hSW); go_simp; try with_reducible rfl)
        (try simp only [Act.put, List.setIfInBounds_toArray, List.set_cons_zero, List.set_cons_succ])
        refine wpAnyE_take (i := 3) (v := ?_) rfl (by kernel_rfl) (by kernel_rfl) (by kernel_rfl) (fun _ _ _ h => h) (Or.inl ⟨by rfl, ?_⟩) (by assumption) ?_
        rotate_left 1
        focus (intro W hSW; (try dsimp only at hSW); go_simp; try with_reducible rfl)
        (try simp only [Act.put, List.setIfInBounds_toArray, List.set_cons_zero, List.set_cons_succ])
        refine wpAnyE_take (i := 4) (v := ?_) rfl (by kernel_rfl) (by kernel_rfl) (by kernel_rfl) (fun _ _ _ h => h) (Or.inl ⟨by rfl, ?_⟩) (by assumption) ?_
        rotate_left 1
        focus (intro W hSW; (try dsimp only at hSW); go_simp; try with_reducible rfl)
        (try simp only [Act.put, List.setIfInBounds_toArray, List.set_cons_zero, List.set_cons_succ])
        refine wpAnyE_one (i := 5) (by kernel_rfl) rfl (fun K hK => ?_)
        have HK := Lib.hid hK
        clear hK
        go_simp
        clear hSS c0 c1 c2
        have hSS : (fun W : World => W.cell? ⟨bo, 0, none⟩ = some (.slice (some ⟨g, 0, none⟩) T.length tc)) w20 := blk_cell HS20.out.box (j := 0) (v := .slice (some ⟨g, 0, none⟩) T.length tc) rfl
        refine HK.out _ _ (fun _ => hSS) ?_
        clear HK
        refine wpAnyE_one (i := 6) (by kernel_rfl) rfl (fun K hK => ?_)
        have HK := Lib.hid hK
        clear hK
        go_simp
        obtain ⟨w21, hw9⟩ : ∃ W, W = w20.alloc (.cells #[.int .i64 y1, .int .i64 y2, .int .i64 y3] 54) := ⟨_, rfl⟩
        rw [← hw9]
        obtain ⟨q9, hp9⟩ : ∃ p, p = w20.heap.size := ⟨_, rfl⟩
        rw [← hp9]
        have hx9 : Ext w20 w21 := by rw [hw9]; exact Ext.alloc _ _
        have HC9 : Hid (∀ j u, ([.int .i64 y1, .int .i64 y2, .int .i64 y3] : List Value)[j]? = some u → w21.cell? ((⟨q9, 0, none⟩ : Addr).add j) = some u) := by unfold Hid; rw [hw9, hp9]; exact new_cells3n _ _ _ _ _
        have HS21 := Lib.hid (HS20.out.ext hx9)
        clear hw9 hp9 hx9 hSS HS20
        have hSS : (fun W : World => W.cell? ⟨bo, 0, none⟩ = some (.slice (some ⟨g, 0, none⟩) T.length tc)) w21 := blk_cell HS21.out.box (j := 0) (v := .slice (some ⟨g, 0, none⟩) T.length tc) rfl
        refine HK.out _ _ (fun _ => hSS) ?_
        clear HK
        refine wpAnyE_one (i := 7) (by kernel_rfl) rfl (fun K hK => ?_)
        have HK := Lib.hid hK
        clear hK
        refine step_append_own rfl (.tmp 61) (.tmp 66) 24 rfl (w.heap.size + 1) 54 t0 (.agg #[.int .i64 0, .int .i64 0, .int .i64 0]) 3 24 Tryz.underlying24 ht0 htz0 htz1 htz2 rfl (by decide) (.slice (some ⟨g, 0, none⟩) T.length tc) T.length (T.flatMap encTower) (by simp [Act.eval, Act.put]) HS21.out.ownT ⟨q9, 0, none⟩ 1 1 [.int .i64 y1, .int .i64 y2, .int .i64 y3] (by simp [Act.eval, Act.put]) rfl HC9.out (by intro u hu; simp at hu; rcases hu with rfl | rfl | rfl <;> rfl) (by unfold maxLen; omega) (by omega) HS21.out.lbw ?_
        intro v6 w6 hown6 hgr6
        obtain ⟨a8, c8, rfl, _, _, _⟩ := own_form hown6
        have hb6 := grown_blk hgr6 HS21.out.box (own_nbox HS21.out.ownT HS21.out.box (by decide))
        have hl9 : (T ++ [((y1, y2, y3) : TowerT)]).length = T.length + 1 := by simp
        have hp9 := HS21.out.pushT (T' := T ++ [(y1, y2, y3)]) (ta' := a8) (tc' := c8) (by rw [hl9, flat_snocT]; exact hown6) hgr6
        rw [hl9] at hp9
        have HS90 := Lib.hid hp9
        clear hSS
        have hSS : (fun W : World => W.cell? ⟨bo, 0, none⟩ = some (.slice (some ⟨g, 0, none⟩) T.length tc)) w6 := blk_cell hb6 (j := 0) (v := .slice (some ⟨g, 0, none⟩) T.length tc) rfl
        clear hown6 hgr6 hp9 hl9 HC9
        refine HK.out _ _ (fun _ => hSS) ?_
        clear HK
        refine wpAnyE_take (i := 8) (v := ?_) rfl (by kernel_rfl) (by kernel_rfl) (by kernel_rfl) (fun _ _ _ h => h) (Or.inl ⟨by rfl, ?_⟩) (by assumption) ?_
        rotate_left 1
        focus (intro W hSW; (try dsimp only at hSW); go_simp; try with_reducible rfl)
        (try simp only [Act.put, List.setIfInBounds_toArray, List.set_cons_zero, List.set_cons_succ])
        have e61 := blk_cell hb6 (j := 0) (v := .slice (some ⟨g, 0, none⟩) T.length tc) rfl
        have f61 := blk_free hb6 0
        clear hSS hb6
        refine wpAnyE_one (i := 9) (by kernel_rfl) rfl (fun K hK => ?_)
        have HK := Lib.hid hK
        clear hK
        go_simp
        refine HK.out _ _ (fun hn => absurd ?_ hn) (wpAnyE_done (by kernel_rfl) ?_ _)
        · intro oj hoj q hq hne
          cases hoj
          revert hne
          revert q
          decide
        clear e61 f61 HK
        go_wp2
        go_roundg (m - (T.length + 1)).toNat
        case measure => omega
        case rel => exact ⟨a8, c8, T ++ [(y1, y2, y3)], by simp, by simp; omega, by simp; omega, HS90.out⟩
      · go_upto_region 40 with fail
        obtain ⟨wz, hwz⟩ : ∃ W, W = wr := ⟨_, rfl⟩
        rw [← hwz]
        obtain ⟨ta9, tc9, T9, la9, lc9, L9, hT9, hL9, HZ⟩ : ∃ (ta : Option Addr) (tc : Nat) (T : List TowerT) (la : Option Addr) (lc : Nat) (L : List LinkT), T.length ≤ 17 ∧ L.length ≤ 41 ∧ Hid (NX b w.heap.size (w.heap.size + 1) bo w ta tc T la lc L (k + 5900) wz) := by
          rw [hwz]
          exact ⟨ta, tc, T, la, lc, L, by omega, by omega, HS1.out.mono (by omega)⟩
        clear hwz
        have y0 := blk_cell HZ.out.box (j := 0) (v := .slice ta9 T9.length tc9) rfl
        have y1 := blk_cell HZ.out.box (j := 1) (v := .slice la9 L9.length lc9) rfl
        have z0 := blk_cell HZ.out.res (j := 0) (v := .slice none 0 0) rfl
        have z1 := blk_cell HZ.out.res (j := 1) (v := .slice none 0 0) rfl
        have f0 := blk_free HZ.out.res 0
        have f1 := blk_free HZ.out.res 1
        go_wp2
        obtain ⟨w9, hw9⟩ : ∃ W, W = (wz.setCell ⟨w.heap.size, 0, none⟩ (.slice ta9 T9.length tc9)).setCell ⟨w.heap.size, 1, none⟩ (.slice la9 L9.length lc9) := ⟨_, rfl⟩
        rw [← hw9]
        obtain ⟨g2, hO, hC, hK⟩ := HZ.out.fin hw9
        have x0 := blk_cell g2 (j := 0) (v := .slice ta9 T9.length tc9) rfl
        have x1 := blk_cell g2 (j := 1) (v := .slice la9 L9.length lc9) rfl
        refine bodyPost_ret (v := .agg #[.slice ta9 T9.length tc9, .slice la9 L9.length lc9]) (by simp [results, Tryz.results54, go_sem, x0, x1]) rfl ⟨ta9, tc9, T9, la9, lc9, L9, rfl, hO, by omega, hT9, hL9, hC.mono (by omega), hK⟩
  · have e1 := blk_cell HS5.out.box (j := 1) (v := .slice la L.length lc) rfl
    by_cases hpos : 0 < L.length
    · have hposI : (0 : Int) < (L.length : Int) := by omega
      obtain ⟨h, rfl, hh1, hh2⟩ := HS5.out.atL hpos
      go_upto_region 20 with fail
      clear e1
      obtain ⟨w30, hwd⟩ : ∃ W, W = w5.drew := ⟨_, rfl⟩
      have HS30 : Hid (NX b w.heap.size (w.heap.size + 1) bo w (some ⟨g, 0, none⟩) tc T (some ⟨h, 0, none⟩) lc L (k + 5000 + 2 + 2) w30) := by unfold Hid; rw [hwd]; exact HS5.out.ext (Ext.drew _)
      refine wp_region_E (S := fun W => W.cell? ⟨bo, 1, none⟩ = some (.slice (some ⟨h, 0, none⟩) L.length lc)) (by kernel_rfl) ?_
      rw [← hwd]
      clear hwd HS5 r1
      have hSS : (fun W : World => W.cell? ⟨bo, 1, none⟩ = some (.slice (some ⟨h, 0, none⟩) L.length lc)) w30 := blk_cell HS30.out.box (j := 1) (v := .slice (some ⟨h, 0, none⟩) L.length lc) rfl
      refine wpAnyE_take (i := 0) (v := ?_) rfl (by kernel_rfl) (by kernel_rfl) (by kernel_rfl) (fun _ _ _ h => h) (Or.inl ⟨by rfl, ?_⟩) (by assumption) ?_
      rotate_left 1
      focus (intro W hSW; (try dsimp only at hSW); go_simp; try with_reducible rfl)
      (try simp only [Act.put, List.setIfInBounds_toArray, List.set_cons_zero, List.set_cons_succ])
      refine wpAnyE_take (i := 1) (v := ?_) rfl (by kernel_rfl) (by kernel_rfl) (by kernel_rfl) (fun _ _ _ h => h) (Or.inl ⟨by rfl, ?_⟩) (by assumption) ?_
      rotate_left 1
      focus (intro W hSW; (try dsimp only at hSW); go_simp; try with_reducible rfl)
      (try simp only [Act.put, List.setIfInBounds_toArray, List.set_cons_zero, List.set_cons_succ])
      refine wpAnyE_take (i := 2) (v := ?_) rfl (by kernel_rfl) (by kernel_rfl) (by kernel_rfl) (fun _ _ _ h => h) (Or.inl ⟨by rfl, ?_⟩) (by assumption) ?_
      rotate_left 1
      focus (intro W hSW; (try dsimp only at hSW); go_simp; try with_reducible rfl)
      (try simp only [Act.put, List.setIfInBounds_toArray, List.set_cons_zero, List.set_cons_succ])
      refine wpAnyE_take (i := 3) (v := ?_) rfl (by kernel_rfl) (by kernel_rfl) (by kernel_rfl) (fun _ _ _ h => h) (Or.inl ⟨by rfl, ?_⟩) (by assumption) ?_
      rotate_left 1
      focus (intro W hSW; (try dsimp only at hSW); go_simp; try with_reducible rfl)
      (try simp only [Act.put, List.setIfInBounds_toArray, List.set_cons_zero, List.set_cons_succ])
      refine wpAnyE_one (i := 4) (by kernel_rfl) rfl (fun K hK => ?_)
      have HK := Lib.hid hK
      clear hK
      go_simp
      refine (c_pick b _ L.length w30 HS30.out.cur (by omega) (by omega)).mono ?_
      rintro e w31 ⟨rj, rfl, p0rj, p1rj, hc, hk1⟩
      have HS31 := Lib.hid (HS30.out.draw hc hk1)
      clear hc hk1 hSS HS30
      have hSS : (fun W : World => W.cell? ⟨bo, 1, none⟩ = some (.slice (some ⟨h, 0, none⟩) L.length lc)) w31 := blk_cell HS31.out.box (j := 1) (v := .slice (some ⟨h, 0, none⟩) L.length lc) rfl
      refine HK.out _ _ (fun _ => hSS) ?_
      clear HK
      obtain ⟨j, rfl⟩ : ∃ j : Nat, rj = j := ⟨rj.toNat, by omega⟩
      have hjL : j < L.length := by omega
      have hjI : (j : Int) < (L.length : Int) := by omega
      refine wpAnyE_take (i := 5) (v := ?_) rfl (by kernel_rfl) (by kernel_rfl) (by kernel_rfl) (fun _ _ _ h => h) (Or.inl ⟨by rfl, ?_⟩) (by assumption) ?_
      rotate_left 1
      focus (intro W hSW; (try dsimp only at hSW); go_simp; try with_reducible rfl)
      (try simp only [Act.put, List.setIfInBounds_toArray, List.set_cons_zero, List.set_cons_succ])
      refine wpAnyE_take (i := 6) (v := ?_) rfl (by kernel_rfl) (by kernel_rfl) (by kernel_rfl) (fun _ _ _ h => h) (Or.inl ⟨by rfl, ?_⟩) (by assumption) ?_
      rotate_left 1
      focus (intro W hSW; (try dsimp only at hSW); go_simp; try with_reducible rfl)
      (try simp only [Act.put, List.setIfInBounds_toArray, List.set_cons_zero, List.set_cons_succ])
      clear hSS
      refine wpAnyE_done (by kernel_rfl) ?_ _
      go_wp2_with fail
      refine (c_pick b _ 4 w31 HS31.out.cur (by omega) (by omega)).mono ?_
      rintro e w7 ⟨r4, rfl, r40, r41, hc, hk1⟩
      have HS7 := Lib.hid (HS31.out.draw hc hk1)
      clear hc hk1 HS31
      obtain ⟨⟨y1, y2, y3⟩, hy⟩ : ∃ y, L[j]? = some y := ⟨_, List.getElem?_eq_getElem hjL⟩
      have HY := Lib.hid hy
      obtain ⟨c0, c1, c2⟩ := HS7.out.cellL hy
      simp only at c0 c1 c2
      clear hy
      rcases (show r4 = 0 ∨ r4 = 1 ∨ r4 = 2 ∨ r4 = 3 by omega) with rfl | rfl | rfl | rfl
      · go_wp2_with fail
        refine (c_amongL b _ [-1, y2] (min (-1) y2) (max (-1) y2) _ HS7.out.cur (by omega) (by simp) (by simp) (by intro x hx; simp at hx; omega)).mono ?_
        rintro e w8 ⟨q, rfl, q0, q1, hc, hk1⟩
        have HS8 := Lib.hid (HS7.out.draw hc hk1)
        clear hc hk1 c0 c1 c2
        obtain ⟨c0, c1, c2⟩ := HS8.out.cellL HY.out
        simp only at c0 c1 c2
        have f8 := HS8.out.ownL.frozenAt (j * 3)
        obtain ⟨L', hL', HL'⟩ := HS8.out.setLex (j := 0) (x := q) hjL (by omega)
        go_upto_region 40 with fail
        obtain ⟨wz, hwz⟩ : ∃ W, W = w8.setCell ⟨h, j * 3, none⟩ (.int .i64 q) := ⟨_, rfl⟩
        rw [← hwz]
        obtain ⟨ta9, tc9, T9, la9, lc9, L9, hT9, hL9, HZ⟩ : ∃ (ta : Option Addr) (tc : Nat) (T : List TowerT) (la : Option Addr) (lc : Nat) (L : List LinkT), T.length ≤ 17 ∧ L.length ≤ 41 ∧ Hid (NX b w.heap.size (w.heap.size + 1) bo w ta tc T la lc L (k + 5900) wz) := by
          rw [hwz]
          exact ⟨_, tc, T, _, lc, L', by omega, by omega, HL'.mono (by omega)⟩
        clear hwz
        have y0 := blk_cell HZ.out.box (j := 0) (v := .slice ta9 T9.length tc9) rfl
        have y1 := blk_cell HZ.out.box (j := 1) (v := .slice la9 L9.length lc9) rfl
        have z0 := blk_cell HZ.out.res (j := 0) (v := .slice none 0 0) rfl
        have z1 := blk_cell HZ.out.res (j := 1) (v := .slice none 0 0) rfl
        have f0 := blk_free HZ.out.res 0
        have f1 := blk_free HZ.out.res 1
        go_wp2
        obtain ⟨w9, hw9⟩ : ∃ W, W = (wz.setCell ⟨w.heap.size, 0, none⟩ (.slice ta9 T9.length tc9)).setCell ⟨w.heap.size, 1, none⟩ (.slice la9 L9.length lc9) := ⟨_, rfl⟩
        rw [← hw9]
        obtain ⟨g2, hO, hC, hK⟩ := HZ.out.fin hw9
        have x0 := blk_cell g2 (j := 0) (v := .slice ta9 T9.length tc9) rfl
        have x1 := blk_cell g2 (j := 1) (v := .slice la9 L9.length lc9) rfl
        refine bodyPost_ret (v := .agg #[.slice ta9 T9.length tc9, .slice la9 L9.length lc9]) (by simp [results, Tryz.results54, go_sem, x0, x1]) rfl ⟨ta9, tc9, T9, la9, lc9, L9, rfl, hO, by omega, hT9, hL9, hC.mono (by omega), hK⟩
      · go_upto_region 25 with fail
        obtain ⟨w40, hwd⟩ : ∃ W, W = w7.drew := ⟨_, rfl⟩
        have HS40 : Hid (NX b w.heap.size (w.heap.size + 1) bo w (some ⟨g, 0, none⟩) tc T (some ⟨h, 0, none⟩) lc L (k + 5000 + 2 + 2 + 2 + 2) w40) := by unfold Hid; rw [hwd]; exact HS7.out.ext (Ext.drew _)
        refine wp_region_E (S := fun W => W.cell? ⟨bo, 0, none⟩ = some (.slice (some ⟨g, 0, none⟩) T.length tc)) (by kernel_rfl) ?_
        rw [← hwd]
        clear hwd HS7 c0 c1 c2 r40 r41
        have hSS : (fun W : World => W.cell? ⟨bo, 0, none⟩ = some (.slice (some ⟨g, 0, none⟩) T.length tc)) w40 := blk_cell HS40.out.box (j := 0) (v := .slice (some ⟨g, 0, none⟩) T.length tc) rfl
        refine wpAnyE_take (i := 0) (v := ?_) rfl (by kernel_rfl) (by kernel_rfl) (by kernel_rfl) (fun _ _ _ h => h) (Or.inl ⟨by rfl, ?_⟩) (by assumption) ?_
        rotate_left 1
        focus (intro W hSW; (try dsimp only at hSW); go_simp; try with_reducible rfl)
        (try simp only [Act.put, List.setIfInBounds_toArray, List.set_cons_zero, List.set_cons_succ])
        refine wpAnyE_take (i := 1) (v := ?_) rfl (by kernel_rfl) (by kernel_rfl) (by kernel_rfl) (fun _ _ _ h => h) (Or.inl ⟨by rfl, ?_⟩) (by assumption) ?_
        rotate_left 1
        focus (intro W hSW; (try dsimp only at hSW); go_simp; try with_reducible rfl)
        (try simp only [Act.put, List.setIfInBounds_toArray, List.set_cons_zero, List.set_cons_succ])
        refine wpAnyE_take (i := 2) (v := ?_) rfl (by kernel_rfl) (by kernel_rfl) (by kernel_rfl) (fun _ _ _ h => h) (Or.inl ⟨by rfl, ?_⟩) (by assumption) ?_
        rotate_left 1
        focus (intro W hSW; (try dsimp only at hSW); go_simp; try with_reducible rfl)
        (try simp only [Act.put, List.setIfInBounds_toArray, List.set_cons_zero, List.set_cons_succ])
        refine wpAnyE_take (i := 3) (v := ?_) rfl (by kernel_rfl) (by kernel_rfl) (by kernel_rfl) (fun _ _ _ h => h) (Or.inl ⟨by rfl, ?_⟩) (by assumption) ?_
        rotate_left 1
        focus (intro W hSW; (try dsimp only at hSW); go_simp; try with_reducible rfl)
        (try simp only [Act.put, List.setIfInBounds_toArray, List.set_cons_zero, List.set_cons_succ])
        refine wpAnyE_take (i := 4) (v := ?_) rfl (by kernel_rfl) (by kernel_rfl) (by kernel_rfl) (fun _ _ _ h => h) (Or.inl ⟨by rfl, ?_⟩) (by assumption) ?_
        rotate_left 1
        focus (intro W hSW; (try dsimp only at hSW); go_simp; try with_reducible rfl)
        (try simp only [Act.put, List.setIfInBounds_toArray, List.set_cons_zero, List.set_cons_succ])
        refine wpAnyE_take (i := 6) (v := ?_) rfl (by kernel_rfl) (by kernel_rfl) (by kernel_rfl) (fun _ _ _ h => h) (Or.inl ⟨by rfl, ?_⟩) (by assumption) ?_
        rotate_left 1
        focus (intro W hSW; (try dsimp only at hSW); go_simp; try with_reducible rfl)
        (try simp only [Act.put, List.setIfInBounds_toArray, List.set_cons_zero, List.set_cons_succ])
        refine wpAnyE_take (i := 7) (v := ?_) rfl (by kernel_rfl) (by kernel_rfl) (by kernel_rfl) (fun _ _ _ h => h) (Or.inl ⟨by rfl, ?_⟩) (by assumption) ?_
        rotate_left 1
        focus (intro W hSW; (try dsimp only at hSW); go_simp; try with_reducible rfl)
        (try simp only [Act.put, List.setIfInBounds_toArray, List.set_cons_zero, List.set_cons_succ])
        refine wpAnyE_take (i := 8) (v := ?_) rfl (by kernel_rfl) (by kernel_rfl) (by kernel_rfl) (fun _ _ _ h => h) (Or.inl ⟨by rfl, ?_⟩) (by assumption) ?_
        rotate_left 1
        focus (intro W hSW; (try dsimp only at hSW); go_simp; try with_reducible rfl)
        (try simp only [Act.put, List.setIfInBounds_toArray, List.set_cons_zero, List.set_cons_succ])
        obtain ⟨c0, c1, c2⟩ := HS40.out.cellL HY.out
        simp only at c0 c1 c2
        refine wpAnyE_one (i := 5) (by kernel_rfl) rfl (fun K hK => ?_)
        have HK := Lib.hid hK
        clear hK
        go_simp
        clear hSS c0 c1 c2
        have hSS : (fun W : World => W.cell? ⟨bo, 0, none⟩ = some (.slice (some ⟨g, 0, none⟩) T.length tc)) w40 := blk_cell HS40.out.box (j := 0) (v := .slice (some ⟨g, 0, none⟩) T.length tc) rfl
        refine HK.out _ _ (fun _ => hSS) ?_
        clear HK
        refine wpAnyE_one (i := 9) (by kernel_rfl) rfl (fun K hK => ?_)
        have HK := Lib.hid hK
        clear hK
        go_simp
        obtain ⟨w41, hw9⟩ : ∃ W, W = w40.alloc (.cells #[.int .i64 y1, .int .i64 (T.length : Int)] 3) := ⟨_, rfl⟩
        rw [← hw9]
        obtain ⟨q1, hp9⟩ : ∃ p, p = w40.heap.size := ⟨_, rfl⟩
        rw [← hp9]
        have hx9 : Ext w40 w41 := by rw [hw9]; exact Ext.alloc _ _
        have HL1 : Hid (LitI w41 b q1 [y1, (T.length : Int)]) := by unfold Hid; rw [hw9, hp9]; exact LitI.new w40 b [y1, (T.length : Int)] HS40.out.blt (by simp)
        have HS41 := Lib.hid (HS40.out.ext hx9)
        clear hw9 hp9 hx9 hSS HS40
        have hSS : (fun W : World => W.cell? ⟨bo, 0, none⟩ = some (.slice (some ⟨g, 0, none⟩) T.length tc)) w41 := blk_cell HS41.out.box (j := 0) (v := .slice (some ⟨g, 0, none⟩) T.length tc) rfl
        refine HK.out _ _ (fun _ => hSS) ?_
        clear HK
        refine wpAnyE_one (i := 10) (by kernel_rfl) rfl (fun K hK => ?_)
        have HK := Lib.hid hK
        clear hK
        go_simp
        refine (c_amongP b _ q1 [y1, (T.length : Int)] (min y1 (T.length : Int)) (max y1 (T.length : Int)) w41 HS41.out.cur (by omega) HL1.out (by simp) (by simp) (by intro x hx; simp at hx; omega)).mono ?_
        rintro e w42 ⟨q, rfl, p0q, p1q, hc, hk1⟩
        have HS42 := Lib.hid (HS41.out.draw hc hk1)
        clear HL1
        clear hc hk1 hSS HS41
        have hSS : (fun W : World => W.cell? ⟨bo, 0, none⟩ = some (.slice (some ⟨g, 0, none⟩) T.length tc)) w42 := blk_cell HS42.out.box (j := 0) (v := .slice (some ⟨g, 0, none⟩) T.length tc) rfl
        refine HK.out _ _ (fun _ => hSS) ?_
        clear HK
        refine wpAnyE_take (i := 11) (v := ?_) rfl (by kernel_rfl) (by kernel_rfl) (by kernel_rfl) (fun _ _ _ h => h) (Or.inl ⟨by rfl, ?_⟩) (by assumption) ?_
        rotate_left 1
        focus (intro W hSW; (try dsimp only at hSW); go_simp; try with_reducible rfl)
        (try simp only [Act.put, List.setIfInBounds_toArray, List.set_cons_zero, List.set_cons_succ])
        refine wpAnyE_take (i := 12) (v := ?_) rfl (by kernel_rfl) (by kernel_rfl) (by kernel_rfl) (fun _ _ _ h => h) (Or.inl ⟨by rfl, ?_⟩) (by assumption) ?_
        rotate_left 1
        focus (intro W hSW; (try dsimp only at hSW); go_simp; try with_reducible rfl)
        (try simp only [Act.put, List.setIfInBounds_toArray, List.set_cons_zero, List.set_cons_succ])
        clear hSS
        obtain ⟨c0, c1, c2⟩ := HS42.out.cellL HY.out
        simp only at c0 c1 c2
        have f8 := HS42.out.ownL.frozenAt (j * 3 + 1)
        refine wpAnyE_one (i := 13) (by kernel_rfl) rfl (fun K hK => ?_)
        have HK := Lib.hid hK
        clear hK
        go_simp
        obtain ⟨L', hL', HL'⟩ := HS42.out.setLex (j := 1) (x := q) hjL (by omega)
        refine HK.out _ _ (fun _ => blk_cell HL'.box (j := 0) (v := .slice (some ⟨g, 0, none⟩) T.length tc) rfl) (wpAnyE_done (by kernel_rfl) ?_ _)
        clear HK c0 c1 c2
        go_upto_region 40 with fail
        obtain ⟨wz, hwz⟩ : ∃ W, W = w42.setCell ⟨h, j * 3 + 1, none⟩ (.int .i64 q) := ⟨_, rfl⟩
        rw [← hwz]
        obtain ⟨ta9, tc9, T9, la9, lc9, L9, hT9, hL9, HZ⟩ : ∃ (ta : Option Addr) (tc : Nat) (T : List TowerT) (la : Option Addr) (lc : Nat) (L : List LinkT), T.length ≤ 17 ∧ L.length ≤ 41 ∧ Hid (NX b w.heap.size (w.heap.size + 1) bo w ta tc T la lc L (k + 5900) wz) := by
          rw [hwz]
          exact ⟨_, tc, T, _, lc, L', by omega, by omega, HL'.mono (by omega)⟩
        clear hwz
        have y0 := blk_cell HZ.out.box (j := 0) (v := .slice ta9 T9.length tc9) rfl
        have y1 := blk_cell HZ.out.box (j := 1) (v := .slice la9 L9.length lc9) rfl
        have z0 := blk_cell HZ.out.res (j := 0) (v := .slice none 0 0) rfl
        have z1 := blk_cell HZ.out.res (j := 1) (v := .slice none 0 0) rfl
        have f0 := blk_free HZ.out.res 0
        have f1 := blk_free HZ.out.res 1
        go_wp2
        obtain ⟨w9, hw9⟩ : ∃ W, W = (wz.setCell ⟨w.heap.size, 0, none⟩ (.slice ta9 T9.length tc9)).setCell ⟨w.heap.size, 1, none⟩ (.slice la9 L9.length lc9) := ⟨_, rfl⟩
        rw [← hw9]
        obtain ⟨g2, hO, hC, hK⟩ := HZ.out.fin hw9
        have x0 := blk_cell g2 (j := 0) (v := .slice ta9 T9.length tc9) rfl
        have x1 := blk_cell g2 (j := 1) (v := .slice la9 L9.length lc9) rfl
        refine bodyPost_ret (v := .agg #[.slice ta9 T9.length tc9, .slice la9 L9.length lc9]) (by simp [results, Tryz.results54, go_sem, x0, x1]) rfl ⟨ta9, tc9, T9, la9, lc9, L9, rfl, hO, by omega, hT9, hL9, hC.mono (by omega), hK⟩
      · go_wp2_with fail
        refine (c_amongL b _ [0, 60, 61] 0 61 _ HS7.out.cur (by omega) (by simp) (by simp) (by intro x hx; simp at hx; omega)).mono ?_
        rintro e w8 ⟨q, rfl, q0, q1, hc, hk1⟩
        have HS8 := Lib.hid (HS7.out.draw hc hk1)
        clear hc hk1 c0 c1 c2
        obtain ⟨c0, c1, c2⟩ := HS8.out.cellL HY.out
        simp only at c0 c1 c2
        have f8 := HS8.out.ownL.frozenAt (j * 3 + 2)
        obtain ⟨L', hL', HL'⟩ := HS8.out.setLex (j := 2) (x := q) hjL (by omega)
        go_upto_region 40 with fail
        obtain ⟨wz, hwz⟩ : ∃ W, W = w8.setCell ⟨h, j * 3 + 2, none⟩ (.int .i64 q) := ⟨_, rfl⟩
        rw [← hwz]
        obtain ⟨ta9, tc9, T9, la9, lc9, L9, hT9, hL9, HZ⟩ : ∃ (ta : Option Addr) (tc : Nat) (T : List TowerT) (la : Option Addr) (lc : Nat) (L : List LinkT), T.length ≤ 17 ∧ L.length ≤ 41 ∧ Hid (NX b w.heap.size (w.heap.size + 1) bo w ta tc T la lc L (k + 5900) wz) := by
          rw [hwz]
          exact ⟨_, tc, T, _, lc, L', by omega, by omega, HL'.mono (by omega)⟩
        clear hwz
        have y0 := blk_cell HZ.out.box (j := 0) (v := .slice ta9 T9.length tc9) rfl
        have y1 := blk_cell HZ.out.box (j := 1) (v := .slice la9 L9.length lc9) rfl
        have z0 := blk_cell HZ.out.res (j := 0) (v := .slice none 0 0) rfl
        have z1 := blk_cell HZ.out.res (j := 1) (v := .slice none 0 0) rfl
        have f0 := blk_free HZ.out.res 0
        have f1 := blk_free HZ.out.res 1
        go_wp2
        obtain ⟨w9, hw9⟩ : ∃ W, W = (wz.setCell ⟨w.heap.size, 0, none⟩ (.slice ta9 T9.length tc9)).setCell ⟨w.heap.size, 1, none⟩ (.slice la9 L9.length lc9) := ⟨_, rfl⟩
        rw [← hw9]
        obtain ⟨g2, hO, hC, hK⟩ := HZ.out.fin hw9
        have x0 := blk_cell g2 (j := 0) (v := .slice ta9 T9.length tc9) rfl
        have x1 := blk_cell g2 (j := 1) (v := .slice la9 L9.length lc9) rfl
        refine bodyPost_ret (v := .agg #[.slice ta9 T9.length tc9, .slice la9 L9.length lc9]) (by simp [results, Tryz.results54, go_sem, x0, x1]) rfl ⟨ta9, tc9, T9, la9, lc9, L9, rfl, hO, by omega, hT9, hL9, hC.mono (by omega), hK⟩
      · go_upto_region 29 with fail
        obtain ⟨w20, hwd⟩ : ∃ W, W = w7.drew := ⟨_, rfl⟩
        have HS20 : Hid (NX b w.heap.size (w.heap.size + 1) bo w (some ⟨g, 0, none⟩) tc T (some ⟨h, 0, none⟩) lc L (k + 5000 + 2 + 2 + 2 + 2) w20) := by unfold Hid; rw [hwd]; exact HS7.out.ext (Ext.drew _)
        clear c0 c1 c2 HY
        obtain ⟨⟨y1, y2, y3⟩, hy⟩ : ∃ y, L[0]? = some y := ⟨_, List.getElem?_eq_getElem hpos⟩
        obtain ⟨c0, c1, c2⟩ := HS20.out.cellL hy
        simp only [Nat.zero_mul, Nat.zero_add] at c0 c1 c2
        refine wp_region_E (S := fun W => W.cell? ⟨bo, 1, none⟩ = some (.slice (some ⟨h, 0, none⟩) L.length lc)) (by kernel_rfl) ?_
        rw [← hwd]
        clear hwd HS7 hy r40 r41
        have hSS : (fun W : World => W.cell? ⟨bo, 1, none⟩ = some (.slice (some ⟨h, 0, none⟩) L.length lc)) w20 := blk_cell HS20.out.box (j := 1) (v := .slice (some ⟨h, 0, none⟩) L.length lc) rfl
        refine wpAnyE_take (i := 0) (v := ?_) rfl (by kernel_rfl) (by kernel_rfl) (by kernel_rfl) (fun _ _ _ h => h) (Or.inl ⟨by rfl, ?_⟩) (by assumption) ?_
        rotate_left 1
        focus (intro W hSW; (try dsimp only at hSW); go_simp; try with_reducible rfl)
        (try simp only [Act.put, List.setIfInBounds_toArray, List.set_cons_zero, List.set_cons_succ])
        refine wpAnyE_take (i := 1) (v := ?_) rfl (by kernel_rfl) (by kernel_rfl) (by kernel_rfl) (fun _ _ _ h => h) (Or.inl ⟨by rfl, ?_⟩) (by assumption) ?_
        rotate_left 1
        focus (intro W hSW; (try dsimp only at hSW); go_simp; try with_reducible rfl)
        (try simp only [Act.put, List.setIfInBounds_toArray, List.set_cons_zero, List.set_cons_succ])
        refine wpAnyE_take (i := 2) (v := ?_) rfl (by kernel_rfl) (by kernel_rfl) (by kernel_rfl) (fun _ _ _ h => h) (Or.inl ⟨by rfl, ?_⟩) (by assumption) ?_
        rotate_left 1
        focus (intro W hSW; (try dsimp only at hSW); go_simp; try with_reducible rfl)
        (try simp only [Act.put, List.setIfInBounds_toArray, List.set_cons_zero, List.set_cons_succ])
        refine wpAnyE_take (i := 3) (v := ?_) rfl (by kernel_rfl) (by kernel_rfl) (by kernel_rfl) (fun _ _ _ h => h) (Or.inl ⟨by rfl, ?_⟩) (by assumption) ?_
        rotate_left 1
        focus (intro W hSW; (try dsimp only at hSW); go_simp; try with_reducible rfl)
        (try simp only [Act.put, List.setIfInBounds_toArray, List.set_cons_zero, List.set_cons_succ])
        refine wpAnyE_take (i := 4) (v := ?_) rfl (by kernel_rfl) (by kernel_rfl) (by kernel_rfl) (fun _ _ _ h => h) (Or.inl ⟨by rfl, ?_⟩) (by assumption) ?_
        rotate_left 1
        focus (intro W hSW; (try dsimp only at hSW); go_simp; try with_reducible rfl)
        (try simp only [Act.put, List.setIfInBounds_toArray, List.set_cons_zero, List.set_cons_succ])
        refine wpAnyE_one (i := 5) (by kernel_rfl) rfl (fun K hK => ?_)
        have HK := Lib.hid hK
        clear hK
        go_simp
        clear hSS c0 c1 c2
        have hSS : (fun W : World => W.cell? ⟨bo, 1, none⟩ = some (.slice (some ⟨h, 0, none⟩) L.length lc)) w20 := blk_cell HS20.out.box (j := 1) (v := .slice (some ⟨h, 0, none⟩) L.length lc) rfl
        refine HK.out _ _ (fun _ => hSS) ?_
        clear HK
        refine wpAnyE_one (i := 6) (by kernel_rfl) rfl (fun K hK => ?_)
        have HK := Lib.hid hK
        clear hK
        go_simp
        obtain ⟨w21, hw9⟩ : ∃ W, W = w20.alloc (.cells #[.int .i64 y1, .int .i64 y2, .int .i64 y3] 42) := ⟨_, rfl⟩
        rw [← hw9]
        obtain ⟨q9, hp9⟩ : ∃ p, p = w20.heap.size := ⟨_, rfl⟩
        rw [← hp9]
        have hx9 : Ext w20 w21 := by rw [hw9]; exact Ext.alloc _ _
        have HC9 : Hid (∀ j u, ([.int .i64 y1, .int .i64 y2, .int .i64 y3] : List Value)[j]? = some u → w21.cell? ((⟨q9, 0, none⟩ : Addr).add j) = some u) := by unfold Hid; rw [hw9, hp9]; exact new_cells3n _ _ _ _ _
        have HS21 := Lib.hid (HS20.out.ext hx9)
        clear hw9 hp9 hx9 hSS HS20
        have hSS : (fun W : World => W.cell? ⟨bo, 1, none⟩ = some (.slice (some ⟨h, 0, none⟩) L.length lc)) w21 := blk_cell HS21.out.box (j := 1) (v := .slice (some ⟨h, 0, none⟩) L.length lc) rfl
        refine HK.out _ _ (fun _ => hSS) ?_
        clear HK
        refine wpAnyE_one (i := 7) (by kernel_rfl) rfl (fun K hK => ?_)
        have HK := Lib.hid hK
        clear hK
        refine step_append_own rfl (.tmp 123) (.tmp 128) 25 rfl (w.heap.size + 1) 42 l0 (.agg #[.int .i64 0, .int .i64 0, .int .i64 0]) 3 24 Tryz.underlying25 hl0 hlz0 hlz1 hlz2 rfl (by decide) (.slice (some ⟨h, 0, none⟩) L.length lc) L.length (L.flatMap encLink) (by simp [Act.eval, Act.put]) HS21.out.ownL ⟨q9, 0, none⟩ 1 1 [.int .i64 y1, .int .i64 y2, .int .i64 y3] (by simp [Act.eval, Act.put]) rfl HC9.out (by intro u hu; simp at hu; rcases hu with rfl | rfl | rfl <;> rfl) (by unfold maxLen; omega) (by omega) HS21.out.lbw ?_
        intro v6 w6 hown6 hgr6
        obtain ⟨a8, c8, rfl, _, _, _⟩ := own_form hown6
        have hb6 := grown_blk hgr6 HS21.out.box (own_nbox HS21.out.ownL HS21.out.box (by decide))
        have hl9 : (L ++ [((y1, y2, y3) : LinkT)]).length = L.length + 1 := by simp
        have hp9 := HS21.out.pushL (L' := L ++ [(y1, y2, y3)]) (la' := a8) (lc' := c8) (by rw [hl9, flat_snocL]; exact hown6) hgr6
        rw [hl9] at hp9
        have HS90 := Lib.hid hp9
        clear hSS
        have hSS : (fun W : World => W.cell? ⟨bo, 1, none⟩ = some (.slice (some ⟨h, 0, none⟩) L.length lc)) w6 := blk_cell hb6 (j := 1) (v := .slice (some ⟨h, 0, none⟩) L.length lc) rfl
        clear hown6 hgr6 hp9 hl9 HC9
        refine HK.out _ _ (fun _ => hSS) ?_
        clear HK
        refine wpAnyE_take (i := 8) (v := ?_) rfl (by kernel_rfl) (by kernel_rfl) (by kernel_rfl) (fun _ _ _ h => h) (Or.inl ⟨by rfl, ?_⟩) (by assumption) ?_
        rotate_left 1
        focus (intro W hSW; (try dsimp only at hSW); go_simp; try with_reducible rfl)
        (try simp only [Act.put, List.setIfInBounds_toArray, List.set_cons_zero, List.set_cons_succ])
        have e61 := blk_cell hb6 (j := 1) (v := .slice (some ⟨h, 0, none⟩) L.length lc) rfl
        have f61 := blk_free hb6 1
        clear hSS hb6
        refine wpAnyE_one (i := 9) (by kernel_rfl) rfl (fun K hK => ?_)
        have HK := Lib.hid hK
        clear hK
        go_simp
        refine HK.out _ _ (fun hn => absurd ?_ hn) (wpAnyE_done (by kernel_rfl) ?_ _)
        · intro oj hoj q hq hne
          cases hoj
          revert hne
          revert q
          decide
        clear e61 f61 HK
        go_upto_region 40 with fail
        obtain ⟨wz, hwz⟩ : ∃ W, W = w6.setCell ⟨bo, 1, none⟩ (.slice a8 (L.length + 1) c8) := ⟨_, rfl⟩
        rw [← hwz]
        obtain ⟨ta9, tc9, T9, la9, lc9, L9, hT9, hL9, HZ⟩ : ∃ (ta : Option Addr) (tc : Nat) (T : List TowerT) (la : Option Addr) (lc : Nat) (L : List LinkT), T.length ≤ 17 ∧ L.length ≤ 41 ∧ Hid (NX b w.heap.size (w.heap.size + 1) bo w ta tc T la lc L (k + 5900) wz) := by
          rw [hwz]
          exact ⟨_, tc, T, a8, c8, L ++ [(y1, y2, y3)], by omega, by simp; omega, HS90.out.mono (by omega)⟩
        clear hwz
        have y0 := blk_cell HZ.out.box (j := 0) (v := .slice ta9 T9.length tc9) rfl
        have y1 := blk_cell HZ.out.box (j := 1) (v := .slice la9 L9.length lc9) rfl
        have z0 := blk_cell HZ.out.res (j := 0) (v := .slice none 0 0) rfl
        have z1 := blk_cell HZ.out.res (j := 1) (v := .slice none 0 0) rfl
        have f0 := blk_free HZ.out.res 0
        have f1 := blk_free HZ.out.res 1
        go_wp2
        obtain ⟨w9, hw9⟩ : ∃ W, W = (wz.setCell ⟨w.heap.size, 0, none⟩ (.slice ta9 T9.length tc9)).setCell ⟨w.heap.size, 1, none⟩ (.slice la9 L9.length lc9) := ⟨_, rfl⟩
        rw [← hw9]
        obtain ⟨g2, hO, hC, hK⟩ := HZ.out.fin hw9
        have x0 := blk_cell g2 (j := 0) (v := .slice ta9 T9.length tc9) rfl
        have x1 := blk_cell g2 (j := 1) (v := .slice la9 L9.length lc9) rfl
        refine bodyPost_ret (v := .agg #[.slice ta9 T9.length tc9, .slice la9 L9.length lc9]) (by simp [results, Tryz.results54, go_sem, x0, x1]) rfl ⟨ta9, tc9, T9, la9, lc9, L9, rfl, hO, by omega, hT9, hL9, hC.mono (by omega), hK⟩
    · have hposI : ¬ (0 : Int) < (L.length : Int) := by omega
      go_upto_region 40 with fail
      obtain ⟨wz, hwz⟩ : ∃ W, W = w5 := ⟨_, rfl⟩
      rw [← hwz]
      obtain ⟨ta9, tc9, T9, la9, lc9, L9, hT9, hL9, HZ⟩ : ∃ (ta : Option Addr) (tc : Nat) (T : List TowerT) (la : Option Addr) (lc : Nat) (L : List LinkT), T.length ≤ 17 ∧ L.length ≤ 41 ∧ Hid (NX b w.heap.size (w.heap.size + 1) bo w ta tc T la lc L (k + 5900) wz) := by
        rw [hwz]
        exact ⟨_, tc, T, la, lc, L, by omega, by omega, HS5.out.mono (by omega)⟩
      clear hwz
      have y0 := blk_cell HZ.out.box (j := 0) (v := .slice ta9 T9.length tc9) rfl
      have y1 := blk_cell HZ.out.box (j := 1) (v := .slice la9 L9.length lc9) rfl
      have z0 := blk_cell HZ.out.res (j := 0) (v := .slice none 0 0) rfl
      have z1 := blk_cell HZ.out.res (j := 1) (v := .slice none 0 0) rfl
      have f0 := blk_free HZ.out.res 0
      have f1 := blk_free HZ.out.res 1
      go_wp2
      obtain ⟨w9, hw9⟩ : ∃ W, W = (wz.setCell ⟨w.heap.size, 0, none⟩ (.slice ta9 T9.length tc9)).setCell ⟨w.heap.size, 1, none⟩ (.slice la9 L9.length lc9) := ⟨_, rfl⟩
      rw [← hw9]
      obtain ⟨g2, hO, hC, hK⟩ := HZ.out.fin hw9
      have x0 := blk_cell g2 (j := 0) (v := .slice ta9 T9.length tc9) rfl
      have x1 := blk_cell g2 (j := 1) (v := .slice la9 L9.length lc9) rfl
      refine bodyPost_ret (v := .agg #[.slice ta9 T9.length tc9, .slice la9 L9.length lc9]) (by simp [results, Tryz.results54, go_sem, x0, x1]) rfl ⟨ta9, tc9, T9, la9, lc9, L9, rfl, hO, by omega, hT9, hL9, hC.mono (by omega), hK⟩
  · have e1 := blk_cell HS5.out.box (j := 1) (v := .slice la L.length lc) rfl
    by_cases hpos : 0 < L.length
    · have hposI : (0 : Int) < (L.length : Int) := by omega
      obtain ⟨h, rfl, hh1, hh2⟩ := HS5.out.atL hpos
      go_upto_region 20 with fail
      clear e1
      obtain ⟨w30, hwd⟩ : ∃ W, W = w5.drew := ⟨_, rfl⟩
      have HS30 : Hid (NX b w.heap.size (w.heap.size + 1) bo w (some ⟨g, 0, none⟩) tc T (some ⟨h, 0, none⟩) lc L (k + 5000 + 2 + 2) w30) := by unfold Hid; rw [hwd]; exact HS5.out.ext (Ext.drew _)
      refine wp_region_E (S := fun W => W.cell? ⟨bo, 1, none⟩ = some (.slice (some ⟨h, 0, none⟩) L.length lc)) (by kernel_rfl) ?_
      rw [← hwd]
      clear hwd HS5 r1
      have hSS : (fun W : World => W.cell? ⟨bo, 1, none⟩ = some (.slice (some ⟨h, 0, none⟩) L.length lc)) w30 := blk_cell HS30.out.box (j := 1) (v := .slice (some ⟨h, 0, none⟩) L.length lc) rfl
      refine wpAnyE_take (i := 0) (v := ?_) rfl (by kernel_rfl) (by kernel_rfl) (by kernel_rfl) (fun _ _ _ h => h) (Or.inl ⟨by rfl, ?_⟩) (by assumption) ?_
      rotate_left 1
      focus (intro W hSW; (try dsimp only at hSW); go_simp; try with_reducible rfl)
      (try simp only [Act.put, List.setIfInBounds_toArray, List.set_cons_zero, List.set_cons_succ])
      refine wpAnyE_take (i := 1) (v := ?_) rfl (by kernel_rfl) (by kernel_rfl) (by kernel_rfl) (fun _ _ _ h => h) (Or.inl ⟨by rfl, ?_⟩) (by assumption) ?_
      rotate_left 1
      focus (intro W hSW; (try dsimp only at hSW); go_simp; try with_reducible rfl)
      (try simp only [Act.put, List.setIfInBounds_toArray, List.set_cons_zero, List.set_cons_succ])
      refine wpAnyE_take (i := 2) (v := ?_) rfl (by kernel_rfl) (by kernel_rfl) (by kernel_rfl) (fun _ _ _ h => h) (Or.inl ⟨by rfl, ?_⟩) (by assumption) ?_
      rotate_left 1
      focus (intro W hSW; (try dsimp only at hSW); go_simp; try with_reducible rfl)
      (try simp only [Act.put, List.setIfInBounds_toArray, List.set_cons_zero, List.set_cons_succ])
      refine wpAnyE_take (i := 3) (v := ?_) rfl (by kernel_rfl) (by kernel_rfl) (by kernel_rfl) (fun _ _ _ h => h) (Or.inl ⟨by rfl, ?_⟩) (by assumption) ?_
      rotate_left 1
      focus (intro W hSW; (try dsimp only at hSW); go_simp; try with_reducible rfl)
      (try simp only [Act.put, List.setIfInBounds_toArray, List.set_cons_zero, List.set_cons_succ])
      refine wpAnyE_one (i := 4) (by kernel_rfl) rfl (fun K hK => ?_)
      have HK := Lib.hid hK
      clear hK
      go_simp
      refine (c_pick b _ L.length w30 HS30.out.cur (by omega) (by omega)).mono ?_
      rintro e w31 ⟨rj, rfl, p0rj, p1rj, hc, hk1⟩
      have HS31 := Lib.hid (HS30.out.draw hc hk1)
      clear hc hk1 hSS HS30
      have hSS : (fun W : World => W.cell? ⟨bo, 1, none⟩ = some (.slice (some ⟨h, 0, none⟩) L.length lc)) w31 := blk_cell HS31.out.box (j := 1) (v := .slice (some ⟨h, 0, none⟩) L.length lc) rfl
      refine HK.out _ _ (fun _ => hSS) ?_
      clear HK
      obtain ⟨j, rfl⟩ : ∃ j : Nat, rj = j := ⟨rj.toNat, by omega⟩
      have hjL : j < L.length := by omega
      have hjI : (j : Int) < (L.length : Int) := by omega
      refine wpAnyE_take (i := 5) (v := ?_) rfl (by kernel_rfl) (by kernel_rfl) (by kernel_rfl) (fun _ _ _ h => h) (Or.inl ⟨by rfl, ?_⟩) (by assumption) ?_
      rotate_left 1
      focus (intro W hSW; (try dsimp only at hSW); go_simp; try with_reducible rfl)
      (try simp only [Act.put, List.setIfInBounds_toArray, List.set_cons_zero, List.set_cons_succ])
      refine wpAnyE_take (i := 6) (v := ?_) rfl (by kernel_rfl) (by kernel_rfl) (by kernel_rfl) (fun _ _ _ h => h) (Or.inl ⟨by rfl, ?_⟩) (by assumption) ?_
      rotate_left 1
      focus (intro W hSW; (try dsimp only at hSW); go_simp; try with_reducible rfl)
      (try simp only [Act.put, List.setIfInBounds_toArray, List.set_cons_zero, List.set_cons_succ])
      clear hSS
      refine wpAnyE_done (by kernel_rfl) ?_ _
      go_wp2_with fail
      refine (c_pick b _ 4 w31 HS31.out.cur (by omega) (by omega)).mono ?_
      rintro e w7 ⟨r4, rfl, r40, r41, hc, hk1⟩
      have HS7 := Lib.hid (HS31.out.draw hc hk1)
      clear hc hk1 HS31
      obtain ⟨⟨y1, y2, y3⟩, hy⟩ : ∃ y, L[j]? = some y := ⟨_, List.getElem?_eq_getElem hjL⟩
      have HY := Lib.hid hy
      obtain ⟨c0, c1, c2⟩ := HS7.out.cellL hy
      simp only at c0 c1 c2
      clear hy
      rcases (show r4 = 0 ∨ r4 = 1 ∨ r4 = 2 ∨ r4 = 3 by omega) with rfl | rfl | rfl | rfl
      · go_wp2_with fail
        refine (c_amongL b _ [-1, y2] (min (-1) y2) (max (-1) y2) _ HS7.out.cur (by omega) (by simp) (by simp) (by intro x hx; simp at hx; omega)).mono ?_
        rintro e w8 ⟨q, rfl, q0, q1, hc, hk1⟩
        have HS8 := Lib.hid (HS7.out.draw hc hk1)
        clear hc hk1 c0 c1 c2
        obtain ⟨c0, c1, c2⟩ := HS8.out.cellL HY.out
        simp only at c0 c1 c2
        have f8 := HS8.out.ownL.frozenAt (j * 3)
        obtain ⟨L', hL', HL'⟩ := HS8.out.setLex (j := 0) (x := q) hjL (by omega)
        go_upto_region 40 with fail
        obtain ⟨wz, hwz⟩ : ∃ W, W = w8.setCell ⟨h, j * 3, none⟩ (.int .i64 q) := ⟨_, rfl⟩
        rw [← hwz]
        obtain ⟨ta9, tc9, T9, la9, lc9, L9, hT9, hL9, HZ⟩ : ∃ (ta : Option Addr) (tc : Nat) (T : List TowerT) (la : Option Addr) (lc : Nat) (L : List LinkT), T.length ≤ 17 ∧ L.length ≤ 41 ∧ Hid (NX b w.heap.size (w.heap.size + 1) bo w ta tc T la lc L (k + 5900) wz) := by
          rw [hwz]
          exact ⟨_, tc, T, _, lc, L', by omega, by omega, HL'.mono (by omega)⟩
        clear hwz
        have y0 := blk_cell HZ.out.box (j := 0) (v := .slice ta9 T9.length tc9) rfl
        have y1 := blk_cell HZ.out.box (j := 1) (v := .slice la9 L9.length lc9) rfl
        have z0 := blk_cell HZ.out.res (j := 0) (v := .slice none 0 0) rfl
        have z1 := blk_cell HZ.out.res (j := 1) (v := .slice none 0 0) rfl
        have f0 := blk_free HZ.out.res 0
        have f1 := blk_free HZ.out.res 1
        go_wp2
        obtain ⟨w9, hw9⟩ : ∃ W, W = (wz.setCell ⟨w.heap.size, 0, none⟩ (.slice ta9 T9.length tc9)).setCell ⟨w.heap.size, 1, none⟩ (.slice la9 L9.length lc9) := ⟨_, rfl⟩
        rw [← hw9]
        obtain ⟨g2, hO, hC, hK⟩ := HZ.out.fin hw9
        have x0 := blk_cell g2 (j := 0) (v := .slice ta9 T9.length tc9) rfl
        have x1 := blk_cell g2 (j := 1) (v := .slice la9 L9.length lc9) rfl
        refine bodyPost_ret (v := .agg #[.slice ta9 T9.length tc9, .slice la9 L9.length lc9]) (by simp [results, Tryz.results54, go_sem, x0, x1]) rfl ⟨ta9, tc9, T9, la9, lc9, L9, rfl, hO, by omega, hT9, hL9, hC.mono (by omega), hK⟩
      · go_upto_region 25 with fail
        obtain ⟨w40, hwd⟩ : ∃ W, W = w7.drew := ⟨_, rfl⟩
        have HS40 : Hid (NX b w.heap.size (w.heap.size + 1) bo w (some ⟨g, 0, none⟩) tc T (some ⟨h, 0, none⟩) lc L (k + 5000 + 2 + 2 + 2 + 2) w40) := by unfold Hid; rw [hwd]; exact HS7.out.ext (Ext.drew _)
        refine wp_region_E (S := fun W => W.cell? ⟨bo, 0, none⟩ = some (.slice (some ⟨g, 0, none⟩) T.length tc)) (by kernel_rfl) ?_
        rw [← hwd]
        clear hwd HS7 c0 c1 c2 r40 r41
        have hSS : (fun W : World => W.cell? ⟨bo, 0, none⟩ = some (.slice (some ⟨g, 0, none⟩) T.length tc)) w40 := blk_cell HS40.out.box (j := 0) (v := .slice (some ⟨g, 0, none⟩) T.length tc) rfl
        refine wpAnyE_take (i := 0) (v := ?_) rfl (by kernel_rfl) (by kernel_rfl) (by kernel_rfl) (fun _ _ _ h => h) (Or.inl ⟨by rfl, ?_⟩) (by assumption) ?_
        rotate_left 1
        focus (intro W hSW; (try dsimp only at hSW); go_simp; try with_reducible rfl)
        (try simp only [Act.put, List.setIfInBounds_toArray, List.set_cons_zero, List.set_cons_succ])
        refine wpAnyE_take (i := 1) (v := ?_) rfl (by kernel_rfl) (by kernel_rfl) (by kernel_rfl) (fun _ _ _ h => h) (Or.inl ⟨by rfl, ?_⟩) (by assumption) ?_
        rotate_left 1
        focus (intro W hSW; (try dsimp only at hSW); go_simp; try with_reducible rfl)
        (try simp only [Act.put, List.setIfInBounds_toArray, List.set_cons_zero, List.set_cons_succ])
        refine wpAnyE_take (i := 2) (v := ?_) rfl (by kernel_rfl) (by kernel_rfl) (by kernel_rfl) (fun _ _ _ h => h) (Or.inl ⟨by rfl, ?_⟩) (by assumption) ?_
        rotate_left 1
        focus (intro W hSW; (try dsimp only at hSW); go_simp; try with_reducible rfl)
        (try simp only [Act.put, List.setIfInBounds_toArray, List.set_cons_zero, List.set_cons_succ])
        refine wpAnyE_take (i := 3) (v := ?_) rfl (by kernel_rfl) (by kernel_rfl) (by kernel_rfl) (fun _ _ _ h => h) (Or.inl ⟨by rfl, ?_⟩) (by assumption) ?_
        rotate_left 1
        focus (intro W hSW; (try dsimp only at hSW); go_simp; try with_reducible rfl)
        (try simp only [Act.put, List.setIfInBounds_toArray, List.set_cons_zero, List.set_cons_succ])
        refine wpAnyE_take (i := 4) (v := ?_) rfl (by kernel_rfl) (by kernel_rfl) (by kernel_rfl) (fun _ _ _ h => h) (Or.inl ⟨by rfl, ?_⟩) (by assumption) ?_
        rotate_left 1
        focus (intro W hSW; (try dsimp only at hSW); go_simp; try with_reducible rfl)
        (try simp only [Act.put, List.setIfInBounds_toArray, List.set_cons_zero, List.set_cons_succ])
        refine wpAnyE_take (i := 6) (v := ?_) rfl (by kernel_rfl) (by kernel_rfl) (by kernel_rfl) (fun _ _ _ h => h) (Or.inl ⟨by rfl, ?_⟩) (by assumption) ?_
        rotate_left 1
        focus (intro W hSW; (try dsimp only at hSW); go_simp; try with_reducible rfl)
        (try simp only [Act.put, List.setIfInBounds_toArray, List.set_cons_zero, List.set_cons_succ])
        refine wpAnyE_take (i := 7) (v := ?_) rfl (by kernel_rfl) (by kernel_rfl) (by kernel_rfl) (fun _ _ _ h => h) (Or.inl ⟨by rfl, ?_⟩) (by assumption) ?_
        rotate_left 1
        focus (intro W hSW; (try dsimp only at hSW); go_simp; try with_reducible rfl)
        (try simp only [Act.put, List.setIfInBounds_toArray, List.set_cons_zero, List.set_cons_succ])
        refine wpAnyE_take (i := 8) (v := ?_) rfl (by kernel_rfl) (by kernel_rfl) (by kernel_rfl) (fun _ _ _ h => h) (Or.inl ⟨by rfl, ?_⟩) (by assumption) ?_
        rotate_left 1
        focus (intro W hSW; (try dsimp only at hSW); go_simp; try with_reducible rfl)
        (try simp only [Act.put, List.setIfInBounds_toArray, List.set_cons_zero, List.set_cons_succ])
        obtain ⟨c0, c1, c2⟩ := HS40.out.cellL HY.out
        simp only at c0 c1 c2
        refine wpAnyE_one (i := 5) (by kernel_rfl) rfl (fun K hK => ?_)
        have HK := Lib.hid hK
        clear hK
        go_simp
        clear hSS c0 c1 c2
        have hSS : (fun W : World => W.cell? ⟨bo, 0, none⟩ = some (.slice (some ⟨g, 0, none⟩) T.length tc)) w40 := blk_cell HS40.out.box (j := 0) (v := .slice (some ⟨g, 0, none⟩) T.length tc) rfl
        refine HK.out _ _ (fun _ => hSS) ?_
        clear HK
        refine wpAnyE_one (i := 9) (by kernel_rfl) rfl (fun K hK => ?_)
        have HK := Lib.hid hK
        clear hK
        go_simp
        obtain ⟨w41, hw9⟩ : ∃ W, W = w40.alloc (.cells #[.int .i64 y1, .int .i64 (T.length : Int)] 3) := ⟨_, rfl⟩
        rw [← hw9]
        obtain ⟨q1, hp9⟩ : ∃ p, p = w40.heap.size := ⟨_, rfl⟩
        rw [← hp9]
        have hx9 : Ext w40 w41 := by rw [hw9]; exact Ext.alloc _ _
        have HL1 : Hid (LitI w41 b q1 [y1, (T.length : Int)]) := by unfold Hid; rw [hw9, hp9]; exact LitI.new w40 b [y1, (T.length : Int)] HS40.out.blt (by simp)
        have HS41 := Lib.hid (HS40.out.ext hx9)
        clear hw9 hp9 hx9 hSS HS40
        have hSS : (fun W : World => W.cell? ⟨bo, 0, none⟩ = some (.slice (some ⟨g, 0, none⟩) T.length tc)) w41 := blk_cell HS41.out.box (j := 0) (v := .slice (some ⟨g, 0, none⟩) T.length tc) rfl
        refine HK.out _ _ (fun _ => hSS) ?_
        clear HK
        refine wpAnyE_one (i := 10) (by kernel_rfl) rfl (fun K hK => ?_)
        have HK := Lib.hid hK
        clear hK
        go_simp
        refine (c_amongP b _ q1 [y1, (T.length : Int)] (min y1 (T.length : Int)) (max y1 (T.length : Int)) w41 HS41.out.cur (by omega) HL1.out (by simp) (by simp) (by intro x hx; simp at hx; omega)).mono ?_
        rintro e w42 ⟨q, rfl, p0q, p1q, hc, hk1⟩
        have HS42 := Lib.hid (HS41.out.draw hc hk1)
        clear HL1
        clear hc hk1 hSS HS41
        have hSS : (fun W : World => W.cell? ⟨bo, 0, none⟩ = some (.slice (some ⟨g, 0, none⟩) T.length tc)) w42 := blk_cell HS42.out.box (j := 0) (v := .slice (some ⟨g, 0, none⟩) T.length tc) rfl
        refine HK.out _ _ (fun _ => hSS) ?_
        clear HK
        refine wpAnyE_take (i := 11) (v := ?_) rfl (by kernel_rfl) (by kernel_rfl) (by kernel_rfl) (fun _ _ _ h => h) (Or.inl ⟨by rfl, ?_⟩) (by assumption) ?_
        rotate_left 1
        focus (intro W hSW; (try dsimp only at hSW); go_simp; try with_reducible rfl)
        (try simp only [Act.put, List.setIfInBounds_toArray, List.set_cons_zero, List.set_cons_succ])
        refine wpAnyE_take (i := 12) (v := ?_) rfl (by kernel_rfl) (by kernel_rfl) (by kernel_rfl) (fun _ _ _ h => h) (Or.inl ⟨by rfl, ?_⟩) (by assumption) ?_
        rotate_left 1
        focus (intro W hSW; (try dsimp only at hSW); go_simp; try with_reducible rfl)
        (try simp only [Act.put, List.setIfInBounds_toArray, List.set_cons_zero, List.set_cons_succ])
        clear hSS
        obtain ⟨c0, c1, c2⟩ := HS42.out.cellL HY.out
        simp only at c0 c1 c2
        have f8 := HS42.out.ownL.frozenAt (j * 3 + 1)
        refine wpAnyE_one (i := 13) (by kernel_rfl) rfl (fun K hK => ?_)
        have HK := Lib.hid hK
        clear hK
        go_simp
        obtain ⟨L', hL', HL'⟩ := HS42.out.setLex (j := 1) (x := q) hjL (by omega)
        refine HK.out _ _ (fun _ => blk_cell HL'.box (j := 0) (v := .slice (some ⟨g, 0, none⟩) T.length tc) rfl) (wpAnyE_done (by kernel_rfl) ?_ _)
        clear HK c0 c1 c2
        go_upto_region 40 with fail
        obtain ⟨wz, hwz⟩ : ∃ W, W = w42.setCell ⟨h, j * 3 + 1, none⟩ (.int .i64 q) := ⟨_, rfl⟩
        rw [← hwz]
        obtain ⟨ta9, tc9, T9, la9, lc9, L9, hT9, hL9, HZ⟩ : ∃ (ta : Option Addr) (tc : Nat) (T : List TowerT) (la : Option Addr) (lc : Nat) (L : List LinkT), T.length ≤ 17 ∧ L.length ≤ 41 ∧ Hid (NX b w.heap.size (w.heap.size + 1) bo w ta tc T la lc L (k + 5900) wz) := by
          rw [hwz]
          exact ⟨_, tc, T, _, lc, L', by omega, by omega, HL'.mono (by omega)⟩
        clear hwz
        have y0 := blk_cell HZ.out.box (j := 0) (v := .slice ta9 T9.length tc9) rfl
        have y1 := blk_cell HZ.out.box (j := 1) (v := .slice la9 L9.length lc9) rfl
        have z0 := blk_cell HZ.out.res (j := 0) (v := .slice none 0 0) rfl
        have z1 := blk_cell HZ.out.res (j := 1) (v := .slice none 0 0) rfl
        have f0 := blk_free HZ.out.res 0
        have f1 := blk_free HZ.out.res 1
        go_wp2
        obtain ⟨w9, hw9⟩ : ∃ W, W = (wz.setCell ⟨w.heap.size, 0, none⟩ (.slice ta9 T9.length tc9)).setCell ⟨w.heap.size, 1, none⟩ (.slice la9 L9.length lc9) := ⟨_, rfl⟩
        rw [← hw9]
        obtain ⟨g2, hO, hC, hK⟩ := HZ.out.fin hw9
        have x0 := blk_cell g2 (j := 0) (v := .slice ta9 T9.length tc9) rfl
        have x1 := blk_cell g2 (j := 1) (v := .slice la9 L9.length lc9) rfl
        refine bodyPost_ret (v := .agg #[.slice ta9 T9.length tc9, .slice la9 L9.length lc9]) (by simp [results, Tryz.results54, go_sem, x0, x1]) rfl ⟨ta9, tc9, T9, la9, lc9, L9, rfl, hO, by omega, hT9, hL9, hC.mono (by omega), hK⟩
      · go_wp2_with fail
        refine (c_amongL b _ [0, 60, 61] 0 61 _ HS7.out.cur (by omega) (by simp) (by simp) (by intro x hx; simp at hx; omega)).mono ?_
        rintro e w8 ⟨q, rfl, q0, q1, hc, hk1⟩
        have HS8 := Lib.hid (HS7.out.draw hc hk1)
        clear hc hk1 c0 c1 c2
        obtain ⟨c0, c1, c2⟩ := HS8.out.cellL HY.out
        simp only at c0 c1 c2
        have f8 := HS8.out.ownL.frozenAt (j * 3 + 2)
        obtain ⟨L', hL', HL'⟩ := HS8.out.setLex (j := 2) (x := q) hjL (by omega)
        go_upto_region 40 with fail
        obtain ⟨wz, hwz⟩ : ∃ W, W = w8.setCell ⟨h, j * 3 + 2, none⟩ (.int .i64 q) := ⟨_, rfl⟩
        rw [← hwz]
        obtain ⟨ta9, tc9, T9, la9, lc9, L9, hT9, hL9, HZ⟩ : ∃ (ta : Option Addr) (tc : Nat) (T : List TowerT) (la : Option Addr) (lc : Nat) (L : List LinkT), T.length ≤ 17 ∧ L.length ≤ 41 ∧ Hid (NX b w.heap.size (w.heap.size + 1) bo w ta tc T la lc L (k + 5900) wz) := by
          rw [hwz]
          exact ⟨_, tc, T, _, lc, L', by omega, by omega, HL'.mono (by omega)⟩
        clear hwz
        have y0 := blk_cell HZ.out.box (j := 0) (v := .slice ta9 T9.length tc9) rfl
        have y1 := blk_cell HZ.out.box (j := 1) (v := .slice la9 L9.length lc9) rfl
        have z0 := blk_cell HZ.out.res (j := 0) (v := .slice none 0 0) rfl
        have z1 := blk_cell HZ.out.res (j := 1) (v := .slice none 0 0) rfl
        have f0 := blk_free HZ.out.res 0
        have f1 := blk_free HZ.out.res 1
        go_wp2
        obtain ⟨w9, hw9⟩ : ∃ W, W = (wz.setCell ⟨w.heap.size, 0, none⟩ (.slice ta9 T9.length tc9)).setCell ⟨w.heap.size, 1, none⟩ (.slice la9 L9.length lc9) := ⟨_, rfl⟩
        rw [← hw9]
        obtain ⟨g2, hO, hC, hK⟩ := HZ.out.fin hw9
        have x0 := blk_cell g2 (j := 0) (v := .slice ta9 T9.length tc9) rfl
        have x1 := blk_cell g2 (j := 1) (v := .slice la9 L9.length lc9) rfl
        refine bodyPost_ret (v := .agg #[.slice ta9 T9.length tc9, .slice la9 L9.length lc9]) (by simp [results, Tryz.results54, go_sem, x0, x1]) rfl ⟨ta9, tc9, T9, la9, lc9, L9, rfl, hO, by omega, hT9, hL9, hC.mono (by omega), hK⟩
      · go_upto_region 29 with fail
        obtain ⟨w20, hwd⟩ : ∃ W, W = w7.drew := ⟨_, rfl⟩
        have HS20 : Hid (NX b w.heap.size (w.heap.size + 1) bo w (some ⟨g, 0, none⟩) tc T (some ⟨h, 0, none⟩) lc L (k + 5000 + 2 + 2 + 2 + 2) w20) := by unfold Hid; rw [hwd]; exact HS7.out.ext (Ext.drew _)
        clear c0 c1 c2 HY
        obtain ⟨⟨y1, y2, y3⟩, hy⟩ : ∃ y, L[0]? = some y := ⟨_, List.getElem?_eq_getElem hpos⟩
        obtain ⟨c0, c1, c2⟩ := HS20.out.cellL hy
        simp only [Nat.zero_mul, Nat.zero_add] at c0 c1 c2
        refine wp_region_E (S := fun W => W.cell? ⟨bo, 1, none⟩ = some (.slice (some ⟨h, 0, none⟩) L.length lc)) (by kernel_rfl) ?_
        rw [← hwd]
        clear hwd HS7 hy r40 r41
        have hSS : (fun W : World => W.cell? ⟨bo, 1, none⟩ = some (.slice (some ⟨h, 0, none⟩) L.length lc)) w20 := blk_cell HS20.out.box (j := 1) (v := .slice (some ⟨h, 0, none⟩) L.length lc) rfl
        refine wpAnyE_take (i := 0) (v := ?_) rfl (by kernel_rfl) (by kernel_rfl) (by kernel_rfl) (fun _ _ _ h => h) (Or.inl ⟨by rfl, ?_⟩) (by assumption) ?_
        rotate_left 1
        focus (intro W hSW; (try dsimp only at hSW); go_simp; try with_reducible rfl)
        (try simp only [Act.put, List.setIfInBounds_toArray, List.set_cons_zero, List.set_cons_succ])
        refine wpAnyE_take (i := 1) (v := ?_) rfl (by kernel_rfl) (by kernel_rfl) (by kernel_rfl) (fun _ _ _ h => h) (Or.inl ⟨by rfl, ?_⟩) (by assumption) ?_
        rotate_left 1
        focus (intro W hSW; (try dsimp only at hSW); go_simp; try with_reducible rfl)
        (try simp only [Act.put, List.setIfInBounds_toArray, List.set_cons_zero, List.set_cons_succ])
        refine wpAnyE_take (i := 2) (v := ?_) rfl (by kernel_rfl) (by kernel_rfl) (by kernel_rfl) (fun _ _ _ h => h) (Or.inl ⟨by rfl, ?_⟩) (by assumption) ?_
        rotate_left 1
        focus (intro W hSW; (try dsimp only at hSW); go_simp; try with_reducible rfl)
        (try simp only [Act.put, List.setIfInBounds_toArray, List.set_cons_zero, List.set_cons_succ])
        refine wpAnyE_take (i := 3) (v := ?_) rfl (by kernel_rfl) (by kernel_rfl) (by kernel_rfl) (fun _ _ _ h => h) (Or.inl ⟨by rfl, ?_⟩) (by assumption) ?_
        rotate_left 1
        focus (intro W hSW; (try dsimp only at hSW); go_simp; try with_reducible rfl)
        (try simp only [Act.put, List.setIfInBounds_toArray, List.set_cons_zero, List.set_cons_succ])
        refine wpAnyE_take (i := 4) (v := ?_) rfl (by kernel_rfl) (by kernel_rfl) (by kernel_rfl) (fun _ _ _ h => h) (Or.inl ⟨by rfl, ?_⟩) (by assumption) ?_
        rotate_left 1
        focus (intro W hSW; (try dsimp only at hSW); go_simp; try with_reducible rfl)
        (try simp only [Act.put, List.setIfInBounds_toArray, List.set_cons_zero, List.set_cons_succ])
        refine wpAnyE_one (i := 5) (by kernel_rfl) rfl (fun K hK => ?_)
        have HK := Lib.hid hK
        clear hK
        go_simp
        clear hSS c0 c1 c2
        have hSS : (fun W : World => W.cell? ⟨bo, 1, none⟩ = some (.slice (some ⟨h, 0, none⟩) L.length lc)) w20 := blk_cell HS20.out.box (j := 1) (v := .slice (some ⟨h, 0, none⟩) L.length lc) rfl
        refine HK.out _ _ (fun _ => hSS) ?_
        clear HK
        refine wpAnyE_one (i := 6) (by kernel_rfl) rfl (fun K hK => ?_)
        have HK := Lib.hid hK
        clear hK
        go_simp
        obtain ⟨w21, hw9⟩ : ∃ W, W = w20.alloc (.cells #[.int .i64 y1, .int .i64 y2, .int .i64 y3] 42) := ⟨_, rfl⟩
        rw [← hw9]
        obtain ⟨q9, hp9⟩ : ∃ p, p = w20.heap.size := ⟨_, rfl⟩
        rw [← hp9]
        have hx9 : Ext w20 w21 := by rw [hw9]; exact Ext.alloc _ _
        have HC9 : Hid (∀ j u, ([.int .i64 y1, .int .i64 y2, .int .i64 y3] : List Value)[j]? = some u → w21.cell? ((⟨q9, 0, none⟩ : Addr).add j) = some u) := by unfold Hid; rw [hw9, hp9]; exact new_cells3n _ _ _ _ _
        have HS21 := Lib.hid (HS20.out.ext hx9)
        clear hw9 hp9 hx9 hSS HS20
        have hSS : (fun W : World => W.cell? ⟨bo, 1, none⟩ = some (.slice (some ⟨h, 0, none⟩) L.length lc)) w21 := blk_cell HS21.out.box (j := 1) (v := .slice (some ⟨h, 0, none⟩) L.length lc) rfl
        refine HK.out _ _ (fun _ => hSS) ?_
        clear HK
        refine wpAnyE_one (i := 7) (by kernel_rfl) rfl (fun K hK => ?_)
        have HK := Lib.hid hK
        clear hK
        refine step_append_own rfl (.tmp 123) (.tmp 128) 25 rfl (w.heap.size + 1) 42 l0 (.agg #[.int .i64 0, .int .i64 0, .int .i64 0]) 3 24 Tryz.underlying25 hl0 hlz0 hlz1 hlz2 rfl (by decide) (.slice (some ⟨h, 0, none⟩) L.length lc) L.length (L.flatMap encLink) (by simp [Act.eval, Act.put]) HS21.out.ownL ⟨q9, 0, none⟩ 1 1 [.int .i64 y1, .int .i64 y2, .int .i64 y3] (by simp [Act.eval, Act.put]) rfl HC9.out (by intro u hu; simp at hu; rcases hu with rfl | rfl | rfl <;> rfl) (by unfold maxLen; omega) (by omega) HS21.out.lbw ?_
        intro v6 w6 hown6 hgr6
        obtain ⟨a8, c8, rfl, _, _, _⟩ := own_form hown6
        have hb6 := grown_blk hgr6 HS21.out.box (own_nbox HS21.out.ownL HS21.out.box (by decide))
        have hl9 : (L ++ [((y1, y2, y3) : LinkT)]).length = L.length + 1 := by simp
        have hp9 := HS21.out.pushL (L' := L ++ [(y1, y2, y3)]) (la' := a8) (lc' := c8) (by rw [hl9, flat_snocL]; exact hown6) hgr6
        rw [hl9] at hp9
        have HS90 := Lib.hid hp9
        clear hSS
        have hSS : (fun W : World => W.cell? ⟨bo, 1, none⟩ = some (.slice (some ⟨h, 0, none⟩) L.length lc)) w6 := blk_cell hb6 (j := 1) (v := .slice (some ⟨h, 0, none⟩) L.length lc) rfl
        clear hown6 hgr6 hp9 hl9 HC9
        refine HK.out _ _ (fun _ => hSS) ?_
        clear HK
        refine wpAnyE_take (i := 8) (v := ?_) rfl (by kernel_rfl) (by kernel_rfl) (by kernel_rfl) (fun _ _ _ h => h) (Or.inl ⟨by rfl, ?_⟩) (by assumption) ?_
        rotate_left 1
        focus (intro W hSW; (try dsimp only at hSW); go_simp; try with_reducible rfl)
        (try simp only [Act.put, List.setIfInBounds_toArray, List.set_cons_zero, List.set_cons_succ])
        have e61 := blk_cell hb6 (j := 1) (v := .slice (some ⟨h, 0, none⟩) L.length lc) rfl
        have f61 := blk_free hb6 1
        clear hSS hb6
        refine wpAnyE_one (i := 9) (by kernel_rfl) rfl (fun K hK => ?_)
        have HK := Lib.hid hK
        clear hK
        go_simp
        refine HK.out _ _ (fun hn => absurd ?_ hn) (wpAnyE_done (by kernel_rfl) ?_ _)
        · intro oj hoj q hq hne
          cases hoj
          revert hne
          revert q
          decide
        clear e61 f61 HK
        go_upto_region 40 with fail
        obtain ⟨wz, hwz⟩ : ∃ W, W = w6.setCell ⟨bo, 1, none⟩ (.slice a8 (L.length + 1) c8) := ⟨_, rfl⟩
        rw [← hwz]
        obtain ⟨ta9, tc9, T9, la9, lc9, L9, hT9, hL9, HZ⟩ : ∃ (ta : Option Addr) (tc : Nat) (T : List TowerT) (la : Option Addr) (lc : Nat) (L : List LinkT), T.length ≤ 17 ∧ L.length ≤ 41 ∧ Hid (NX b w.heap.size (w.heap.size + 1) bo w ta tc T la lc L (k + 5900) wz) := by
          rw [hwz]
          exact ⟨_, tc, T, a8, c8, L ++ [(y1, y2, y3)], by omega, by simp; omega, HS90.out.mono (by omega)⟩
        clear hwz
        have y0 := blk_cell HZ.out.box (j := 0) (v := .slice ta9 T9.length tc9) rfl
        have y1 := blk_cell HZ.out.box (j := 1) (v := .slice la9 L9.length lc9) rfl
        have z0 := blk_cell HZ.out.res (j := 0) (v := .slice none 0 0) rfl
        have z1 := blk_cell HZ.out.res (j := 1) (v := .slice none 0 0) rfl
        have f0 := blk_free HZ.out.res 0
        have f1 := blk_free HZ.out.res 1
        go_wp2
        obtain ⟨w9, hw9⟩ : ∃ W, W = (wz.setCell ⟨w.heap.size, 0, none⟩ (.slice ta9 T9.length tc9)).setCell ⟨w.heap.size, 1, none⟩ (.slice la9 L9.length lc9) := ⟨_, rfl⟩
        rw [← hw9]
        obtain ⟨g2, hO, hC, hK⟩ := HZ.out.fin hw9
        have x0 := blk_cell g2 (j := 0) (v := .slice ta9 T9.length tc9) rfl
        have x1 := blk_cell g2 (j := 1) (v := .slice la9 L9.length lc9) rfl
        refine bodyPost_ret (v := .agg #[.slice ta9 T9.length tc9, .slice la9 L9.length lc9]) (by simp [results, Tryz.results54, go_sem, x0, x1]) rfl ⟨ta9, tc9, T9, la9, lc9, L9, rfl, hO, by omega, hT9, hL9, hC.mono (by omega), hK⟩
    · have hposI : ¬ (0 : Int) < (L.length : Int) := by omega
      go_upto_region 40 with fail
      obtain ⟨wz, hwz⟩ : ∃ W, W = w5 := ⟨_, rfl⟩
      rw [← hwz]
      obtain ⟨ta9, tc9, T9, la9, lc9, L9, hT9, hL9, HZ⟩ : ∃ (ta : Option Addr) (tc : Nat) (T : List TowerT) (la : Option Addr) (lc : Nat) (L : List LinkT), T.length ≤ 17 ∧ L.length ≤ 41 ∧ Hid (NX b w.heap.size (w.heap.size + 1) bo w ta tc T la lc L (k + 5900) wz) := by
        rw [hwz]
        exact ⟨_, tc, T, la, lc, L, by omega, by omega, HS5.out.mono (by omega)⟩
      clear hwz
      have y0 := blk_cell HZ.out.box (j := 0) (v := .slice ta9 T9.length tc9) rfl
      have y1 := blk_cell HZ.out.box (j := 1) (v := .slice la9 L9.length lc9) rfl
      have z0 := blk_cell HZ.out.res (j := 0) (v := .slice none 0 0) rfl
      have z1 := blk_cell HZ.out.res (j := 1) (v := .slice none 0 0) rfl
      have f0 := blk_free HZ.out.res 0
      have f1 := blk_free HZ.out.res 1
      go_wp2
      obtain ⟨w9, hw9⟩ : ∃ W, W = (wz.setCell ⟨w.heap.size, 0, none⟩ (.slice ta9 T9.length tc9)).setCell ⟨w.heap.size, 1, none⟩ (.slice la9 L9.length lc9) := ⟨_, rfl⟩
      rw [← hw9]
      obtain ⟨g2, hO, hC, hK⟩ := HZ.out.fin hw9
      have x0 := blk_cell g2 (j := 0) (v := .slice ta9 T9.length tc9) rfl
      have x1 := blk_cell g2 (j := 1) (v := .slice la9 L9.length lc9) rfl
      refine bodyPost_ret (v := .agg #[.slice ta9 T9.length tc9, .slice la9 L9.length lc9]) (by simp [results, Tryz.results54, go_sem, x0, x1]) rfl ⟨ta9, tc9, T9, la9, lc9, L9, rfl, hO, by omega, hT9, hL9, hC.mono (by omega), hK⟩
  · have e0 := blk_cell HS5.out.box (j := 0) (v := .slice (some ⟨g, 0, none⟩) T.length tc) rfl
    have e1 := blk_cell HS5.out.box (j := 1) (v := .slice la L.length lc) rfl
    go_upto_region 32 with (at_make; refine wpList_make_full _ rfl _ _ 24 rfl (w.heap.size + 1) 54 t0 (.agg #[.int .i64 0, .int .i64 0, .int .i64 0]) 3 Tryz.underlying24 ht0 htz0 htz1 _ _ _ _ 10 rfl rfl rfl rfl (by rw [htz2]; omega) (by unfold maxLen; omega) HS5.out.lbw ?_; intro w6 hown hgrow; rw [made10] at hown; have hb6 := grown_blk hgrow HS5.out.box (by simp); have e02 := blk_cell hb6 (j := 0) (v := .slice (some ⟨g, 0, none⟩) T.length tc) rfl; have e12 := blk_cell hb6 (j := 1) (v := .slice la L.length lc) rfl; have f0 := blk_free hb6 0; have f1 := blk_free hb6 1)
    obtain ⟨g0, hg0⟩ : ∃ n, n = w5.heap.size := ⟨_, rfl⟩
    rw [← hg0] at hown ⊢
    have HS6 := HS5.out.ext ((Ext.refl w5).gr hgrow (fun q hq => by cases hq))
    have h9 := HS6.pushT (T' := List.replicate 10 ((0, 0, 0) : TowerT)) (ta' := some ⟨g0, 0, none⟩) (tc' := 10) (by rw [List.length_replicate]; exact hown) (World.grownBy.refl _ _)
    have h10 := h9.pushL (L' := []) (la' := none) (lc' := 0) (World.ownsRow_nil _ _ _ _) (World.grownBy.refl _ _)
    obtain ⟨T, hT⟩ : ∃ T : List TowerT, T = List.replicate 10 ((0, 0, 0) : TowerT) := ⟨_, rfl⟩
    have hTl : T.length = 10 := by rw [hT]; simp
    simp only [List.length_replicate, List.length_nil] at h10
    rw [← hT] at h10
    obtain ⟨w7, hw7⟩ : ∃ W, W = (w6.setCell ⟨bo, 0, none⟩ (.slice (some ⟨g0, 0, none⟩) 10 10)).setCell ⟨bo, 1, none⟩ (.slice none 0 0) := ⟨_, rfl⟩
    rw [← hw7] at h10 ⊢
    have HS7 := Lib.hid h10
    clear hw7 h10 h9 HS6 HS5 hown hgrow hb6 hg0 hT hiI hiT r1
    go_wp2_with fail
    refine (c_pick b _ 2 w7 HS7.out.cur (by omega) (by omega)).mono ?_
    rintro e w8 ⟨m0, rfl, m00, m01, hc, hk1⟩
    have HS8 := Lib.hid (HS7.out.draw hc hk1)
    obtain ⟨m, hm⟩ : ∃ m : Int, m = 40 + m0 := ⟨_, rfl⟩
    have hm0 : 40 ≤ m := by omega
    have hm1 : m ≤ 41 := by omega
    have HM := Lib.hid hm
    clear hc hk1 HS7 hm
    go_upto_region 34 with fail
    rw [← HM.out]
    clear HM m00 m01
    go_loopg [9, 10] 11 (fun gg v9 v10 wr => ∃ (a : Nat) (la : Option Addr) (lc : Nat) (L : List LinkT), v9 = .int .i64 a ∧ a ≤ 10 ∧ 10 ≤ a + gg ∧ (L.length : Int) ≤ m ∧ Hid (NX b w.heap.size (w.heap.size + 1) bo w (some ⟨g0, 0, none⟩) 10 T la lc L (k + 5100) wr))
    case atStart => exact ⟨0, none, 0, [], rfl, by omega, by omega, by simp; omega, HS8.out.mono (by omega)⟩
    case round =>
      clear HS8
      obtain ⟨a, la, lc, L, rfl, a0, a1, hL0, HS5⟩ := hrel
      obtain ⟨wo, hwo⟩ : ∃ W, W = wr := ⟨_, rfl⟩
      subst hwo
      by_cases han : (a : Int) < 10
      · go_wp2_with fail
        go_loopg [10] 11 (fun gg v10 wr => ∃ (z : Int) (la : Option Addr) (lc : Nat) (L : List LinkT), v10 = .int .i64 z ∧ (a : Int) + 1 ≤ z ∧ z ≤ 10 ∧ 10 ≤ z + gg ∧ (L.length : Int) ≤ m ∧ Hid (NX b w.heap.size (w.heap.size + 1) bo w (some ⟨g0, 0, none⟩) 10 T la lc L (k + 5100) wr))
        case atStart => exact ⟨_, la, lc, L, rfl, by omega, by omega, by omega, hL0, HS5.out⟩
        case round =>
          clear HS5
          obtain ⟨z, la, lc, L, rfl, z0, z1, z2, hL1, HS6⟩ := hrel
          have e1 := blk_cell HS6.out.box (j := 1) (v := .slice la L.length lc) rfl
          by_cases hzn : z < 10
          · by_cases hlm : (L.length : Int) < m
            · go_wp2_with (at_builtin; refine wpList_append_own _ rfl _ _ 25 rfl (w.heap.size + 1) 42 l0 (.agg #[.int .i64 0, .int .i64 0, .int .i64 0]) 3 24 Tryz.underlying25 hl0 hlz0 hlz1 hlz2 rfl (by decide) _ _ _ rfl (own_ext HS6.out.ownL (Ext.alloc _ _)) ⟨wr.heap.size, 0, none⟩ 1 1 [.int .i64 a, .int .i64 z, .int .i64 5] rfl rfl (new_cells3n _ _ _ _ _) (by intro u hu; simp at hu; rcases hu with rfl | rfl | rfl <;> rfl) (by unfold maxLen; omega) (by omega) (by have := HS6.out.lbw; simp; omega) ?_; intro v6 w6 hown6 hgr6 _; obtain ⟨a8, c8, rfl, _, _, _⟩ := own_form hown6; have hs9 := HS6.out.ext (Ext.alloc wr (.cells #[.int .i64 a, .int .i64 z, .int .i64 5] 42)); have hb6 := grown_blk hgr6 hs9.box (own_nbox hs9.ownL hs9.box (by decide)); have e61 := blk_cell hb6 (j := 1) (v := .slice la L.length lc) rfl; have f61 := blk_free hb6 1)
              have hl9 : (L ++ [(((a : Int), z, 5) : LinkT)]).length = L.length + 1 := by simp
              have hp9 := hs9.pushL (L' := L ++ [(((a : Int), z, 5) : LinkT)]) (la' := a8) (lc' := c8) (by rw [hl9, flat_snocL]; exact hown6) hgr6
              rw [hl9] at hp9
              go_roundg (10 - (z + 1)).toNat
              case measure => omega
              case rel => exact ⟨z + 1, a8, c8, L ++ [((a : Int), z, 5)], by go_num, by omega, by omega, by omega, by simp; omega, hp9⟩
            · go_wp2
              go_roundg (10 - (a + 1))
              case measure => omega
              case rel => exact ⟨a + 1, la, lc, L, by go_num, by omega, by omega, hL1, HS6.out⟩
          · go_wp2
            go_roundg (10 - (a + 1))
            case measure => omega
            case rel => exact ⟨a + 1, la, lc, L, by go_num, by omega, by omega, hL1, HS6.out⟩
      · go_upto_region 40 with fail
        obtain ⟨wz, hwz⟩ : ∃ W, W = wo := ⟨_, rfl⟩
        rw [← hwz]
        obtain ⟨ta9, tc9, T9, la9, lc9, L9, hT9, hL9, HZ⟩ : ∃ (ta : Option Addr) (tc : Nat) (T : List TowerT) (la : Option Addr) (lc : Nat) (L : List LinkT), T.length ≤ 17 ∧ L.length ≤ 41 ∧ Hid (NX b w.heap.size (w.heap.size + 1) bo w ta tc T la lc L (k + 5900) wz) := by
          rw [hwz]
          exact ⟨_, 10, T, la, lc, L, by omega, by omega, HS5.out.mono (by omega)⟩
        clear hwz
        have y0 := blk_cell HZ.out.box (j := 0) (v := .slice ta9 T9.length tc9) rfl
        have y1 := blk_cell HZ.out.box (j := 1) (v := .slice la9 L9.length lc9) rfl
        have z0 := blk_cell HZ.out.res (j := 0) (v := .slice none 0 0) rfl
        have z1 := blk_cell HZ.out.res (j := 1) (v := .slice none 0 0) rfl
        have f0 := blk_free HZ.out.res 0
        have f1 := blk_free HZ.out.res 1
        go_wp2
        obtain ⟨w9, hw9⟩ : ∃ W, W = (wz.setCell ⟨w.heap.size, 0, none⟩ (.slice ta9 T9.length tc9)).setCell ⟨w.heap.size, 1, none⟩ (.slice la9 L9.length lc9) := ⟨_, rfl⟩
        rw [← hw9]
        obtain ⟨g2, hO, hC, hK⟩ := HZ.out.fin hw9
        have x0 := blk_cell g2 (j := 0) (v := .slice ta9 T9.length tc9) rfl
        have x1 := blk_cell g2 (j := 1) (v := .slice la9 L9.length lc9) rfl
        refine bodyPost_ret (v := .agg #[.slice ta9 T9.length tc9, .slice la9 L9.length lc9]) (by simp [results, Tryz.results54, go_sem, x0, x1]) rfl ⟨ta9, tc9, T9, la9, lc9, L9, rfl, hO, by omega, hT9, hL9, hC.mono (by omega), hK⟩
  · have q0 : (r == 0) = false := by simp; omega
    have q1 : (r == 1) = false := by simp; omega
    have q2 : (r == 2) = false := by simp; omega
    have q3 : (r == 3) = false := by simp; omega
    have q4 : (r == 4) = false := by simp; omega
    have q5 : (r == 5) = false := by simp; omega
    have q6 : (r == 6) = false := by simp; omega
    have q7 : (r == 7) = false := by simp; omega
    go_upto_region 40 with fail
    obtain ⟨wz, hwz⟩ : ∃ W, W = w5 := ⟨_, rfl⟩
    rw [← hwz]
    obtain ⟨ta9, tc9, T9, la9, lc9, L9, hT9, hL9, HZ⟩ : ∃ (ta : Option Addr) (tc : Nat) (T : List TowerT) (la : Option Addr) (lc : Nat) (L : List LinkT), T.length ≤ 17 ∧ L.length ≤ 41 ∧ Hid (NX b w.heap.size (w.heap.size + 1) bo w ta tc T la lc L (k + 5900) wz) := by
      rw [hwz]
      exact ⟨_, tc, T, la, lc, L, by omega, by omega, HS5.out.mono (by omega)⟩
    clear hwz
    have y0 := blk_cell HZ.out.box (j := 0) (v := .slice ta9 T9.length tc9) rfl
    have y1 := blk_cell HZ.out.box (j := 1) (v := .slice la9 L9.length lc9) rfl
    have z0 := blk_cell HZ.out.res (j := 0) (v := .slice none 0 0) rfl
    have z1 := blk_cell HZ.out.res (j := 1) (v := .slice none 0 0) rfl
    have f0 := blk_free HZ.out.res 0
    have f1 := blk_free HZ.out.res 1
    go_wp2
    obtain ⟨w9, hw9⟩ : ∃ W, W = (wz.setCell ⟨w.heap.size, 0, none⟩ (.slice ta9 T9.length tc9)).setCell ⟨w.heap.size, 1, none⟩ (.slice la9 L9.length lc9) := ⟨_, rfl⟩
    rw [← hw9]
    obtain ⟨g2, hO, hC, hK⟩ := HZ.out.fin hw9
    have x0 := blk_cell g2 (j := 0) (v := .slice ta9 T9.length tc9) rfl
    have x1 := blk_cell g2 (j := 1) (v := .slice la9 L9.length lc9) rfl
    refine bodyPost_ret (v := .agg #[.slice ta9 T9.length tc9, .slice la9 L9.length lc9]) (by simp [results, Tryz.results54, go_sem, x0, x1]) rfl ⟨ta9, tc9, T9, la9, lc9, L9, rfl, hO, by omega, hT9, hL9, hC.mono (by omega), hK⟩
end Go.Proofs.YtmaaeemhbccpcaaGreatDoor
