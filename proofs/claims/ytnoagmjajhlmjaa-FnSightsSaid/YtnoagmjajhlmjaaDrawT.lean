

/- Drawn sights and heights: the reference's draw functions. -/
import Derived.Test.YtnoagmjajhlmjaaDrawS
import Derived.Test.YtnoagmjajhlmjaaSightM
namespace Go.Proofs.Ytnoagmjajhlmjaa
open Go.RowKit
set_option linter.unusedSimpArgs false
set_option linter.unusedVariables false
/-- The bytes of an argument. -/
def Bytes (w : World) (lo hi : Nat) (v : Value) (bs : List Int) : Prop := Row encY 1 w lo hi v bs ∧ ∀ x ∈ bs, 0 ≤ x ∧ x ≤ 255
theorem Bytes.ext {w w' : World} {lo hi : Nat} {v : Value} {bs : List Int} (h : Bytes w lo hi v bs) (hx : Ext w w') (hh : hi ≤ w.heap.size) : Bytes w' lo hi v bs := ⟨h.1.ext hx hh, h.2⟩
def GiveSI (w : World) (e : Ending) (w' : World) : Prop := ∃ (v : Value) (x : SiT) (n : Int), e = .returned (.tuple #[v, .int .i64 n]) ∧ OwnSight w' w.heap.size w'.heap.size v x ∧ x.2.2.2.length ≤ 21 ∧ -1 ≤ n ∧ n ≤ 4 ∧ Ext w w'
def GiveS (w : World) (e : Ending) (w' : World) : Prop := ∃ (v : Value) (x : SiT), e = .returned v ∧ OwnSight w' w.heap.size w'.heap.size v x ∧ x.2.2.2.length ≤ 21 ∧ Ext w w'
def GiveII (lo hi : Int) (w : World) (e : Ending) (w' : World) : Prop := ∃ (m n : Int), e = .returned (.tuple #[.int .i64 m, .int .i64 n]) ∧ lo ≤ m ∧ m ≤ hi ∧ -1 ≤ n ∧ n ≤ 4 ∧ Ext w w'
def GiveIII (lo hi : Int) (w : World) (e : Ending) (w' : World) : Prop := ∃ (d m n : Int), e = .returned (.tuple #[.int .i64 d, .int .i64 m, .int .i64 n]) ∧ 0 ≤ d ∧ d ≤ 1000 ∧ lo ≤ m ∧ m ≤ hi ∧ -1 ≤ n ∧ n ≤ 4 ∧ Ext w w'
/-- The box of a result that is filled in. -/
theorem res_fill {w w3 w9 : World} {rs base : Nat} {D A B : Int} {a : Option Addr} {c : Nat} {gs : List GroundT}
    (hr : w3.heap[rs]? = some (.cells #[.int .i64 0, .int .i64 0, .int .i64 0, .slice none 0 0] 28)) (hx : Ext w w3) (hs : w.heap.size ≤ rs) (hb : rs < base)
    (ho : w3.ownsRow base 61 2 (.slice a gs.length c) gs.length (gs.flatMap encGround))
    (hw : w9 = (((w3.setCell ⟨rs, 0, none⟩ (.int .i64 D)).setCell ⟨rs, 1, none⟩ (.int .i64 A)).setCell ⟨rs, 2, none⟩ (.int .i64 B)).setCell ⟨rs, 3, none⟩ (.slice a gs.length c)) :
    w9.heap[rs]? = some (.cells #[.int .i64 D, .int .i64 A, .int .i64 B, .slice a gs.length c] 28) ∧ Ext w w9 ∧ OwnSight w9 w.heap.size w9.heap.size (.agg #[.int .i64 D, .int .i64 A, .int .i64 B, .slice a gs.length c]) (D, A, B, gs) := by
  have g1 : (w3.setCell ⟨rs, 0, none⟩ (.int .i64 D)).heap[rs]? = some (.cells #[.int .i64 D, .int .i64 0, .int .i64 0, .slice none 0 0] 28) := by rw [heap_setCell_same _ _ _ _ _ _ hr]; rfl
  have g2 : ((w3.setCell ⟨rs, 0, none⟩ (.int .i64 D)).setCell ⟨rs, 1, none⟩ (.int .i64 A)).heap[rs]? = some (.cells #[.int .i64 D, .int .i64 A, .int .i64 0, .slice none 0 0] 28) := by rw [heap_setCell_same _ _ _ _ _ _ g1]; rfl
  have g3 : (((w3.setCell ⟨rs, 0, none⟩ (.int .i64 D)).setCell ⟨rs, 1, none⟩ (.int .i64 A)).setCell ⟨rs, 2, none⟩ (.int .i64 B)).heap[rs]? = some (.cells #[.int .i64 D, .int .i64 A, .int .i64 B, .slice none 0 0] 28) := by rw [heap_setCell_same _ _ _ _ _ _ g2]; rfl
  have ho9 : w9.ownsRow base 61 2 (.slice a gs.length c) gs.length (gs.flatMap encGround) := by
    rw [hw]
    exact ownsRow_setCell_below (ownsRow_setCell_below (ownsRow_setCell_below (ownsRow_setCell_below ho (by exact hb) _) (by exact hb) _) (by exact hb) _) (by exact hb) _
  refine ⟨by rw [hw, heap_setCell_same _ _ _ _ _ _ g3]; rfl, ?_, ⟨a, c, rfl, own_mono ho9 (by omega), fun q hq => (ho9.lt q hq).2⟩⟩
  rw [hw]
  exact (((hx.st (p := ⟨rs, 0, none⟩) hs _).st (p := ⟨rs, 1, none⟩) hs _).st (p := ⟨rs, 2, none⟩) hs _).st (p := ⟨rs, 3, none⟩) hs _
set_option maxRecDepth 100000 in
set_option maxHeartbeats 1000000 in
theorem c_DrawSeesAt (v : Value) (la ha : Nat) (bs : List Int) (w : World) (h : Bytes w la ha v bs) (hh : ha ≤ w.heap.size) : Calls Try.prog 23 #[v] w (GiveSI w) := by
  obtain ⟨a, cap, rfl, _⟩ := h.1.formY
  have HY := Lib.hid h
  clear h
  go_enter Try.func23, Try.ntmps23
  go_wp2_with fail
  obtain ⟨w0, hw0⟩ : ∃ W, W = w.alloc (.cells #[.int .i64 0, .int .i64 0, .int .i64 0, .slice none 0 0] 28) := ⟨_, rfl⟩
  rw [← hw0]
  have X0 : Ext w w0 := by rw [hw0]; exact Ext.alloc _ _
  have R0 : w0.heap[w.heap.size]? = some (.cells #[.int .i64 0, .int .i64 0, .int .i64 0, .slice none 0 0] 28) := by rw [hw0]; exact blk_alloc _ _
  have s0 : w0.heap.size = w.heap.size + 1 := by rw [hw0, size_alloc]
  obtain ⟨w1, hw1⟩ : ∃ W, W = w0.alloc (.cells #[.slice a bs.length cap, .int .i64 0, .int .u64 0] 73) := ⟨_, rfl⟩
  rw [← hw1]
  have hC : Cur w1 w0.heap.size 0 := by rw [hw1]; exact cur_new w0 _ la ha bs (HY.out.1.ext X0 hh) (by omega) HY.out.2
  have X1 : Ext w0 w1 := by rw [hw1]; exact Ext.alloc _ _
  have s1 : w1.heap.size = w0.heap.size + 1 := by rw [hw1, size_alloc]
  rw [s0] at hC
  clear hw1 hw0
  refine (c_sight (w.heap.size + 1) 0 w1 hC (by omega)).mono ?_
  rintro e w2 ⟨D, A, B, a2, c2, gs, rfl, ho, hl, hc, hk⟩
  have CB := Lib.hid (c_bend (w.heap.size + 1) _ w2 hc (by omega))
  have HR2 := Lib.hid (hk.blk (X1.blk R0) (Or.inl (by omega)))
  have HO2 := Lib.hid ho
  have HK2 := Lib.hid (X1.keep hk (by omega))
  clear hc hk ho hC R0
  go_wp2_with fail
  refine CB.out.mono ?_
  rintro e w3 ⟨n, rfl, n0, n1, hc, hk⟩
  have HR3 := Lib.hid (hk.blk HR2.out (Or.inl (by omega)))
  have HO3 := Lib.hid (own_kc HO2.out hk (by omega))
  have HX3 := Lib.hid ((X0.trans HK2.out).keep hk (by omega))
  clear hc hk CB HO2 HR2
  have z0 := blk_cell HR3.out (j := 0) (v := .int .i64 0) rfl
  have z1 := blk_cell HR3.out (j := 1) (v := .int .i64 0) rfl
  have z2 := blk_cell HR3.out (j := 2) (v := .int .i64 0) rfl
  have z3 := blk_cell HR3.out (j := 3) (v := .slice none 0 0) rfl
  have f0 := blk_free HR3.out 0
  have f1 := blk_free HR3.out 1
  have f2 := blk_free HR3.out 2
  have f3 := blk_free HR3.out 3
  go_wp2
  obtain ⟨w9, hw9⟩ : ∃ W, W = (((w3.setCell ⟨w.heap.size, 0, none⟩ (.int .i64 D)).setCell ⟨w.heap.size, 1, none⟩ (.int .i64 A)).setCell ⟨w.heap.size, 2, none⟩ (.int .i64 B)).setCell ⟨w.heap.size, 3, none⟩ (.slice a2 gs.length c2) := ⟨_, rfl⟩
  rw [← hw9]
  obtain ⟨g4, X9, hos⟩ := res_fill HR3.out HX3.out (Nat.le_refl _) (by omega) HO3.out hw9
  have k90 := blk_cell g4 (j := 0) (v := .int .i64 D) rfl
  have k91 := blk_cell g4 (j := 1) (v := .int .i64 A) rfl
  have k92 := blk_cell g4 (j := 2) (v := .int .i64 B) rfl
  have k93 := blk_cell g4 (j := 3) (v := .slice a2 gs.length c2) rfl
  clear hw9 g4
  refine bodyPost_ret (v := .tuple #[.agg #[.int .i64 D, .int .i64 A, .int .i64 B, .slice a2 gs.length c2], .int .i64 n]) (by simp [results, Try.results23, go_sem, k90, k91, k92, k93]) rfl (⟨_, (D, A, B, gs), n, rfl, hos, hl, n0, n1, X9⟩)
set_option maxRecDepth 100000 in
set_option maxHeartbeats 1000000 in
theorem c_DrawIsSight (v : Value) (la ha : Nat) (bs : List Int) (w : World) (h : Bytes w la ha v bs) (hh : ha ≤ w.heap.size) : Calls Try.prog 61 #[v] w (GiveS w) := by
  obtain ⟨a, cap, rfl, _⟩ := h.1.formY
  have HY := Lib.hid h
  clear h
  go_enter Try.func61, Try.ntmps61
  go_wp2_with fail
  obtain ⟨w0, hw0⟩ : ∃ W, W = w.alloc (.cells #[.int .i64 0, .int .i64 0, .int .i64 0, .slice none 0 0] 28) := ⟨_, rfl⟩
  rw [← hw0]
  have X0 : Ext w w0 := by rw [hw0]; exact Ext.alloc _ _
  have R0 : w0.heap[w.heap.size]? = some (.cells #[.int .i64 0, .int .i64 0, .int .i64 0, .slice none 0 0] 28) := by rw [hw0]; exact blk_alloc _ _
  have s0 : w0.heap.size = w.heap.size + 1 := by rw [hw0, size_alloc]
  obtain ⟨w1, hw1⟩ : ∃ W, W = w0.alloc (.cells #[.slice a bs.length cap, .int .i64 0, .int .u64 0] 73) := ⟨_, rfl⟩
  rw [← hw1]
  have hC : Cur w1 w0.heap.size 0 := by rw [hw1]; exact cur_new w0 _ la ha bs (HY.out.1.ext X0 hh) (by omega) HY.out.2
  have X1 : Ext w0 w1 := by rw [hw1]; exact Ext.alloc _ _
  have s1 : w1.heap.size = w0.heap.size + 1 := by rw [hw1, size_alloc]
  rw [s0] at hC
  clear hw1 hw0
  refine (c_sight (w.heap.size + 1) 0 w1 hC (by omega)).mono ?_
  rintro e w2 ⟨D, A, B, a2, c2, gs, rfl, ho, hl, hc, hk⟩
  have HR2 := Lib.hid (hk.blk (X1.blk R0) (Or.inl (by omega)))
  have HO2 := Lib.hid ho
  have HX2 := Lib.hid (X0.trans (X1.keep hk (by omega)))
  clear hc hk ho hC R0
  have z0 := blk_cell HR2.out (j := 0) (v := .int .i64 0) rfl
  have z1 := blk_cell HR2.out (j := 1) (v := .int .i64 0) rfl
  have z2 := blk_cell HR2.out (j := 2) (v := .int .i64 0) rfl
  have z3 := blk_cell HR2.out (j := 3) (v := .slice none 0 0) rfl
  have f0 := blk_free HR2.out 0
  have f1 := blk_free HR2.out 1
  have f2 := blk_free HR2.out 2
  have f3 := blk_free HR2.out 3
  go_wp2
  obtain ⟨w9, hw9⟩ : ∃ W, W = (((w2.setCell ⟨w.heap.size, 0, none⟩ (.int .i64 D)).setCell ⟨w.heap.size, 1, none⟩ (.int .i64 A)).setCell ⟨w.heap.size, 2, none⟩ (.int .i64 B)).setCell ⟨w.heap.size, 3, none⟩ (.slice a2 gs.length c2) := ⟨_, rfl⟩
  rw [← hw9]
  obtain ⟨g4, X9, hos⟩ := res_fill HR2.out HX2.out (Nat.le_refl _) (by omega) HO2.out hw9
  have k90 := blk_cell g4 (j := 0) (v := .int .i64 D) rfl
  have k91 := blk_cell g4 (j := 1) (v := .int .i64 A) rfl
  have k92 := blk_cell g4 (j := 2) (v := .int .i64 B) rfl
  have k93 := blk_cell g4 (j := 3) (v := .slice a2 gs.length c2) rfl
  clear hw9 g4
  refine bodyPost_ret (v := .agg #[.int .i64 D, .int .i64 A, .int .i64 B, .slice a2 gs.length c2]) (by simp [results, Try.results61, go_sem, k90, k91, k92, k93]) rfl (⟨_, (D, A, B, gs), rfl, hos, hl, X9⟩)
set_option maxRecDepth 100000 in
set_option maxHeartbeats 1000000 in
theorem c_DrawLeastHeight (v : Value) (la ha : Nat) (bs : List Int) (w : World) (h : Bytes w la ha v bs) (hh : ha ≤ w.heap.size) : Calls Try.prog 13 #[v] w (GiveSI w) := by
  obtain ⟨w0, hw0⟩ : ∃ W, W = w.alloc (.cells #[.int .i64 0, .int .i64 0, .int .i64 0, .slice none 0 0] 28) := ⟨_, rfl⟩
  have X0 : Ext w w0 := by rw [hw0]; exact Ext.alloc _ _
  have R0 : w0.heap[w.heap.size]? = some (.cells #[.int .i64 0, .int .i64 0, .int .i64 0, .slice none 0 0] 28) := by rw [hw0]; exact blk_alloc _ _
  have s0 : w0.heap.size = w.heap.size + 1 := by rw [hw0, size_alloc]
  have C := Lib.hid (c_DrawSeesAt v la ha bs w0 (h.ext X0 hh) (by omega))
  have HW0 := Lib.hid hw0
  have HR0 := Lib.hid R0
  obtain ⟨a, cap, rfl, _⟩ := h.1.formY
  clear h hw0 R0
  go_enter Try.func13, Try.ntmps13
  go_wp2_with fail
  rw [← HW0.out]
  refine C.out.mono ?_
  rintro e w3 ⟨v3, ⟨D, A, B, gs⟩, n, rfl, ⟨a2, c2, rfl, ho, _⟩, hl, n0, n1, hx⟩
  simp only at ho hl
  have HR3 := Lib.hid (hx.blk HR0.out)
  have HO3 := Lib.hid ho
  have HX3 := Lib.hid (X0.trans hx)
  clear ho hx HW0 HR0 C
  have z0 := blk_cell HR3.out (j := 0) (v := .int .i64 0) rfl
  have z1 := blk_cell HR3.out (j := 1) (v := .int .i64 0) rfl
  have z2 := blk_cell HR3.out (j := 2) (v := .int .i64 0) rfl
  have z3 := blk_cell HR3.out (j := 3) (v := .slice none 0 0) rfl
  have f0 := blk_free HR3.out 0
  have f1 := blk_free HR3.out 1
  have f2 := blk_free HR3.out 2
  have f3 := blk_free HR3.out 3
  go_wp2
  obtain ⟨w9, hw9⟩ : ∃ W, W = (((w3.setCell ⟨w.heap.size, 0, none⟩ (.int .i64 D)).setCell ⟨w.heap.size, 1, none⟩ (.int .i64 A)).setCell ⟨w.heap.size, 2, none⟩ (.int .i64 B)).setCell ⟨w.heap.size, 3, none⟩ (.slice a2 gs.length c2) := ⟨_, rfl⟩
  rw [← hw9]
  obtain ⟨g4, X9, hos⟩ := res_fill HR3.out HX3.out (Nat.le_refl _) (by omega) HO3.out hw9
  have k90 := blk_cell g4 (j := 0) (v := .int .i64 D) rfl
  have k91 := blk_cell g4 (j := 1) (v := .int .i64 A) rfl
  have k92 := blk_cell g4 (j := 2) (v := .int .i64 B) rfl
  have k93 := blk_cell g4 (j := 3) (v := .slice a2 gs.length c2) rfl
  clear hw9 g4
  refine bodyPost_ret (v := .tuple #[.agg #[.int .i64 D, .int .i64 A, .int .i64 B, .slice a2 gs.length c2], .int .i64 n]) (by simp [results, Try.results13, go_sem, k90, k91, k92, k93]) rfl (⟨_, (D, A, B, gs), n, rfl, hos, hl, n0, n1, X9⟩)
set_option maxRecDepth 100000 in
set_option maxHeartbeats 1000000 in
theorem c_DrawLeastRaise (v : Value) (la ha : Nat) (bs : List Int) (w : World) (h : Bytes w la ha v bs) (hh : ha ≤ w.heap.size) : Calls Try.prog 16 #[v] w (GiveSI w) := by
  obtain ⟨w0, hw0⟩ : ∃ W, W = w.alloc (.cells #[.int .i64 0, .int .i64 0, .int .i64 0, .slice none 0 0] 28) := ⟨_, rfl⟩
  have X0 : Ext w w0 := by rw [hw0]; exact Ext.alloc _ _
  have R0 : w0.heap[w.heap.size]? = some (.cells #[.int .i64 0, .int .i64 0, .int .i64 0, .slice none 0 0] 28) := by rw [hw0]; exact blk_alloc _ _
  have s0 : w0.heap.size = w.heap.size + 1 := by rw [hw0, size_alloc]
  have C := Lib.hid (c_DrawSeesAt v la ha bs w0 (h.ext X0 hh) (by omega))
  have HW0 := Lib.hid hw0
  have HR0 := Lib.hid R0
  obtain ⟨a, cap, rfl, _⟩ := h.1.formY
  clear h hw0 R0
  go_enter Try.func16, Try.ntmps16
  go_wp2_with fail
  rw [← HW0.out]
  refine C.out.mono ?_
  rintro e w3 ⟨v3, ⟨D, A, B, gs⟩, n, rfl, ⟨a2, c2, rfl, ho, _⟩, hl, n0, n1, hx⟩
  simp only at ho hl
  have HR3 := Lib.hid (hx.blk HR0.out)
  have HO3 := Lib.hid ho
  have HX3 := Lib.hid (X0.trans hx)
  clear ho hx HW0 HR0 C
  have z0 := blk_cell HR3.out (j := 0) (v := .int .i64 0) rfl
  have z1 := blk_cell HR3.out (j := 1) (v := .int .i64 0) rfl
  have z2 := blk_cell HR3.out (j := 2) (v := .int .i64 0) rfl
  have z3 := blk_cell HR3.out (j := 3) (v := .slice none 0 0) rfl
  have f0 := blk_free HR3.out 0
  have f1 := blk_free HR3.out 1
  have f2 := blk_free HR3.out 2
  have f3 := blk_free HR3.out 3
  go_wp2
  obtain ⟨w9, hw9⟩ : ∃ W, W = (((w3.setCell ⟨w.heap.size, 0, none⟩ (.int .i64 D)).setCell ⟨w.heap.size, 1, none⟩ (.int .i64 A)).setCell ⟨w.heap.size, 2, none⟩ (.int .i64 B)).setCell ⟨w.heap.size, 3, none⟩ (.slice a2 gs.length c2) := ⟨_, rfl⟩
  rw [← hw9]
  obtain ⟨g4, X9, hos⟩ := res_fill HR3.out HX3.out (Nat.le_refl _) (by omega) HO3.out hw9
  have k90 := blk_cell g4 (j := 0) (v := .int .i64 D) rfl
  have k91 := blk_cell g4 (j := 1) (v := .int .i64 A) rfl
  have k92 := blk_cell g4 (j := 2) (v := .int .i64 B) rfl
  have k93 := blk_cell g4 (j := 3) (v := .slice a2 gs.length c2) rfl
  clear hw9 g4
  refine bodyPost_ret (v := .tuple #[.agg #[.int .i64 D, .int .i64 A, .int .i64 B, .slice a2 gs.length c2], .int .i64 n]) (by simp [results, Try.results16, go_sem, k90, k91, k92, k93]) rfl (⟨_, (D, A, B, gs), n, rfl, hos, hl, n0, n1, X9⟩)
set_option maxRecDepth 100000 in
set_option maxHeartbeats 1000000 in
theorem c_DrawSightBounds (v : Value) (la ha : Nat) (bs : List Int) (w : World) (h : Bytes w la ha v bs) (hh : ha ≤ w.heap.size) : Calls Try.prog 29 #[v] w (GiveS w) := by
  obtain ⟨w0, hw0⟩ : ∃ W, W = w.alloc (.cells #[.int .i64 0, .int .i64 0, .int .i64 0, .slice none 0 0] 28) := ⟨_, rfl⟩
  have X0 : Ext w w0 := by rw [hw0]; exact Ext.alloc _ _
  have R0 : w0.heap[w.heap.size]? = some (.cells #[.int .i64 0, .int .i64 0, .int .i64 0, .slice none 0 0] 28) := by rw [hw0]; exact blk_alloc _ _
  have s0 : w0.heap.size = w.heap.size + 1 := by rw [hw0, size_alloc]
  have C := Lib.hid (c_DrawIsSight v la ha bs w0 (h.ext X0 hh) (by omega))
  have HW0 := Lib.hid hw0
  have HR0 := Lib.hid R0
  obtain ⟨a, cap, rfl, _⟩ := h.1.formY
  clear h hw0 R0
  go_enter Try.func29, Try.ntmps29
  go_wp2_with fail
  rw [← HW0.out]
  refine C.out.mono ?_
  rintro e w3 ⟨v3, ⟨D, A, B, gs⟩, rfl, ⟨a2, c2, rfl, ho, _⟩, hl, hx⟩
  simp only at ho hl
  have HR3 := Lib.hid (hx.blk HR0.out)
  have HO3 := Lib.hid ho
  have HX3 := Lib.hid (X0.trans hx)
  clear ho hx HW0 HR0 C
  have z0 := blk_cell HR3.out (j := 0) (v := .int .i64 0) rfl
  have z1 := blk_cell HR3.out (j := 1) (v := .int .i64 0) rfl
  have z2 := blk_cell HR3.out (j := 2) (v := .int .i64 0) rfl
  have z3 := blk_cell HR3.out (j := 3) (v := .slice none 0 0) rfl
  have f0 := blk_free HR3.out 0
  have f1 := blk_free HR3.out 1
  have f2 := blk_free HR3.out 2
  have f3 := blk_free HR3.out 3
  go_wp2
  obtain ⟨w9, hw9⟩ : ∃ W, W = (((w3.setCell ⟨w.heap.size, 0, none⟩ (.int .i64 D)).setCell ⟨w.heap.size, 1, none⟩ (.int .i64 A)).setCell ⟨w.heap.size, 2, none⟩ (.int .i64 B)).setCell ⟨w.heap.size, 3, none⟩ (.slice a2 gs.length c2) := ⟨_, rfl⟩
  rw [← hw9]
  obtain ⟨g4, X9, hos⟩ := res_fill HR3.out HX3.out (Nat.le_refl _) (by omega) HO3.out hw9
  have k90 := blk_cell g4 (j := 0) (v := .int .i64 D) rfl
  have k91 := blk_cell g4 (j := 1) (v := .int .i64 A) rfl
  have k92 := blk_cell g4 (j := 2) (v := .int .i64 B) rfl
  have k93 := blk_cell g4 (j := 3) (v := .slice a2 gs.length c2) rfl
  clear hw9 g4
  refine bodyPost_ret (v := .agg #[.int .i64 D, .int .i64 A, .int .i64 B, .slice a2 gs.length c2]) (by simp [results, Try.results29, go_sem, k90, k91, k92, k93]) rfl (⟨_, (D, A, B, gs), rfl, hos, hl, X9⟩)
set_option maxRecDepth 100000 in
set_option maxHeartbeats 1000000 in
theorem c_DrawHorizonOf (v : Value) (la ha : Nat) (bs : List Int) (w : World) (h : Bytes w la ha v bs) (hh : ha ≤ w.heap.size) : Calls Try.prog 19 #[v] w (GiveII (-1) 3001 w) := by
  obtain ⟨a, cap, rfl, _⟩ := h.1.formY
  have HY := Lib.hid h
  clear h
  go_enter Try.func19, Try.ntmps19
  go_wp2_with fail
  obtain ⟨w1, hw1⟩ : ∃ W, W = w.alloc (.cells #[.slice a bs.length cap, .int .i64 0, .int .u64 0] 73) := ⟨_, rfl⟩
  rw [← hw1]
  have hC : Cur w1 w.heap.size 0 := by rw [hw1]; exact cur_new w _ la ha bs HY.out.1 hh HY.out.2
  have X1 : Ext w w1 := by rw [hw1]; exact Ext.alloc _ _
  have s1 : w.heap.size < w1.heap.size := by rw [hw1, size_alloc]; omega
  clear hw1
  refine (c_pick _ _ 900 w1 hC (by omega) (by omega)).mono ?_
  rintro e w2 ⟨r, rfl, r0, r1, hc, hk⟩
  have HK := Lib.hid (X1.keep hk (by omega))
  have C := Lib.hid (c_amongL w.heap.size _ [-1, 3001] (-1) 3001 w2 hc (by omega) (by simp) (by simp) (by intro x hx; simp at hx; omega))
  clear hc hk hC
  go_wp2_with fail
  refine C.out.mono ?_
  rintro e w3 ⟨r3, rfl, r30, r31, hc, hk⟩
  have HK3 := Lib.hid (HK.out.keep hk (Nat.le_refl _))
  have C3 := Lib.hid (c_amongL w.heap.size _ [0, 1, 10, 50, 300, 3000, r, r3] (-1) 3001 w3 hc (by omega) (by simp) (by simp) (by intro x hx; simp at hx; omega))
  clear hc hk C HK
  go_wp2_with fail
  refine C3.out.mono ?_
  rintro e w4 ⟨r4, rfl, r40, r41, hc, hk⟩
  have HK4 := Lib.hid (HK3.out.keep hk (Nat.le_refl _))
  have C4 := Lib.hid (c_bend w.heap.size _ w4 hc (by omega))
  clear hc hk C3 HK3
  go_wp2_with fail
  refine C4.out.mono ?_
  rintro e w5 ⟨n, rfl, n0, n1, hc, hk⟩
  have HK5 := Lib.hid (HK4.out.keep hk (Nat.le_refl _))
  clear hc hk C4 HK4
  go_wp2
  go_ret2
  exact ⟨r4, n, rfl, r40, r41, n0, n1, HK5.out⟩
end Go.Proofs.Ytnoagmjajhlmjaa
