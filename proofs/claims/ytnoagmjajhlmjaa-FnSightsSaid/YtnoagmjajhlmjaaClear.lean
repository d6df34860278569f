
/- Clearances: the program's and the reference's; whether towers see each other. -/
import Derived.Test.YtnoagmjajhlmjaaSight
import Derived.Test.YtnoagmjajhlmjaaBulge
namespace Go.Proofs.Ytnoagmjajhlmjaa
open Go.RowKit

/-- By how much the line is above a ground and the bulge, times Distance and 50968. -/
def clr (D A B n : Int) (g : GroundT) : Int := ((A - g.2) * D + (B - A) * g.1) * 50968 - 5 * (8 - n) * g.1 * (D - g.1) * D
/-- What is asked of the numbers of a sight. -/
structure OkD (D A B n : Int) : Prop where
  d1 : 1 ≤ D
  d2 : D ≤ 999
  a1 : 0 ≤ A
  a2 : A ≤ 6000
  b1 : 0 ≤ B
  b2 : B ≤ 6000
  n1 : 0 ≤ n
  n2 : n ≤ 3
def OkG (D : Int) (g : GroundT) : Prop := 1 ≤ g.1 ∧ g.1 ≤ D - 1 ∧ 0 ≤ g.2 ∧ g.2 ≤ 3000
theorem mulAbs {a b A B : Int} (h1 : -A ≤ a) (h2 : a ≤ A) (h3 : -B ≤ b) (h4 : b ≤ B) : -(A * B) ≤ a * b ∧ a * b ≤ A * B := by
  have hA : 0 ≤ A := by omega
  have hB : 0 ≤ B := by omega
  have e1 := Int.mul_nonneg (a := A - a) (b := B - b) (by omega) (by omega)
  have e2 := Int.mul_nonneg (a := A + a) (b := B + b) (by omega) (by omega)
  have e3 := Int.mul_nonneg (a := A - a) (b := B + b) (by omega) (by omega)
  have e4 := Int.mul_nonneg (a := A + a) (b := B - b) (by omega) (by omega)
  simp only [Int.sub_mul, Int.add_mul, Int.mul_sub, Int.mul_add] at e1 e2 e3 e4
  omega
theorem clr_bd {D A B n x y : Int} (h : OkD D A B n) (hg : OkG D (x, y)) :
    (-5994000 ≤ (A - y) * D ∧ (A - y) * D ≤ 5994000) ∧ (-5994000 ≤ (B - A) * x ∧ (B - A) * x ≤ 5994000) ∧ (0 ≤ A * D ∧ A * D ≤ 5994000) ∧
    (0 ≤ 5 * (8 - n) * x * (D - x) ∧ 5 * (8 - n) * x * (D - x) ≤ 40000000) ∧ (0 ≤ 5 * (8 - n) * x * (D - x) * D ∧ 5 * (8 - n) * x * (D - x) * D ≤ 40000000000) ∧
    (0 ≤ (y * 50968 + 5 * (8 - n) * x * (D - x)) * D ∧ (y * 50968 + 5 * (8 - n) * x * (D - x)) * D ≤ 200000000000) := by
  obtain ⟨g1, g2, g3, g4⟩ := hg
  obtain ⟨d1, d2, a1, a2, b1, b2, n1, n2⟩ := h
  dsimp only at g1 g2 g3 g4
  have e1 := mulAbs (a := A - y) (b := D) (A := 6000) (B := 999) (by omega) (by omega) (by omega) (by omega)
  have e2 := mulAbs (a := B - A) (b := x) (A := 6000) (B := 999) (by omega) (by omega) (by omega) (by omega)
  have e3 := mulBd (a := A) (b := D) (A := 6000) (B := 999) (by omega) (by omega) (by omega) (by omega)
  obtain ⟨b7, b8, _, _⟩ := bulge_bd (d := D) (a := x) (n := n) d2 (by omega) (by omega) n1 n2
  have e5 := mulBd (b := D) (B := 999) b7 b8 (by omega) (by omega)
  have e6 := mulBd (a := y * 50968 + 5 * (8 - n) * x * (D - x)) (b := D) (A := 200000000) (B := 999) (by omega) (by omega) (by omega) (by omega)
  omega
theorem clr_spec (D A B n x y : Int) : (A * D + (B - A) * x) * 50968 - (y * 50968 + 5 * (8 - n) * x * (D - x)) * D = clr D A B n (x, y) := by
  unfold clr
  dsimp only
  generalize 5 * (8 - n) * x * (D - x) = q
  generalize (B - A) * x = r
  rw [Int.add_mul (y * 50968) q D, Int.sub_mul A y D, Int.mul_right_comm y 50968 D]
  generalize q * D = s
  generalize A * D = u
  generalize y * D = t
  omega

set_option maxRecDepth 100000 in
set_option maxHeartbeats 1000000 in
theorem c_clearanceAt (D A B n x y : Int) (vg : Value) (w : World) (h : OkD D A B n) (hg : OkG D (x, y)) :
    Calls Try.prog 55 #[.agg #[.int .i64 D, .int .i64 A, .int .i64 B, vg], .agg #[.int .i64 x, .int .i64 y], .int .i64 n] w fun e w' => e = .returned (.int .i64 (clr D A B n (x, y))) ∧ Ext w w' := by
  obtain ⟨r, hr⟩ : ∃ r, r = clr D A B n (x, y) := ⟨_, rfl⟩
  rw [← hr]
  unfold clr at hr
  have HR := Lib.hid hr
  obtain ⟨⟨c1, c2⟩, ⟨c3, c4⟩, ⟨c5, c6⟩, ⟨c7, c8⟩, ⟨c9, c10⟩, ⟨c11, c12⟩⟩ := clr_bd h hg
  obtain ⟨g1, g2, g3, g4⟩ := hg
  obtain ⟨d1, d2, a1, a2, b1, b2, n1, n2⟩ := h
  dsimp only at g1 g2 g3 g4
  have g5 : x ≤ D := by omega
  have g0 : 0 ≤ x := by omega
  clear hr
  go_enter Try.func55, Try.ntmps55
  go_wp2
  have X := ((Ext.refl w).al (.cells #[.int .i64 D, .int .i64 A, .int .i64 B, vg] 28)).al (.cells #[.int .i64 x, .int .i64 y] 61)
  have B1 : ((w.alloc (.cells #[.int .i64 D, .int .i64 A, .int .i64 B, vg] 28)).alloc (.cells #[.int .i64 x, .int .i64 y] 61)).heap[w.heap.size]? = some (.cells #[.int .i64 D, .int .i64 A, .int .i64 B, vg] 28) := blk_old (blk_alloc _ _)
  have B2 : ((w.alloc (.cells #[.int .i64 D, .int .i64 A, .int .i64 B, vg] 28)).alloc (.cells #[.int .i64 x, .int .i64 y] 61)).heap[w.heap.size + 1]? = some (.cells #[.int .i64 x, .int .i64 y] 61) := blk_alloc2 _ _ _
  generalize ((w.alloc (.cells #[.int .i64 D, .int .i64 A, .int .i64 B, vg] 28)).alloc (.cells #[.int .i64 x, .int .i64 y] 61)) = W2 at *
  have k0 := XT.cell (blk_cell B1 (j := 0) rfl)
  have k1 := XT.cell (blk_cell B1 (j := 1) rfl)
  have k2 := XT.cell (blk_cell B1 (j := 2) rfl)
  have k3 := XT.cell (blk_cell B2 (j := 0) rfl)
  have k4 := XT.cell (blk_cell B2 (j := 1) rfl)
  have XX := Lib.hid X
  clear X B1 B2
  refine region_ext (by kernel_rfl) (by kernel_rfl) ?_
  repeat (go_big_quiet_step ((go_at_call 62; refine Calls.ext_same (c_bulge _ _ _ _ d2 g0 g5 n1 n2))))
  refine wpQuiet_nil ?_
  intro wq hxq
  go_wp2
  go_ret
  exact ⟨by rw [HR.out]; rfl, XX.out.trans hxq⟩
set_option maxRecDepth 100000 in
set_option maxHeartbeats 1000000 in
theorem c_siOver (D A B n x y : Int) (vg : Value) (w : World) (h : OkD D A B n) (hg : OkG D (x, y)) :
    Calls Try.prog 58 #[.agg #[.int .i64 D, .int .i64 A, .int .i64 B, vg], .agg #[.int .i64 x, .int .i64 y], .int .i64 n] w fun e w' => e = .returned (.int .i64 (clr D A B n (x, y))) ∧ Ext w w' := by
  obtain ⟨r, hr⟩ : ∃ r, r = clr D A B n (x, y) := ⟨_, rfl⟩
  rw [← hr]
  rw [← clr_spec] at hr
  have HR := Lib.hid hr
  obtain ⟨⟨c1, c2⟩, ⟨c3, c4⟩, ⟨c5, c6⟩, ⟨c7, c8⟩, ⟨c9, c10⟩, ⟨c11, c12⟩⟩ := clr_bd h hg
  obtain ⟨g1, g2, g3, g4⟩ := hg
  obtain ⟨d1, d2, a1, a2, b1, b2, n1, n2⟩ := h
  dsimp only at g1 g2 g3 g4
  have g5 : x ≤ D := by omega
  have g0 : 0 ≤ x := by omega
  clear hr
  go_enter Try.func58, Try.ntmps58
  go_wp2
  have X := ((Ext.refl w).al (.cells #[.int .i64 D, .int .i64 A, .int .i64 B, vg] 28)).al (.cells #[.int .i64 x, .int .i64 y] 61)
  have B1 : ((w.alloc (.cells #[.int .i64 D, .int .i64 A, .int .i64 B, vg] 28)).alloc (.cells #[.int .i64 x, .int .i64 y] 61)).heap[w.heap.size]? = some (.cells #[.int .i64 D, .int .i64 A, .int .i64 B, vg] 28) := blk_old (blk_alloc _ _)
  have B2 : ((w.alloc (.cells #[.int .i64 D, .int .i64 A, .int .i64 B, vg] 28)).alloc (.cells #[.int .i64 x, .int .i64 y] 61)).heap[w.heap.size + 1]? = some (.cells #[.int .i64 x, .int .i64 y] 61) := blk_alloc2 _ _ _
  generalize ((w.alloc (.cells #[.int .i64 D, .int .i64 A, .int .i64 B, vg] 28)).alloc (.cells #[.int .i64 x, .int .i64 y] 61)) = W2 at *
  have k0 := XT.cell (blk_cell B1 (j := 0) rfl)
  have k1 := XT.cell (blk_cell B1 (j := 1) rfl)
  have k2 := XT.cell (blk_cell B1 (j := 2) rfl)
  have k3 := XT.cell (blk_cell B2 (j := 0) rfl)
  have k4 := XT.cell (blk_cell B2 (j := 1) rfl)
  have XX := Lib.hid X
  clear X B1 B2
  refine region_ext (by kernel_rfl) (by kernel_rfl) ?_
  repeat (go_big_quiet_step ((go_at_call 63; refine Calls.ext_same (c_siBulge _ _ _ _ d2 g0 g5 n1 n2))))
  refine wpQuiet_nil ?_
  intro wq hxq
  go_wp2
  go_ret
  exact ⟨by rw [HR.out]; rfl, XX.out.trans hxq⟩
end Go.Proofs.Ytnoagmjajhlmjaa
