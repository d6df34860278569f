
/- Whether two sights are the same: the laws' own function. -/
import Derived.Test.YtnoagmjajhlmjaaSightM
import Derived.Test.YtnoagmjajhlmjaaSightsP
import Derived.Deep.RegionHeld3
namespace Go.Proofs.Ytnoagmjajhlmjaa
open Go.RowKit
set_option linter.unusedSimpArgs false
set_option linter.unusedVariables false
set_option maxRecDepth 100000 in
set_option maxHeartbeats 2000000 in
/-- .. of a sight with itself. -/
theorem c_qSight (D A B : Int) (va vb : Value) (la ha lb hb : Nat) (xs : List GroundT) (w : World) (h1 : Grounds w la ha va xs) (h2 : Grounds w lb hb vb xs) (hh1 : ha ≤ w.heap.size) (hh2 : hb ≤ w.heap.size) :
    Calls Try.prog 36 #[.agg #[.int .i64 D, .int .i64 A, .int .i64 B, va], .agg #[.int .i64 D, .int .i64 A, .int .i64 B, vb]] w fun e w' => e = .returned (.bool true) ∧ Ext w w' := by
  have g1 := h1
  have g2 := h2
  obtain ⟨a, ca, rfl, m1, m2, _⟩ := g1
  obtain ⟨b, cb, rfl, m3, m4, _⟩ := g2
  have H1 := Lib.hid h1
  have H2 := Lib.hid h2
  obtain ⟨n, hn⟩ : ∃ n, n = xs.length := ⟨_, rfl⟩
  rw [← hn] at m1 m3 H1 H2 ⊢
  clear h1 h2 hn
  obtain ⟨W1, hW1⟩ : ∃ W, W = ((w.alloc (.cells #[.int .i64 D, .int .i64 A, .int .i64 B, .slice a n ca] 28)).alloc (.cells #[.int .i64 D, .int .i64 A, .int .i64 B, .slice b n cb] 28)) := ⟨_, rfl⟩
  have X1 : Hid (Ext w W1) := by unfold Hid; rw [hW1]; exact ((Ext.refl w).al _).al _
  have B1 : Hid (W1.heap[w.heap.size]? = some (.cells #[.int .i64 D, .int .i64 A, .int .i64 B, .slice a n ca] 28)) := by unfold Hid; rw [hW1]; exact blk_old (blk_alloc _ _)
  have B2 : Hid (W1.heap[w.heap.size + 1]? = some (.cells #[.int .i64 D, .int .i64 A, .int .i64 B, .slice b n cb] 28)) := by unfold Hid; rw [hW1]; exact blk_alloc2 _ _ _
  have HW1 := Lib.hid hW1
  clear hW1
  go_enter Try.func36, Try.ntmps36
  go_upto_region 1 with fail
  rw [← HW1.out]
  have k0 := blk_cell B1.out (j := 0) (v := .int .i64 D) rfl
  have k1 := blk_cell B1.out (j := 1) (v := .int .i64 A) rfl
  have k2 := blk_cell B1.out (j := 2) (v := .int .i64 B) rfl
  have k3 := blk_cell B1.out (j := 3) (v := .slice a n ca) rfl
  have q0 := blk_cell B2.out (j := 0) (v := .int .i64 D) rfl
  have q1 := blk_cell B2.out (j := 1) (v := .int .i64 A) rfl
  have q2 := blk_cell B2.out (j := 2) (v := .int .i64 B) rfl
  have q3 := blk_cell B2.out (j := 3) (v := .slice b n cb) rfl
  go_wp2_with fail
  clear k0 k1 k2 k3 q0 q1 q2 q3 HW1
  go_loopw [37] (fun t wr => ∃ k : Nat, k ≤ n ∧ t = .int .i64 k ∧ Ext W1 wr) (fun t _ => n - (intOf t).toNat)
  case atStart => exact ⟨0, by omega, rfl, Ext.refl _⟩
  case round =>
    obtain ⟨k, hk, rfl, hx⟩ := hrel
    by_cases hlt : k < n
    · obtain ⟨b1, o1, g1, rfl, hg1, c0, c1⟩ := Grounds_at (H1.out.ext X1.out hh1) hlt
      obtain ⟨b2, o2, g2, rfl, hg2, d0, d1⟩ := Grounds_at (H2.out.ext X1.out hh2) hlt
      have hge : g1 = g2 := Option.some.inj (hg1.out.symm.trans hg2.out)
      subst hge
      obtain ⟨x, y⟩ := g1
      simp only at c0 c1 d0 d1
      have hltI : (k : Int) < (n : Int) := by omega
      have hk0I : (0 : Int) ≤ (k : Int) := by omega
      have e3 := hx.cell (blk_cell B1.out (j := 3) (v := .slice (some ⟨b1, o1, none⟩) n ca) rfl)
      have f3 := hx.cell (blk_cell B2.out (j := 3) (v := .slice (some ⟨b2, o2, none⟩) n cb) rfl)
      have c0 := hx.cell c0
      have c1 := hx.cell c1
      have d0 := hx.cell d0
      have d1 := hx.cell d1
      go_upto_region 6 with fail
      go_region_held3 (fun w' => Ext wr w' ∧ w'.cell? ⟨w.heap.size, 3, none⟩ = some (.slice (some ⟨b1, o1, none⟩) n ca) ∧ w'.cell? ⟨w.heap.size + 1, 3, none⟩ = some (.slice (some ⟨b2, o2, none⟩) n cb) ∧ w'.cell? ⟨b1, o1 + k * 2, none⟩ = some (.int .i64 x) ∧ w'.cell? ⟨b1, o1 + k * 2 + 1, none⟩ = some (.int .i64 y) ∧ w'.cell? ⟨b2, o2 + k * 2, none⟩ = some (.int .i64 x) ∧ w'.cell? ⟨b2, o2 + k * 2 + 1, none⟩ = some (.int .i64 y))
        (first | exact ⟨Ext.drew _, e3, f3, c0, c1, d0, d1⟩)
        (fail)
      go_wp2
      go_roundw
      case rel => exact ⟨k + 1, by omega, by go_num, hx.dr⟩
      case measure => simp [intOf]; omega
    · have hge : ¬ ((k : Int) < (n : Int)) := by omega
      go_wp2
      go_ret
      exact ⟨rfl, X1.out.trans hx⟩
end Go.Proofs.Ytnoagmjajhlmjaa
