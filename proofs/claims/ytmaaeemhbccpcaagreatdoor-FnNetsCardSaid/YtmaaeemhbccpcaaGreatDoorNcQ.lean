
/- What the law of changed nets calls: big, sameInts, pSameNet. -/
import Derived.Test.YtmaaeemhbccpcaaGreatDoorNet
import Derived.Test.YtmaaeemhbccpcaaGreatDoorGA
namespace Go.Proofs.YtmaaeemhbccpcaaGreatDoor
open Go.RowKit
set_option linter.unusedSimpArgs false
set_option linter.unusedVariables false
set_option maxRecDepth 100000 in
theorem c_sameInts (va vb : Value) (la ha lb hb : Nat) (xs ys : List Int) (w : World) (h1 : Ints w la ha va xs) (h2 : Ints w lb hb vb ys) :
    Calls Tryz.prog 12 #[va, vb] w fun e w' => e = .returned (.bool (decide (xs = ys))) ∧ Ext w w' := by
  have g1 := h1
  have g2 := h2
  obtain ⟨a, ca, rfl, m1, m2, _⟩ := g1
  obtain ⟨b, cb, rfl, m3, m4, _⟩ := g2
  have H1 := Lib.hid h1
  have H2 := Lib.hid h2
  clear h1 h2
  obtain ⟨r, hr⟩ : ∃ r, r = decide (xs = ys) := ⟨_, rfl⟩
  rw [← hr]
  have HR := Lib.hid hr
  clear hr
  by_cases hlen : xs.length = ys.length
  · have hl : ((xs.length : Int) != (ys.length : Int)) = false := by simp [hlen]
    obtain ⟨n, hn⟩ : ∃ n, n = xs.length := ⟨_, rfl⟩
    rw [← hlen] at m3 hl H2 ⊢
    rw [← hn] at m1 m3 hl H1 H2 ⊢
    have HN := Lib.hid hn
    have HL := Lib.hid hlen
    clear hn hlen
    go_enter Tryz.func12, Tryz.ntmps12
    go_wp2
    go_loopw [13] (fun t wr => ∃ k : Nat, k ≤ n ∧ t = .int .i64 k ∧ Ext w wr ∧ Hid (xs.take k = ys.take k)) (fun t _ => n - (intOf t).toNat)
    case atStart => exact ⟨0, by omega, rfl, Ext.refl _, by simp [Hid]⟩
    case round =>
      obtain ⟨k, hk, rfl, hx, hT⟩ := hrel
      by_cases hlt : k < n
      · obtain ⟨b1, o1, g1, rfl, hg1, c0⟩ := Ints_at H1.out hlt
        obtain ⟨b2, o2, g2, rfl, hg2, d0⟩ := Ints_at H2.out hlt
        have C0 := XT.cell (hx.cell c0)
        have D0 := XT.cell (hx.cell d0)
        have hltI : (k : Int) < (n : Int) := by omega
        clear c0 d0
        by_cases he : g1 = g2
        · have hne : (g1 != g2) = false := by simp [he]
          have HT2 := Lib.hid (take_eq_succ hT.out hg1.out hg2.out he)
          clear he
          go_wp2_with fail
          refine region_ext (by kernel_rfl) (by kernel_rfl) ?_
          repeat (go_big_quiet_step (fail))
          refine wpQuiet_nil ?_
          intro wq hxq
          go_wp2
          go_roundw
          case rel => exact ⟨k + 1, by omega, by go_num, hx.trans hxq, HT2.out⟩
          case measure => simp [intOf]; omega
        · have hne : (g1 != g2) = true := by simp [he]
          have HF : Hid (r = false) := by
            unfold Hid
            rw [HR.out]
            simp only [decide_eq_false_iff_not]
            intro e
            rw [e] at hg1
            exact he (Option.some.inj (hg1.out.symm.trans hg2.out))
          clear he
          go_wp2_with fail
          refine region_ext (by kernel_rfl) (by kernel_rfl) ?_
          repeat (go_big_quiet_step (fail))
          refine wpQuiet_nil ?_
          intro wq hxq
          go_wp2
          go_ret
          exact ⟨by rw [HF.out]; rfl, hx.trans hxq⟩
      · have hge : ¬ ((k : Int) < (n : Int)) := by omega
        have HT2 : Hid (r = true) := by
          unfold Hid
          have e := hT.out
          rw [List.take_of_length_le (by rw [← HN.out]; omega), List.take_of_length_le (by rw [← HL.out, ← HN.out]; omega)] at e
          rw [HR.out]; simp [e]
        go_wp2
        go_ret
        exact ⟨by rw [HT2.out]; rfl, hx⟩
  · have hl : ((xs.length : Int) != (ys.length : Int)) = true := by simp; omega
    have HF : Hid (r = false) := by
      unfold Hid
      rw [HR.out]
      simp only [decide_eq_false_iff_not]
      intro e
      rw [e] at hlen
      exact hlen rfl
    clear hlen
    go_enter Tryz.func12, Tryz.ntmps12
    go_wp2
    go_ret
    exact ⟨by rw [HF.out]; rfl, Ext.refl _⟩
def bigB (m n : Nat) : Bool := decide (1048576 < (m : Int)) || decide ((1048576 : Int) - m < n)
set_option maxRecDepth 100000 in
theorem c_big (a1 a2 : Option Addr) (m n c1 c2 : Nat) (w : World) (h1 : m ≤ 9223372036854775807) (h2 : n ≤ 9223372036854775807) :
    Calls Tryz.prog 4 #[.slice a1 m c1, .slice a2 n c2] w fun e w' => e = .returned (.bool (bigB m n)) ∧ w = w' := by
  obtain ⟨r, hr⟩ : ∃ r, r = bigB m n := ⟨_, rfl⟩
  rw [← hr]
  unfold bigB at hr
  by_cases hm : 1048576 < (m : Int)
  · have HR : Hid (r = true) := by unfold Hid; rw [hr, decide_eq_true hm]; rfl
    clear hr
    go_enter Tryz.func4, Tryz.ntmps4
    go_wp2
    go_ret
    exact ⟨by rw [HR.out]; rfl, rfl⟩
  · have HR : Hid (r = decide ((1048576 : Int) - m < n)) := by unfold Hid; rw [hr, decide_eq_false hm]; rfl
    clear hr
    by_cases hn : (1048576 : Int) - m < n
    · rw [decide_eq_true hn] at HR
      go_enter Tryz.func4, Tryz.ntmps4
      go_wp2
      go_ret
      exact ⟨by rw [HR.out]; rfl, rfl⟩
    · rw [decide_eq_false hn] at HR
      go_enter Tryz.func4, Tryz.ntmps4
      go_wp2
      go_ret
      exact ⟨by rw [HR.out]; rfl, rfl⟩
theorem Nets.two {w : World} {lo hi : Nat} {a b : Option Addr} {n m c d : Nat} {x : NetT} (h : Nets w lo hi (.agg #[.slice a n c, .slice b m d]) x) :
    Row encTower 3 w lo hi (.slice a n c) x.1 ∧ Row encLink 3 w lo hi (.slice b m d) x.2 := by
  obtain ⟨vt, vl, e, h1, h2⟩ := h
  simp only [Value.agg.injEq, Array.mk.injEq, List.cons.injEq, and_true] at e
  obtain ⟨rfl, rfl⟩ := e
  exact ⟨h1, h2⟩
set_option maxRecDepth 100000 in
set_option maxHeartbeats 1000000 in
theorem c_pSameNet (va vb : Value) (la ha lb hb : Nat) (x : NetT) (w : World) (h1 : Nets w la ha va x) (h2 : Nets w lb hb vb x) (hh1 : ha ≤ w.heap.size) (hh2 : hb ≤ w.heap.size) :
    Calls Tryz.prog 15 #[va, vb] w fun e w' => e = .returned (.bool true) ∧ Ext w w' := by
  obtain ⟨a1, c1, b1, d1, rfl, ⟨m1, m2⟩, m3, m4⟩ := h1.form
  obtain ⟨a2, c2, b2, d2, rfl, ⟨m5, m6⟩, m7, m8⟩ := h2.form
  obtain ⟨n, hn⟩ : ∃ n, n = x.1.length := ⟨_, rfl⟩
  obtain ⟨m, hm⟩ : ∃ n, n = x.2.length := ⟨_, rfl⟩
  rw [← hn, ← hm] at h1 h2 ⊢
  rw [← hn] at m1 m5
  rw [← hm] at m3 m7
  obtain ⟨W1, hW1⟩ : ∃ W, W = (w.alloc (.cells #[.slice a1 n c1, .slice b1 m d1] 27)).alloc (.cells #[.slice a2 n c2, .slice b2 m d2] 27) := ⟨_, rfl⟩
  have X1 : Ext w W1 := by rw [hW1]; exact ((Ext.refl w).al _).al _
  have B1 : Hid (W1.heap[w.heap.size]? = some (.cells #[.slice a1 n c1, .slice b1 m d1] 27)) := by unfold Hid; rw [hW1]; exact blk_old (blk_alloc _ _)
  have B2 : Hid (W1.heap[w.heap.size + 1]? = some (.cells #[.slice a2 n c2, .slice b2 m d2] 27)) := by unfold Hid; rw [hW1]; exact blk_alloc2 _ _ _
  have H1 : Hid (∀ W, Ext W1 W → Row encTower 3 W la ha (.slice a1 n c1) x.1 ∧ Row encLink 3 W la ha (.slice b1 m d1) x.2) := fun W hX => (h1.ext (X1.trans hX) hh1).two
  have H2 : Hid (∀ W, Ext W1 W → Row encTower 3 W lb hb (.slice a2 n c2) x.1 ∧ Row encLink 3 W lb hb (.slice b2 m d2) x.2) := fun W hX => (h2.ext (X1.trans hX) hh2).two
  have HX1 := Lib.hid X1
  have HW1 := Lib.hid hW1
  have HN := Lib.hid hn
  have HM := Lib.hid hm
  clear h1 h2 hn hm hW1 X1
  go_enter Tryz.func15, Tryz.ntmps15
  go_wp2_with fail
  rw [← HW1.out]
  clear HW1
  go_loopw [26] (fun t wr => ∃ k : Nat, k ≤ n ∧ t = .int .i64 k ∧ Ext W1 wr) (fun t _ => n - (intOf t).toNat)
  case atStart => exact ⟨0, by omega, rfl, Ext.refl _⟩
  case round =>
    obtain ⟨k, hk, rfl, hx⟩ := hrel
    by_cases hlt : k < n
    · obtain ⟨b1, o1, ⟨g1, g2, g3⟩, rfl, hg1, c0, c1, c2⟩ := Towers_at (H1.out _ hx).1 hlt
      obtain ⟨b2, o2, g', rfl, hg2, d0, d1, d2⟩ := Towers_at (H2.out _ hx).1 hlt
      obtain rfl : (g1, g2, g3) = g' := Option.some.inj (hg1.out.symm.trans hg2.out)
      simp only at c0 c1 c2 d0 d1 d2
      have hltI : (k : Int) < (n : Int) := by omega
      have N1 := XT.cell (blk_cell (hx.blk B1.out) (j := 0) rfl)
      have N2 := XT.cell (blk_cell (hx.blk B2.out) (j := 0) rfl)
      have C0 := XT.cell c0
      have C1 := XT.cell c1
      have C2 := XT.cell c2
      have D0 := XT.cell d0
      have D1 := XT.cell d1
      have D2 := XT.cell d2
      clear c0 c1 c2 d0 d1 d2
      go_upto_region 6 with fail
      refine region_ext (by kernel_rfl) (by kernel_rfl) ?_
      repeat (go_big_quiet_step (fail))
      refine wpQuiet_nil ?_
      intro wq hxq
      go_wp2
      go_roundw
      case rel => exact ⟨k + 1, by omega, by go_num, hx.trans hxq⟩
      case measure => simp [intOf]; omega
    · have hge : ¬ ((k : Int) < (n : Int)) := by omega
      have k0 := blk_cell (hx.blk B1.out) (j := 1) (v := .slice b1 m d1) rfl
      have hx9 := Lib.hid hx
      clear hx
      go_wp2
      go_loopw [44] (fun t wr => ∃ k : Nat, k ≤ m ∧ t = .int .i64 k ∧ Ext W1 wr) (fun t _ => m - (intOf t).toNat)
      case atStart => exact ⟨0, by omega, rfl, hx9.out⟩
      case round =>
        obtain ⟨k, hk, rfl, hx⟩ := hrel
        by_cases hlt : k < m
        · obtain ⟨b1, o1, ⟨g1, g2, g3⟩, rfl, hg1, c0, c1, c2⟩ := Links_at (H1.out _ hx).2 hlt
          obtain ⟨b2, o2, g', rfl, hg2, d0, d1, d2⟩ := Links_at (H2.out _ hx).2 hlt
          obtain rfl : (g1, g2, g3) = g' := Option.some.inj (hg1.out.symm.trans hg2.out)
          simp only at c0 c1 c2 d0 d1 d2
          have hltI : (k : Int) < (m : Int) := by omega
          have N1 := XT.cell (blk_cell (hx.blk B1.out) (j := 1) rfl)
          have N2 := XT.cell (blk_cell (hx.blk B2.out) (j := 1) rfl)
          have C0 := XT.cell c0
          have C1 := XT.cell c1
          have C2 := XT.cell c2
          have D0 := XT.cell d0
          have D1 := XT.cell d1
          have D2 := XT.cell d2
          clear c0 c1 c2 d0 d1 d2
          go_upto_region 12 with fail
          refine region_ext (by kernel_rfl) (by kernel_rfl) ?_
          repeat (go_big_quiet_step (fail))
          refine wpQuiet_nil ?_
          intro wq hxq
          go_wp2
          go_roundw
          case rel => exact ⟨k + 1, by omega, by go_num, hx.trans hxq⟩
          case measure => simp [intOf]; omega
        · have hge2 : ¬ ((k : Int) < (m : Int)) := by omega
          go_wp2
          go_ret
          exact ⟨rfl, HX1.out.trans hx⟩
end Go.Proofs.YtmaaeemhbccpcaaGreatDoor
