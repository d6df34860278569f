
/- Drawn sights: what the reference's draws give. -/
import Derived.Test.YtnoagmjajhlmjaaSX
import Derived.Deep.DeepCutAuto
import Derived.Deep.CutBlock
namespace Go.Proofs.Ytnoagmjajhlmjaa
open Go.RowKit
set_option linter.unusedSimpArgs false
set_option linter.unusedVariables false
/-- What a draw of a sight gives: its grounds are the call's own. -/
def DrawS (b k : Nat) (w : World) (e : Ending) (w' : World) : Prop := ∃ (D A B : Int) (a : Option Addr) (c : Nat) (gs : List GroundT), e = .returned (.agg #[.int .i64 D, .int .i64 A, .int .i64 B, .slice a gs.length c]) ∧
  w'.ownsRow w.heap.size 61 2 (.slice a gs.length c) gs.length (gs.flatMap encGround) ∧ gs.length ≤ 21 ∧ Cur w' b k ∧ Keep b (b + 1) w w'
set_option maxRecDepth 100000 in
theorem c_bend (b k : Nat) (w : World) (h : Cur w b k) (hk : k ≤ 900000) : Calls Try.prog 51 #[.pointer (some ⟨b, 0, none⟩)] w (DrawI b (k + 4) (-1) 4 w) := by
  have C1 := Lib.hid (c_amongL b k [-1, 4] (-1) 4 w h (by omega) (by simp) (by simp) (by intro x hx; simp at hx; omega))
  clear h
  go_enter Try.func51, Try.ntmps51
  go_wp2_with fail
  refine C1.out.mono ?_
  rintro e w1 ⟨r, rfl, r0, r1, hc, hk1⟩
  have HK := Lib.hid hk1
  have C2 := Lib.hid (c_amongL b _ [0, 1, 2, 3, 0, r] (-1) 4 w1 hc (by omega) (by simp) (by simp) (by intro x hx; simp at hx; omega))
  clear hc hk1
  go_wp2_with fail
  refine C2.out.mono ?_
  rintro e w2 ⟨r2, rfl, s0, s1, hc, hk2⟩
  have HC := Lib.hid hc
  have HK2 := Lib.hid (HK.out.trans hk2)
  clear hc hk2
  go_wp2
  go_ret
  exact DrawI.mk s0 s1 HC.out HK2.out (by omega)
theorem mul_bd {x y a b : Int} (h1 : -a ≤ x) (h2 : x ≤ a) (h3 : 0 ≤ y) (h4 : y ≤ b) : -(a * b) ≤ x * y ∧ x * y ≤ a * b := by
  have ha : 0 ≤ a := by omega
  have e1 := Int.mul_le_mul_of_nonneg_right h2 h3
  have e2 := Int.mul_le_mul_of_nonneg_left h4 ha
  have e3 := Int.mul_le_mul_of_nonneg_right h1 h3
  rw [Int.neg_mul] at e3
  omega
theorem tdiv_bd {x d M : Int} (h1 : -M ≤ x) (h2 : x ≤ M) (h3 : 1 ≤ d) : -M ≤ x.tdiv d ∧ x.tdiv d ≤ M := by
  have e1 : (x.tdiv d).natAbs = x.natAbs / d.natAbs := Int.natAbs_tdiv x d
  have e2 := Nat.div_le_self x.natAbs d.natAbs
  omega
theorem flat_getG : ∀ (gs : List GroundT) (i : Nat) (g : GroundT), gs[i]? = some g → (gs.flatMap encGround)[i * 2]? = some (.int .i64 g.1) ∧ (gs.flatMap encGround)[i * 2 + 1]? = some (.int .i64 g.2)
  | [], i, g, h => by simp at h
  | y :: r, 0, g, h => by simp at h; subst h; simp [encGround]
  | y :: r, i + 1, g, h => by
    have := flat_getG r i g (by simpa using h)
    rw [show (i + 1) * 2 + 1 = i * 2 + 1 + 1 + 1 by omega, show (i + 1) * 2 = i * 2 + 1 + 1 by omega]
    simpa [encGround] using this
theorem new_cells2n (w : World) (x y : Value) (t : TypeId) : ∀ j u, ([x, y] : List Value)[j]? = some u → (w.alloc (.cells #[x, y] t)).cell? ((⟨w.heap.size, 0, none⟩ : Addr).add j) = some u := by
  intro j u hj
  match j, hj with
  | 0, hj => exact blk_cell (blk_alloc _ _) (by simpa using hj)
  | 1, hj => exact blk_cell (blk_alloc _ _) (by simpa using hj)
  | j + 2, hj => simp at hj
set_option maxRecDepth 100000 in
set_option maxHeartbeats 4000000 in
theorem c_sight (b k : Nat) (w : World) (h : Cur w b k) (hk : k ≤ 800000) : Calls Try.prog 54 #[.pointer (some ⟨b, 0, none⟩)] w (DrawS b (k + 500) w) := by
  obtain ⟨g0, hg0, hgz0, hgz1, hgz2⟩ := info_parts Try.info_ground
  have hbs := h.lt
  obtain ⟨W0, hW0⟩ : ∃ W, W = w.alloc (.cells #[.int .i64 0, .int .i64 0, .int .i64 0, .slice none 0 0] 28) := ⟨_, rfl⟩
  have B0 : W0.heap[w.heap.size]? = some (.cells #[.int .i64 0, .int .i64 0, .int .i64 0, .slice none 0 0] 28) := by rw [hW0]; exact blk_alloc _ _
  have hc0 : Cur W0 b k := by rw [hW0]; exact h.ext (Ext.alloc _ _)
  have HK0 : Hid (Keep b (b + 1) w W0) := by unfold Hid; rw [hW0]; exact Keep.of_ext (Ext.alloc _ _)
  have HB0 := Lib.hid B0
  have HW0 := Lib.hid hW0
  have C1 := Lib.hid (c_pick b k 900 W0 hc0 (by omega) (by omega))
  clear h hW0 B0 hc0
  go_enter Try.func54, Try.ntmps54
  go_wp2_with fail
  rw [← HW0.out]
  have HK := Lib.hid (Keep.refl b (b + 1) W0)
  refine C1.out.mono ?_
  rintro e w1 ⟨r1, rfl, p0, p1, hc, hk1⟩
  have HK1 := Lib.hid hk1
  have C2 := Lib.hid (c_amongL b _ [2, 50, 100, 200, 400, 999, 1 + r1] 1 999 w1 hc (by omega) (by simp) (by simp) (by intro x hx; simp at hx; omega))
  clear hc hk1 HK C1
  go_wp2_with fail
  refine C2.out.mono ?_
  rintro e w2 ⟨D, rfl, d0, d1, hc, hk1⟩
  have HK2 := Lib.hid (HK1.out.trans hk1)
  have C3 := Lib.hid (c_pick b _ 900 w2 hc (by omega) (by omega))
  clear hc hk1 HK1 C2
  go_wp2_with fail
  refine C3.out.mono ?_
  rintro e w3 ⟨r3, rfl, u0, u1, hc, hk1⟩
  have HK3 := Lib.hid (HK2.out.trans hk1)
  have C4 := Lib.hid (c_amongL b _ [0, 20, 100, 400, 3000, r3] 0 3000 w3 hc (by omega) (by simp) (by simp) (by intro x hx; simp at hx; omega))
  clear hc hk1 HK2 C3
  go_wp2_with fail
  refine C4.out.mono ?_
  rintro e w4 ⟨A, rfl, a0, a1, hc, hk1⟩
  have HK4 := Lib.hid (HK3.out.trans hk1)
  have C5 := Lib.hid (c_pick b _ 900 w4 hc (by omega) (by omega))
  clear hc hk1 HK3 C4
  go_wp2_with fail
  refine C5.out.mono ?_
  rintro e w5 ⟨r5, rfl, v0, v1, hc, hk1⟩
  have HK5 := Lib.hid (HK4.out.trans hk1)
  have C6 := Lib.hid (c_amongL b _ [0, 20, 100, 400, r5] 0 3000 w5 hc (by omega) (by simp) (by simp) (by intro x hx; simp at hx; omega))
  clear hc hk1 HK4 C5
  go_wp2_with fail
  refine C6.out.mono ?_
  rintro e w6 ⟨B, rfl, b0, b1, hc, hk1⟩
  have HK6 := Lib.hid (HK5.out.trans hk1)
  have HC6 := Lib.hid hc
  clear hc hk1 HK5 C6
  go_wp2_with fail
  obtain ⟨bo, hbo⟩ : ∃ n, n = w6.heap.size := ⟨_, rfl⟩
  obtain ⟨W7, hW7⟩ : ∃ W, W = w6.alloc (.cells #[.int .i64 D, .int .i64 A, .int .i64 B, .slice none 0 0] 28) := ⟨_, rfl⟩
  have hB7 : W7.heap[bo]? = some (.cells #[.int .i64 D, .int .i64 A, .int .i64 B, .slice none 0 0] 28) := by rw [hW7, hbo]; exact blk_alloc _ _
  have hc7 : Cur W7 b (k + 12) := by rw [hW7]; exact (HC6.out.ext (Ext.alloc _ _)).mono (by omega)
  have hbo1 : w.heap.size < bo := by have := (Array.getElem?_eq_some_iff.1 (HK6.out.blk HB0.out (Or.inr (by omega)))).1; omega
  have hk7 : Keep b (b + 1) w W7 := by rw [hW7]; exact HK0.out.trans (HK6.out.trans (Keep.of_ext (Ext.alloc _ _)))
  have hR7 : W7.heap[w.heap.size]? = some (.cells #[.int .i64 0, .int .i64 0, .int .i64 0, .slice none 0 0] 28) := by rw [hW7]; exact blk_old (HK6.out.blk HB0.out (Or.inr (by omega)))
  rw [← hW7, ← hbo]
  have HSX : Hid (SX b w.heap.size bo w D A B none 0 [] (k + 12) W7) := ⟨hbs, hbo1, Nat.le_refl _, hB7, World.ownsRow_nil _ _ _ _, hR7, hc7, hk7⟩
  have C7 := Lib.hid (c_pick b _ 6 W7 hc7 (by omega) (by omega))
  have hRS := Lib.hid (rfl : w.heap.size = w.heap.size)
  clear hW7 hbo hB7 hc7 hk7 hR7 HK6 HC6 HB0 HK0 HW0
  refine C7.out.mono ?_
  rintro e w8 ⟨n, rfl, n0, n1, hc, hk1⟩
  have HS8 := Lib.hid (HSX.out.draw hc hk1)
  have C8 := Lib.hid (c_one b _ 20 w8 hc (by omega) (by omega))
  clear hc hk1 C7 HSX
  go_wp2_with fail
  refine C8.out.mono ?_
  rintro e w9 ⟨t, rfl, hc, hk1⟩
  have HS9 := Lib.hid (HS8.out.draw hc hk1)
  have C9 := Lib.hid (c_pick b _ 2 w9 hc (by omega) (by omega))
  clear hc hk1 C8 HS8
  go_upto_if 27 with fail
  go_cut [4] (fun v wx => ∃ n : Int, v = .int .i64 n ∧ 0 ≤ n ∧ n ≤ 21 ∧ SX b w.heap.size bo w D A B none 0 [] (k + 20) wx)
  case first =>
    cases t
    · go_wp2
      go_meet
      case rel => exact ⟨n, rfl, by omega, by omega, HS9.out.mono (by omega)⟩
    · go_wp2_with fail
      refine C9.out.mono ?_
      rintro e w10 ⟨n2, rfl, n20, n21, hc, hk1⟩
      have HS10 := Lib.hid (HS9.out.draw hc hk1)
      clear hc hk1
      go_wp2
      go_meet
      case rel => exact ⟨_, rfl, by omega, by omega, HS10.out.mono (by omega)⟩
  case rest =>
    clear C9 HS9 n0 n1
    obtain ⟨n, rfl, n0, n1, hS⟩ := hcut
    have HSX := Lib.hid hS
    clear hS
    go_upto_block 0 with fail
    go_cut [5, 6] (fun _ _ wx => ∃ (a : Option Addr) (c : Nat) (gs : List GroundT), gs.length ≤ 21 ∧ SX b w.heap.size bo w D A B a c gs (k + 400) wx)
    case first =>
      go_wp2_with fail
      go_loopg [5, 6] 22 (fun gg v5 v6 wr => ∃ (t : Int) (a6 : Option Addr) (c6 : Nat) (gs : List GroundT), v5 = .int .i64 t ∧ 0 ≤ t ∧ t ≤ 998 ∧ (gs.length : Int) ≤ n ∧ n ≤ gs.length + gg ∧ Hid (SX b w.heap.size bo w D A B a6 c6 gs (k + 20 + 8 * gs.length) wr))
      case atStart => exact ⟨0, none, 0, [], rfl, by omega, by omega, by simp; omega, by simp; omega, HSX.out⟩
      case round =>
        clear HSX
        obtain ⟨t, a6, c6, gs, rfl, t0, t1, l0, l1, HS1⟩ := hrel
        have e0 := blk_cell HS1.out.box (j := 0) (v := .int .i64 D) rfl
        have e3 := blk_cell HS1.out.box (j := 3) (v := .slice a6 gs.length c6) rfl
        by_cases hlt : (gs.length : Int) < n
        · have hq0 := Int.tdiv_nonneg (show 0 ≤ D by omega) (show (0 : Int) ≤ n + 1 by omega)
          have hq1 := Int.tdiv_le_self (n + 1) (show 0 ≤ D by omega)
          go_wp2_with fail
          refine (c_l1Most _ _ _).mono ?_
          rintro e w' ⟨rfl, rfl⟩
          obtain ⟨m1, hm1⟩ : ∃ x, x = max 1 (D.tdiv (n + 1)) := ⟨_, rfl⟩
          rw [← hm1]
          have hm10 : 1 ≤ m1 := by omega
          have hm11 : m1 ≤ 999 := by omega
          clear hm1 hq0 hq1
          go_wp2_with fail
          refine (c_pick b _ m1 _ HS1.out.cur (by omega) (by omega)).mono ?_
          rintro e w12 ⟨r12, rfl, r120, r121, hc, hk1⟩
          have HS2 := Lib.hid (HS1.out.draw hc hk1)
          have e0 := blk_cell HS2.out.box (j := 0) (v := .int .i64 D) rfl
          have e1 := blk_cell HS2.out.box (j := 1) (v := .int .i64 A) rfl
          have e2 := blk_cell HS2.out.box (j := 2) (v := .int .i64 B) rfl
          clear hc hk1 HS1 e3
          have hr12 : r12 ≤ 998 := by omega
          by_cases hge : D ≤ t + (1 + r12)
          · go_wp2_with fail
            go_meet
            case rel => exact ⟨a6, c6, gs, by omega, HS2.out.mono (by omega)⟩
          · have hP := mul_bd (a := 3000) (b := 2000) (show -3000 ≤ B - A by omega) (show B - A ≤ 3000 by omega) (show 0 ≤ t + (1 + r12) by omega) (show t + (1 + r12) ≤ 2000 by omega)
            obtain ⟨hP0, hP1⟩ := hP
            have hQ := tdiv_bd (M := 6000000) (d := D) (show -6000000 ≤ (B - A) * (t + (1 + r12)) by omega) (by omega) (by omega)
            obtain ⟨hQ0, hQ1⟩ := hQ
            have hDz : ¬ D = 0 := by omega
            have hDb : (D == 0) = false := by simp; omega
            have hw1 : IntKind.i64.wrap (B - A) = B - A := by rw [IntKind.wrap_i64]; omega
            have hw2 : IntKind.i64.wrap ((B - A) * (t + (1 + r12))) = (B - A) * (t + (1 + r12)) := by rw [IntKind.wrap_i64]; omega
            have hw3 : IntKind.i64.wrap (((B - A) * (t + (1 + r12))).tdiv D) = ((B - A) * (t + (1 + r12))).tdiv D := by rw [IntKind.wrap_i64]; omega
            have hw4 : (IntKind.i64.wrap (A + ((B - A) * (t + (1 + r12))).tdiv D) = A + ((B - A) * (t + (1 + r12))).tdiv D) := by rw [IntKind.wrap_i64]; omega
            go_upto_region 9 with fail
            go_cut [6] (fun v6 wx => ∃ x : Int, v6 = .int .i64 x ∧ SX b w.heap.size bo w D A B a6 c6 gs (k + 20 + 8 * gs.length + 2) wx)
            case first =>
              go_region_held3 (fun w' => Ext w12 w' ∧ w'.cell? ⟨bo, 0, none⟩ = some (.int .i64 D) ∧ w'.cell? ⟨bo, 1, none⟩ = some (.int .i64 A) ∧ w'.cell? ⟨bo, 2, none⟩ = some (.int .i64 B))
                (first | exact ⟨Ext.drew _, e0, e1, e2⟩)
                (fail)
              go_wp2
              go_meet
              case rel => exact ⟨_, rfl, HS2.out.ext (Ext.drew _)⟩
            case rest =>
              clear e0 e1 e2 HS2
              obtain ⟨ln, rfl, hS⟩ := hcut
              have HS3 := Lib.hid hS
              clear hS
              go_upto_region 10 with fail
              obtain ⟨w20, hwd⟩ : ∃ W, W = wc.drew := ⟨_, rfl⟩
              have HS4 : Hid (SX b w.heap.size bo w D A B a6 c6 gs (k + 20 + 8 * gs.length + 2) w20) := by unfold Hid; rw [hwd]; exact HS3.out.ext (Ext.drew _)
              refine wp_region_E (S := fun W => W.cell? ⟨bo, 3, none⟩ = some (.slice a6 gs.length c6)) (by kernel_rfl) ?_
              rw [← hwd]
              clear hwd HS3
              have hSS : (fun W : World => W.cell? ⟨bo, 3, none⟩ = some (.slice a6 gs.length c6)) w20 := blk_cell HS4.out.box (j := 3) (v := .slice a6 gs.length c6) rfl
              refine wpAnyE_take (i := 0) (v := ?_) rfl (by kernel_rfl) (by kernel_rfl) (by kernel_rfl) (fun _ _ _ h => h) (Or.inl ⟨by rfl, ?_⟩) (by assumption) ?_
              rotate_left 1
              focus (intro W hSW; (try dsimp only at hSW); go_simp; try with_reducible rfl)
              (try simp only [Act.put, List.setIfInBounds_toArray, List.set_cons_zero, List.set_cons_succ])
              refine wpAnyE_take (i := 1) (v := ?_) rfl (by kernel_rfl) (by kernel_rfl) (by kernel_rfl) (fun _ _ _ h => h) (Or.inl ⟨by rfl, ?_⟩) (by assumption) ?_
              rotate_left 1
              focus (intro W hSW; (try dsimp only at hSW); go_simp; try with_reducible rfl)
              (try simp only [Act.put, List.setIfInBounds_toArray, List.set_cons_zero, List.set_cons_succ])
              refine wpAnyE_take (i := 2) (v := ?_) rfl (by kernel_rfl) (by kernel_rfl) (by kernel_rfl) (fun _ _ _ h => h) (Or.inl ⟨by rfl, ?_⟩) (by assumption) ?_
              rotate_left 1
              focus (intro W hSW; (try dsimp only at hSW); go_simp; try with_reducible rfl)
              (try simp only [Act.put, List.setIfInBounds_toArray, List.set_cons_zero, List.set_cons_succ])
              refine wpAnyE_take (i := 3) (v := ?_) rfl (by kernel_rfl) (by kernel_rfl) (by kernel_rfl) (fun _ _ _ h => h) (Or.inl ⟨by rfl, ?_⟩) (by assumption) ?_
              rotate_left 1
              focus (intro W hSW; (try dsimp only at hSW); go_simp; try with_reducible rfl)
              (try simp only [Act.put, List.setIfInBounds_toArray, List.set_cons_zero, List.set_cons_succ])
              refine wpAnyE_take (i := 4) (v := ?_) rfl (by kernel_rfl) (by kernel_rfl) (by kernel_rfl) (fun _ _ _ h => h) (Or.inl ⟨by rfl, ?_⟩) (by assumption) ?_
              rotate_left 1
              focus (intro W hSW; (try dsimp only at hSW); go_simp; try with_reducible rfl)
              (try simp only [Act.put, List.setIfInBounds_toArray, List.set_cons_zero, List.set_cons_succ])
              refine wpAnyE_take (i := 10) (v := ?_) rfl (by kernel_rfl) (by kernel_rfl) (by kernel_rfl) (fun _ _ _ h => h) (Or.inl ⟨by rfl, ?_⟩) (by assumption) ?_
              rotate_left 1
              focus (intro W hSW; (try dsimp only at hSW); go_simp; try with_reducible rfl)
              (try simp only [Act.put, List.setIfInBounds_toArray, List.set_cons_zero, List.set_cons_succ])
              refine wpAnyE_two (i := 5) (j := 11) (by kernel_rfl) rfl rfl (fun K hK => ?_) (fun K hK => ?_)
              ·
                have HK := Lib.hid hK
                clear hK
                go_simp
                obtain ⟨w21, hw9⟩ : ∃ W, W = w20.alloc (.cells #[.int .i64 0, .int .i64 1, .int .i64 2, .int .i64 5, .int .i64 8, .int .i64 20, .int .i64 60, .int .i64 400] 3) := ⟨_, rfl⟩
                rw [← hw9]
                have h9 := HS4.out.ext (Ext.alloc w20 (.cells #[.int .i64 0, .int .i64 1, .int .i64 2, .int .i64 5, .int .i64 8, .int .i64 20, .int .i64 60, .int .i64 400] 3))
                have g9 : LitI (w20.alloc (.cells #[.int .i64 0, .int .i64 1, .int .i64 2, .int .i64 5, .int .i64 8, .int .i64 20, .int .i64 60, .int .i64 400] 3)) b w20.heap.size [0, 1, 2, 5, 8, 20, 60, 400] := LitI.new w20 b [0, 1, 2, 5, 8, 20, 60, 400] HS4.out.blt (by simp)
                rw [← hw9] at h9 g9
                try (have g8 := Lib.hid (HL2.out.ext (Ext.alloc w20 (.cells #[.int .i64 0, .int .i64 1, .int .i64 2, .int .i64 5, .int .i64 8, .int .i64 20, .int .i64 60, .int .i64 400] 3))); rw [← hw9] at g8; clear HL2; have HL2 := g8; clear g8)
                have HS5 := Lib.hid h9
                have HL1 := Lib.hid g9
                clear h9 g9 hw9 hSS
                have hSS : (fun W : World => W.cell? ⟨bo, 3, none⟩ = some (.slice a6 gs.length c6)) w21 := blk_cell HS5.out.box (j := 3) (v := .slice a6 gs.length c6) rfl
                refine HK.out _ _ (fun _ => hSS) ?_
                clear HK
                refine wpAnyE_two (i := 6) (j := 11) (by kernel_rfl) rfl rfl (fun K hK => ?_) (fun K hK => ?_)
                ·
                  have HK := Lib.hid hK
                  clear hK
                  go_simp
                  refine (c_amongP b _ w20.heap.size [0, 1, 2, 5, 8, 20, 60, 400] 0 400 w21 HS5.out.cur (by omega) HL1.out (by simp) (by simp) (by intro x hx; simp at hx; omega)).mono ?_
                  rintro e w22 ⟨r70, rfl, q0, q1, hc, hk1⟩
                  have HS6 := Lib.hid (HS5.out.draw hc hk1)
                  try (have g8 := Lib.hid (HL2.out.draw hk1); clear HL2; have HL2 := g8; clear g8)
                  clear hc hk1 hSS
                  have hSS : (fun W : World => W.cell? ⟨bo, 3, none⟩ = some (.slice a6 gs.length c6)) w22 := blk_cell HS6.out.box (j := 3) (v := .slice a6 gs.length c6) rfl
                  refine HK.out _ _ (fun _ => hSS) ?_
                  clear HK
                  refine wpAnyE_take (i := 7) (v := ?_) rfl (by kernel_rfl) (by kernel_rfl) (by kernel_rfl) (fun _ _ _ h => h) (Or.inl ⟨by rfl, ?_⟩) (by assumption) ?_
                  rotate_left 1
                  focus (intro W hSW; (try dsimp only at hSW); go_simp; try with_reducible rfl)
                  (try simp only [Act.put, List.setIfInBounds_toArray, List.set_cons_zero, List.set_cons_succ])
                  refine wpAnyE_two (i := 8) (j := 11) (by kernel_rfl) rfl rfl (fun K hK => ?_) (fun K hK => ?_)
                  ·
                    have HK := Lib.hid hK
                    clear hK
                    go_simp
                    refine (c_l1Most _ _ _).mono ?_
                    rintro e w' ⟨rfl, rfl⟩
                    refine HK.out _ _ (fun _ => hSS) ?_
                    clear HK
                    refine wpAnyE_two (i := 9) (j := 11) (by kernel_rfl) rfl rfl (fun K hK => ?_) (fun K hK => ?_)
                    ·
                      have HK := Lib.hid hK
                      clear hK
                      go_simp
                      refine (c_l1Least _ _ _).mono ?_
                      rintro e w' ⟨rfl, rfl⟩
                      refine HK.out _ _ (fun _ => hSS) ?_
                      clear HK
                      refine wpAnyE_one (i := 11) (by kernel_rfl) rfl (fun K hK => ?_)
                      have HK := Lib.hid hK
                      clear hK
                      go_simp
                      obtain ⟨w25, hw9⟩ : ∃ W, W = w22.alloc (.cells #[.int .i64 0, .int .i64 1, .int .i64 1, .int .i64 1] 3) := ⟨_, rfl⟩
                      rw [← hw9]
                      have h9 := HS6.out.ext (Ext.alloc w22 (.cells #[.int .i64 0, .int .i64 1, .int .i64 1, .int .i64 1] 3))
                      have g9 : LitI (w22.alloc (.cells #[.int .i64 0, .int .i64 1, .int .i64 1, .int .i64 1] 3)) b w22.heap.size [0, 1, 1, 1] := LitI.new w22 b [0, 1, 1, 1] HS6.out.blt (by simp)
                      rw [← hw9] at h9 g9
                      try (have g8 := Lib.hid (HL1.out.ext (Ext.alloc w22 (.cells #[.int .i64 0, .int .i64 1, .int .i64 1, .int .i64 1] 3))); rw [← hw9] at g8; clear HL1; have HL1 := g8; clear g8)
                      have HS7 := Lib.hid h9
                      have HL2 := Lib.hid g9
                      clear h9 g9 hw9 hSS
                      have hSS : (fun W : World => W.cell? ⟨bo, 3, none⟩ = some (.slice a6 gs.length c6)) w25 := blk_cell HS7.out.box (j := 3) (v := .slice a6 gs.length c6) rfl
                      refine HK.out _ _ (fun _ => hSS) ?_
                      clear HK
                      refine wpAnyE_one (i := 12) (by kernel_rfl) rfl (fun K hK => ?_)
                      have HK := Lib.hid hK
                      clear hK
                      go_simp
                      refine (c_amongP b _ w22.heap.size [0, 1, 1, 1] 0 1 w25 HS7.out.cur (by omega) HL2.out (by simp) (by simp) (by intro x hx; simp at hx; omega)).mono ?_
                      rintro e w30 ⟨r76, rfl, q0, q1, hc, hk1⟩
                      have HS30 := Lib.hid (HS7.out.draw hc hk1)
                      try (have g8 := Lib.hid (HL2.out.draw hk1); clear HL2; have HL2 := g8; clear g8)
                      clear hc hk1 hSS
                      have hSS : (fun W : World => W.cell? ⟨bo, 3, none⟩ = some (.slice a6 gs.length c6)) w30 := blk_cell HS30.out.box (j := 3) (v := .slice a6 gs.length c6) rfl
                      refine HK.out _ _ (fun _ => hSS) ?_
                      clear HK
                      refine wpAnyE_take (i := 13) (v := ?_) rfl (by kernel_rfl) (by kernel_rfl) (by kernel_rfl) (fun _ _ _ h => h) (Or.inl ⟨by rfl, ?_⟩) (by assumption) ?_
                      rotate_left 1
                      focus (intro W hSW; (try dsimp only at hSW); go_simp; try with_reducible rfl)
                      (try simp only [Act.put, List.setIfInBounds_toArray, List.set_cons_zero, List.set_cons_succ])
                      refine wpAnyE_take (i := 14) (v := ?_) rfl (by kernel_rfl) (by kernel_rfl) (by kernel_rfl) (fun _ _ _ h => h) (Or.inl ⟨by rfl, ?_⟩) (by assumption) ?_
                      rotate_left 1
                      focus (intro W hSW; (try dsimp only at hSW); go_simp; try with_reducible rfl)
                      (try simp only [Act.put, List.setIfInBounds_toArray, List.set_cons_zero, List.set_cons_succ])
                      refine wpAnyE_one (i := 15) (by kernel_rfl) rfl (fun K hK => ?_)
                      have HK := Lib.hid hK
                      clear hK
                      go_simp
                      obtain ⟨Y, hY⟩ : ∃ Y, Y = IntKind.i64.wrap (min 3000 (max 0 (IntKind.i64.wrap (ln - r70))) * r76) := ⟨_, rfl⟩
                      rw [← hY]
                      clear hY
                      have HS31 := Lib.hid (HS30.out.ext (Ext.alloc w30 (.cells #[.int .i64 (t + (1 + r12)), .int .i64 Y] 61)))
                      refine HK.out _ _ (fun _ => (Ext.alloc _ _).cell hSS) ?_
                      clear HK hSS
                      refine wpAnyE_one (i := 16) (by kernel_rfl) rfl (fun K hK => ?_)
                      have HK := Lib.hid hK
                      clear hK
                      refine step_append_own rfl (.tmp 65) (.tmp 79) 26 rfl (bo + 1) 61 g0 (.agg #[.int .i64 0, .int .i64 0]) 2 16 Try.underlying26 hg0 hgz0 hgz1 hgz2 rfl (by decide) (.slice a6 gs.length c6) gs.length (gs.flatMap encGround) (by simp [Act.eval, Act.put]) HS31.out.own ⟨w30.heap.size, 0, none⟩ 1 1 [.int .i64 (t + (1 + r12)), .int .i64 Y] (by simp [Act.eval, Act.put]) rfl (new_cells2n _ _ _ _) (by intro u hu; simp at hu; rcases hu with rfl | rfl <;> rfl) (by unfold maxLen; omega) (by omega) (by have := HS30.out.bol; simp; omega) ?_
                      intro v6 w6 hown6 hgr6
                      obtain ⟨a8, c8, rfl, _, _, _⟩ := own_form hown6
                      have hb6 := grown_old hgr6 HS31.out.box (fun e => by have := (HS31.out.own.lt bo e).1; omega)
                      have HS32 := Lib.hid (HS31.out.push hown6 hgr6)
                      have hSS : (fun W : World => W.cell? ⟨bo, 3, none⟩ = some (.slice a6 gs.length c6)) w6 := blk_cell hb6 (j := 3) (v := .slice a6 gs.length c6) rfl
                      clear hown6 hgr6
                      refine HK.out _ _ (fun _ => hSS) ?_
                      clear HK
                      refine wpAnyE_take (i := 17) (v := ?_) rfl (by kernel_rfl) (by kernel_rfl) (by kernel_rfl) (fun _ _ _ h => h) (Or.inl ⟨by rfl, ?_⟩) (by assumption) ?_
                      rotate_left 1
                      focus (intro W hSW; (try dsimp only at hSW); go_simp; try with_reducible rfl)
                      (try simp only [Act.put, List.setIfInBounds_toArray, List.set_cons_zero, List.set_cons_succ])
                      have e61 := blk_cell hb6 (j := 3) (v := .slice a6 gs.length c6) rfl
                      have f61 := blk_free hb6 3
                      clear hSS hb6
                      refine wpAnyE_one (i := 18) (by kernel_rfl) rfl (fun K hK => ?_)
                      have HK := Lib.hid hK
                      clear hK
                      go_simp
                      refine HK.out _ _ (fun hn => absurd ?_ hn) (wpAnyE_done (by kernel_rfl) ?_ _)
                      · intro oj hoj q hq hne
                        cases hoj
                        revert hne
                        revert q
                        decide
                      clear e61 f61 HK
                      go_wp2
                      go_roundg (n - (gs.length + 1)).toNat
                      case measure => omega
                      case rel => exact ⟨_, a8, c8, gs ++ [(t + (1 + r12), Y)], rfl, by omega, by omega, by simp; omega, by simp; omega, HS32.out.mono (by simp; omega)⟩
                    ·
                      have HK := Lib.hid hK
                      clear hK
                      go_simp
                      obtain ⟨w25, hw9⟩ : ∃ W, W = w22.alloc (.cells #[.int .i64 0, .int .i64 1, .int .i64 1, .int .i64 1] 3) := ⟨_, rfl⟩
                      rw [← hw9]
                      have h9 := HS6.out.ext (Ext.alloc w22 (.cells #[.int .i64 0, .int .i64 1, .int .i64 1, .int .i64 1] 3))
                      have g9 : LitI (w22.alloc (.cells #[.int .i64 0, .int .i64 1, .int .i64 1, .int .i64 1] 3)) b w22.heap.size [0, 1, 1, 1] := LitI.new w22 b [0, 1, 1, 1] HS6.out.blt (by simp)
                      rw [← hw9] at h9 g9
                      try (have g8 := Lib.hid (HL1.out.ext (Ext.alloc w22 (.cells #[.int .i64 0, .int .i64 1, .int .i64 1, .int .i64 1] 3))); rw [← hw9] at g8; clear HL1; have HL1 := g8; clear g8)
                      have HS7 := Lib.hid h9
                      have HL2 := Lib.hid g9
                      clear h9 g9 hw9 hSS
                      have hSS : (fun W : World => W.cell? ⟨bo, 3, none⟩ = some (.slice a6 gs.length c6)) w25 := blk_cell HS7.out.box (j := 3) (v := .slice a6 gs.length c6) rfl
                      refine HK.out _ _ (fun _ => hSS) ?_
                      clear HK
                      refine wpAnyE_one (i := 9) (by kernel_rfl) rfl (fun K hK => ?_)
                      have HK := Lib.hid hK
                      clear hK
                      go_simp
                      refine (c_l1Least _ _ _).mono ?_
                      rintro e w' ⟨rfl, rfl⟩
                      refine HK.out _ _ (fun _ => hSS) ?_
                      clear HK
                      refine wpAnyE_one (i := 12) (by kernel_rfl) rfl (fun K hK => ?_)
                      have HK := Lib.hid hK
                      clear hK
                      go_simp
                      refine (c_amongP b _ w22.heap.size [0, 1, 1, 1] 0 1 w25 HS7.out.cur (by omega) HL2.out (by simp) (by simp) (by intro x hx; simp at hx; omega)).mono ?_
                      rintro e w30 ⟨r76, rfl, q0, q1, hc, hk1⟩
                      have HS30 := Lib.hid (HS7.out.draw hc hk1)
                      try (have g8 := Lib.hid (HL2.out.draw hk1); clear HL2; have HL2 := g8; clear g8)
                      clear hc hk1 hSS
                      have hSS : (fun W : World => W.cell? ⟨bo, 3, none⟩ = some (.slice a6 gs.length c6)) w30 := blk_cell HS30.out.box (j := 3) (v := .slice a6 gs.length c6) rfl
                      refine HK.out _ _ (fun _ => hSS) ?_
                      clear HK
                      refine wpAnyE_take (i := 13) (v := ?_) rfl (by kernel_rfl) (by kernel_rfl) (by kernel_rfl) (fun _ _ _ h => h) (Or.inl ⟨by rfl, ?_⟩) (by assumption) ?_
                      rotate_left 1
                      focus (intro W hSW; (try dsimp only at hSW); go_simp; try with_reducible rfl)
                      (try simp only [Act.put, List.setIfInBounds_toArray, List.set_cons_zero, List.set_cons_succ])
                      refine wpAnyE_take (i := 14) (v := ?_) rfl (by kernel_rfl) (by kernel_rfl) (by kernel_rfl) (fun _ _ _ h => h) (Or.inl ⟨by rfl, ?_⟩) (by assumption) ?_
                      rotate_left 1
                      focus (intro W hSW; (try dsimp only at hSW); go_simp; try with_reducible rfl)
                      (try simp only [Act.put, List.setIfInBounds_toArray, List.set_cons_zero, List.set_cons_succ])
                      refine wpAnyE_one (i := 15) (by kernel_rfl) rfl (fun K hK => ?_)
                      have HK := Lib.hid hK
                      clear hK
                      go_simp
                      obtain ⟨Y, hY⟩ : ∃ Y, Y = IntKind.i64.wrap (min 3000 (max 0 (IntKind.i64.wrap (ln - r70))) * r76) := ⟨_, rfl⟩
                      rw [← hY]
                      clear hY
                      have HS31 := Lib.hid (HS30.out.ext (Ext.alloc w30 (.cells #[.int .i64 (t + (1 + r12)), .int .i64 Y] 61)))
                      refine HK.out _ _ (fun _ => (Ext.alloc _ _).cell hSS) ?_
                      clear HK hSS
                      refine wpAnyE_one (i := 16) (by kernel_rfl) rfl (fun K hK => ?_)
                      have HK := Lib.hid hK
                      clear hK
                      refine step_append_own rfl (.tmp 65) (.tmp 79) 26 rfl (bo + 1) 61 g0 (.agg #[.int .i64 0, .int .i64 0]) 2 16 Try.underlying26 hg0 hgz0 hgz1 hgz2 rfl (by decide) (.slice a6 gs.length c6) gs.length (gs.flatMap encGround) (by simp [Act.eval, Act.put]) HS31.out.own ⟨w30.heap.size, 0, none⟩ 1 1 [.int .i64 (t + (1 + r12)), .int .i64 Y] (by simp [Act.eval, Act.put]) rfl (new_cells2n _ _ _ _) (by intro u hu; simp at hu; rcases hu with rfl | rfl <;> rfl) (by unfold maxLen; omega) (by omega) (by have := HS30.out.bol; simp; omega) ?_
                      intro v6 w6 hown6 hgr6
                      obtain ⟨a8, c8, rfl, _, _, _⟩ := own_form hown6
                      have hb6 := grown_old hgr6 HS31.out.box (fun e => by have := (HS31.out.own.lt bo e).1; omega)
                      have HS32 := Lib.hid (HS31.out.push hown6 hgr6)
                      have hSS : (fun W : World => W.cell? ⟨bo, 3, none⟩ = some (.slice a6 gs.length c6)) w6 := blk_cell hb6 (j := 3) (v := .slice a6 gs.length c6) rfl
                      clear hown6 hgr6
                      refine HK.out _ _ (fun _ => hSS) ?_
                      clear HK
                      refine wpAnyE_take (i := 17) (v := ?_) rfl (by kernel_rfl) (by kernel_rfl) (by kernel_rfl) (fun _ _ _ h => h) (Or.inl ⟨by rfl, ?_⟩) (by assumption) ?_
                      rotate_left 1
                      focus (intro W hSW; (try dsimp only at hSW); go_simp; try with_reducible rfl)
                      (try simp only [Act.put, List.setIfInBounds_toArray, List.set_cons_zero, List.set_cons_succ])
                      have e61 := blk_cell hb6 (j := 3) (v := .slice a6 gs.length c6) rfl
                      have f61 := blk_free hb6 3
                      clear hSS hb6
                      refine wpAnyE_one (i := 18) (by kernel_rfl) rfl (fun K hK => ?_)
                      have HK := Lib.hid hK
                      clear hK
                      go_simp
                      refine HK.out _ _ (fun hn => absurd ?_ hn) (wpAnyE_done (by kernel_rfl) ?_ _)
                      · intro oj hoj q hq hne
                        cases hoj
                        revert hne
                        revert q
                        decide
                      clear e61 f61 HK
                      go_wp2
                      go_roundg (n - (gs.length + 1)).toNat
                      case measure => omega
                      case rel => exact ⟨_, a8, c8, gs ++ [(t + (1 + r12), Y)], rfl, by omega, by omega, by simp; omega, by simp; omega, HS32.out.mono (by simp; omega)⟩
                  ·
                    have HK := Lib.hid hK
                    clear hK
                    go_simp
                    obtain ⟨w25, hw9⟩ : ∃ W, W = w22.alloc (.cells #[.int .i64 0, .int .i64 1, .int .i64 1, .int .i64 1] 3) := ⟨_, rfl⟩
                    rw [← hw9]
                    have h9 := HS6.out.ext (Ext.alloc w22 (.cells #[.int .i64 0, .int .i64 1, .int .i64 1, .int .i64 1] 3))
                    have g9 : LitI (w22.alloc (.cells #[.int .i64 0, .int .i64 1, .int .i64 1, .int .i64 1] 3)) b w22.heap.size [0, 1, 1, 1] := LitI.new w22 b [0, 1, 1, 1] HS6.out.blt (by simp)
                    rw [← hw9] at h9 g9
                    try (have g8 := Lib.hid (HL1.out.ext (Ext.alloc w22 (.cells #[.int .i64 0, .int .i64 1, .int .i64 1, .int .i64 1] 3))); rw [← hw9] at g8; clear HL1; have HL1 := g8; clear g8)
                    have HS7 := Lib.hid h9
                    have HL2 := Lib.hid g9
                    clear h9 g9 hw9 hSS
                    have hSS : (fun W : World => W.cell? ⟨bo, 3, none⟩ = some (.slice a6 gs.length c6)) w25 := blk_cell HS7.out.box (j := 3) (v := .slice a6 gs.length c6) rfl
                    refine HK.out _ _ (fun _ => hSS) ?_
                    clear HK
                    refine wpAnyE_one (i := 8) (by kernel_rfl) rfl (fun K hK => ?_)
                    have HK := Lib.hid hK
                    clear hK
                    go_simp
                    refine (c_l1Most _ _ _).mono ?_
                    rintro e w' ⟨rfl, rfl⟩
                    refine HK.out _ _ (fun _ => hSS) ?_
                    clear HK
                    refine wpAnyE_one (i := 9) (by kernel_rfl) rfl (fun K hK => ?_)
                    have HK := Lib.hid hK
                    clear hK
                    go_simp
                    refine (c_l1Least _ _ _).mono ?_
                    rintro e w' ⟨rfl, rfl⟩
                    refine HK.out _ _ (fun _ => hSS) ?_
                    clear HK
                    refine wpAnyE_one (i := 12) (by kernel_rfl) rfl (fun K hK => ?_)
                    have HK := Lib.hid hK
                    clear hK
                    go_simp
                    refine (c_amongP b _ w22.heap.size [0, 1, 1, 1] 0 1 w25 HS7.out.cur (by omega) HL2.out (by simp) (by simp) (by intro x hx; simp at hx; omega)).mono ?_
                    rintro e w30 ⟨r76, rfl, q0, q1, hc, hk1⟩
                    have HS30 := Lib.hid (HS7.out.draw hc hk1)
                    try (have g8 := Lib.hid (HL2.out.draw hk1); clear HL2; have HL2 := g8; clear g8)
                    clear hc hk1 hSS
                    have hSS : (fun W : World => W.cell? ⟨bo, 3, none⟩ = some (.slice a6 gs.length c6)) w30 := blk_cell HS30.out.box (j := 3) (v := .slice a6 gs.length c6) rfl
                    refine HK.out _ _ (fun _ => hSS) ?_
                    clear HK
                    refine wpAnyE_take (i := 13) (v := ?_) rfl (by kernel_rfl) (by kernel_rfl) (by kernel_rfl) (fun _ _ _ h => h) (Or.inl ⟨by rfl, ?_⟩) (by assumption) ?_
                    rotate_left 1
                    focus (intro W hSW; (try dsimp only at hSW); go_simp; try with_reducible rfl)
                    (try simp only [Act.put, List.setIfInBounds_toArray, List.set_cons_zero, List.set_cons_succ])
                    refine wpAnyE_take (i := 14) (v := ?_) rfl (by kernel_rfl) (by kernel_rfl) (by kernel_rfl) (fun _ _ _ h => h) (Or.inl ⟨by rfl, ?_⟩) (by assumption) ?_
                    rotate_left 1
                    focus (intro W hSW; (try dsimp only at hSW); go_simp; try with_reducible rfl)
                    (try simp only [Act.put, List.setIfInBounds_toArray, List.set_cons_zero, List.set_cons_succ])
                    refine wpAnyE_one (i := 15) (by kernel_rfl) rfl (fun K hK => ?_)
                    have HK := Lib.hid hK
                    clear hK
                    go_simp
                    obtain ⟨Y, hY⟩ : ∃ Y, Y = IntKind.i64.wrap (min 3000 (max 0 (IntKind.i64.wrap (ln - r70))) * r76) := ⟨_, rfl⟩
                    rw [← hY]
                    clear hY
                    have HS31 := Lib.hid (HS30.out.ext (Ext.alloc w30 (.cells #[.int .i64 (t + (1 + r12)), .int .i64 Y] 61)))
                    refine HK.out _ _ (fun _ => (Ext.alloc _ _).cell hSS) ?_
                    clear HK hSS
                    refine wpAnyE_one (i := 16) (by kernel_rfl) rfl (fun K hK => ?_)
                    have HK := Lib.hid hK
                    clear hK
                    refine step_append_own rfl (.tmp 65) (.tmp 79) 26 rfl (bo + 1) 61 g0 (.agg #[.int .i64 0, .int .i64 0]) 2 16 Try.underlying26 hg0 hgz0 hgz1 hgz2 rfl (by decide) (.slice a6 gs.length c6) gs.length (gs.flatMap encGround) (by simp [Act.eval, Act.put]) HS31.out.own ⟨w30.heap.size, 0, none⟩ 1 1 [.int .i64 (t + (1 + r12)), .int .i64 Y] (by simp [Act.eval, Act.put]) rfl (new_cells2n _ _ _ _) (by intro u hu; simp at hu; rcases hu with rfl | rfl <;> rfl) (by unfold maxLen; omega) (by omega) (by have := HS30.out.bol; simp; omega) ?_
                    intro v6 w6 hown6 hgr6
                    obtain ⟨a8, c8, rfl, _, _, _⟩ := own_form hown6
                    have hb6 := grown_old hgr6 HS31.out.box (fun e => by have := (HS31.out.own.lt bo e).1; omega)
                    have HS32 := Lib.hid (HS31.out.push hown6 hgr6)
                    have hSS : (fun W : World => W.cell? ⟨bo, 3, none⟩ = some (.slice a6 gs.length c6)) w6 := blk_cell hb6 (j := 3) (v := .slice a6 gs.length c6) rfl
                    clear hown6 hgr6
                    refine HK.out _ _ (fun _ => hSS) ?_
                    clear HK
                    refine wpAnyE_take (i := 17) (v := ?_) rfl (by kernel_rfl) (by kernel_rfl) (by kernel_rfl) (fun _ _ _ h => h) (Or.inl ⟨by rfl, ?_⟩) (by assumption) ?_
                    rotate_left 1
                    focus (intro W hSW; (try dsimp only at hSW); go_simp; try with_reducible rfl)
                    (try simp only [Act.put, List.setIfInBounds_toArray, List.set_cons_zero, List.set_cons_succ])
                    have e61 := blk_cell hb6 (j := 3) (v := .slice a6 gs.length c6) rfl
                    have f61 := blk_free hb6 3
                    clear hSS hb6
                    refine wpAnyE_one (i := 18) (by kernel_rfl) rfl (fun K hK => ?_)
                    have HK := Lib.hid hK
                    clear hK
                    go_simp
                    refine HK.out _ _ (fun hn => absurd ?_ hn) (wpAnyE_done (by kernel_rfl) ?_ _)
                    · intro oj hoj q hq hne
                      cases hoj
                      revert hne
                      revert q
                      decide
                    clear e61 f61 HK
                    go_wp2
                    go_roundg (n - (gs.length + 1)).toNat
                    case measure => omega
                    case rel => exact ⟨_, a8, c8, gs ++ [(t + (1 + r12), Y)], rfl, by omega, by omega, by simp; omega, by simp; omega, HS32.out.mono (by simp; omega)⟩
                ·
                  have HK := Lib.hid hK
                  clear hK
                  go_simp
                  obtain ⟨w25, hw9⟩ : ∃ W, W = w21.alloc (.cells #[.int .i64 0, .int .i64 1, .int .i64 1, .int .i64 1] 3) := ⟨_, rfl⟩
                  rw [← hw9]
                  have h9 := HS5.out.ext (Ext.alloc w21 (.cells #[.int .i64 0, .int .i64 1, .int .i64 1, .int .i64 1] 3))
                  have g9 : LitI (w21.alloc (.cells #[.int .i64 0, .int .i64 1, .int .i64 1, .int .i64 1] 3)) b w21.heap.size [0, 1, 1, 1] := LitI.new w21 b [0, 1, 1, 1] HS5.out.blt (by simp)
                  rw [← hw9] at h9 g9
                  try (have g8 := Lib.hid (HL1.out.ext (Ext.alloc w21 (.cells #[.int .i64 0, .int .i64 1, .int .i64 1, .int .i64 1] 3))); rw [← hw9] at g8; clear HL1; have HL1 := g8; clear g8)
                  have HS6 := Lib.hid h9
                  have HL2 := Lib.hid g9
                  clear h9 g9 hw9 hSS
                  have hSS : (fun W : World => W.cell? ⟨bo, 3, none⟩ = some (.slice a6 gs.length c6)) w25 := blk_cell HS6.out.box (j := 3) (v := .slice a6 gs.length c6) rfl
                  refine HK.out _ _ (fun _ => hSS) ?_
                  clear HK
                  refine wpAnyE_one (i := 6) (by kernel_rfl) rfl (fun K hK => ?_)
                  have HK := Lib.hid hK
                  clear hK
                  go_simp
                  refine (c_amongP b _ w20.heap.size [0, 1, 2, 5, 8, 20, 60, 400] 0 400 w25 HS6.out.cur (by omega) HL1.out (by simp) (by simp) (by intro x hx; simp at hx; omega)).mono ?_
                  rintro e w26 ⟨r70, rfl, q0, q1, hc, hk1⟩
                  have HS7 := Lib.hid (HS6.out.draw hc hk1)
                  try (have g8 := Lib.hid (HL2.out.draw hk1); clear HL2; have HL2 := g8; clear g8)
                  clear hc hk1 hSS
                  have hSS : (fun W : World => W.cell? ⟨bo, 3, none⟩ = some (.slice a6 gs.length c6)) w26 := blk_cell HS7.out.box (j := 3) (v := .slice a6 gs.length c6) rfl
                  refine HK.out _ _ (fun _ => hSS) ?_
                  clear HK
                  refine wpAnyE_take (i := 7) (v := ?_) rfl (by kernel_rfl) (by kernel_rfl) (by kernel_rfl) (fun _ _ _ h => h) (Or.inl ⟨by rfl, ?_⟩) (by assumption) ?_
                  rotate_left 1
                  focus (intro W hSW; (try dsimp only at hSW); go_simp; try with_reducible rfl)
                  (try simp only [Act.put, List.setIfInBounds_toArray, List.set_cons_zero, List.set_cons_succ])
                  refine wpAnyE_one (i := 8) (by kernel_rfl) rfl (fun K hK => ?_)
                  have HK := Lib.hid hK
                  clear hK
                  go_simp
                  refine (c_l1Most _ _ _).mono ?_
                  rintro e w' ⟨rfl, rfl⟩
                  refine HK.out _ _ (fun _ => hSS) ?_
                  clear HK
                  refine wpAnyE_one (i := 9) (by kernel_rfl) rfl (fun K hK => ?_)
                  have HK := Lib.hid hK
                  clear hK
                  go_simp
                  refine (c_l1Least _ _ _).mono ?_
                  rintro e w' ⟨rfl, rfl⟩
                  refine HK.out _ _ (fun _ => hSS) ?_
                  clear HK
                  refine wpAnyE_one (i := 12) (by kernel_rfl) rfl (fun K hK => ?_)
                  have HK := Lib.hid hK
                  clear hK
                  go_simp
                  refine (c_amongP b _ w21.heap.size [0, 1, 1, 1] 0 1 w26 HS7.out.cur (by omega) HL2.out (by simp) (by simp) (by intro x hx; simp at hx; omega)).mono ?_
                  rintro e w30 ⟨r76, rfl, q0, q1, hc, hk1⟩
                  have HS30 := Lib.hid (HS7.out.draw hc hk1)
                  try (have g8 := Lib.hid (HL2.out.draw hk1); clear HL2; have HL2 := g8; clear g8)
                  clear hc hk1 hSS
                  have hSS : (fun W : World => W.cell? ⟨bo, 3, none⟩ = some (.slice a6 gs.length c6)) w30 := blk_cell HS30.out.box (j := 3) (v := .slice a6 gs.length c6) rfl
                  refine HK.out _ _ (fun _ => hSS) ?_
                  clear HK
                  refine wpAnyE_take (i := 13) (v := ?_) rfl (by kernel_rfl) (by kernel_rfl) (by kernel_rfl) (fun _ _ _ h => h) (Or.inl ⟨by rfl, ?_⟩) (by assumption) ?_
                  rotate_left 1
                  focus (intro W hSW; (try dsimp only at hSW); go_simp; try with_reducible rfl)
                  (try simp only [Act.put, List.setIfInBounds_toArray, List.set_cons_zero, List.set_cons_succ])
                  refine wpAnyE_take (i := 14) (v := ?_) rfl (by kernel_rfl) (by kernel_rfl) (by kernel_rfl) (fun _ _ _ h => h) (Or.inl ⟨by rfl, ?_⟩) (by assumption) ?_
                  rotate_left 1
                  focus (intro W hSW; (try dsimp only at hSW); go_simp; try with_reducible rfl)
                  (try simp only [Act.put, List.setIfInBounds_toArray, List.set_cons_zero, List.set_cons_succ])
                  refine wpAnyE_one (i := 15) (by kernel_rfl) rfl (fun K hK => ?_)
                  have HK := Lib.hid hK
                  clear hK
                  go_simp
                  obtain ⟨Y, hY⟩ : ∃ Y, Y = IntKind.i64.wrap (min 3000 (max 0 (IntKind.i64.wrap (ln - r70))) * r76) := ⟨_, rfl⟩
                  rw [← hY]
                  clear hY
                  have HS31 := Lib.hid (HS30.out.ext (Ext.alloc w30 (.cells #[.int .i64 (t + (1 + r12)), .int .i64 Y] 61)))
                  refine HK.out _ _ (fun _ => (Ext.alloc _ _).cell hSS) ?_
                  clear HK hSS
                  refine wpAnyE_one (i := 16) (by kernel_rfl) rfl (fun K hK => ?_)
                  have HK := Lib.hid hK
                  clear hK
                  refine step_append_own rfl (.tmp 65) (.tmp 79) 26 rfl (bo + 1) 61 g0 (.agg #[.int .i64 0, .int .i64 0]) 2 16 Try.underlying26 hg0 hgz0 hgz1 hgz2 rfl (by decide) (.slice a6 gs.length c6) gs.length (gs.flatMap encGround) (by simp [Act.eval, Act.put]) HS31.out.own ⟨w30.heap.size, 0, none⟩ 1 1 [.int .i64 (t + (1 + r12)), .int .i64 Y] (by simp [Act.eval, Act.put]) rfl (new_cells2n _ _ _ _) (by intro u hu; simp at hu; rcases hu with rfl | rfl <;> rfl) (by unfold maxLen; omega) (by omega) (by have := HS30.out.bol; simp; omega) ?_
                  intro v6 w6 hown6 hgr6
                  obtain ⟨a8, c8, rfl, _, _, _⟩ := own_form hown6
                  have hb6 := grown_old hgr6 HS31.out.box (fun e => by have := (HS31.out.own.lt bo e).1; omega)
                  have HS32 := Lib.hid (HS31.out.push hown6 hgr6)
                  have hSS : (fun W : World => W.cell? ⟨bo, 3, none⟩ = some (.slice a6 gs.length c6)) w6 := blk_cell hb6 (j := 3) (v := .slice a6 gs.length c6) rfl
                  clear hown6 hgr6
                  refine HK.out _ _ (fun _ => hSS) ?_
                  clear HK
                  refine wpAnyE_take (i := 17) (v := ?_) rfl (by kernel_rfl) (by kernel_rfl) (by kernel_rfl) (fun _ _ _ h => h) (Or.inl ⟨by rfl, ?_⟩) (by assumption) ?_
                  rotate_left 1
                  focus (intro W hSW; (try dsimp only at hSW); go_simp; try with_reducible rfl)
                  (try simp only [Act.put, List.setIfInBounds_toArray, List.set_cons_zero, List.set_cons_succ])
                  have e61 := blk_cell hb6 (j := 3) (v := .slice a6 gs.length c6) rfl
                  have f61 := blk_free hb6 3
                  clear hSS hb6
                  refine wpAnyE_one (i := 18) (by kernel_rfl) rfl (fun K hK => ?_)
                  have HK := Lib.hid hK
                  clear hK
                  go_simp
                  refine HK.out _ _ (fun hn => absurd ?_ hn) (wpAnyE_done (by kernel_rfl) ?_ _)
                  · intro oj hoj q hq hne
                    cases hoj
                    revert hne
                    revert q
                    decide
                  clear e61 f61 HK
                  go_wp2
                  go_roundg (n - (gs.length + 1)).toNat
                  case measure => omega
                  case rel => exact ⟨_, a8, c8, gs ++ [(t + (1 + r12), Y)], rfl, by omega, by omega, by simp; omega, by simp; omega, HS32.out.mono (by simp; omega)⟩
              ·
                have HK := Lib.hid hK
                clear hK
                go_simp
                obtain ⟨w25, hw9⟩ : ∃ W, W = w20.alloc (.cells #[.int .i64 0, .int .i64 1, .int .i64 1, .int .i64 1] 3) := ⟨_, rfl⟩
                rw [← hw9]
                have h9 := HS4.out.ext (Ext.alloc w20 (.cells #[.int .i64 0, .int .i64 1, .int .i64 1, .int .i64 1] 3))
                have g9 : LitI (w20.alloc (.cells #[.int .i64 0, .int .i64 1, .int .i64 1, .int .i64 1] 3)) b w20.heap.size [0, 1, 1, 1] := LitI.new w20 b [0, 1, 1, 1] HS4.out.blt (by simp)
                rw [← hw9] at h9 g9
                try (have g8 := Lib.hid (HL1.out.ext (Ext.alloc w20 (.cells #[.int .i64 0, .int .i64 1, .int .i64 1, .int .i64 1] 3))); rw [← hw9] at g8; clear HL1; have HL1 := g8; clear g8)
                have HS5 := Lib.hid h9
                have HL2 := Lib.hid g9
                clear h9 g9 hw9 hSS
                have hSS : (fun W : World => W.cell? ⟨bo, 3, none⟩ = some (.slice a6 gs.length c6)) w25 := blk_cell HS5.out.box (j := 3) (v := .slice a6 gs.length c6) rfl
                refine HK.out _ _ (fun _ => hSS) ?_
                clear HK
                refine wpAnyE_one (i := 5) (by kernel_rfl) rfl (fun K hK => ?_)
                have HK := Lib.hid hK
                clear hK
                go_simp
                obtain ⟨w26, hw9⟩ : ∃ W, W = w25.alloc (.cells #[.int .i64 0, .int .i64 1, .int .i64 2, .int .i64 5, .int .i64 8, .int .i64 20, .int .i64 60, .int .i64 400] 3) := ⟨_, rfl⟩
                rw [← hw9]
                have h9 := HS5.out.ext (Ext.alloc w25 (.cells #[.int .i64 0, .int .i64 1, .int .i64 2, .int .i64 5, .int .i64 8, .int .i64 20, .int .i64 60, .int .i64 400] 3))
                have g9 : LitI (w25.alloc (.cells #[.int .i64 0, .int .i64 1, .int .i64 2, .int .i64 5, .int .i64 8, .int .i64 20, .int .i64 60, .int .i64 400] 3)) b w25.heap.size [0, 1, 2, 5, 8, 20, 60, 400] := LitI.new w25 b [0, 1, 2, 5, 8, 20, 60, 400] HS5.out.blt (by simp)
                rw [← hw9] at h9 g9
                try (have g8 := Lib.hid (HL2.out.ext (Ext.alloc w25 (.cells #[.int .i64 0, .int .i64 1, .int .i64 2, .int .i64 5, .int .i64 8, .int .i64 20, .int .i64 60, .int .i64 400] 3))); rw [← hw9] at g8; clear HL2; have HL2 := g8; clear g8)
                have HS6 := Lib.hid h9
                have HL1 := Lib.hid g9
                clear h9 g9 hw9 hSS
                have hSS : (fun W : World => W.cell? ⟨bo, 3, none⟩ = some (.slice a6 gs.length c6)) w26 := blk_cell HS6.out.box (j := 3) (v := .slice a6 gs.length c6) rfl
                refine HK.out _ _ (fun _ => hSS) ?_
                clear HK
                refine wpAnyE_one (i := 6) (by kernel_rfl) rfl (fun K hK => ?_)
                have HK := Lib.hid hK
                clear hK
                go_simp
                refine (c_amongP b _ w25.heap.size [0, 1, 2, 5, 8, 20, 60, 400] 0 400 w26 HS6.out.cur (by omega) HL1.out (by simp) (by simp) (by intro x hx; simp at hx; omega)).mono ?_
                rintro e w27 ⟨r70, rfl, q0, q1, hc, hk1⟩
                have HS7 := Lib.hid (HS6.out.draw hc hk1)
                try (have g8 := Lib.hid (HL2.out.draw hk1); clear HL2; have HL2 := g8; clear g8)
                clear hc hk1 hSS
                have hSS : (fun W : World => W.cell? ⟨bo, 3, none⟩ = some (.slice a6 gs.length c6)) w27 := blk_cell HS7.out.box (j := 3) (v := .slice a6 gs.length c6) rfl
                refine HK.out _ _ (fun _ => hSS) ?_
                clear HK
                refine wpAnyE_take (i := 7) (v := ?_) rfl (by kernel_rfl) (by kernel_rfl) (by kernel_rfl) (fun _ _ _ h => h) (Or.inl ⟨by rfl, ?_⟩) (by assumption) ?_
                rotate_left 1
                focus (intro W hSW; (try dsimp only at hSW); go_simp; try with_reducible rfl)
                (try simp only [Act.put, List.setIfInBounds_toArray, List.set_cons_zero, List.set_cons_succ])
                refine wpAnyE_one (i := 8) (by kernel_rfl) rfl (fun K hK => ?_)
                have HK := Lib.hid hK
                clear hK
                go_simp
                refine (c_l1Most _ _ _).mono ?_
                rintro e w' ⟨rfl, rfl⟩
                refine HK.out _ _ (fun _ => hSS) ?_
                clear HK
                refine wpAnyE_one (i := 9) (by kernel_rfl) rfl (fun K hK => ?_)
                have HK := Lib.hid hK
                clear hK
                go_simp
                refine (c_l1Least _ _ _).mono ?_
                rintro e w' ⟨rfl, rfl⟩
                refine HK.out _ _ (fun _ => hSS) ?_
                clear HK
                refine wpAnyE_one (i := 12) (by kernel_rfl) rfl (fun K hK => ?_)
                have HK := Lib.hid hK
                clear hK
                go_simp
                refine (c_amongP b _ w20.heap.size [0, 1, 1, 1] 0 1 w27 HS7.out.cur (by omega) HL2.out (by simp) (by simp) (by intro x hx; simp at hx; omega)).mono ?_
                rintro e w30 ⟨r76, rfl, q0, q1, hc, hk1⟩
                have HS30 := Lib.hid (HS7.out.draw hc hk1)
                try (have g8 := Lib.hid (HL2.out.draw hk1); clear HL2; have HL2 := g8; clear g8)
                clear hc hk1 hSS
                have hSS : (fun W : World => W.cell? ⟨bo, 3, none⟩ = some (.slice a6 gs.length c6)) w30 := blk_cell HS30.out.box (j := 3) (v := .slice a6 gs.length c6) rfl
                refine HK.out _ _ (fun _ => hSS) ?_
                clear HK
                refine wpAnyE_take (i := 13) (v := ?_) rfl (by kernel_rfl) (by kernel_rfl) (by kernel_rfl) (fun _ _ _ h => h) (Or.inl ⟨by rfl, ?_⟩) (by assumption) ?_
                rotate_left 1
                focus (intro W hSW; (try dsimp only at hSW); go_simp; try with_reducible rfl)
                (try simp only [Act.put, List.setIfInBounds_toArray, List.set_cons_zero, List.set_cons_succ])
                refine wpAnyE_take (i := 14) (v := ?_) rfl (by kernel_rfl) (by kernel_rfl) (by kernel_rfl) (fun _ _ _ h => h) (Or.inl ⟨by rfl, ?_⟩) (by assumption) ?_
                rotate_left 1
                focus (intro W hSW; (try dsimp only at hSW); go_simp; try with_reducible rfl)
                (try simp only [Act.put, List.setIfInBounds_toArray, List.set_cons_zero, List.set_cons_succ])
                refine wpAnyE_one (i := 15) (by kernel_rfl) rfl (fun K hK => ?_)
                have HK := Lib.hid hK
                clear hK
                go_simp
                obtain ⟨Y, hY⟩ : ∃ Y, Y = IntKind.i64.wrap (min 3000 (max 0 (IntKind.i64.wrap (ln - r70))) * r76) := ⟨_, rfl⟩
                rw [← hY]
                clear hY
                have HS31 := Lib.hid (HS30.out.ext (Ext.alloc w30 (.cells #[.int .i64 (t + (1 + r12)), .int .i64 Y] 61)))
                refine HK.out _ _ (fun _ => (Ext.alloc _ _).cell hSS) ?_
                clear HK hSS
                refine wpAnyE_one (i := 16) (by kernel_rfl) rfl (fun K hK => ?_)
                have HK := Lib.hid hK
                clear hK
                refine step_append_own rfl (.tmp 65) (.tmp 79) 26 rfl (bo + 1) 61 g0 (.agg #[.int .i64 0, .int .i64 0]) 2 16 Try.underlying26 hg0 hgz0 hgz1 hgz2 rfl (by decide) (.slice a6 gs.length c6) gs.length (gs.flatMap encGround) (by simp [Act.eval, Act.put]) HS31.out.own ⟨w30.heap.size, 0, none⟩ 1 1 [.int .i64 (t + (1 + r12)), .int .i64 Y] (by simp [Act.eval, Act.put]) rfl (new_cells2n _ _ _ _) (by intro u hu; simp at hu; rcases hu with rfl | rfl <;> rfl) (by unfold maxLen; omega) (by omega) (by have := HS30.out.bol; simp; omega) ?_
                intro v6 w6 hown6 hgr6
                obtain ⟨a8, c8, rfl, _, _, _⟩ := own_form hown6
                have hb6 := grown_old hgr6 HS31.out.box (fun e => by have := (HS31.out.own.lt bo e).1; omega)
                have HS32 := Lib.hid (HS31.out.push hown6 hgr6)
                have hSS : (fun W : World => W.cell? ⟨bo, 3, none⟩ = some (.slice a6 gs.length c6)) w6 := blk_cell hb6 (j := 3) (v := .slice a6 gs.length c6) rfl
                clear hown6 hgr6
                refine HK.out _ _ (fun _ => hSS) ?_
                clear HK
                refine wpAnyE_take (i := 17) (v := ?_) rfl (by kernel_rfl) (by kernel_rfl) (by kernel_rfl) (fun _ _ _ h => h) (Or.inl ⟨by rfl, ?_⟩) (by assumption) ?_
                rotate_left 1
                focus (intro W hSW; (try dsimp only at hSW); go_simp; try with_reducible rfl)
                (try simp only [Act.put, List.setIfInBounds_toArray, List.set_cons_zero, List.set_cons_succ])
                have e61 := blk_cell hb6 (j := 3) (v := .slice a6 gs.length c6) rfl
                have f61 := blk_free hb6 3
                clear hSS hb6
                refine wpAnyE_one (i := 18) (by kernel_rfl) rfl (fun K hK => ?_)
                have HK := Lib.hid hK
                clear hK
                go_simp
                refine HK.out _ _ (fun hn => absurd ?_ hn) (wpAnyE_done (by kernel_rfl) ?_ _)
                · intro oj hoj q hq hne
                  cases hoj
                  revert hne
                  revert q
                  decide
                clear e61 f61 HK
                go_wp2
                go_roundg (n - (gs.length + 1)).toNat
                case measure => omega
                case rel => exact ⟨_, a8, c8, gs ++ [(t + (1 + r12), Y)], rfl, by omega, by omega, by simp; omega, by simp; omega, HS32.out.mono (by simp; omega)⟩
        · go_wp2_with fail
          go_meet
          case rel => exact ⟨a6, c6, gs, by omega, HS1.out.mono (by omega)⟩
    case rest =>
      clear n0 n1 HSX
      obtain ⟨a, c, gs, hgl, hS⟩ := hcut
      have HSX := Lib.hid hS
      clear hS
      go_wp2_with fail
      refine (c_pick b _ 30 _ HSX.out.cur (by omega) (by omega)).mono ?_
      rintro e w40 ⟨r, rfl, r0, r1, hc, hk1⟩
      have HS40 := Lib.hid (HSX.out.draw hc hk1)
      clear hc hk1 HSX r1
      go_upto_block 2 with fail
      go_cut [] (fun wx => ∃ (D A B : Int) (a : Option Addr) (c : Nat) (gs : List GroundT), gs.length ≤ 21 ∧ SX b w.heap.size bo w D A B a c gs (k + 450) wx)
      case first =>
        rcases (show r = 0 ∨ r = 1 ∨ r = 2 ∨ r = 3 ∨ r = 4 ∨ 5 ≤ r by omega) with rfl | rfl | rfl | rfl | rfl | hr5
        · go_wp2_with fail
          refine (c_amongL b _ [0, 1, 999, 1000] (0) 1000 _ HS40.out.cur (by omega) (by simp) (by simp) (by intro x hx; simp at hx; omega)).mono ?_
          rintro e w41 ⟨q, rfl, q0, q1, hc, hk1⟩
          have HS41 := Lib.hid (HS40.out.draw hc hk1)
          have e9 := blk_cell HS41.out.box (j := 0) (v := .int .i64 D) rfl
          have f9 := blk_free HS41.out.box 0
          clear hc hk1
          go_wp2
          go_meet
          case rel => exact ⟨q, A, B, a, c, gs, hgl, (HS41.out.set0 q).mono (by omega)⟩
        · go_wp2_with fail
          refine (c_amongL b _ [-1, 3001] (-1) 3001 _ HS40.out.cur (by omega) (by simp) (by simp) (by intro x hx; simp at hx; omega)).mono ?_
          rintro e w41 ⟨q, rfl, q0, q1, hc, hk1⟩
          have HS41 := Lib.hid (HS40.out.draw hc hk1)
          have e9 := blk_cell HS41.out.box (j := 1) (v := .int .i64 A) rfl
          have f9 := blk_free HS41.out.box 1
          clear hc hk1
          go_wp2
          go_meet
          case rel => exact ⟨D, q, B, a, c, gs, hgl, (HS41.out.set1 q).mono (by omega)⟩
        · go_wp2_with fail
          refine (c_amongL b _ [-1, 3000, 3001] (-1) 3001 _ HS40.out.cur (by omega) (by simp) (by simp) (by intro x hx; simp at hx; omega)).mono ?_
          rintro e w41 ⟨q, rfl, q0, q1, hc, hk1⟩
          have HS41 := Lib.hid (HS40.out.draw hc hk1)
          have e9 := blk_cell HS41.out.box (j := 2) (v := .int .i64 B) rfl
          have f9 := blk_free HS41.out.box 2
          clear hc hk1
          go_wp2
          go_meet
          case rel => exact ⟨D, A, q, a, c, gs, hgl, (HS41.out.set2 q).mono (by omega)⟩
        · have e3 := blk_cell HS40.out.box (j := 3) (v := .slice a gs.length c) rfl
          by_cases hpos : 0 < gs.length
          · obtain ⟨g, rfl, hg1, hg2⟩ := HS40.out.at0 hpos
            obtain ⟨m, hm⟩ : ∃ m, gs.length = m + 1 := ⟨gs.length - 1, by omega⟩
            obtain ⟨y, hy⟩ : ∃ y, gs[0]? = some y := ⟨_, List.getElem?_eq_getElem hpos⟩
            have HY := Lib.hid hy
            rw [hm] at e3
            have hmI : (0 : Int) < (m : Int) + 1 := by omega
            have HM := Lib.hid hm
            clear hm hpos hy
            go_upto_region 20 with fail
            obtain ⟨w41, hwd⟩ : ∃ W, W = w40.drew := ⟨_, rfl⟩
            have HS41 : Hid (SX b w.heap.size bo w D A B (some ⟨g, 0, none⟩) c gs (k + 400 + 2) w41) := by unfold Hid; rw [hwd]; exact HS40.out.ext (Ext.drew _)
            refine wp_region_E (S := fun W => W.cell? ⟨bo, 3, none⟩ = some (.slice (some ⟨g, 0, none⟩) (m + 1) c) ∧ W.cell? ⟨bo, 0, none⟩ = some (.int .i64 D)) (by kernel_rfl) ?_
            rw [← hwd]
            clear hwd HS40
            have hSS : (fun W : World => W.cell? ⟨bo, 3, none⟩ = some (.slice (some ⟨g, 0, none⟩) (m + 1) c) ∧ W.cell? ⟨bo, 0, none⟩ = some (.int .i64 D)) w41 := ⟨by have h9 := blk_cell HS41.out.box (j := 3) (v := .slice (some ⟨g, 0, none⟩) gs.length c) rfl; rw [HM.out] at h9; exact h9, blk_cell HS41.out.box (j := 0) (v := .int .i64 D) rfl⟩
            refine wpAnyE_take (i := 0) (v := ?_) rfl (by kernel_rfl) (by kernel_rfl) (by kernel_rfl) (fun _ _ _ h => h) (Or.inl ⟨by rfl, ?_⟩) (by assumption) ?_
            rotate_left 1
            focus (intro W hSW; (try dsimp only at hSW); go_simp; try with_reducible rfl)
            (try simp only [Act.put, List.setIfInBounds_toArray, List.set_cons_zero, List.set_cons_succ])
            refine wpAnyE_take (i := 1) (v := ?_) rfl (by kernel_rfl) (by kernel_rfl) (by kernel_rfl) (fun _ _ _ h => h) (Or.inl ⟨by rfl, ?_⟩) (by assumption) ?_
            rotate_left 1
            focus (intro W hSW; (try dsimp only at hSW); go_simp; try with_reducible rfl)
            (try simp only [Act.put, List.setIfInBounds_toArray, List.set_cons_zero, List.set_cons_succ])
            refine wpAnyE_take (i := 2) (v := ?_) rfl (by kernel_rfl) (by kernel_rfl) (by kernel_rfl) (fun _ _ _ h => h) (Or.inl ⟨by rfl, ?_⟩) (by assumption) ?_
            rotate_left 1
            focus (intro W hSW; (try dsimp only at hSW); go_simp; try with_reducible rfl)
            (try simp only [Act.put, List.setIfInBounds_toArray, List.set_cons_zero, List.set_cons_succ])
            refine wpAnyE_one (i := 3) (by kernel_rfl) rfl (fun K hK => ?_)
            have HK := Lib.hid hK
            clear hK
            go_simp
            obtain ⟨w42, hw9⟩ : ∃ W, W = w41.alloc (.cells #[.int .i64 (-1), .int .i64 3000, .int .i64 3001] 3) := ⟨_, rfl⟩
            rw [← hw9]
            have h9 := HS41.out.ext (Ext.alloc w41 (.cells #[.int .i64 (-1), .int .i64 3000, .int .i64 3001] 3))
            have g9 : LitI (w41.alloc (.cells #[.int .i64 (-1), .int .i64 3000, .int .i64 3001] 3)) b w41.heap.size [-1, 3000, 3001] := LitI.new w41 b [-1, 3000, 3001] HS41.out.blt (by simp)
            rw [← hw9] at h9 g9
            have HS42 := Lib.hid h9
            have HL1 := Lib.hid g9
            clear h9 g9 hw9 hSS
            have hSS : (fun W : World => W.cell? ⟨bo, 3, none⟩ = some (.slice (some ⟨g, 0, none⟩) (m + 1) c) ∧ W.cell? ⟨bo, 0, none⟩ = some (.int .i64 D)) w42 := ⟨by have h9 := blk_cell HS42.out.box (j := 3) (v := .slice (some ⟨g, 0, none⟩) gs.length c) rfl; rw [HM.out] at h9; exact h9, blk_cell HS42.out.box (j := 0) (v := .int .i64 D) rfl⟩
            refine HK.out _ _ (fun _ => hSS) ?_
            clear HK
            refine wpAnyE_one (i := 4) (by kernel_rfl) rfl (fun K hK => ?_)
            have HK := Lib.hid hK
            clear hK
            go_simp
            refine (c_amongP b _ w41.heap.size [-1, 3000, 3001] (-1) 3001 w42 HS42.out.cur (by omega) HL1.out (by simp) (by simp) (by intro x hx; simp at hx; omega)).mono ?_
            rintro e w43 ⟨r9, rfl, q0, q1, hc, hk1⟩
            have HS43 := Lib.hid (HS42.out.draw hc hk1)
            clear hc hk1 hSS
            have hSS : (fun W : World => W.cell? ⟨bo, 3, none⟩ = some (.slice (some ⟨g, 0, none⟩) (m + 1) c) ∧ W.cell? ⟨bo, 0, none⟩ = some (.int .i64 D)) w43 := ⟨by have h9 := blk_cell HS43.out.box (j := 3) (v := .slice (some ⟨g, 0, none⟩) gs.length c) rfl; rw [HM.out] at h9; exact h9, blk_cell HS43.out.box (j := 0) (v := .int .i64 D) rfl⟩
            refine HK.out _ _ (fun _ => hSS) ?_
            clear HK
            refine wpAnyE_take (i := 5) (v := ?_) rfl (by kernel_rfl) (by kernel_rfl) (by kernel_rfl) (fun _ _ _ h => h) (Or.inl ⟨by rfl, ?_⟩) (by assumption) ?_
            rotate_left 1
            focus (intro W hSW; (try dsimp only at hSW); go_simp; try with_reducible rfl)
            (try simp only [Act.put, List.setIfInBounds_toArray, List.set_cons_zero, List.set_cons_succ])
            refine wpAnyE_take (i := 6) (v := ?_) rfl (by kernel_rfl) (by kernel_rfl) (by kernel_rfl) (fun _ _ _ h => h) (Or.inl ⟨by rfl, ?_⟩) (by assumption) ?_
            rotate_left 1
            focus (intro W hSW; (try dsimp only at hSW); go_simp; try with_reducible rfl)
            (try simp only [Act.put, List.setIfInBounds_toArray, List.set_cons_zero, List.set_cons_succ])
            have e61 : w43.cell? ⟨g, 1, none⟩ = some (.int .i64 y.2) := by
              rw [HS43.out.own.cellAt 1 (by rw [HM.out]; omega)]
              exact (flat_getG gs 0 y HY.out).2
            have f61 := HS43.out.own.frozenAt 1
            refine wpAnyE_one (i := 7) (by kernel_rfl) rfl (fun K hK => ?_)
            have HK := Lib.hid hK
            clear hK hSS
            go_simp
            have HS44 := Lib.hid (HS43.out.setG hg1 (List.length_set ..) (flat_setG2 gs 0 y r9 HY.out))
            refine HK.out _ _ (fun _ => ⟨by have h9 := blk_cell HS44.out.box (j := 3) (v := .slice (some ⟨g, 0, none⟩) (gs.set 0 (y.1, r9)).length c) rfl; rw [List.length_set, HM.out] at h9; exact h9, blk_cell HS44.out.box (j := 0) (v := .int .i64 D) rfl⟩) (wpAnyE_done (by kernel_rfl) ?_ _)
            clear HK
            go_wp2
            go_meet
            case rel => exact ⟨D, A, B, some ⟨g, 0, none⟩, c, gs.set 0 (y.1, r9), by rw [List.length_set]; exact hgl, HS44.out.mono (by omega)⟩
          · have hp0 : ¬ (0 : Int) < (gs.length : Int) := by omega
            go_wp2
            go_meet
            case rel => exact ⟨D, A, B, a, c, gs, hgl, HS40.out.mono (by omega)⟩
        · have e3 := blk_cell HS40.out.box (j := 3) (v := .slice a gs.length c) rfl
          by_cases hpos : 0 < gs.length
          · obtain ⟨g, rfl, hg1, hg2⟩ := HS40.out.at0 hpos
            obtain ⟨m, hm⟩ : ∃ m, gs.length = m + 1 := ⟨gs.length - 1, by omega⟩
            obtain ⟨y, hy⟩ : ∃ y, gs[m]? = some y := ⟨_, List.getElem?_eq_getElem (by omega)⟩
            have HY := Lib.hid hy
            rw [hm] at e3
            have hmI : (0 : Int) < (m : Int) + 1 := by omega
            have hm0 : (0 : Int) ≤ (m : Int) := by omega
            have hm1 : (m : Int) < (m : Int) + 1 := by omega
            have hw1 : IntKind.i64.wrap (m : Int) = (m : Int) := by rw [IntKind.wrap_i64]; omega
            have hw2 : IntKind.i64.wrap (D - 1) = D - 1 := by rw [IntKind.wrap_i64]; omega
            have HM := Lib.hid hm
            clear hm hpos hy
            go_upto_region 23 with fail
            obtain ⟨w41, hwd⟩ : ∃ W, W = w40.drew := ⟨_, rfl⟩
            have HS41 : Hid (SX b w.heap.size bo w D A B (some ⟨g, 0, none⟩) c gs (k + 400 + 2) w41) := by unfold Hid; rw [hwd]; exact HS40.out.ext (Ext.drew _)
            refine wp_region_E (S := fun W => W.cell? ⟨bo, 3, none⟩ = some (.slice (some ⟨g, 0, none⟩) (m + 1) c) ∧ W.cell? ⟨bo, 0, none⟩ = some (.int .i64 D)) (by kernel_rfl) ?_
            rw [← hwd]
            clear hwd HS40
            have hSS : (fun W : World => W.cell? ⟨bo, 3, none⟩ = some (.slice (some ⟨g, 0, none⟩) (m + 1) c) ∧ W.cell? ⟨bo, 0, none⟩ = some (.int .i64 D)) w41 := ⟨by have h9 := blk_cell HS41.out.box (j := 3) (v := .slice (some ⟨g, 0, none⟩) gs.length c) rfl; rw [HM.out] at h9; exact h9, blk_cell HS41.out.box (j := 0) (v := .int .i64 D) rfl⟩
            refine wpAnyE_take (i := 0) (v := ?_) rfl (by kernel_rfl) (by kernel_rfl) (by kernel_rfl) (fun _ _ _ h => h) (Or.inl ⟨by rfl, ?_⟩) (by assumption) ?_
            rotate_left 1
            focus (intro W hSW; (try dsimp only at hSW); go_simp; try with_reducible rfl)
            (try simp only [Act.put, List.setIfInBounds_toArray, List.set_cons_zero, List.set_cons_succ])
            refine wpAnyE_take (i := 1) (v := ?_) rfl (by kernel_rfl) (by kernel_rfl) (by kernel_rfl) (fun _ _ _ h => h) (Or.inl ⟨by rfl, ?_⟩) (by assumption) ?_
            rotate_left 1
            focus (intro W hSW; (try dsimp only at hSW); go_simp; try with_reducible rfl)
            (try simp only [Act.put, List.setIfInBounds_toArray, List.set_cons_zero, List.set_cons_succ])
            refine wpAnyE_take (i := 2) (v := ?_) rfl (by kernel_rfl) (by kernel_rfl) (by kernel_rfl) (fun _ _ _ h => h) (Or.inl ⟨by rfl, ?_⟩) (by assumption) ?_
            rotate_left 1
            focus (intro W hSW; (try dsimp only at hSW); go_simp; try with_reducible rfl)
            (try simp only [Act.put, List.setIfInBounds_toArray, List.set_cons_zero, List.set_cons_succ])
            refine wpAnyE_take (i := 3) (v := ?_) rfl (by kernel_rfl) (by kernel_rfl) (by kernel_rfl) (fun _ _ _ h => h) (Or.inl ⟨by rfl, ?_⟩) (by assumption) ?_
            rotate_left 1
            focus (intro W hSW; (try dsimp only at hSW); go_simp; try with_reducible rfl)
            (try simp only [Act.put, List.setIfInBounds_toArray, List.set_cons_zero, List.set_cons_succ])
            refine wpAnyE_take (i := 4) (v := ?_) rfl (by kernel_rfl) (by kernel_rfl) (by kernel_rfl) (fun _ _ _ h => h) (Or.inl ⟨by rfl, ?_⟩) (by assumption) ?_
            rotate_left 1
            focus (intro W hSW; (try dsimp only at hSW); go_simp; try with_reducible rfl)
            (try simp only [Act.put, List.setIfInBounds_toArray, List.set_cons_zero, List.set_cons_succ])
            refine wpAnyE_take (i := 5) (v := ?_) rfl (by kernel_rfl) (by kernel_rfl) (by kernel_rfl) (fun _ _ _ h => h) (Or.inl ⟨by rfl, ?_⟩) (by assumption) ?_
            rotate_left 1
            focus (intro W hSW; (try dsimp only at hSW); go_simp; try with_reducible rfl)
            (try simp only [Act.put, List.setIfInBounds_toArray, List.set_cons_zero, List.set_cons_succ])
            refine wpAnyE_take (i := 6) (v := ?_) rfl (by kernel_rfl) (by kernel_rfl) (by kernel_rfl) (fun _ _ _ h => h) (Or.inl ⟨by rfl, ?_⟩) (by assumption) ?_
            rotate_left 1
            focus (intro W hSW; (try dsimp only at hSW); go_simp; try with_reducible rfl)
            (try simp only [Act.put, List.setIfInBounds_toArray, List.set_cons_zero, List.set_cons_succ])
            refine wpAnyE_take (i := 7) (v := ?_) rfl (by kernel_rfl) (by kernel_rfl) (by kernel_rfl) (fun _ _ _ h => h) (Or.inl ⟨by rfl, ?_⟩) (by assumption) ?_
            rotate_left 1
            focus (intro W hSW; (try dsimp only at hSW); go_simp; try with_reducible rfl)
            (try simp only [Act.put, List.setIfInBounds_toArray, List.set_cons_zero, List.set_cons_succ])
            refine wpAnyE_take (i := 8) (v := ?_) rfl (by kernel_rfl) (by kernel_rfl) (by kernel_rfl) (fun _ _ _ h => h) (Or.inl ⟨by rfl, ?_⟩) (by assumption) ?_
            rotate_left 1
            focus (intro W hSW; (try dsimp only at hSW); go_simp; try with_reducible rfl)
            (try simp only [Act.put, List.setIfInBounds_toArray, List.set_cons_zero, List.set_cons_succ])
            refine wpAnyE_take (i := 9) (v := ?_) rfl (by kernel_rfl) (by kernel_rfl) (by kernel_rfl) (fun _ _ _ h => h) (Or.inl ⟨by rfl, ?_⟩) (by assumption) ?_
            rotate_left 1
            focus (intro W hSW; (try dsimp only at hSW); go_simp; try with_reducible rfl)
            (try simp only [Act.put, List.setIfInBounds_toArray, List.set_cons_zero, List.set_cons_succ])
            refine wpAnyE_take (i := 10) (v := ?_) rfl (by kernel_rfl) (by kernel_rfl) (by kernel_rfl) (fun _ _ _ h => h) (Or.inl ⟨by rfl, ?_⟩) (by assumption) ?_
            rotate_left 1
            focus (intro W hSW; (try dsimp only at hSW); go_simp; try with_reducible rfl)
            (try simp only [Act.put, List.setIfInBounds_toArray, List.set_cons_zero, List.set_cons_succ])
            refine wpAnyE_take (i := 11) (v := ?_) rfl (by kernel_rfl) (by kernel_rfl) (by kernel_rfl) (fun _ _ _ h => h) (Or.inl ⟨by rfl, ?_⟩) (by assumption) ?_
            rotate_left 1
            focus (intro W hSW; (try dsimp only at hSW); go_simp; try with_reducible rfl)
            (try simp only [Act.put, List.setIfInBounds_toArray, List.set_cons_zero, List.set_cons_succ])
            refine wpAnyE_one (i := 12) (by kernel_rfl) rfl (fun K hK => ?_)
            have HK := Lib.hid hK
            clear hK
            go_simp
            obtain ⟨w42, hw9⟩ : ∃ W, W = w41.alloc (.cells #[.int .i64 0, .int .i64 (D - 1), .int .i64 D] 3) := ⟨_, rfl⟩
            rw [← hw9]
            have h9 := HS41.out.ext (Ext.alloc w41 (.cells #[.int .i64 0, .int .i64 (D - 1), .int .i64 D] 3))
            have g9 : LitI (w41.alloc (.cells #[.int .i64 0, .int .i64 (D - 1), .int .i64 D] 3)) b w41.heap.size [0, D - 1, D] := LitI.new w41 b [0, D - 1, D] HS41.out.blt (by simp)
            rw [← hw9] at h9 g9
            have HS42 := Lib.hid h9
            have HL1 := Lib.hid g9
            clear h9 g9 hw9 hSS
            have hSS : (fun W : World => W.cell? ⟨bo, 3, none⟩ = some (.slice (some ⟨g, 0, none⟩) (m + 1) c) ∧ W.cell? ⟨bo, 0, none⟩ = some (.int .i64 D)) w42 := ⟨by have h9 := blk_cell HS42.out.box (j := 3) (v := .slice (some ⟨g, 0, none⟩) gs.length c) rfl; rw [HM.out] at h9; exact h9, blk_cell HS42.out.box (j := 0) (v := .int .i64 D) rfl⟩
            refine HK.out _ _ (fun _ => hSS) ?_
            clear HK
            refine wpAnyE_one (i := 13) (by kernel_rfl) rfl (fun K hK => ?_)
            have HK := Lib.hid hK
            clear hK
            go_simp
            refine (c_amongP b _ w41.heap.size [0, D - 1, D] 0 999 w42 HS42.out.cur (by omega) HL1.out (by simp) (by simp) (by intro x hx; simp at hx; omega)).mono ?_
            rintro e w43 ⟨r9, rfl, q0, q1, hc, hk1⟩
            have HS43 := Lib.hid (HS42.out.draw hc hk1)
            clear hc hk1 hSS
            have hSS : (fun W : World => W.cell? ⟨bo, 3, none⟩ = some (.slice (some ⟨g, 0, none⟩) (m + 1) c) ∧ W.cell? ⟨bo, 0, none⟩ = some (.int .i64 D)) w43 := ⟨by have h9 := blk_cell HS43.out.box (j := 3) (v := .slice (some ⟨g, 0, none⟩) gs.length c) rfl; rw [HM.out] at h9; exact h9, blk_cell HS43.out.box (j := 0) (v := .int .i64 D) rfl⟩
            refine HK.out _ _ (fun _ => hSS) ?_
            clear HK
            refine wpAnyE_take (i := 14) (v := ?_) rfl (by kernel_rfl) (by kernel_rfl) (by kernel_rfl) (fun _ _ _ h => h) (Or.inl ⟨by rfl, ?_⟩) (by assumption) ?_
            rotate_left 1
            focus (intro W hSW; (try dsimp only at hSW); go_simp; try with_reducible rfl)
            (try simp only [Act.put, List.setIfInBounds_toArray, List.set_cons_zero, List.set_cons_succ])
            refine wpAnyE_take (i := 15) (v := ?_) rfl (by kernel_rfl) (by kernel_rfl) (by kernel_rfl) (fun _ _ _ h => h) (Or.inl ⟨by rfl, ?_⟩) (by assumption) ?_
            rotate_left 1
            focus (intro W hSW; (try dsimp only at hSW); go_simp; try with_reducible rfl)
            (try simp only [Act.put, List.setIfInBounds_toArray, List.set_cons_zero, List.set_cons_succ])
            have e61 : w43.cell? ⟨g, m * 2, none⟩ = some (.int .i64 y.1) := by
              rw [HS43.out.own.cellAt (m * 2) (by rw [HM.out]; omega)]
              exact (flat_getG gs m y HY.out).1
            have f61 := HS43.out.own.frozenAt (m * 2)
            refine wpAnyE_one (i := 16) (by kernel_rfl) rfl (fun K hK => ?_)
            have HK := Lib.hid hK
            clear hK hSS
            go_simp
            have HS44 := Lib.hid (HS43.out.setG hg1 (List.length_set ..) (flat_setG1 gs m y r9 HY.out))
            refine HK.out _ _ (fun _ => ⟨by have h9 := blk_cell HS44.out.box (j := 3) (v := .slice (some ⟨g, 0, none⟩) (gs.set m (r9, y.2)).length c) rfl; rw [List.length_set, HM.out] at h9; exact h9, blk_cell HS44.out.box (j := 0) (v := .int .i64 D) rfl⟩) (wpAnyE_done (by kernel_rfl) ?_ _)
            clear HK
            go_wp2
            go_meet
            case rel => exact ⟨D, A, B, some ⟨g, 0, none⟩, c, gs.set m (r9, y.2), by rw [List.length_set]; exact hgl, HS44.out.mono (by omega)⟩
          · have hp0 : ¬ (0 : Int) < (gs.length : Int) := by omega
            go_wp2
            go_meet
            case rel => exact ⟨D, A, B, a, c, gs, hgl, HS40.out.mono (by omega)⟩
        · have q0 : (r == 0) = false := by simp; omega
          have q1 : (r == 1) = false := by simp; omega
          have q2 : (r == 2) = false := by simp; omega
          have q3 : (r == 3) = false := by simp; omega
          have q4 : (r == 4) = false := by simp; omega
          go_wp2
          go_meet
          case rel => exact ⟨D, A, B, a, c, gs, hgl, HS40.out.mono (by omega)⟩
      case rest =>
        clear d0 d1 a0 a1 b0 b1 HS40 hgl
        obtain ⟨D, A, B, a, c, gs, hgl, hS⟩ := hcut
        have HSZ := Lib.hid hS
        have c0 := blk_cell hS.box (j := 0) (v := .int .i64 D) rfl
        have c1 := blk_cell hS.box (j := 1) (v := .int .i64 A) rfl
        have c2 := blk_cell hS.box (j := 2) (v := .int .i64 B) rfl
        have c3 := blk_cell hS.box (j := 3) (v := .slice a gs.length c) rfl
        have z0 := blk_cell hS.res (j := 0) (v := .int .i64 0) rfl
        have z1 := blk_cell hS.res (j := 1) (v := .int .i64 0) rfl
        have z2 := blk_cell hS.res (j := 2) (v := .int .i64 0) rfl
        have z3 := blk_cell hS.res (j := 3) (v := .slice none 0 0) rfl
        have f0 := blk_free hS.res 0
        have f1 := blk_free hS.res 1
        have f2 := blk_free hS.res 2
        have f3 := blk_free hS.res 3
        clear hS
        go_wp2
        obtain ⟨w50, hw50⟩ : ∃ W, W = (((wc.setCell ⟨w.heap.size, 0, none⟩ (.int .i64 D)).setCell ⟨w.heap.size, 1, none⟩ (.int .i64 A)).setCell ⟨w.heap.size, 2, none⟩ (.int .i64 B)).setCell ⟨w.heap.size, 3, none⟩ (.slice a gs.length c) := ⟨_, rfl⟩
        rw [← hw50]
        obtain ⟨g4, go5, gc, gk⟩ := HSZ.out.fin rfl hw50
        have k90 := blk_cell g4 (j := 0) (v := .int .i64 D) rfl
        have k91 := blk_cell g4 (j := 1) (v := .int .i64 A) rfl
        have k92 := blk_cell g4 (j := 2) (v := .int .i64 B) rfl
        have k93 := blk_cell g4 (j := 3) (v := .slice a gs.length c) rfl
        clear hw50 g4
        refine bodyPost_ret (v := .agg #[.int .i64 D, .int .i64 A, .int .i64 B, .slice a gs.length c]) (by simp [results, Try.results54, go_sem, k90, k91, k92, k93]) rfl ⟨D, A, B, a, c, gs, rfl, go5, hgl, gc.mono (by omega), gk⟩
end Go.Proofs.Ytnoagmjajhlmjaa
