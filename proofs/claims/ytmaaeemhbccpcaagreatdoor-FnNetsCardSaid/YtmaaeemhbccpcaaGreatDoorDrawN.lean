
/- Drawn nets: what the reference's draw of a net gives. Written by wip/tools/gennet.py. -/
import Derived.Test.YtmaaeemhbccpcaaGreatDoorNX
import Derived.Deep.DeepCutAuto
import Derived.Deep.CutBlock
namespace Go.Proofs.YtmaaeemhbccpcaaGreatDoor
open Go.RowKit
set_option linter.unusedSimpArgs false
set_option linter.unusedVariables false
/-- What a draw of a net gives: its lists are the call's own. -/
def DrawNet (b k tl tm lm : Nat) (w : World) (e : Ending) (w' : World) : Prop := ∃ (ta : Option Addr) (tc : Nat) (T : List TowerT) (la : Option Addr) (lc : Nat) (L : List LinkT), e = .returned (.agg #[.slice ta T.length tc, .slice la L.length lc]) ∧
  OwnNet w' w.heap.size w'.heap.size (.agg #[.slice ta T.length tc, .slice la L.length lc]) (T, L) ∧ tl ≤ T.length ∧ T.length ≤ tm ∧ L.length ≤ lm ∧ Cur w' b k ∧ Keep b (b + 1) w w'
/-- Numbers that a net's text can say. -/
def Sm3 (T : List (Int × Int × Int)) : Prop := ∀ t ∈ T, (0 ≤ t.1 ∧ t.1 ≤ 999) ∧ (0 ≤ t.2.1 ∧ t.2.1 ≤ 999) ∧ (0 ≤ t.2.2 ∧ t.2.2 ≤ 999)
theorem Sm3.nil : Sm3 [] := fun t h => by cases h
theorem Sm3.snoc {T : List (Int × Int × Int)} {x y z : Int} (h : Sm3 T) (hx : 0 ≤ x ∧ x ≤ 999) (hy : 0 ≤ y ∧ y ≤ 999) (hz : 0 ≤ z ∧ z ≤ 999) : Sm3 (T ++ [(x, y, z)]) := fun t ht => by
  rcases List.mem_append.1 ht with ht | ht
  · exact h t ht
  · rw [List.mem_singleton.1 ht]
    exact ⟨hx, hy, hz⟩
/-- .. and its numbers are small. -/
def DrawNetS (b k tl tm lm : Nat) (w : World) (e : Ending) (w' : World) : Prop := ∃ (ta : Option Addr) (tc : Nat) (T : List TowerT) (la : Option Addr) (lc : Nat) (L : List LinkT), e = .returned (.agg #[.slice ta T.length tc, .slice la L.length lc]) ∧
  OwnNet w' w.heap.size w'.heap.size (.agg #[.slice ta T.length tc, .slice la L.length lc]) (T, L) ∧ tl ≤ T.length ∧ T.length ≤ tm ∧ L.length ≤ lm ∧ Cur w' b k ∧ Keep b (b + 1) w w' ∧ Sm3 T ∧ Sm3 L
theorem flat_snocT (T : List TowerT) (x : TowerT) : (T ++ [x]).flatMap encTower = T.flatMap encTower ++ [.int .i64 x.1, .int .i64 x.2.1, .int .i64 x.2.2] := by simp [encTower]
theorem flat_snocL (T : List LinkT) (x : LinkT) : (T ++ [x]).flatMap encLink = T.flatMap encLink ++ [.int .i64 x.1, .int .i64 x.2.1, .int .i64 x.2.2] := by simp [encLink]
theorem new_cells3n (w : World) (x y z : Value) (t : TypeId) : ∀ j u, ([x, y, z] : List Value)[j]? = some u → (w.alloc (.cells #[x, y, z] t)).cell? ((⟨w.heap.size, 0, none⟩ : Addr).add j) = some u := by
  intro j u hj
  match j, hj with
  | 0, hj => exact blk_cell (blk_alloc _ _) (by simpa using hj)
  | 1, hj => exact blk_cell (blk_alloc _ _) (by simpa using hj)
  | 2, hj => exact blk_cell (blk_alloc _ _) (by simpa using hj)
  | j + 3, hj => simp at hj
set_option maxRecDepth 100000 in
set_option maxHeartbeats 4000000 in
theorem c_netS (b k : Nat) (w : World) (h : Cur w b k) (hk : k ≤ 800000) : Calls Tryz.prog 49 #[.pointer (some ⟨b, 0, none⟩)] w (DrawNetS b (k + 5000) 1 16 40 w) := by
  obtain ⟨t0, ht0, htz0, htz1, htz2⟩ := info_parts Tryz.info_tower
  obtain ⟨l0, hl0, hlz0, hlz1, hlz2⟩ := info_parts Tryz.info_link
  have hbs := h.lt
  obtain ⟨bo, hbo⟩ : ∃ n, n = w.heap.size + 1 := ⟨_, rfl⟩
  obtain ⟨W0, hW0⟩ : ∃ W, W = ((w.alloc (.cells #[.slice none 0 0, .slice none 0 0] 27)).alloc (.cells #[.slice none 0 0, .slice none 0 0] 27)) := ⟨_, rfl⟩
  have hX0 : Ext w W0 := by rw [hW0]; exact ((Ext.refl w).al _).al _
  have HS0 : Hid (NX b w.heap.size (w.heap.size + 1) bo w none 0 [] none 0 [] k W0) := ⟨hbs, by omega, by omega, Nat.le_refl _, by rw [hW0, size_alloc, size_alloc]; omega, by rw [hW0, hbo]; exact blk_alloc2 _ _ _, World.ownsRow_nil _ _ _ _, World.ownsRow_nil _ _ _ _, by rw [hW0]; exact blk_old (blk_alloc _ _), h.ext hX0, Keep.of_ext hX0⟩
  have C1 := Lib.hid (c_pick b k 6 W0 HS0.out.cur (by omega) (by omega))
  have HW0 := Lib.hid hW0
  have HBO := Lib.hid hbo
  clear h hW0 hX0 hbo
  go_enter Tryz.func49, Tryz.ntmps49
  go_wp2_with fail
  rw [← HW0.out, ← HBO.out]
  refine C1.out.mono ?_
  rintro e w1 ⟨r, rfl, r0, r1, hc, hk1⟩
  have HS1 := Lib.hid (HS0.out.draw hc hk1)
  have C2 := Lib.hid (c_one b _ 24 w1 hc (by omega) (by omega))
  clear hc hk1 C1 HS0 HW0
  go_wp2_with fail
  refine C2.out.mono ?_
  rintro e w2 ⟨t, rfl, hc, hk1⟩
  have HS2 := Lib.hid (HS1.out.draw hc hk1)
  clear hc hk1 C2 HS1
  go_upto_if 13 with fail
  go_cut [4] from 14 to 14 (fun v wx => ∃ n : Int, v = .int .i64 n ∧ 1 ≤ n ∧ n ≤ 16 ∧ NX b w.heap.size (w.heap.size + 1) bo w none 0 [] none 0 [] (k + 4) wx)
  case first =>
    cases t
    · go_wp2
      go_meet
      case rel => exact ⟨_, rfl, by omega, by omega, HS2.out.mono (by omega)⟩
    · go_wp2
      go_meet
      case rel => exact ⟨16, rfl, by omega, by omega, HS2.out.mono (by omega)⟩
  case rest =>
    clear HS2 r0 r1
    obtain ⟨n, rfl, n0, n1, hS⟩ := hcut
    have HSX := Lib.hid hS
    clear hS
    go_wp2_with fail
    go_loopg [] 17 (fun gg wr => ∃ (ta : Option Addr) (tc : Nat) (T : List TowerT), (T.length : Int) ≤ n ∧ n ≤ T.length + gg ∧ Hid (NX b w.heap.size (w.heap.size + 1) bo w ta tc T none 0 [] (k + 10 + 10 * T.length) wr) ∧ Hid (Sm3 T))
    case atStart => exact ⟨none, 0, [], by simp; omega, by simp; omega, HSX.out.mono (by simp), Sm3.nil⟩
    case round =>
      clear HSX
      obtain ⟨ta, tc, T, len0, len1, HS1, HST⟩ := hrel
      have e0 := blk_cell HS1.out.box (j := 0) (v := .slice ta T.length tc) rfl
      by_cases hlt : (T.length : Int) < n
      · go_upto_region 6 with fail
        clear e0
        obtain ⟨w20, hwd⟩ : ∃ W, W = wr.drew := ⟨_, rfl⟩
        have HS20 : Hid (NX b w.heap.size (w.heap.size + 1) bo w ta tc T none 0 [] (k + 10 + 10 * T.length) w20) := by unfold Hid; rw [hwd]; exact HS1.out.ext (Ext.drew _)
        refine wp_region_E (S := fun W => W.cell? ⟨bo, 0, none⟩ = some (.slice ta T.length tc)) (by kernel_rfl) ?_
        rw [← hwd]
        clear hwd HS1
        have hSS : (fun W : World => W.cell? ⟨bo, 0, none⟩ = some (.slice ta T.length tc)) w20 := blk_cell HS20.out.box (j := 0) (v := .slice ta T.length tc) rfl
        refine wpAnyE_take (i := 0) (v := ?_) rfl (by kernel_rfl) (by kernel_rfl) (by kernel_rfl) (fun _ _ _ h => h) (Or.inl ⟨by rfl, ?_⟩) (by assumption) ?_
        rotate_left 1
        focus (intro W hSW; (try dsimp only at hSW); go_simp; try with_reducible rfl)
        (try simp only [Act.put, List.setIfInBounds_toArray, List.set_cons_zero, List.set_cons_succ])
        refine wpAnyE_take (i := 1) (v := ?_) rfl (by kernel_rfl) (by kernel_rfl) (by kernel_rfl) (fun _ _ _ h => h) (Or.inl ⟨by rfl, ?_⟩) (by assumption) ?_
        rotate_left 1
        focus (intro W hSW; (try dsimp only at hSW); go_simp; try with_reducible rfl)
        (try simp only [Act.put, List.setIfInBounds_toArray, List.set_cons_zero, List.set_cons_succ])
        refine wpAnyE_take (i := 2) (v := ?_) rfl (by kernel_rfl) (by kernel_rfl) (by kernel_rfl) (fun _ _ _ h => h) (Or.inl ⟨by rfl, ?_⟩) (by assumption) ?_
        rotate_left 1
        focus (intro W hSW; (try dsimp only at hSW); go_simp; try with_reducible rfl)
        (try simp only [Act.put, List.setIfInBounds_toArray, List.set_cons_zero, List.set_cons_succ])
        refine wpAnyE_take (i := 3) (v := ?_) rfl (by kernel_rfl) (by kernel_rfl) (by kernel_rfl) (fun _ _ _ h => h) (Or.inl ⟨by rfl, ?_⟩) (by assumption) ?_
        rotate_left 1
        focus (intro W hSW; (try dsimp only at hSW); go_simp; try with_reducible rfl)
        (try simp only [Act.put, List.setIfInBounds_toArray, List.set_cons_zero, List.set_cons_succ])
        refine wpAnyE_take (i := 7) (v := ?_) rfl (by kernel_rfl) (by kernel_rfl) (by kernel_rfl) (fun _ _ _ h => h) (Or.inl ⟨by rfl, ?_⟩) (by assumption) ?_
        rotate_left 1
        focus (intro W hSW; (try dsimp only at hSW); go_simp; try with_reducible rfl)
        (try simp only [Act.put, List.setIfInBounds_toArray, List.set_cons_zero, List.set_cons_succ])
        refine wpAnyE_take (i := 8) (v := ?_) rfl (by kernel_rfl) (by kernel_rfl) (by kernel_rfl) (fun _ _ _ h => h) (Or.inl ⟨by rfl, ?_⟩) (by assumption) ?_
        rotate_left 1
        focus (intro W hSW; (try dsimp only at hSW); go_simp; try with_reducible rfl)
        (try simp only [Act.put, List.setIfInBounds_toArray, List.set_cons_zero, List.set_cons_succ])
        refine wpAnyE_take (i := 12) (v := ?_) rfl (by kernel_rfl) (by kernel_rfl) (by kernel_rfl) (fun _ _ _ h => h) (Or.inl ⟨by rfl, ?_⟩) (by assumption) ?_
        rotate_left 1
        focus (intro W hSW; (try dsimp only at hSW); go_simp; try with_reducible rfl)
        (try simp only [Act.put, List.setIfInBounds_toArray, List.set_cons_zero, List.set_cons_succ])
        refine wpAnyE_two (i := 4) (j := 13) (by kernel_rfl) rfl rfl (fun K hK => ?_) (fun K hK => ?_)
        ·
          have HK := Lib.hid hK
          clear hK
          go_simp
          refine (c_pick b _ 400 w20 HS20.out.cur (by omega) (by omega)).mono ?_
          rintro e w21 ⟨r4, rfl, p0r4, p1r4, hc, hk1⟩
          have HS21 := Lib.hid (HS20.out.draw hc hk1)
          clear hc hk1 hSS HS20
          have hSS : (fun W : World => W.cell? ⟨bo, 0, none⟩ = some (.slice ta T.length tc)) w21 := blk_cell HS21.out.box (j := 0) (v := .slice ta T.length tc) rfl
          refine HK.out _ _ (fun _ => hSS) ?_
          clear HK
          refine wpAnyE_two (i := 5) (j := 13) (by kernel_rfl) rfl rfl (fun K hK => ?_) (fun K hK => ?_)
          ·
            have HK := Lib.hid hK
            clear hK
            go_simp
            obtain ⟨w22, hw9⟩ : ∃ W, W = w21.alloc (.cells #[.int .i64 0, .int .i64 30, .int .i64 100, .int .i64 999, .int .i64 r4] 3) := ⟨_, rfl⟩
            rw [← hw9]
            obtain ⟨q1, hp9⟩ : ∃ p, p = w21.heap.size := ⟨_, rfl⟩
            rw [← hp9]
            have hx9 : Ext w21 w22 := by rw [hw9]; exact Ext.alloc _ _
            have HL1 : Hid (LitI w22 b q1 [0, 30, 100, 999, r4]) := by unfold Hid; rw [hw9, hp9]; exact LitI.new w21 b [0, 30, 100, 999, r4] HS21.out.blt (by simp)
            have HS22 := Lib.hid (HS21.out.ext hx9)
            clear hw9 hp9 hx9 hSS HS21
            have hSS : (fun W : World => W.cell? ⟨bo, 0, none⟩ = some (.slice ta T.length tc)) w22 := blk_cell HS22.out.box (j := 0) (v := .slice ta T.length tc) rfl
            refine HK.out _ _ (fun _ => hSS) ?_
            clear HK
            refine wpAnyE_two (i := 6) (j := 13) (by kernel_rfl) rfl rfl (fun K hK => ?_) (fun K hK => ?_)
            ·
              have HK := Lib.hid hK
              clear hK
              go_simp
              refine (c_amongP b _ q1 [0, 30, 100, 999, r4] (0) 999 w22 HS22.out.cur (by omega) HL1.out (by simp) (by simp) (by intro x hx; simp at hx; omega)).mono ?_
              rintro e w23 ⟨r6, rfl, p0r6, p1r6, hc, hk1⟩
              have HS23 := Lib.hid (HS22.out.draw hc hk1)
              clear HL1
              clear hc hk1 hSS HS22
              have hSS : (fun W : World => W.cell? ⟨bo, 0, none⟩ = some (.slice ta T.length tc)) w23 := blk_cell HS23.out.box (j := 0) (v := .slice ta T.length tc) rfl
              refine HK.out _ _ (fun _ => hSS) ?_
              clear HK
              refine wpAnyE_two (i := 9) (j := 13) (by kernel_rfl) rfl rfl (fun K hK => ?_) (fun K hK => ?_)
              ·
                have HK := Lib.hid hK
                clear hK
                go_simp
                refine (c_pick b _ 400 w23 HS23.out.cur (by omega) (by omega)).mono ?_
                rintro e w24 ⟨r9, rfl, p0r9, p1r9, hc, hk1⟩
                have HS24 := Lib.hid (HS23.out.draw hc hk1)
                clear hc hk1 hSS HS23
                have hSS : (fun W : World => W.cell? ⟨bo, 0, none⟩ = some (.slice ta T.length tc)) w24 := blk_cell HS24.out.box (j := 0) (v := .slice ta T.length tc) rfl
                refine HK.out _ _ (fun _ => hSS) ?_
                clear HK
                refine wpAnyE_two (i := 10) (j := 13) (by kernel_rfl) rfl rfl (fun K hK => ?_) (fun K hK => ?_)
                ·
                  have HK := Lib.hid hK
                  clear hK
                  go_simp
                  obtain ⟨w25, hw9⟩ : ∃ W, W = w24.alloc (.cells #[.int .i64 0, .int .i64 40, .int .i64 999, .int .i64 r9] 3) := ⟨_, rfl⟩
                  rw [← hw9]
                  obtain ⟨q2, hp9⟩ : ∃ p, p = w24.heap.size := ⟨_, rfl⟩
                  rw [← hp9]
                  have hx9 : Ext w24 w25 := by rw [hw9]; exact Ext.alloc _ _
                  have HL2 : Hid (LitI w25 b q2 [0, 40, 999, r9]) := by unfold Hid; rw [hw9, hp9]; exact LitI.new w24 b [0, 40, 999, r9] HS24.out.blt (by simp)
                  have HS25 := Lib.hid (HS24.out.ext hx9)
                  clear hw9 hp9 hx9 hSS HS24
                  have hSS : (fun W : World => W.cell? ⟨bo, 0, none⟩ = some (.slice ta T.length tc)) w25 := blk_cell HS25.out.box (j := 0) (v := .slice ta T.length tc) rfl
                  refine HK.out _ _ (fun _ => hSS) ?_
                  clear HK
                  refine wpAnyE_two (i := 11) (j := 13) (by kernel_rfl) rfl rfl (fun K hK => ?_) (fun K hK => ?_)
                  ·
                    have HK := Lib.hid hK
                    clear hK
                    go_simp
                    refine (c_amongP b _ q2 [0, 40, 999, r9] (0) 999 w25 HS25.out.cur (by omega) HL2.out (by simp) (by simp) (by intro x hx; simp at hx; omega)).mono ?_
                    rintro e w26 ⟨r11, rfl, p0r11, p1r11, hc, hk1⟩
                    have HS26 := Lib.hid (HS25.out.draw hc hk1)
                    clear HL2
                    clear hc hk1 hSS HS25
                    have hSS : (fun W : World => W.cell? ⟨bo, 0, none⟩ = some (.slice ta T.length tc)) w26 := blk_cell HS26.out.box (j := 0) (v := .slice ta T.length tc) rfl
                    refine HK.out _ _ (fun _ => hSS) ?_
                    clear HK
                    refine wpAnyE_one (i := 13) (by kernel_rfl) rfl (fun K hK => ?_)
                    have HK := Lib.hid hK
                    clear hK
                    go_simp
                    obtain ⟨w27, hw9⟩ : ∃ W, W = w26.alloc (.cells #[.int .i64 0, .int .i64 20, .int .i64 120, .int .i64 500] 3) := ⟨_, rfl⟩
                    rw [← hw9]
                    obtain ⟨q3, hp9⟩ : ∃ p, p = w26.heap.size := ⟨_, rfl⟩
                    rw [← hp9]
                    have hx9 : Ext w26 w27 := by rw [hw9]; exact Ext.alloc _ _
                    have HL3 : Hid (LitI w27 b q3 [0, 20, 120, 500]) := by unfold Hid; rw [hw9, hp9]; exact LitI.new w26 b [0, 20, 120, 500] HS26.out.blt (by simp)
                    have HS27 := Lib.hid (HS26.out.ext hx9)
                    clear hw9 hp9 hx9 hSS HS26
                    have hSS : (fun W : World => W.cell? ⟨bo, 0, none⟩ = some (.slice ta T.length tc)) w27 := blk_cell HS27.out.box (j := 0) (v := .slice ta T.length tc) rfl
                    refine HK.out _ _ (fun _ => hSS) ?_
                    clear HK
                    refine wpAnyE_one (i := 14) (by kernel_rfl) rfl (fun K hK => ?_)
                    have HK := Lib.hid hK
                    clear hK
                    go_simp
                    refine (c_amongP b _ q3 [0, 20, 120, 500] (0) 500 w27 HS27.out.cur (by omega) HL3.out (by simp) (by simp) (by intro x hx; simp at hx; omega)).mono ?_
                    rintro e w28 ⟨r14, rfl, p0r14, p1r14, hc, hk1⟩
                    have HS28 := Lib.hid (HS27.out.draw hc hk1)
                    clear HL3
                    clear hc hk1 hSS HS27
                    have hSS : (fun W : World => W.cell? ⟨bo, 0, none⟩ = some (.slice ta T.length tc)) w28 := blk_cell HS28.out.box (j := 0) (v := .slice ta T.length tc) rfl
                    refine HK.out _ _ (fun _ => hSS) ?_
                    clear HK
                    refine wpAnyE_take (i := 15) (v := ?_) rfl (by kernel_rfl) (by kernel_rfl) (by kernel_rfl) (fun _ _ _ h => h) (Or.inl ⟨by rfl, ?_⟩) (by assumption) ?_
                    rotate_left 1
                    focus (intro W hSW; (try dsimp only at hSW); go_simp; try with_reducible rfl)
                    (try simp only [Act.put, List.setIfInBounds_toArray, List.set_cons_zero, List.set_cons_succ])
                    refine wpAnyE_one (i := 16) (by kernel_rfl) rfl (fun K hK => ?_)
                    have HK := Lib.hid hK
                    clear hK
                    go_simp
                    obtain ⟨w29, hw9⟩ : ∃ W, W = w28.alloc (.cells #[.int .i64 r6, .int .i64 r11, .int .i64 r14] 54) := ⟨_, rfl⟩
                    rw [← hw9]
                    obtain ⟨q9, hp9⟩ : ∃ p, p = w28.heap.size := ⟨_, rfl⟩
                    rw [← hp9]
                    have hx9 : Ext w28 w29 := by rw [hw9]; exact Ext.alloc _ _
                    have HC9 : Hid (∀ j u, ([.int .i64 r6, .int .i64 r11, .int .i64 r14] : List Value)[j]? = some u → w29.cell? ((⟨q9, 0, none⟩ : Addr).add j) = some u) := by unfold Hid; rw [hw9, hp9]; exact new_cells3n _ _ _ _ _
                    have HS29 := Lib.hid (HS28.out.ext hx9)
                    clear hw9 hp9 hx9 hSS HS28
                    have hSS : (fun W : World => W.cell? ⟨bo, 0, none⟩ = some (.slice ta T.length tc)) w29 := blk_cell HS29.out.box (j := 0) (v := .slice ta T.length tc) rfl
                    refine HK.out _ _ (fun _ => hSS) ?_
                    clear HK
                    refine wpAnyE_one (i := 17) (by kernel_rfl) rfl (fun K hK => ?_)
                    have HK := Lib.hid hK
                    clear hK
                    refine step_append_own rfl (.tmp 20) (.tmp 35) 24 rfl (w.heap.size + 1) 54 t0 (.agg #[.int .i64 0, .int .i64 0, .int .i64 0]) 3 24 Tryz.underlying24 ht0 htz0 htz1 htz2 rfl (by decide) (.slice ta T.length tc) T.length (T.flatMap encTower) (by simp [Act.eval, Act.put]) HS29.out.ownT ⟨q9, 0, none⟩ 1 1 [.int .i64 r6, .int .i64 r11, .int .i64 r14] (by simp [Act.eval, Act.put]) rfl HC9.out (by intro u hu; simp at hu; rcases hu with rfl | rfl | rfl <;> rfl) (by unfold maxLen; omega) (by omega) HS29.out.lbw ?_
                    intro v6 w6 hown6 hgr6
                    obtain ⟨a8, c8, rfl, _, _, _⟩ := own_form hown6
                    have hb6 := grown_blk hgr6 HS29.out.box (own_nbox HS29.out.ownT HS29.out.box (by decide))
                    have hl9 : (T ++ [((r6, r11, r14) : TowerT)]).length = T.length + 1 := by simp
                    have hp9 := HS29.out.pushT (T' := T ++ [(r6, r11, r14)]) (ta' := a8) (tc' := c8) (by rw [hl9, flat_snocT]; exact hown6) hgr6
                    rw [hl9] at hp9
                    have HS90 := Lib.hid hp9
                    clear hSS
                    have hSS : (fun W : World => W.cell? ⟨bo, 0, none⟩ = some (.slice ta T.length tc)) w6 := blk_cell hb6 (j := 0) (v := .slice ta T.length tc) rfl
                    clear hown6 hgr6 hp9 hl9 HC9
                    refine HK.out _ _ (fun _ => hSS) ?_
                    clear HK
                    refine wpAnyE_take (i := 18) (v := ?_) rfl (by kernel_rfl) (by kernel_rfl) (by kernel_rfl) (fun _ _ _ h => h) (Or.inl ⟨by rfl, ?_⟩) (by assumption) ?_
                    rotate_left 1
                    focus (intro W hSW; (try dsimp only at hSW); go_simp; try with_reducible rfl)
                    (try simp only [Act.put, List.setIfInBounds_toArray, List.set_cons_zero, List.set_cons_succ])
                    have e61 := blk_cell hb6 (j := 0) (v := .slice ta T.length tc) rfl
                    have f61 := blk_free hb6 0
                    clear hSS hb6
                    refine wpAnyE_one (i := 19) (by kernel_rfl) rfl (fun K hK => ?_)
                    have HK := Lib.hid hK
                    clear hK
                    go_simp
                    refine HK.out _ _ (fun hn => absurd ?_ hn) (wpAnyE_done (by kernel_rfl) ?_ _)
                    · intro oj hoj q hq hne
                      cases hoj
                      revert hne
                      revert q
                      decide
                    clear e61 f61 HK
                    go_wp2
                    go_roundg (n - (T.length + 1)).toNat
                    case measure => omega
                    case rel => exact ⟨a8, c8, T ++ [(r6, r11, r14)], by simp; omega, by simp; omega, HS90.out.mono (by simp; omega), HST.out.snoc (by omega) (by omega) (by omega)⟩
                  ·
                    have HK := Lib.hid hK
                    clear hK
                    go_simp
                    obtain ⟨w26, hw9⟩ : ∃ W, W = w25.alloc (.cells #[.int .i64 0, .int .i64 20, .int .i64 120, .int .i64 500] 3) := ⟨_, rfl⟩
                    rw [← hw9]
                    obtain ⟨q3, hp9⟩ : ∃ p, p = w25.heap.size := ⟨_, rfl⟩
                    rw [← hp9]
                    have hx9 : Ext w25 w26 := by rw [hw9]; exact Ext.alloc _ _
                    have HL3 : Hid (LitI w26 b q3 [0, 20, 120, 500]) := by unfold Hid; rw [hw9, hp9]; exact LitI.new w25 b [0, 20, 120, 500] HS25.out.blt (by simp)
                    have HS26 := Lib.hid (HS25.out.ext hx9)
                    have g8 := Lib.hid (HL2.out.ext hx9)
                    clear HL2
                    have HL2 := g8
                    clear g8
                    clear hw9 hp9 hx9 hSS HS25
                    have hSS : (fun W : World => W.cell? ⟨bo, 0, none⟩ = some (.slice ta T.length tc)) w26 := blk_cell HS26.out.box (j := 0) (v := .slice ta T.length tc) rfl
                    refine HK.out _ _ (fun _ => hSS) ?_
                    clear HK
                    refine wpAnyE_one (i := 11) (by kernel_rfl) rfl (fun K hK => ?_)
                    have HK := Lib.hid hK
                    clear hK
                    go_simp
                    refine (c_amongP b _ q2 [0, 40, 999, r9] (0) 999 w26 HS26.out.cur (by omega) HL2.out (by simp) (by simp) (by intro x hx; simp at hx; omega)).mono ?_
                    rintro e w27 ⟨r11, rfl, p0r11, p1r11, hc, hk1⟩
                    have HS27 := Lib.hid (HS26.out.draw hc hk1)
                    clear HL2
                    have g8 := Lib.hid (HL3.out.draw hk1)
                    clear HL3
                    have HL3 := g8
                    clear g8
                    clear hc hk1 hSS HS26
                    have hSS : (fun W : World => W.cell? ⟨bo, 0, none⟩ = some (.slice ta T.length tc)) w27 := blk_cell HS27.out.box (j := 0) (v := .slice ta T.length tc) rfl
                    refine HK.out _ _ (fun _ => hSS) ?_
                    clear HK
                    refine wpAnyE_one (i := 14) (by kernel_rfl) rfl (fun K hK => ?_)
                    have HK := Lib.hid hK
                    clear hK
                    go_simp
                    refine (c_amongP b _ q3 [0, 20, 120, 500] (0) 500 w27 HS27.out.cur (by omega) HL3.out (by simp) (by simp) (by intro x hx; simp at hx; omega)).mono ?_
                    rintro e w28 ⟨r14, rfl, p0r14, p1r14, hc, hk1⟩
                    have HS28 := Lib.hid (HS27.out.draw hc hk1)
                    clear HL3
                    clear hc hk1 hSS HS27
                    have hSS : (fun W : World => W.cell? ⟨bo, 0, none⟩ = some (.slice ta T.length tc)) w28 := blk_cell HS28.out.box (j := 0) (v := .slice ta T.length tc) rfl
                    refine HK.out _ _ (fun _ => hSS) ?_
                    clear HK
                    refine wpAnyE_take (i := 15) (v := ?_) rfl (by kernel_rfl) (by kernel_rfl) (by kernel_rfl) (fun _ _ _ h => h) (Or.inl ⟨by rfl, ?_⟩) (by assumption) ?_
                    rotate_left 1
                    focus (intro W hSW; (try dsimp only at hSW); go_simp; try with_reducible rfl)
                    (try simp only [Act.put, List.setIfInBounds_toArray, List.set_cons_zero, List.set_cons_succ])
                    refine wpAnyE_one (i := 16) (by kernel_rfl) rfl (fun K hK => ?_)
                    have HK := Lib.hid hK
                    clear hK
                    go_simp
                    obtain ⟨w29, hw9⟩ : ∃ W, W = w28.alloc (.cells #[.int .i64 r6, .int .i64 r11, .int .i64 r14] 54) := ⟨_, rfl⟩
                    rw [← hw9]
                    obtain ⟨q9, hp9⟩ : ∃ p, p = w28.heap.size := ⟨_, rfl⟩
                    rw [← hp9]
                    have hx9 : Ext w28 w29 := by rw [hw9]; exact Ext.alloc _ _
                    have HC9 : Hid (∀ j u, ([.int .i64 r6, .int .i64 r11, .int .i64 r14] : List Value)[j]? = some u → w29.cell? ((⟨q9, 0, none⟩ : Addr).add j) = some u) := by unfold Hid; rw [hw9, hp9]; exact new_cells3n _ _ _ _ _
                    have HS29 := Lib.hid (HS28.out.ext hx9)
                    clear hw9 hp9 hx9 hSS HS28
                    have hSS : (fun W : World => W.cell? ⟨bo, 0, none⟩ = some (.slice ta T.length tc)) w29 := blk_cell HS29.out.box (j := 0) (v := .slice ta T.length tc) rfl
                    refine HK.out _ _ (fun _ => hSS) ?_
                    clear HK
                    refine wpAnyE_one (i := 17) (by kernel_rfl) rfl (fun K hK => ?_)
                    have HK := Lib.hid hK
                    clear hK
                    refine step_append_own rfl (.tmp 20) (.tmp 35) 24 rfl (w.heap.size + 1) 54 t0 (.agg #[.int .i64 0, .int .i64 0, .int .i64 0]) 3 24 Tryz.underlying24 ht0 htz0 htz1 htz2 rfl (by decide) (.slice ta T.length tc) T.length (T.flatMap encTower) (by simp [Act.eval, Act.put]) HS29.out.ownT ⟨q9, 0, none⟩ 1 1 [.int .i64 r6, .int .i64 r11, .int .i64 r14] (by simp [Act.eval, Act.put]) rfl HC9.out (by intro u hu; simp at hu; rcases hu with rfl | rfl | rfl <;> rfl) (by unfold maxLen; omega) (by omega) HS29.out.lbw ?_
                    intro v6 w6 hown6 hgr6
                    obtain ⟨a8, c8, rfl, _, _, _⟩ := own_form hown6
                    have hb6 := grown_blk hgr6 HS29.out.box (own_nbox HS29.out.ownT HS29.out.box (by decide))
                    have hl9 : (T ++ [((r6, r11, r14) : TowerT)]).length = T.length + 1 := by simp
                    have hp9 := HS29.out.pushT (T' := T ++ [(r6, r11, r14)]) (ta' := a8) (tc' := c8) (by rw [hl9, flat_snocT]; exact hown6) hgr6
                    rw [hl9] at hp9
                    have HS90 := Lib.hid hp9
                    clear hSS
                    have hSS : (fun W : World => W.cell? ⟨bo, 0, none⟩ = some (.slice ta T.length tc)) w6 := blk_cell hb6 (j := 0) (v := .slice ta T.length tc) rfl
                    clear hown6 hgr6 hp9 hl9 HC9
                    refine HK.out _ _ (fun _ => hSS) ?_
                    clear HK
                    refine wpAnyE_take (i := 18) (v := ?_) rfl (by kernel_rfl) (by kernel_rfl) (by kernel_rfl) (fun _ _ _ h => h) (Or.inl ⟨by rfl, ?_⟩) (by assumption) ?_
                    rotate_left 1
                    focus (intro W hSW; (try dsimp only at hSW); go_simp; try with_reducible rfl)
                    (try simp only [Act.put, List.setIfInBounds_toArray, List.set_cons_zero, List.set_cons_succ])
                    have e61 := blk_cell hb6 (j := 0) (v := .slice ta T.length tc) rfl
                    have f61 := blk_free hb6 0
                    clear hSS hb6
                    refine wpAnyE_one (i := 19) (by kernel_rfl) rfl (fun K hK => ?_)
                    have HK := Lib.hid hK
                    clear hK
                    go_simp
                    refine HK.out _ _ (fun hn => absurd ?_ hn) (wpAnyE_done (by kernel_rfl) ?_ _)
                    · intro oj hoj q hq hne
                      cases hoj
                      revert hne
                      revert q
                      decide
                    clear e61 f61 HK
                    go_wp2
                    go_roundg (n - (T.length + 1)).toNat
                    case measure => omega
                    case rel => exact ⟨a8, c8, T ++ [(r6, r11, r14)], by simp; omega, by simp; omega, HS90.out.mono (by simp; omega), HST.out.snoc (by omega) (by omega) (by omega)⟩
                ·
                  have HK := Lib.hid hK
                  clear hK
                  go_simp
                  obtain ⟨w25, hw9⟩ : ∃ W, W = w24.alloc (.cells #[.int .i64 0, .int .i64 20, .int .i64 120, .int .i64 500] 3) := ⟨_, rfl⟩
                  rw [← hw9]
                  obtain ⟨q3, hp9⟩ : ∃ p, p = w24.heap.size := ⟨_, rfl⟩
                  rw [← hp9]
                  have hx9 : Ext w24 w25 := by rw [hw9]; exact Ext.alloc _ _
                  have HL3 : Hid (LitI w25 b q3 [0, 20, 120, 500]) := by unfold Hid; rw [hw9, hp9]; exact LitI.new w24 b [0, 20, 120, 500] HS24.out.blt (by simp)
                  have HS25 := Lib.hid (HS24.out.ext hx9)
                  clear hw9 hp9 hx9 hSS HS24
                  have hSS : (fun W : World => W.cell? ⟨bo, 0, none⟩ = some (.slice ta T.length tc)) w25 := blk_cell HS25.out.box (j := 0) (v := .slice ta T.length tc) rfl
                  refine HK.out _ _ (fun _ => hSS) ?_
                  clear HK
                  refine wpAnyE_one (i := 10) (by kernel_rfl) rfl (fun K hK => ?_)
                  have HK := Lib.hid hK
                  clear hK
                  go_simp
                  obtain ⟨w26, hw9⟩ : ∃ W, W = w25.alloc (.cells #[.int .i64 0, .int .i64 40, .int .i64 999, .int .i64 r9] 3) := ⟨_, rfl⟩
                  rw [← hw9]
                  obtain ⟨q2, hp9⟩ : ∃ p, p = w25.heap.size := ⟨_, rfl⟩
                  rw [← hp9]
                  have hx9 : Ext w25 w26 := by rw [hw9]; exact Ext.alloc _ _
                  have HL2 : Hid (LitI w26 b q2 [0, 40, 999, r9]) := by unfold Hid; rw [hw9, hp9]; exact LitI.new w25 b [0, 40, 999, r9] HS25.out.blt (by simp)
                  have HS26 := Lib.hid (HS25.out.ext hx9)
                  have g8 := Lib.hid (HL3.out.ext hx9)
                  clear HL3
                  have HL3 := g8
                  clear g8
                  clear hw9 hp9 hx9 hSS HS25
                  have hSS : (fun W : World => W.cell? ⟨bo, 0, none⟩ = some (.slice ta T.length tc)) w26 := blk_cell HS26.out.box (j := 0) (v := .slice ta T.length tc) rfl
                  refine HK.out _ _ (fun _ => hSS) ?_
                  clear HK
                  refine wpAnyE_one (i := 11) (by kernel_rfl) rfl (fun K hK => ?_)
                  have HK := Lib.hid hK
                  clear hK
                  go_simp
                  refine (c_amongP b _ q2 [0, 40, 999, r9] (0) 999 w26 HS26.out.cur (by omega) HL2.out (by simp) (by simp) (by intro x hx; simp at hx; omega)).mono ?_
                  rintro e w27 ⟨r11, rfl, p0r11, p1r11, hc, hk1⟩
                  have HS27 := Lib.hid (HS26.out.draw hc hk1)
                  clear HL2
                  have g8 := Lib.hid (HL3.out.draw hk1)
                  clear HL3
                  have HL3 := g8
                  clear g8
                  clear hc hk1 hSS HS26
                  have hSS : (fun W : World => W.cell? ⟨bo, 0, none⟩ = some (.slice ta T.length tc)) w27 := blk_cell HS27.out.box (j := 0) (v := .slice ta T.length tc) rfl
                  refine HK.out _ _ (fun _ => hSS) ?_
                  clear HK
                  refine wpAnyE_one (i := 14) (by kernel_rfl) rfl (fun K hK => ?_)
                  have HK := Lib.hid hK
                  clear hK
                  go_simp
                  refine (c_amongP b _ q3 [0, 20, 120, 500] (0) 500 w27 HS27.out.cur (by omega) HL3.out (by simp) (by simp) (by intro x hx; simp at hx; omega)).mono ?_
                  rintro e w28 ⟨r14, rfl, p0r14, p1r14, hc, hk1⟩
                  have HS28 := Lib.hid (HS27.out.draw hc hk1)
                  clear HL3
                  clear hc hk1 hSS HS27
                  have hSS : (fun W : World => W.cell? ⟨bo, 0, none⟩ = some (.slice ta T.length tc)) w28 := blk_cell HS28.out.box (j := 0) (v := .slice ta T.length tc) rfl
                  refine HK.out _ _ (fun _ => hSS) ?_
                  clear HK
                  refine wpAnyE_take (i := 15) (v := ?_) rfl (by kernel_rfl) (by kernel_rfl) (by kernel_rfl) (fun _ _ _ h => h) (Or.inl ⟨by rfl, ?_⟩) (by assumption) ?_
                  rotate_left 1
                  focus (intro W hSW; (try dsimp only at hSW); go_simp; try with_reducible rfl)
                  (try simp only [Act.put, List.setIfInBounds_toArray, List.set_cons_zero, List.set_cons_succ])
                  refine wpAnyE_one (i := 16) (by kernel_rfl) rfl (fun K hK => ?_)
                  have HK := Lib.hid hK
                  clear hK
                  go_simp
                  obtain ⟨w29, hw9⟩ : ∃ W, W = w28.alloc (.cells #[.int .i64 r6, .int .i64 r11, .int .i64 r14] 54) := ⟨_, rfl⟩
                  rw [← hw9]
                  obtain ⟨q9, hp9⟩ : ∃ p, p = w28.heap.size := ⟨_, rfl⟩
                  rw [← hp9]
                  have hx9 : Ext w28 w29 := by rw [hw9]; exact Ext.alloc _ _
                  have HC9 : Hid (∀ j u, ([.int .i64 r6, .int .i64 r11, .int .i64 r14] : List Value)[j]? = some u → w29.cell? ((⟨q9, 0, none⟩ : Addr).add j) = some u) := by unfold Hid; rw [hw9, hp9]; exact new_cells3n _ _ _ _ _
                  have HS29 := Lib.hid (HS28.out.ext hx9)
                  clear hw9 hp9 hx9 hSS HS28
                  have hSS : (fun W : World => W.cell? ⟨bo, 0, none⟩ = some (.slice ta T.length tc)) w29 := blk_cell HS29.out.box (j := 0) (v := .slice ta T.length tc) rfl
                  refine HK.out _ _ (fun _ => hSS) ?_
                  clear HK
                  refine wpAnyE_one (i := 17) (by kernel_rfl) rfl (fun K hK => ?_)
                  have HK := Lib.hid hK
                  clear hK
                  refine step_append_own rfl (.tmp 20) (.tmp 35) 24 rfl (w.heap.size + 1) 54 t0 (.agg #[.int .i64 0, .int .i64 0, .int .i64 0]) 3 24 Tryz.underlying24 ht0 htz0 htz1 htz2 rfl (by decide) (.slice ta T.length tc) T.length (T.flatMap encTower) (by simp [Act.eval, Act.put]) HS29.out.ownT ⟨q9, 0, none⟩ 1 1 [.int .i64 r6, .int .i64 r11, .int .i64 r14] (by simp [Act.eval, Act.put]) rfl HC9.out (by intro u hu; simp at hu; rcases hu with rfl | rfl | rfl <;> rfl) (by unfold maxLen; omega) (by omega) HS29.out.lbw ?_
                  intro v6 w6 hown6 hgr6
                  obtain ⟨a8, c8, rfl, _, _, _⟩ := own_form hown6
                  have hb6 := grown_blk hgr6 HS29.out.box (own_nbox HS29.out.ownT HS29.out.box (by decide))
                  have hl9 : (T ++ [((r6, r11, r14) : TowerT)]).length = T.length + 1 := by simp
                  have hp9 := HS29.out.pushT (T' := T ++ [(r6, r11, r14)]) (ta' := a8) (tc' := c8) (by rw [hl9, flat_snocT]; exact hown6) hgr6
                  rw [hl9] at hp9
                  have HS90 := Lib.hid hp9
                  clear hSS
                  have hSS : (fun W : World => W.cell? ⟨bo, 0, none⟩ = some (.slice ta T.length tc)) w6 := blk_cell hb6 (j := 0) (v := .slice ta T.length tc) rfl
                  clear hown6 hgr6 hp9 hl9 HC9
                  refine HK.out _ _ (fun _ => hSS) ?_
                  clear HK
                  refine wpAnyE_take (i := 18) (v := ?_) rfl (by kernel_rfl) (by kernel_rfl) (by kernel_rfl) (fun _ _ _ h => h) (Or.inl ⟨by rfl, ?_⟩) (by assumption) ?_
                  rotate_left 1
                  focus (intro W hSW; (try dsimp only at hSW); go_simp; try with_reducible rfl)
                  (try simp only [Act.put, List.setIfInBounds_toArray, List.set_cons_zero, List.set_cons_succ])
                  have e61 := blk_cell hb6 (j := 0) (v := .slice ta T.length tc) rfl
                  have f61 := blk_free hb6 0
                  clear hSS hb6
                  refine wpAnyE_one (i := 19) (by kernel_rfl) rfl (fun K hK => ?_)
                  have HK := Lib.hid hK
                  clear hK
                  go_simp
                  refine HK.out _ _ (fun hn => absurd ?_ hn) (wpAnyE_done (by kernel_rfl) ?_ _)
                  · intro oj hoj q hq hne
                    cases hoj
                    revert hne
                    revert q
                    decide
                  clear e61 f61 HK
                  go_wp2
                  go_roundg (n - (T.length + 1)).toNat
                  case measure => omega
                  case rel => exact ⟨a8, c8, T ++ [(r6, r11, r14)], by simp; omega, by simp; omega, HS90.out.mono (by simp; omega), HST.out.snoc (by omega) (by omega) (by omega)⟩
              ·
                have HK := Lib.hid hK
                clear hK
                go_simp
                obtain ⟨w24, hw9⟩ : ∃ W, W = w23.alloc (.cells #[.int .i64 0, .int .i64 20, .int .i64 120, .int .i64 500] 3) := ⟨_, rfl⟩
                rw [← hw9]
                obtain ⟨q3, hp9⟩ : ∃ p, p = w23.heap.size := ⟨_, rfl⟩
                rw [← hp9]
                have hx9 : Ext w23 w24 := by rw [hw9]; exact Ext.alloc _ _
                have HL3 : Hid (LitI w24 b q3 [0, 20, 120, 500]) := by unfold Hid; rw [hw9, hp9]; exact LitI.new w23 b [0, 20, 120, 500] HS23.out.blt (by simp)
                have HS24 := Lib.hid (HS23.out.ext hx9)
                clear hw9 hp9 hx9 hSS HS23
                have hSS : (fun W : World => W.cell? ⟨bo, 0, none⟩ = some (.slice ta T.length tc)) w24 := blk_cell HS24.out.box (j := 0) (v := .slice ta T.length tc) rfl
                refine HK.out _ _ (fun _ => hSS) ?_
                clear HK
                refine wpAnyE_one (i := 9) (by kernel_rfl) rfl (fun K hK => ?_)
                have HK := Lib.hid hK
                clear hK
                go_simp
                refine (c_pick b _ 400 w24 HS24.out.cur (by omega) (by omega)).mono ?_
                rintro e w25 ⟨r9, rfl, p0r9, p1r9, hc, hk1⟩
                have HS25 := Lib.hid (HS24.out.draw hc hk1)
                have g8 := Lib.hid (HL3.out.draw hk1)
                clear HL3
                have HL3 := g8
                clear g8
                clear hc hk1 hSS HS24
                have hSS : (fun W : World => W.cell? ⟨bo, 0, none⟩ = some (.slice ta T.length tc)) w25 := blk_cell HS25.out.box (j := 0) (v := .slice ta T.length tc) rfl
                refine HK.out _ _ (fun _ => hSS) ?_
                clear HK
                refine wpAnyE_one (i := 10) (by kernel_rfl) rfl (fun K hK => ?_)
                have HK := Lib.hid hK
                clear hK
                go_simp
                obtain ⟨w26, hw9⟩ : ∃ W, W = w25.alloc (.cells #[.int .i64 0, .int .i64 40, .int .i64 999, .int .i64 r9] 3) := ⟨_, rfl⟩
                rw [← hw9]
                obtain ⟨q2, hp9⟩ : ∃ p, p = w25.heap.size := ⟨_, rfl⟩
                rw [← hp9]
                have hx9 : Ext w25 w26 := by rw [hw9]; exact Ext.alloc _ _
                have HL2 : Hid (LitI w26 b q2 [0, 40, 999, r9]) := by unfold Hid; rw [hw9, hp9]; exact LitI.new w25 b [0, 40, 999, r9] HS25.out.blt (by simp)
                have HS26 := Lib.hid (HS25.out.ext hx9)
                have g8 := Lib.hid (HL3.out.ext hx9)
                clear HL3
                have HL3 := g8
                clear g8
                clear hw9 hp9 hx9 hSS HS25
                have hSS : (fun W : World => W.cell? ⟨bo, 0, none⟩ = some (.slice ta T.length tc)) w26 := blk_cell HS26.out.box (j := 0) (v := .slice ta T.length tc) rfl
                refine HK.out _ _ (fun _ => hSS) ?_
                clear HK
                refine wpAnyE_one (i := 11) (by kernel_rfl) rfl (fun K hK => ?_)
                have HK := Lib.hid hK
                clear hK
                go_simp
                refine (c_amongP b _ q2 [0, 40, 999, r9] (0) 999 w26 HS26.out.cur (by omega) HL2.out (by simp) (by simp) (by intro x hx; simp at hx; omega)).mono ?_
                rintro e w27 ⟨r11, rfl, p0r11, p1r11, hc, hk1⟩
                have HS27 := Lib.hid (HS26.out.draw hc hk1)
                clear HL2
                have g8 := Lib.hid (HL3.out.draw hk1)
                clear HL3
                have HL3 := g8
                clear g8
                clear hc hk1 hSS HS26
                have hSS : (fun W : World => W.cell? ⟨bo, 0, none⟩ = some (.slice ta T.length tc)) w27 := blk_cell HS27.out.box (j := 0) (v := .slice ta T.length tc) rfl
                refine HK.out _ _ (fun _ => hSS) ?_
                clear HK
                refine wpAnyE_one (i := 14) (by kernel_rfl) rfl (fun K hK => ?_)
                have HK := Lib.hid hK
                clear hK
                go_simp
                refine (c_amongP b _ q3 [0, 20, 120, 500] (0) 500 w27 HS27.out.cur (by omega) HL3.out (by simp) (by simp) (by intro x hx; simp at hx; omega)).mono ?_
                rintro e w28 ⟨r14, rfl, p0r14, p1r14, hc, hk1⟩
                have HS28 := Lib.hid (HS27.out.draw hc hk1)
                clear HL3
                clear hc hk1 hSS HS27
                have hSS : (fun W : World => W.cell? ⟨bo, 0, none⟩ = some (.slice ta T.length tc)) w28 := blk_cell HS28.out.box (j := 0) (v := .slice ta T.length tc) rfl
                refine HK.out _ _ (fun _ => hSS) ?_
                clear HK
                refine wpAnyE_take (i := 15) (v := ?_) rfl (by kernel_rfl) (by kernel_rfl) (by kernel_rfl) (fun _ _ _ h => h) (Or.inl ⟨by rfl, ?_⟩) (by assumption) ?_
                rotate_left 1
                focus (intro W hSW; (try dsimp only at hSW); go_simp; try with_reducible rfl)
                (try simp only [Act.put, List.setIfInBounds_toArray, List.set_cons_zero, List.set_cons_succ])
                refine wpAnyE_one (i := 16) (by kernel_rfl) rfl (fun K hK => ?_)
                have HK := Lib.hid hK
                clear hK
                go_simp
                obtain ⟨w29, hw9⟩ : ∃ W, W = w28.alloc (.cells #[.int .i64 r6, .int .i64 r11, .int .i64 r14] 54) := ⟨_, rfl⟩
                rw [← hw9]
                obtain ⟨q9, hp9⟩ : ∃ p, p = w28.heap.size := ⟨_, rfl⟩
                rw [← hp9]
                have hx9 : Ext w28 w29 := by rw [hw9]; exact Ext.alloc _ _
                have HC9 : Hid (∀ j u, ([.int .i64 r6, .int .i64 r11, .int .i64 r14] : List Value)[j]? = some u → w29.cell? ((⟨q9, 0, none⟩ : Addr).add j) = some u) := by unfold Hid; rw [hw9, hp9]; exact new_cells3n _ _ _ _ _
                have HS29 := Lib.hid (HS28.out.ext hx9)
                clear hw9 hp9 hx9 hSS HS28
                have hSS : (fun W : World => W.cell? ⟨bo, 0, none⟩ = some (.slice ta T.length tc)) w29 := blk_cell HS29.out.box (j := 0) (v := .slice ta T.length tc) rfl
                refine HK.out _ _ (fun _ => hSS) ?_
                clear HK
                refine wpAnyE_one (i := 17) (by kernel_rfl) rfl (fun K hK => ?_)
                have HK := Lib.hid hK
                clear hK
                refine step_append_own rfl (.tmp 20) (.tmp 35) 24 rfl (w.heap.size + 1) 54 t0 (.agg #[.int .i64 0, .int .i64 0, .int .i64 0]) 3 24 Tryz.underlying24 ht0 htz0 htz1 htz2 rfl (by decide) (.slice ta T.length tc) T.length (T.flatMap encTower) (by simp [Act.eval, Act.put]) HS29.out.ownT ⟨q9, 0, none⟩ 1 1 [.int .i64 r6, .int .i64 r11, .int .i64 r14] (by simp [Act.eval, Act.put]) rfl HC9.out (by intro u hu; simp at hu; rcases hu with rfl | rfl | rfl <;> rfl) (by unfold maxLen; omega) (by omega) HS29.out.lbw ?_
                intro v6 w6 hown6 hgr6
                obtain ⟨a8, c8, rfl, _, _, _⟩ := own_form hown6
                have hb6 := grown_blk hgr6 HS29.out.box (own_nbox HS29.out.ownT HS29.out.box (by decide))
                have hl9 : (T ++ [((r6, r11, r14) : TowerT)]).length = T.length + 1 := by simp
                have hp9 := HS29.out.pushT (T' := T ++ [(r6, r11, r14)]) (ta' := a8) (tc' := c8) (by rw [hl9, flat_snocT]; exact hown6) hgr6
                rw [hl9] at hp9
                have HS90 := Lib.hid hp9
                clear hSS
                have hSS : (fun W : World => W.cell? ⟨bo, 0, none⟩ = some (.slice ta T.length tc)) w6 := blk_cell hb6 (j := 0) (v := .slice ta T.length tc) rfl
                clear hown6 hgr6 hp9 hl9 HC9
                refine HK.out _ _ (fun _ => hSS) ?_
                clear HK
                refine wpAnyE_take (i := 18) (v := ?_) rfl (by kernel_rfl) (by kernel_rfl) (by kernel_rfl) (fun _ _ _ h => h) (Or.inl ⟨by rfl, ?_⟩) (by assumption) ?_
                rotate_left 1
                focus (intro W hSW; (try dsimp only at hSW); go_simp; try with_reducible rfl)
                (try simp only [Act.put, List.setIfInBounds_toArray, List.set_cons_zero, List.set_cons_succ])
                have e61 := blk_cell hb6 (j := 0) (v := .slice ta T.length tc) rfl
                have f61 := blk_free hb6 0
                clear hSS hb6
                refine wpAnyE_one (i := 19) (by kernel_rfl) rfl (fun K hK => ?_)
                have HK := Lib.hid hK
                clear hK
                go_simp
                refine HK.out _ _ (fun hn => absurd ?_ hn) (wpAnyE_done (by kernel_rfl) ?_ _)
                · intro oj hoj q hq hne
                  cases hoj
                  revert hne
                  revert q
                  decide
                clear e61 f61 HK
                go_wp2
                go_roundg (n - (T.length + 1)).toNat
                case measure => omega
                case rel => exact ⟨a8, c8, T ++ [(r6, r11, r14)], by simp; omega, by simp; omega, HS90.out.mono (by simp; omega), HST.out.snoc (by omega) (by omega) (by omega)⟩
            ·
              have HK := Lib.hid hK
              clear hK
              go_simp
              obtain ⟨w23, hw9⟩ : ∃ W, W = w22.alloc (.cells #[.int .i64 0, .int .i64 20, .int .i64 120, .int .i64 500] 3) := ⟨_, rfl⟩
              rw [← hw9]
              obtain ⟨q3, hp9⟩ : ∃ p, p = w22.heap.size := ⟨_, rfl⟩
              rw [← hp9]
              have hx9 : Ext w22 w23 := by rw [hw9]; exact Ext.alloc _ _
              have HL3 : Hid (LitI w23 b q3 [0, 20, 120, 500]) := by unfold Hid; rw [hw9, hp9]; exact LitI.new w22 b [0, 20, 120, 500] HS22.out.blt (by simp)
              have HS23 := Lib.hid (HS22.out.ext hx9)
              have g8 := Lib.hid (HL1.out.ext hx9)
              clear HL1
              have HL1 := g8
              clear g8
              clear hw9 hp9 hx9 hSS HS22
              have hSS : (fun W : World => W.cell? ⟨bo, 0, none⟩ = some (.slice ta T.length tc)) w23 := blk_cell HS23.out.box (j := 0) (v := .slice ta T.length tc) rfl
              refine HK.out _ _ (fun _ => hSS) ?_
              clear HK
              refine wpAnyE_one (i := 6) (by kernel_rfl) rfl (fun K hK => ?_)
              have HK := Lib.hid hK
              clear hK
              go_simp
              refine (c_amongP b _ q1 [0, 30, 100, 999, r4] (0) 999 w23 HS23.out.cur (by omega) HL1.out (by simp) (by simp) (by intro x hx; simp at hx; omega)).mono ?_
              rintro e w24 ⟨r6, rfl, p0r6, p1r6, hc, hk1⟩
              have HS24 := Lib.hid (HS23.out.draw hc hk1)
              clear HL1
              have g8 := Lib.hid (HL3.out.draw hk1)
              clear HL3
              have HL3 := g8
              clear g8
              clear hc hk1 hSS HS23
              have hSS : (fun W : World => W.cell? ⟨bo, 0, none⟩ = some (.slice ta T.length tc)) w24 := blk_cell HS24.out.box (j := 0) (v := .slice ta T.length tc) rfl
              refine HK.out _ _ (fun _ => hSS) ?_
              clear HK
              refine wpAnyE_one (i := 9) (by kernel_rfl) rfl (fun K hK => ?_)
              have HK := Lib.hid hK
              clear hK
              go_simp
              refine (c_pick b _ 400 w24 HS24.out.cur (by omega) (by omega)).mono ?_
              rintro e w25 ⟨r9, rfl, p0r9, p1r9, hc, hk1⟩
              have HS25 := Lib.hid (HS24.out.draw hc hk1)
              have g8 := Lib.hid (HL3.out.draw hk1)
              clear HL3
              have HL3 := g8
              clear g8
              clear hc hk1 hSS HS24
              have hSS : (fun W : World => W.cell? ⟨bo, 0, none⟩ = some (.slice ta T.length tc)) w25 := blk_cell HS25.out.box (j := 0) (v := .slice ta T.length tc) rfl
              refine HK.out _ _ (fun _ => hSS) ?_
              clear HK
              refine wpAnyE_one (i := 10) (by kernel_rfl) rfl (fun K hK => ?_)
              have HK := Lib.hid hK
              clear hK
              go_simp
              obtain ⟨w26, hw9⟩ : ∃ W, W = w25.alloc (.cells #[.int .i64 0, .int .i64 40, .int .i64 999, .int .i64 r9] 3) := ⟨_, rfl⟩
              rw [← hw9]
              obtain ⟨q2, hp9⟩ : ∃ p, p = w25.heap.size := ⟨_, rfl⟩
              rw [← hp9]
              have hx9 : Ext w25 w26 := by rw [hw9]; exact Ext.alloc _ _
              have HL2 : Hid (LitI w26 b q2 [0, 40, 999, r9]) := by unfold Hid; rw [hw9, hp9]; exact LitI.new w25 b [0, 40, 999, r9] HS25.out.blt (by simp)
              have HS26 := Lib.hid (HS25.out.ext hx9)
              have g8 := Lib.hid (HL3.out.ext hx9)
              clear HL3
              have HL3 := g8
              clear g8
              clear hw9 hp9 hx9 hSS HS25
              have hSS : (fun W : World => W.cell? ⟨bo, 0, none⟩ = some (.slice ta T.length tc)) w26 := blk_cell HS26.out.box (j := 0) (v := .slice ta T.length tc) rfl
              refine HK.out _ _ (fun _ => hSS) ?_
              clear HK
              refine wpAnyE_one (i := 11) (by kernel_rfl) rfl (fun K hK => ?_)
              have HK := Lib.hid hK
              clear hK
              go_simp
              refine (c_amongP b _ q2 [0, 40, 999, r9] (0) 999 w26 HS26.out.cur (by omega) HL2.out (by simp) (by simp) (by intro x hx; simp at hx; omega)).mono ?_
              rintro e w27 ⟨r11, rfl, p0r11, p1r11, hc, hk1⟩
              have HS27 := Lib.hid (HS26.out.draw hc hk1)
              clear HL2
              have g8 := Lib.hid (HL3.out.draw hk1)
              clear HL3
              have HL3 := g8
              clear g8
              clear hc hk1 hSS HS26
              have hSS : (fun W : World => W.cell? ⟨bo, 0, none⟩ = some (.slice ta T.length tc)) w27 := blk_cell HS27.out.box (j := 0) (v := .slice ta T.length tc) rfl
              refine HK.out _ _ (fun _ => hSS) ?_
              clear HK
              refine wpAnyE_one (i := 14) (by kernel_rfl) rfl (fun K hK => ?_)
              have HK := Lib.hid hK
              clear hK
              go_simp
              refine (c_amongP b _ q3 [0, 20, 120, 500] (0) 500 w27 HS27.out.cur (by omega) HL3.out (by simp) (by simp) (by intro x hx; simp at hx; omega)).mono ?_
              rintro e w28 ⟨r14, rfl, p0r14, p1r14, hc, hk1⟩
              have HS28 := Lib.hid (HS27.out.draw hc hk1)
              clear HL3
              clear hc hk1 hSS HS27
              have hSS : (fun W : World => W.cell? ⟨bo, 0, none⟩ = some (.slice ta T.length tc)) w28 := blk_cell HS28.out.box (j := 0) (v := .slice ta T.length tc) rfl
              refine HK.out _ _ (fun _ => hSS) ?_
              clear HK
              refine wpAnyE_take (i := 15) (v := ?_) rfl (by kernel_rfl) (by kernel_rfl) (by kernel_rfl) (fun _ _ _ h => h) (Or.inl ⟨by rfl, ?_⟩) (by assumption) ?_
              rotate_left 1
              focus (intro W hSW; (try dsimp only at hSW); go_simp; try with_reducible rfl)
              (try simp only [Act.put, List.setIfInBounds_toArray, List.set_cons_zero, List.set_cons_succ])
              refine wpAnyE_one (i := 16) (by kernel_rfl) rfl (fun K hK => ?_)
              have HK := Lib.hid hK
              clear hK
              go_simp
              obtain ⟨w29, hw9⟩ : ∃ W, W = w28.alloc (.cells #[.int .i64 r6, .int .i64 r11, .int .i64 r14] 54) := ⟨_, rfl⟩
              rw [← hw9]
              obtain ⟨q9, hp9⟩ : ∃ p, p = w28.heap.size := ⟨_, rfl⟩
              rw [← hp9]
              have hx9 : Ext w28 w29 := by rw [hw9]; exact Ext.alloc _ _
              have HC9 : Hid (∀ j u, ([.int .i64 r6, .int .i64 r11, .int .i64 r14] : List Value)[j]? = some u → w29.cell? ((⟨q9, 0, none⟩ : Addr).add j) = some u) := by unfold Hid; rw [hw9, hp9]; exact new_cells3n _ _ _ _ _
              have HS29 := Lib.hid (HS28.out.ext hx9)
              clear hw9 hp9 hx9 hSS HS28
              have hSS : (fun W : World => W.cell? ⟨bo, 0, none⟩ = some (.slice ta T.length tc)) w29 := blk_cell HS29.out.box (j := 0) (v := .slice ta T.length tc) rfl
              refine HK.out _ _ (fun _ => hSS) ?_
              clear HK
              refine wpAnyE_one (i := 17) (by kernel_rfl) rfl (fun K hK => ?_)
              have HK := Lib.hid hK
              clear hK
              refine step_append_own rfl (.tmp 20) (.tmp 35) 24 rfl (w.heap.size + 1) 54 t0 (.agg #[.int .i64 0, .int .i64 0, .int .i64 0]) 3 24 Tryz.underlying24 ht0 htz0 htz1 htz2 rfl (by decide) (.slice ta T.length tc) T.length (T.flatMap encTower) (by simp [Act.eval, Act.put]) HS29.out.ownT ⟨q9, 0, none⟩ 1 1 [.int .i64 r6, .int .i64 r11, .int .i64 r14] (by simp [Act.eval, Act.put]) rfl HC9.out (by intro u hu; simp at hu; rcases hu with rfl | rfl | rfl <;> rfl) (by unfold maxLen; omega) (by omega) HS29.out.lbw ?_
              intro v6 w6 hown6 hgr6
              obtain ⟨a8, c8, rfl, _, _, _⟩ := own_form hown6
              have hb6 := grown_blk hgr6 HS29.out.box (own_nbox HS29.out.ownT HS29.out.box (by decide))
              have hl9 : (T ++ [((r6, r11, r14) : TowerT)]).length = T.length + 1 := by simp
              have hp9 := HS29.out.pushT (T' := T ++ [(r6, r11, r14)]) (ta' := a8) (tc' := c8) (by rw [hl9, flat_snocT]; exact hown6) hgr6
              rw [hl9] at hp9
              have HS90 := Lib.hid hp9
              clear hSS
              have hSS : (fun W : World => W.cell? ⟨bo, 0, none⟩ = some (.slice ta T.length tc)) w6 := blk_cell hb6 (j := 0) (v := .slice ta T.length tc) rfl
              clear hown6 hgr6 hp9 hl9 HC9
              refine HK.out _ _ (fun _ => hSS) ?_
              clear HK
              refine wpAnyE_take (i := 18) (v := ?_) rfl (by kernel_rfl) (by kernel_rfl) (by kernel_rfl) (fun _ _ _ h => h) (Or.inl ⟨by rfl, ?_⟩) (by assumption) ?_
              rotate_left 1
              focus (intro W hSW; (try dsimp only at hSW); go_simp; try with_reducible rfl)
              (try simp only [Act.put, List.setIfInBounds_toArray, List.set_cons_zero, List.set_cons_succ])
              have e61 := blk_cell hb6 (j := 0) (v := .slice ta T.length tc) rfl
              have f61 := blk_free hb6 0
              clear hSS hb6
              refine wpAnyE_one (i := 19) (by kernel_rfl) rfl (fun K hK => ?_)
              have HK := Lib.hid hK
              clear hK
              go_simp
              refine HK.out _ _ (fun hn => absurd ?_ hn) (wpAnyE_done (by kernel_rfl) ?_ _)
              · intro oj hoj q hq hne
                cases hoj
                revert hne
                revert q
                decide
              clear e61 f61 HK
              go_wp2
              go_roundg (n - (T.length + 1)).toNat
              case measure => omega
              case rel => exact ⟨a8, c8, T ++ [(r6, r11, r14)], by simp; omega, by simp; omega, HS90.out.mono (by simp; omega), HST.out.snoc (by omega) (by omega) (by omega)⟩
          ·
            have HK := Lib.hid hK
            clear hK
            go_simp
            obtain ⟨w22, hw9⟩ : ∃ W, W = w21.alloc (.cells #[.int .i64 0, .int .i64 20, .int .i64 120, .int .i64 500] 3) := ⟨_, rfl⟩
            rw [← hw9]
            obtain ⟨q3, hp9⟩ : ∃ p, p = w21.heap.size := ⟨_, rfl⟩
            rw [← hp9]
            have hx9 : Ext w21 w22 := by rw [hw9]; exact Ext.alloc _ _
            have HL3 : Hid (LitI w22 b q3 [0, 20, 120, 500]) := by unfold Hid; rw [hw9, hp9]; exact LitI.new w21 b [0, 20, 120, 500] HS21.out.blt (by simp)
            have HS22 := Lib.hid (HS21.out.ext hx9)
            clear hw9 hp9 hx9 hSS HS21
            have hSS : (fun W : World => W.cell? ⟨bo, 0, none⟩ = some (.slice ta T.length tc)) w22 := blk_cell HS22.out.box (j := 0) (v := .slice ta T.length tc) rfl
            refine HK.out _ _ (fun _ => hSS) ?_
            clear HK
            refine wpAnyE_one (i := 5) (by kernel_rfl) rfl (fun K hK => ?_)
            have HK := Lib.hid hK
            clear hK
            go_simp
            obtain ⟨w23, hw9⟩ : ∃ W, W = w22.alloc (.cells #[.int .i64 0, .int .i64 30, .int .i64 100, .int .i64 999, .int .i64 r4] 3) := ⟨_, rfl⟩
            rw [← hw9]
            obtain ⟨q1, hp9⟩ : ∃ p, p = w22.heap.size := ⟨_, rfl⟩
            rw [← hp9]
            have hx9 : Ext w22 w23 := by rw [hw9]; exact Ext.alloc _ _
            have HL1 : Hid (LitI w23 b q1 [0, 30, 100, 999, r4]) := by unfold Hid; rw [hw9, hp9]; exact LitI.new w22 b [0, 30, 100, 999, r4] HS22.out.blt (by simp)
            have HS23 := Lib.hid (HS22.out.ext hx9)
            have g8 := Lib.hid (HL3.out.ext hx9)
            clear HL3
            have HL3 := g8
            clear g8
            clear hw9 hp9 hx9 hSS HS22
            have hSS : (fun W : World => W.cell? ⟨bo, 0, none⟩ = some (.slice ta T.length tc)) w23 := blk_cell HS23.out.box (j := 0) (v := .slice ta T.length tc) rfl
            refine HK.out _ _ (fun _ => hSS) ?_
            clear HK
            refine wpAnyE_one (i := 6) (by kernel_rfl) rfl (fun K hK => ?_)
            have HK := Lib.hid hK
            clear hK
            go_simp
            refine (c_amongP b _ q1 [0, 30, 100, 999, r4] (0) 999 w23 HS23.out.cur (by omega) HL1.out (by simp) (by simp) (by intro x hx; simp at hx; omega)).mono ?_
            rintro e w24 ⟨r6, rfl, p0r6, p1r6, hc, hk1⟩
            have HS24 := Lib.hid (HS23.out.draw hc hk1)
            clear HL1
            have g8 := Lib.hid (HL3.out.draw hk1)
            clear HL3
            have HL3 := g8
            clear g8
            clear hc hk1 hSS HS23
            have hSS : (fun W : World => W.cell? ⟨bo, 0, none⟩ = some (.slice ta T.length tc)) w24 := blk_cell HS24.out.box (j := 0) (v := .slice ta T.length tc) rfl
            refine HK.out _ _ (fun _ => hSS) ?_
            clear HK
            refine wpAnyE_one (i := 9) (by kernel_rfl) rfl (fun K hK => ?_)
            have HK := Lib.hid hK
            clear hK
            go_simp
            refine (c_pick b _ 400 w24 HS24.out.cur (by omega) (by omega)).mono ?_
            rintro e w25 ⟨r9, rfl, p0r9, p1r9, hc, hk1⟩
            have HS25 := Lib.hid (HS24.out.draw hc hk1)
            have g8 := Lib.hid (HL3.out.draw hk1)
            clear HL3
            have HL3 := g8
            clear g8
            clear hc hk1 hSS HS24
            have hSS : (fun W : World => W.cell? ⟨bo, 0, none⟩ = some (.slice ta T.length tc)) w25 := blk_cell HS25.out.box (j := 0) (v := .slice ta T.length tc) rfl
            refine HK.out _ _ (fun _ => hSS) ?_
            clear HK
            refine wpAnyE_one (i := 10) (by kernel_rfl) rfl (fun K hK => ?_)
            have HK := Lib.hid hK
            clear hK
            go_simp
            obtain ⟨w26, hw9⟩ : ∃ W, W = w25.alloc (.cells #[.int .i64 0, .int .i64 40, .int .i64 999, .int .i64 r9] 3) := ⟨_, rfl⟩
            rw [← hw9]
            obtain ⟨q2, hp9⟩ : ∃ p, p = w25.heap.size := ⟨_, rfl⟩
            rw [← hp9]
            have hx9 : Ext w25 w26 := by rw [hw9]; exact Ext.alloc _ _
            have HL2 : Hid (LitI w26 b q2 [0, 40, 999, r9]) := by unfold Hid; rw [hw9, hp9]; exact LitI.new w25 b [0, 40, 999, r9] HS25.out.blt (by simp)
            have HS26 := Lib.hid (HS25.out.ext hx9)
            have g8 := Lib.hid (HL3.out.ext hx9)
            clear HL3
            have HL3 := g8
            clear g8
            clear hw9 hp9 hx9 hSS HS25
            have hSS : (fun W : World => W.cell? ⟨bo, 0, none⟩ = some (.slice ta T.length tc)) w26 := blk_cell HS26.out.box (j := 0) (v := .slice ta T.length tc) rfl
            refine HK.out _ _ (fun _ => hSS) ?_
            clear HK
            refine wpAnyE_one (i := 11) (by kernel_rfl) rfl (fun K hK => ?_)
            have HK := Lib.hid hK
            clear hK
            go_simp
            refine (c_amongP b _ q2 [0, 40, 999, r9] (0) 999 w26 HS26.out.cur (by omega) HL2.out (by simp) (by simp) (by intro x hx; simp at hx; omega)).mono ?_
            rintro e w27 ⟨r11, rfl, p0r11, p1r11, hc, hk1⟩
            have HS27 := Lib.hid (HS26.out.draw hc hk1)
            clear HL2
            have g8 := Lib.hid (HL3.out.draw hk1)
            clear HL3
            have HL3 := g8
            clear g8
            clear hc hk1 hSS HS26
            have hSS : (fun W : World => W.cell? ⟨bo, 0, none⟩ = some (.slice ta T.length tc)) w27 := blk_cell HS27.out.box (j := 0) (v := .slice ta T.length tc) rfl
            refine HK.out _ _ (fun _ => hSS) ?_
            clear HK
            refine wpAnyE_one (i := 14) (by kernel_rfl) rfl (fun K hK => ?_)
            have HK := Lib.hid hK
            clear hK
            go_simp
            refine (c_amongP b _ q3 [0, 20, 120, 500] (0) 500 w27 HS27.out.cur (by omega) HL3.out (by simp) (by simp) (by intro x hx; simp at hx; omega)).mono ?_
            rintro e w28 ⟨r14, rfl, p0r14, p1r14, hc, hk1⟩
            have HS28 := Lib.hid (HS27.out.draw hc hk1)
            clear HL3
            clear hc hk1 hSS HS27
            have hSS : (fun W : World => W.cell? ⟨bo, 0, none⟩ = some (.slice ta T.length tc)) w28 := blk_cell HS28.out.box (j := 0) (v := .slice ta T.length tc) rfl
            refine HK.out _ _ (fun _ => hSS) ?_
            clear HK
            refine wpAnyE_take (i := 15) (v := ?_) rfl (by kernel_rfl) (by kernel_rfl) (by kernel_rfl) (fun _ _ _ h => h) (Or.inl ⟨by rfl, ?_⟩) (by assumption) ?_
            rotate_left 1
            focus (intro W hSW; (try dsimp only at hSW); go_simp; try with_reducible rfl)
            (try simp only [Act.put, List.setIfInBounds_toArray, List.set_cons_zero, List.set_cons_succ])
            refine wpAnyE_one (i := 16) (by kernel_rfl) rfl (fun K hK => ?_)
            have HK := Lib.hid hK
            clear hK
            go_simp
            obtain ⟨w29, hw9⟩ : ∃ W, W = w28.alloc (.cells #[.int .i64 r6, .int .i64 r11, .int .i64 r14] 54) := ⟨_, rfl⟩
            rw [← hw9]
            obtain ⟨q9, hp9⟩ : ∃ p, p = w28.heap.size := ⟨_, rfl⟩
            rw [← hp9]
            have hx9 : Ext w28 w29 := by rw [hw9]; exact Ext.alloc _ _
            have HC9 : Hid (∀ j u, ([.int .i64 r6, .int .i64 r11, .int .i64 r14] : List Value)[j]? = some u → w29.cell? ((⟨q9, 0, none⟩ : Addr).add j) = some u) := by unfold Hid; rw [hw9, hp9]; exact new_cells3n _ _ _ _ _
            have HS29 := Lib.hid (HS28.out.ext hx9)
            clear hw9 hp9 hx9 hSS HS28
            have hSS : (fun W : World => W.cell? ⟨bo, 0, none⟩ = some (.slice ta T.length tc)) w29 := blk_cell HS29.out.box (j := 0) (v := .slice ta T.length tc) rfl
            refine HK.out _ _ (fun _ => hSS) ?_
            clear HK
            refine wpAnyE_one (i := 17) (by kernel_rfl) rfl (fun K hK => ?_)
            have HK := Lib.hid hK
            clear hK
            refine step_append_own rfl (.tmp 20) (.tmp 35) 24 rfl (w.heap.size + 1) 54 t0 (.agg #[.int .i64 0, .int .i64 0, .int .i64 0]) 3 24 Tryz.underlying24 ht0 htz0 htz1 htz2 rfl (by decide) (.slice ta T.length tc) T.length (T.flatMap encTower) (by simp [Act.eval, Act.put]) HS29.out.ownT ⟨q9, 0, none⟩ 1 1 [.int .i64 r6, .int .i64 r11, .int .i64 r14] (by simp [Act.eval, Act.put]) rfl HC9.out (by intro u hu; simp at hu; rcases hu with rfl | rfl | rfl <;> rfl) (by unfold maxLen; omega) (by omega) HS29.out.lbw ?_
            intro v6 w6 hown6 hgr6
            obtain ⟨a8, c8, rfl, _, _, _⟩ := own_form hown6
            have hb6 := grown_blk hgr6 HS29.out.box (own_nbox HS29.out.ownT HS29.out.box (by decide))
            have hl9 : (T ++ [((r6, r11, r14) : TowerT)]).length = T.length + 1 := by simp
            have hp9 := HS29.out.pushT (T' := T ++ [(r6, r11, r14)]) (ta' := a8) (tc' := c8) (by rw [hl9, flat_snocT]; exact hown6) hgr6
            rw [hl9] at hp9
            have HS90 := Lib.hid hp9
            clear hSS
            have hSS : (fun W : World => W.cell? ⟨bo, 0, none⟩ = some (.slice ta T.length tc)) w6 := blk_cell hb6 (j := 0) (v := .slice ta T.length tc) rfl
            clear hown6 hgr6 hp9 hl9 HC9
            refine HK.out _ _ (fun _ => hSS) ?_
            clear HK
            refine wpAnyE_take (i := 18) (v := ?_) rfl (by kernel_rfl) (by kernel_rfl) (by kernel_rfl) (fun _ _ _ h => h) (Or.inl ⟨by rfl, ?_⟩) (by assumption) ?_
            rotate_left 1
            focus (intro W hSW; (try dsimp only at hSW); go_simp; try with_reducible rfl)
            (try simp only [Act.put, List.setIfInBounds_toArray, List.set_cons_zero, List.set_cons_succ])
            have e61 := blk_cell hb6 (j := 0) (v := .slice ta T.length tc) rfl
            have f61 := blk_free hb6 0
            clear hSS hb6
            refine wpAnyE_one (i := 19) (by kernel_rfl) rfl (fun K hK => ?_)
            have HK := Lib.hid hK
            clear hK
            go_simp
            refine HK.out _ _ (fun hn => absurd ?_ hn) (wpAnyE_done (by kernel_rfl) ?_ _)
            · intro oj hoj q hq hne
              cases hoj
              revert hne
              revert q
              decide
            clear e61 f61 HK
            go_wp2
            go_roundg (n - (T.length + 1)).toNat
            case measure => omega
            case rel => exact ⟨a8, c8, T ++ [(r6, r11, r14)], by simp; omega, by simp; omega, HS90.out.mono (by simp; omega), HST.out.snoc (by omega) (by omega) (by omega)⟩
        ·
          have HK := Lib.hid hK
          clear hK
          go_simp
          obtain ⟨w21, hw9⟩ : ∃ W, W = w20.alloc (.cells #[.int .i64 0, .int .i64 20, .int .i64 120, .int .i64 500] 3) := ⟨_, rfl⟩
          rw [← hw9]
          obtain ⟨q3, hp9⟩ : ∃ p, p = w20.heap.size := ⟨_, rfl⟩
          rw [← hp9]
          have hx9 : Ext w20 w21 := by rw [hw9]; exact Ext.alloc _ _
          have HL3 : Hid (LitI w21 b q3 [0, 20, 120, 500]) := by unfold Hid; rw [hw9, hp9]; exact LitI.new w20 b [0, 20, 120, 500] HS20.out.blt (by simp)
          have HS21 := Lib.hid (HS20.out.ext hx9)
          clear hw9 hp9 hx9 hSS HS20
          have hSS : (fun W : World => W.cell? ⟨bo, 0, none⟩ = some (.slice ta T.length tc)) w21 := blk_cell HS21.out.box (j := 0) (v := .slice ta T.length tc) rfl
          refine HK.out _ _ (fun _ => hSS) ?_
          clear HK
          refine wpAnyE_one (i := 4) (by kernel_rfl) rfl (fun K hK => ?_)
          have HK := Lib.hid hK
          clear hK
          go_simp
          refine (c_pick b _ 400 w21 HS21.out.cur (by omega) (by omega)).mono ?_
          rintro e w22 ⟨r4, rfl, p0r4, p1r4, hc, hk1⟩
          have HS22 := Lib.hid (HS21.out.draw hc hk1)
          have g8 := Lib.hid (HL3.out.draw hk1)
          clear HL3
          have HL3 := g8
          clear g8
          clear hc hk1 hSS HS21
          have hSS : (fun W : World => W.cell? ⟨bo, 0, none⟩ = some (.slice ta T.length tc)) w22 := blk_cell HS22.out.box (j := 0) (v := .slice ta T.length tc) rfl
          refine HK.out _ _ (fun _ => hSS) ?_
          clear HK
          refine wpAnyE_one (i := 5) (by kernel_rfl) rfl (fun K hK => ?_)
          have HK := Lib.hid hK
          clear hK
          go_simp
          obtain ⟨w23, hw9⟩ : ∃ W, W = w22.alloc (.cells #[.int .i64 0, .int .i64 30, .int .i64 100, .int .i64 999, .int .i64 r4] 3) := ⟨_, rfl⟩
          rw [← hw9]
          obtain ⟨q1, hp9⟩ : ∃ p, p = w22.heap.size := ⟨_, rfl⟩
          rw [← hp9]
          have hx9 : Ext w22 w23 := by rw [hw9]; exact Ext.alloc _ _
          have HL1 : Hid (LitI w23 b q1 [0, 30, 100, 999, r4]) := by unfold Hid; rw [hw9, hp9]; exact LitI.new w22 b [0, 30, 100, 999, r4] HS22.out.blt (by simp)
          have HS23 := Lib.hid (HS22.out.ext hx9)
          have g8 := Lib.hid (HL3.out.ext hx9)
          clear HL3
          have HL3 := g8
          clear g8
          clear hw9 hp9 hx9 hSS HS22
          have hSS : (fun W : World => W.cell? ⟨bo, 0, none⟩ = some (.slice ta T.length tc)) w23 := blk_cell HS23.out.box (j := 0) (v := .slice ta T.length tc) rfl
          refine HK.out _ _ (fun _ => hSS) ?_
          clear HK
          refine wpAnyE_one (i := 6) (by kernel_rfl) rfl (fun K hK => ?_)
          have HK := Lib.hid hK
          clear hK
          go_simp
          refine (c_amongP b _ q1 [0, 30, 100, 999, r4] (0) 999 w23 HS23.out.cur (by omega) HL1.out (by simp) (by simp) (by intro x hx; simp at hx; omega)).mono ?_
          rintro e w24 ⟨r6, rfl, p0r6, p1r6, hc, hk1⟩
          have HS24 := Lib.hid (HS23.out.draw hc hk1)
          clear HL1
          have g8 := Lib.hid (HL3.out.draw hk1)
          clear HL3
          have HL3 := g8
          clear g8
          clear hc hk1 hSS HS23
          have hSS : (fun W : World => W.cell? ⟨bo, 0, none⟩ = some (.slice ta T.length tc)) w24 := blk_cell HS24.out.box (j := 0) (v := .slice ta T.length tc) rfl
          refine HK.out _ _ (fun _ => hSS) ?_
          clear HK
          refine wpAnyE_one (i := 9) (by kernel_rfl) rfl (fun K hK => ?_)
          have HK := Lib.hid hK
          clear hK
          go_simp
          refine (c_pick b _ 400 w24 HS24.out.cur (by omega) (by omega)).mono ?_
          rintro e w25 ⟨r9, rfl, p0r9, p1r9, hc, hk1⟩
          have HS25 := Lib.hid (HS24.out.draw hc hk1)
          have g8 := Lib.hid (HL3.out.draw hk1)
          clear HL3
          have HL3 := g8
          clear g8
          clear hc hk1 hSS HS24
          have hSS : (fun W : World => W.cell? ⟨bo, 0, none⟩ = some (.slice ta T.length tc)) w25 := blk_cell HS25.out.box (j := 0) (v := .slice ta T.length tc) rfl
          refine HK.out _ _ (fun _ => hSS) ?_
          clear HK
          refine wpAnyE_one (i := 10) (by kernel_rfl) rfl (fun K hK => ?_)
          have HK := Lib.hid hK
          clear hK
          go_simp
          obtain ⟨w26, hw9⟩ : ∃ W, W = w25.alloc (.cells #[.int .i64 0, .int .i64 40, .int .i64 999, .int .i64 r9] 3) := ⟨_, rfl⟩
          rw [← hw9]
          obtain ⟨q2, hp9⟩ : ∃ p, p = w25.heap.size := ⟨_, rfl⟩
          rw [← hp9]
          have hx9 : Ext w25 w26 := by rw [hw9]; exact Ext.alloc _ _
          have HL2 : Hid (LitI w26 b q2 [0, 40, 999, r9]) := by unfold Hid; rw [hw9, hp9]; exact LitI.new w25 b [0, 40, 999, r9] HS25.out.blt (by simp)
          have HS26 := Lib.hid (HS25.out.ext hx9)
          have g8 := Lib.hid (HL3.out.ext hx9)
          clear HL3
          have HL3 := g8
          clear g8
          clear hw9 hp9 hx9 hSS HS25
          have hSS : (fun W : World => W.cell? ⟨bo, 0, none⟩ = some (.slice ta T.length tc)) w26 := blk_cell HS26.out.box (j := 0) (v := .slice ta T.length tc) rfl
          refine HK.out _ _ (fun _ => hSS) ?_
          clear HK
          refine wpAnyE_one (i := 11) (by kernel_rfl) rfl (fun K hK => ?_)
          have HK := Lib.hid hK
          clear hK
          go_simp
          refine (c_amongP b _ q2 [0, 40, 999, r9] (0) 999 w26 HS26.out.cur (by omega) HL2.out (by simp) (by simp) (by intro x hx; simp at hx; omega)).mono ?_
          rintro e w27 ⟨r11, rfl, p0r11, p1r11, hc, hk1⟩
          have HS27 := Lib.hid (HS26.out.draw hc hk1)
          clear HL2
          have g8 := Lib.hid (HL3.out.draw hk1)
          clear HL3
          have HL3 := g8
          clear g8
          clear hc hk1 hSS HS26
          have hSS : (fun W : World => W.cell? ⟨bo, 0, none⟩ = some (.slice ta T.length tc)) w27 := blk_cell HS27.out.box (j := 0) (v := .slice ta T.length tc) rfl
          refine HK.out _ _ (fun _ => hSS) ?_
          clear HK
          refine wpAnyE_one (i := 14) (by kernel_rfl) rfl (fun K hK => ?_)
          have HK := Lib.hid hK
          clear hK
          go_simp
          refine (c_amongP b _ q3 [0, 20, 120, 500] (0) 500 w27 HS27.out.cur (by omega) HL3.out (by simp) (by simp) (by intro x hx; simp at hx; omega)).mono ?_
          rintro e w28 ⟨r14, rfl, p0r14, p1r14, hc, hk1⟩
          have HS28 := Lib.hid (HS27.out.draw hc hk1)
          clear HL3
          clear hc hk1 hSS HS27
          have hSS : (fun W : World => W.cell? ⟨bo, 0, none⟩ = some (.slice ta T.length tc)) w28 := blk_cell HS28.out.box (j := 0) (v := .slice ta T.length tc) rfl
          refine HK.out _ _ (fun _ => hSS) ?_
          clear HK
          refine wpAnyE_take (i := 15) (v := ?_) rfl (by kernel_rfl) (by kernel_rfl) (by kernel_rfl) (fun _ _ _ h => h) (Or.inl ⟨by rfl, ?_⟩) (by assumption) ?_
          rotate_left 1
          focus (intro W hSW; (try dsimp only at hSW); go_simp; try with_reducible rfl)
          (try simp only [Act.put, List.setIfInBounds_toArray, List.set_cons_zero, List.set_cons_succ])
          refine wpAnyE_one (i := 16) (by kernel_rfl) rfl (fun K hK => ?_)
          have HK := Lib.hid hK
          clear hK
          go_simp
          obtain ⟨w29, hw9⟩ : ∃ W, W = w28.alloc (.cells #[.int .i64 r6, .int .i64 r11, .int .i64 r14] 54) := ⟨_, rfl⟩
          rw [← hw9]
          obtain ⟨q9, hp9⟩ : ∃ p, p = w28.heap.size := ⟨_, rfl⟩
          rw [← hp9]
          have hx9 : Ext w28 w29 := by rw [hw9]; exact Ext.alloc _ _
          have HC9 : Hid (∀ j u, ([.int .i64 r6, .int .i64 r11, .int .i64 r14] : List Value)[j]? = some u → w29.cell? ((⟨q9, 0, none⟩ : Addr).add j) = some u) := by unfold Hid; rw [hw9, hp9]; exact new_cells3n _ _ _ _ _
          have HS29 := Lib.hid (HS28.out.ext hx9)
          clear hw9 hp9 hx9 hSS HS28
          have hSS : (fun W : World => W.cell? ⟨bo, 0, none⟩ = some (.slice ta T.length tc)) w29 := blk_cell HS29.out.box (j := 0) (v := .slice ta T.length tc) rfl
          refine HK.out _ _ (fun _ => hSS) ?_
          clear HK
          refine wpAnyE_one (i := 17) (by kernel_rfl) rfl (fun K hK => ?_)
          have HK := Lib.hid hK
          clear hK
          refine step_append_own rfl (.tmp 20) (.tmp 35) 24 rfl (w.heap.size + 1) 54 t0 (.agg #[.int .i64 0, .int .i64 0, .int .i64 0]) 3 24 Tryz.underlying24 ht0 htz0 htz1 htz2 rfl (by decide) (.slice ta T.length tc) T.length (T.flatMap encTower) (by simp [Act.eval, Act.put]) HS29.out.ownT ⟨q9, 0, none⟩ 1 1 [.int .i64 r6, .int .i64 r11, .int .i64 r14] (by simp [Act.eval, Act.put]) rfl HC9.out (by intro u hu; simp at hu; rcases hu with rfl | rfl | rfl <;> rfl) (by unfold maxLen; omega) (by omega) HS29.out.lbw ?_
          intro v6 w6 hown6 hgr6
          obtain ⟨a8, c8, rfl, _, _, _⟩ := own_form hown6
          have hb6 := grown_blk hgr6 HS29.out.box (own_nbox HS29.out.ownT HS29.out.box (by decide))
          have hl9 : (T ++ [((r6, r11, r14) : TowerT)]).length = T.length + 1 := by simp
          have hp9 := HS29.out.pushT (T' := T ++ [(r6, r11, r14)]) (ta' := a8) (tc' := c8) (by rw [hl9, flat_snocT]; exact hown6) hgr6
          rw [hl9] at hp9
          have HS90 := Lib.hid hp9
          clear hSS
          have hSS : (fun W : World => W.cell? ⟨bo, 0, none⟩ = some (.slice ta T.length tc)) w6 := blk_cell hb6 (j := 0) (v := .slice ta T.length tc) rfl
          clear hown6 hgr6 hp9 hl9 HC9
          refine HK.out _ _ (fun _ => hSS) ?_
          clear HK
          refine wpAnyE_take (i := 18) (v := ?_) rfl (by kernel_rfl) (by kernel_rfl) (by kernel_rfl) (fun _ _ _ h => h) (Or.inl ⟨by rfl, ?_⟩) (by assumption) ?_
          rotate_left 1
          focus (intro W hSW; (try dsimp only at hSW); go_simp; try with_reducible rfl)
          (try simp only [Act.put, List.setIfInBounds_toArray, List.set_cons_zero, List.set_cons_succ])
          have e61 := blk_cell hb6 (j := 0) (v := .slice ta T.length tc) rfl
          have f61 := blk_free hb6 0
          clear hSS hb6
          refine wpAnyE_one (i := 19) (by kernel_rfl) rfl (fun K hK => ?_)
          have HK := Lib.hid hK
          clear hK
          go_simp
          refine HK.out _ _ (fun hn => absurd ?_ hn) (wpAnyE_done (by kernel_rfl) ?_ _)
          · intro oj hoj q hq hne
            cases hoj
            revert hne
            revert q
            decide
          clear e61 f61 HK
          go_wp2
          go_roundg (n - (T.length + 1)).toNat
          case measure => omega
          case rel => exact ⟨a8, c8, T ++ [(r6, r11, r14)], by simp; omega, by simp; omega, HS90.out.mono (by simp; omega), HST.out.snoc (by omega) (by omega) (by omega)⟩
      · have hTn : (T.length : Int) = n := by omega
        go_wp2_with fail
        refine (c_amongL b _ [2, 2, 3] 2 3 _ HS1.out.cur (by omega) (by simp) (by simp) (by intro x hx; simp at hx; omega)).mono ?_
        rintro e w4 ⟨m, rfl, m0, m1, hc, hk1⟩
        have HS4 := Lib.hid (HS1.out.draw hc hk1)
        clear hc hk1 HS1 e0 hlt
        go_wp2_with fail
        go_loopg [6, 7] 17 (fun gg v6 v7 wr => ∃ (a : Nat) (la : Option Addr) (lc : Nat) (L : List LinkT), v6 = .int .i64 a ∧ (a : Int) ≤ n ∧ n ≤ a + gg ∧ L.length ≤ 40 ∧ Hid (NX b w.heap.size (w.heap.size + 1) bo w ta tc T la lc L (k + 300 + 250 * a) wr) ∧ Hid (Sm3 L))
        case atStart => exact ⟨0, none, 0, [], rfl, by omega, by omega, by simp, HS4.out.mono (by omega), Sm3.nil⟩
        case round =>
          clear HS4
          obtain ⟨a, la, lc, L, rfl, a0, a1, hL0, HS5, HSL⟩ := hrel
          obtain ⟨wo, hwo⟩ : ∃ W, W = wr := ⟨_, rfl⟩
          subst hwo
          by_cases han : (a : Int) < n
          · go_wp2_with fail
            go_loopg [7] 17 (fun gg v7 wr => ∃ (z : Int) (q : Nat) (la : Option Addr) (lc : Nat) (L : List LinkT), v7 = .int .i64 z ∧ (a : Int) + 1 ≤ z ∧ z ≤ n ∧ n ≤ z + gg ∧ L.length ≤ 40 ∧ (q : Int) ≤ k + 300 + 250 * a + 10 * (z - a - 1) ∧ Hid (NX b w.heap.size (w.heap.size + 1) bo w ta tc T la lc L q wr) ∧ Hid (Sm3 L))
            case atStart => exact ⟨_, _, la, lc, L, rfl, by omega, by omega, by omega, hL0, by omega, HS5.out, HSL.out⟩
            case round =>
              clear HS5 HSL
              obtain ⟨z, q, la, lc, L, rfl, z0, z1, z2, hL1, q0, HS6, HSL⟩ := hrel
              have e1 := blk_cell HS6.out.box (j := 1) (v := .slice la L.length lc) rfl
              by_cases hzn : z < n
              · by_cases hl40 : (L.length : Int) < 40
                · go_wp2_with fail
                  refine (c_one b _ m _ HS6.out.cur (by omega) (by omega)).mono ?_
                  rintro e w7 ⟨t, rfl, hc, hk1⟩
                  have HS7 := Lib.hid (HS6.out.draw hc hk1)
                  clear hc hk1 HS6 e1
                  have e1 := blk_cell HS7.out.box (j := 1) (v := .slice la L.length lc) rfl
                  cases t
                  · by_cases hza : z = (a : Int) + 1
                    · subst hza
                      go_wp2_with fail
                      refine (c_one b _ 8 _ HS7.out.cur (by omega) (by omega)).mono ?_
                      rintro e w8 ⟨t2, rfl, hc, hk1⟩
                      have HS8 := Lib.hid (HS7.out.draw hc hk1)
                      clear hc hk1 HS7 e1
                      have e1 := blk_cell HS8.out.box (j := 1) (v := .slice la L.length lc) rfl
                      cases t2
                      · go_upto_region 15 with fail
                        clear e1
                        obtain ⟨w20, hwd⟩ : ∃ W, W = w8.drew := ⟨_, rfl⟩
                        have HS20 : Hid (NX b w.heap.size (w.heap.size + 1) bo w ta tc T la lc L (q + 4) w20) := by unfold Hid; rw [hwd]; exact HS8.out.ext (Ext.drew _)
                        refine wp_region_E (S := fun W => W.cell? ⟨bo, 1, none⟩ = some (.slice la L.length lc)) (by kernel_rfl) ?_
                        rw [← hwd]
                        clear hwd HS8
                        have hSS : (fun W : World => W.cell? ⟨bo, 1, none⟩ = some (.slice la L.length lc)) w20 := blk_cell HS20.out.box (j := 1) (v := .slice la L.length lc) rfl
                        refine wpAnyE_take (i := 0) (v := ?_) rfl (by kernel_rfl) (by kernel_rfl) (by kernel_rfl) (fun _ _ _ h => h) (Or.inl ⟨by rfl, ?_⟩) (by assumption) ?_
                        rotate_left 1
                        focus (intro W hSW; (try dsimp only at hSW); go_simp; try with_reducible rfl)
                        (try simp only [Act.put, List.setIfInBounds_toArray, List.set_cons_zero, List.set_cons_succ])
                        refine wpAnyE_take (i := 1) (v := ?_) rfl (by kernel_rfl) (by kernel_rfl) (by kernel_rfl) (fun _ _ _ h => h) (Or.inl ⟨by rfl, ?_⟩) (by assumption) ?_
                        rotate_left 1
                        focus (intro W hSW; (try dsimp only at hSW); go_simp; try with_reducible rfl)
                        (try simp only [Act.put, List.setIfInBounds_toArray, List.set_cons_zero, List.set_cons_succ])
                        refine wpAnyE_take (i := 2) (v := ?_) rfl (by kernel_rfl) (by kernel_rfl) (by kernel_rfl) (fun _ _ _ h => h) (Or.inl ⟨by rfl, ?_⟩) (by assumption) ?_
                        rotate_left 1
                        focus (intro W hSW; (try dsimp only at hSW); go_simp; try with_reducible rfl)
                        (try simp only [Act.put, List.setIfInBounds_toArray, List.set_cons_zero, List.set_cons_succ])
                        refine wpAnyE_take (i := 3) (v := ?_) rfl (by kernel_rfl) (by kernel_rfl) (by kernel_rfl) (fun _ _ _ h => h) (Or.inl ⟨by rfl, ?_⟩) (by assumption) ?_
                        rotate_left 1
                        focus (intro W hSW; (try dsimp only at hSW); go_simp; try with_reducible rfl)
                        (try simp only [Act.put, List.setIfInBounds_toArray, List.set_cons_zero, List.set_cons_succ])
                        refine wpAnyE_take (i := 4) (v := ?_) rfl (by kernel_rfl) (by kernel_rfl) (by kernel_rfl) (fun _ _ _ h => h) (Or.inl ⟨by rfl, ?_⟩) (by assumption) ?_
                        rotate_left 1
                        focus (intro W hSW; (try dsimp only at hSW); go_simp; try with_reducible rfl)
                        (try simp only [Act.put, List.setIfInBounds_toArray, List.set_cons_zero, List.set_cons_succ])
                        refine wpAnyE_take (i := 5) (v := ?_) rfl (by kernel_rfl) (by kernel_rfl) (by kernel_rfl) (fun _ _ _ h => h) (Or.inl ⟨by rfl, ?_⟩) (by assumption) ?_
                        rotate_left 1
                        focus (intro W hSW; (try dsimp only at hSW); go_simp; try with_reducible rfl)
                        (try simp only [Act.put, List.setIfInBounds_toArray, List.set_cons_zero, List.set_cons_succ])
                        refine wpAnyE_one (i := 6) (by kernel_rfl) rfl (fun K hK => ?_)
                        have HK := Lib.hid hK
                        clear hK
                        go_simp
                        refine (c_pick b _ 30 w20 HS20.out.cur (by omega) (by omega)).mono ?_
                        rintro e w21 ⟨r6, rfl, p0r6, p1r6, hc, hk1⟩
                        have HS21 := Lib.hid (HS20.out.draw hc hk1)
                        clear hc hk1 hSS HS20
                        have hSS : (fun W : World => W.cell? ⟨bo, 1, none⟩ = some (.slice la L.length lc)) w21 := blk_cell HS21.out.box (j := 1) (v := .slice la L.length lc) rfl
                        refine HK.out _ _ (fun _ => hSS) ?_
                        clear HK
                        refine wpAnyE_take (i := 7) (v := ?_) rfl (by kernel_rfl) (by kernel_rfl) (by kernel_rfl) (fun _ _ _ h => h) (Or.inl ⟨by rfl, ?_⟩) (by assumption) ?_
                        rotate_left 1
                        focus (intro W hSW; (try dsimp only at hSW); go_simp; try with_reducible rfl)
                        (try simp only [Act.put, List.setIfInBounds_toArray, List.set_cons_zero, List.set_cons_succ])
                        obtain ⟨y6, hy6⟩ : ∃ y, y = IntKind.i64.wrap (1 + r6) := ⟨_, rfl⟩
                        rw [← hy6]
                        have hy7 : y6 = 1 + r6 := by rw [hy6, IntKind.wrap_i64]; omega
                        have hy0 : 1 ≤ y6 := by omega
                        have hy1 : y6 ≤ 60 := by omega
                        clear hy6 hy7
                        refine wpAnyE_one (i := 8) (by kernel_rfl) rfl (fun K hK => ?_)
                        have HK := Lib.hid hK
                        clear hK
                        go_simp
                        obtain ⟨w22, hw9⟩ : ∃ W, W = w21.alloc (.cells #[.int .i64 1, .int .i64 5, .int .i64 10, .int .i64 10, .int .i64 60, .int .i64 y6] 3) := ⟨_, rfl⟩
                        rw [← hw9]
                        obtain ⟨q1, hp9⟩ : ∃ p, p = w21.heap.size := ⟨_, rfl⟩
                        rw [← hp9]
                        have hx9 : Ext w21 w22 := by rw [hw9]; exact Ext.alloc _ _
                        have HL1 : Hid (LitI w22 b q1 [1, 5, 10, 10, 60, y6]) := by unfold Hid; rw [hw9, hp9]; exact LitI.new w21 b [1, 5, 10, 10, 60, y6] HS21.out.blt (by simp)
                        have HS22 := Lib.hid (HS21.out.ext hx9)
                        clear hw9 hp9 hx9 hSS HS21
                        have hSS : (fun W : World => W.cell? ⟨bo, 1, none⟩ = some (.slice la L.length lc)) w22 := blk_cell HS22.out.box (j := 1) (v := .slice la L.length lc) rfl
                        refine HK.out _ _ (fun _ => hSS) ?_
                        clear HK
                        refine wpAnyE_one (i := 9) (by kernel_rfl) rfl (fun K hK => ?_)
                        have HK := Lib.hid hK
                        clear hK
                        go_simp
                        refine (c_amongP b _ q1 [1, 5, 10, 10, 60, y6] (1) 60 w22 HS22.out.cur (by omega) HL1.out (by simp) (by simp) (by intro x hx; simp at hx; omega)).mono ?_
                        rintro e w23 ⟨r9, rfl, p0r9, p1r9, hc, hk1⟩
                        have HS23 := Lib.hid (HS22.out.draw hc hk1)
                        clear HL1
                        clear hc hk1 hSS HS22
                        have hSS : (fun W : World => W.cell? ⟨bo, 1, none⟩ = some (.slice la L.length lc)) w23 := blk_cell HS23.out.box (j := 1) (v := .slice la L.length lc) rfl
                        refine HK.out _ _ (fun _ => hSS) ?_
                        clear HK
                        refine wpAnyE_take (i := 10) (v := ?_) rfl (by kernel_rfl) (by kernel_rfl) (by kernel_rfl) (fun _ _ _ h => h) (Or.inl ⟨by rfl, ?_⟩) (by assumption) ?_
                        rotate_left 1
                        focus (intro W hSW; (try dsimp only at hSW); go_simp; try with_reducible rfl)
                        (try simp only [Act.put, List.setIfInBounds_toArray, List.set_cons_zero, List.set_cons_succ])
                        refine wpAnyE_one (i := 11) (by kernel_rfl) rfl (fun K hK => ?_)
                        have HK := Lib.hid hK
                        clear hK
                        go_simp
                        obtain ⟨w24, hw9⟩ : ∃ W, W = w23.alloc (.cells #[.int .i64 (a : Int), .int .i64 ((a : Int) + 1), .int .i64 r9] 42) := ⟨_, rfl⟩
                        rw [← hw9]
                        obtain ⟨q9, hp9⟩ : ∃ p, p = w23.heap.size := ⟨_, rfl⟩
                        rw [← hp9]
                        have hx9 : Ext w23 w24 := by rw [hw9]; exact Ext.alloc _ _
                        have HC9 : Hid (∀ j u, ([.int .i64 (a : Int), .int .i64 ((a : Int) + 1), .int .i64 r9] : List Value)[j]? = some u → w24.cell? ((⟨q9, 0, none⟩ : Addr).add j) = some u) := by unfold Hid; rw [hw9, hp9]; exact new_cells3n _ _ _ _ _
                        have HS24 := Lib.hid (HS23.out.ext hx9)
                        clear hw9 hp9 hx9 hSS HS23
                        have hSS : (fun W : World => W.cell? ⟨bo, 1, none⟩ = some (.slice la L.length lc)) w24 := blk_cell HS24.out.box (j := 1) (v := .slice la L.length lc) rfl
                        refine HK.out _ _ (fun _ => hSS) ?_
                        clear HK
                        refine wpAnyE_one (i := 12) (by kernel_rfl) rfl (fun K hK => ?_)
                        have HK := Lib.hid hK
                        clear hK
                        refine step_append_own rfl (.tmp 74) (.tmp 84) 25 rfl (w.heap.size + 1) 42 l0 (.agg #[.int .i64 0, .int .i64 0, .int .i64 0]) 3 24 Tryz.underlying25 hl0 hlz0 hlz1 hlz2 rfl (by decide) (.slice la L.length lc) L.length (L.flatMap encLink) (by simp [Act.eval, Act.put]) HS24.out.ownL ⟨q9, 0, none⟩ 1 1 [.int .i64 (a : Int), .int .i64 ((a : Int) + 1), .int .i64 r9] (by simp [Act.eval, Act.put]) rfl HC9.out (by intro u hu; simp at hu; rcases hu with rfl | rfl | rfl <;> rfl) (by unfold maxLen; omega) (by omega) HS24.out.lbw ?_
                        intro v6 w6 hown6 hgr6
                        obtain ⟨a8, c8, rfl, _, _, _⟩ := own_form hown6
                        have hb6 := grown_blk hgr6 HS24.out.box (own_nbox HS24.out.ownL HS24.out.box (by decide))
                        have hl9 : (L ++ [(((a : Int), (a : Int) + 1, r9) : LinkT)]).length = L.length + 1 := by simp
                        have hp9 := HS24.out.pushL (L' := L ++ [((a : Int), (a : Int) + 1, r9)]) (la' := a8) (lc' := c8) (by rw [hl9, flat_snocL]; exact hown6) hgr6
                        rw [hl9] at hp9
                        have HS90 := Lib.hid hp9
                        clear hSS
                        have hSS : (fun W : World => W.cell? ⟨bo, 1, none⟩ = some (.slice la L.length lc)) w6 := blk_cell hb6 (j := 1) (v := .slice la L.length lc) rfl
                        clear hown6 hgr6 hp9 hl9 HC9
                        refine HK.out _ _ (fun _ => hSS) ?_
                        clear HK
                        refine wpAnyE_take (i := 13) (v := ?_) rfl (by kernel_rfl) (by kernel_rfl) (by kernel_rfl) (fun _ _ _ h => h) (Or.inl ⟨by rfl, ?_⟩) (by assumption) ?_
                        rotate_left 1
                        focus (intro W hSW; (try dsimp only at hSW); go_simp; try with_reducible rfl)
                        (try simp only [Act.put, List.setIfInBounds_toArray, List.set_cons_zero, List.set_cons_succ])
                        have e61 := blk_cell hb6 (j := 1) (v := .slice la L.length lc) rfl
                        have f61 := blk_free hb6 1
                        clear hSS hb6
                        refine wpAnyE_one (i := 14) (by kernel_rfl) rfl (fun K hK => ?_)
                        have HK := Lib.hid hK
                        clear hK
                        go_simp
                        refine HK.out _ _ (fun hn => absurd ?_ hn) (wpAnyE_done (by kernel_rfl) ?_ _)
                        · intro oj hoj q hq hne
                          cases hoj
                          revert hne
                          revert q
                          decide
                        clear e61 f61 HK
                        go_wp2
                        go_roundg (n - ((a : Int) + 1 + 1)).toNat
                        case measure => omega
                        case rel => exact ⟨(a : Int) + 1 + 1, _, a8, c8, L ++ [((a : Int), (a : Int) + 1, r9)], by go_num, by omega, by omega, by omega, by simp; omega, by omega, HS90.out, HSL.out.snoc (by omega) (by omega) (by omega)⟩
                      · go_wp2
                        go_roundg (n - ((a : Int) + 1 + 1)).toNat
                        case measure => omega
                        case rel => exact ⟨(a : Int) + 1 + 1, _, la, lc, L, by go_num, by omega, by omega, by omega, hL1, by omega, HS8.out, HSL⟩
                    · have hzb : (z == (a : Int) + 1) = false := by simp; exact hza
                      go_wp2
                      go_roundg (n - (z + 1)).toNat
                      case measure => omega
                      case rel => exact ⟨z + 1, _, la, lc, L, by go_num, by omega, by omega, by omega, hL1, by omega, HS7.out, HSL⟩
                  · go_upto_region 15 with fail
                    clear e1
                    obtain ⟨w20, hwd⟩ : ∃ W, W = w7.drew := ⟨_, rfl⟩
                    have HS20 : Hid (NX b w.heap.size (w.heap.size + 1) bo w ta tc T la lc L (q + 2) w20) := by unfold Hid; rw [hwd]; exact HS7.out.ext (Ext.drew _)
                    refine wp_region_E (S := fun W => W.cell? ⟨bo, 1, none⟩ = some (.slice la L.length lc)) (by kernel_rfl) ?_
                    rw [← hwd]
                    clear hwd HS7
                    have hSS : (fun W : World => W.cell? ⟨bo, 1, none⟩ = some (.slice la L.length lc)) w20 := blk_cell HS20.out.box (j := 1) (v := .slice la L.length lc) rfl
                    refine wpAnyE_take (i := 0) (v := ?_) rfl (by kernel_rfl) (by kernel_rfl) (by kernel_rfl) (fun _ _ _ h => h) (Or.inl ⟨by rfl, ?_⟩) (by assumption) ?_
                    rotate_left 1
                    focus (intro W hSW; (try dsimp only at hSW); go_simp; try with_reducible rfl)
                    (try simp only [Act.put, List.setIfInBounds_toArray, List.set_cons_zero, List.set_cons_succ])
                    refine wpAnyE_take (i := 1) (v := ?_) rfl (by kernel_rfl) (by kernel_rfl) (by kernel_rfl) (fun _ _ _ h => h) (Or.inl ⟨by rfl, ?_⟩) (by assumption) ?_
                    rotate_left 1
                    focus (intro W hSW; (try dsimp only at hSW); go_simp; try with_reducible rfl)
                    (try simp only [Act.put, List.setIfInBounds_toArray, List.set_cons_zero, List.set_cons_succ])
                    refine wpAnyE_take (i := 2) (v := ?_) rfl (by kernel_rfl) (by kernel_rfl) (by kernel_rfl) (fun _ _ _ h => h) (Or.inl ⟨by rfl, ?_⟩) (by assumption) ?_
                    rotate_left 1
                    focus (intro W hSW; (try dsimp only at hSW); go_simp; try with_reducible rfl)
                    (try simp only [Act.put, List.setIfInBounds_toArray, List.set_cons_zero, List.set_cons_succ])
                    refine wpAnyE_take (i := 3) (v := ?_) rfl (by kernel_rfl) (by kernel_rfl) (by kernel_rfl) (fun _ _ _ h => h) (Or.inl ⟨by rfl, ?_⟩) (by assumption) ?_
                    rotate_left 1
                    focus (intro W hSW; (try dsimp only at hSW); go_simp; try with_reducible rfl)
                    (try simp only [Act.put, List.setIfInBounds_toArray, List.set_cons_zero, List.set_cons_succ])
                    refine wpAnyE_take (i := 4) (v := ?_) rfl (by kernel_rfl) (by kernel_rfl) (by kernel_rfl) (fun _ _ _ h => h) (Or.inl ⟨by rfl, ?_⟩) (by assumption) ?_
                    rotate_left 1
                    focus (intro W hSW; (try dsimp only at hSW); go_simp; try with_reducible rfl)
                    (try simp only [Act.put, List.setIfInBounds_toArray, List.set_cons_zero, List.set_cons_succ])
                    refine wpAnyE_take (i := 5) (v := ?_) rfl (by kernel_rfl) (by kernel_rfl) (by kernel_rfl) (fun _ _ _ h => h) (Or.inl ⟨by rfl, ?_⟩) (by assumption) ?_
                    rotate_left 1
                    focus (intro W hSW; (try dsimp only at hSW); go_simp; try with_reducible rfl)
                    (try simp only [Act.put, List.setIfInBounds_toArray, List.set_cons_zero, List.set_cons_succ])
                    refine wpAnyE_one (i := 6) (by kernel_rfl) rfl (fun K hK => ?_)
                    have HK := Lib.hid hK
                    clear hK
                    go_simp
                    refine (c_pick b _ 30 w20 HS20.out.cur (by omega) (by omega)).mono ?_
                    rintro e w21 ⟨r6, rfl, p0r6, p1r6, hc, hk1⟩
                    have HS21 := Lib.hid (HS20.out.draw hc hk1)
                    clear hc hk1 hSS HS20
                    have hSS : (fun W : World => W.cell? ⟨bo, 1, none⟩ = some (.slice la L.length lc)) w21 := blk_cell HS21.out.box (j := 1) (v := .slice la L.length lc) rfl
                    refine HK.out _ _ (fun _ => hSS) ?_
                    clear HK
                    refine wpAnyE_take (i := 7) (v := ?_) rfl (by kernel_rfl) (by kernel_rfl) (by kernel_rfl) (fun _ _ _ h => h) (Or.inl ⟨by rfl, ?_⟩) (by assumption) ?_
                    rotate_left 1
                    focus (intro W hSW; (try dsimp only at hSW); go_simp; try with_reducible rfl)
                    (try simp only [Act.put, List.setIfInBounds_toArray, List.set_cons_zero, List.set_cons_succ])
                    obtain ⟨y6, hy6⟩ : ∃ y, y = IntKind.i64.wrap (1 + r6) := ⟨_, rfl⟩
                    rw [← hy6]
                    have hy7 : y6 = 1 + r6 := by rw [hy6, IntKind.wrap_i64]; omega
                    have hy0 : 1 ≤ y6 := by omega
                    have hy1 : y6 ≤ 60 := by omega
                    clear hy6 hy7
                    refine wpAnyE_one (i := 8) (by kernel_rfl) rfl (fun K hK => ?_)
                    have HK := Lib.hid hK
                    clear hK
                    go_simp
                    obtain ⟨w22, hw9⟩ : ∃ W, W = w21.alloc (.cells #[.int .i64 1, .int .i64 5, .int .i64 10, .int .i64 10, .int .i64 60, .int .i64 y6] 3) := ⟨_, rfl⟩
                    rw [← hw9]
                    obtain ⟨q1, hp9⟩ : ∃ p, p = w21.heap.size := ⟨_, rfl⟩
                    rw [← hp9]
                    have hx9 : Ext w21 w22 := by rw [hw9]; exact Ext.alloc _ _
                    have HL1 : Hid (LitI w22 b q1 [1, 5, 10, 10, 60, y6]) := by unfold Hid; rw [hw9, hp9]; exact LitI.new w21 b [1, 5, 10, 10, 60, y6] HS21.out.blt (by simp)
                    have HS22 := Lib.hid (HS21.out.ext hx9)
                    clear hw9 hp9 hx9 hSS HS21
                    have hSS : (fun W : World => W.cell? ⟨bo, 1, none⟩ = some (.slice la L.length lc)) w22 := blk_cell HS22.out.box (j := 1) (v := .slice la L.length lc) rfl
                    refine HK.out _ _ (fun _ => hSS) ?_
                    clear HK
                    refine wpAnyE_one (i := 9) (by kernel_rfl) rfl (fun K hK => ?_)
                    have HK := Lib.hid hK
                    clear hK
                    go_simp
                    refine (c_amongP b _ q1 [1, 5, 10, 10, 60, y6] (1) 60 w22 HS22.out.cur (by omega) HL1.out (by simp) (by simp) (by intro x hx; simp at hx; omega)).mono ?_
                    rintro e w23 ⟨r9, rfl, p0r9, p1r9, hc, hk1⟩
                    have HS23 := Lib.hid (HS22.out.draw hc hk1)
                    clear HL1
                    clear hc hk1 hSS HS22
                    have hSS : (fun W : World => W.cell? ⟨bo, 1, none⟩ = some (.slice la L.length lc)) w23 := blk_cell HS23.out.box (j := 1) (v := .slice la L.length lc) rfl
                    refine HK.out _ _ (fun _ => hSS) ?_
                    clear HK
                    refine wpAnyE_take (i := 10) (v := ?_) rfl (by kernel_rfl) (by kernel_rfl) (by kernel_rfl) (fun _ _ _ h => h) (Or.inl ⟨by rfl, ?_⟩) (by assumption) ?_
                    rotate_left 1
                    focus (intro W hSW; (try dsimp only at hSW); go_simp; try with_reducible rfl)
                    (try simp only [Act.put, List.setIfInBounds_toArray, List.set_cons_zero, List.set_cons_succ])
                    refine wpAnyE_one (i := 11) (by kernel_rfl) rfl (fun K hK => ?_)
                    have HK := Lib.hid hK
                    clear hK
                    go_simp
                    obtain ⟨w24, hw9⟩ : ∃ W, W = w23.alloc (.cells #[.int .i64 (a : Int), .int .i64 z, .int .i64 r9] 42) := ⟨_, rfl⟩
                    rw [← hw9]
                    obtain ⟨q9, hp9⟩ : ∃ p, p = w23.heap.size := ⟨_, rfl⟩
                    rw [← hp9]
                    have hx9 : Ext w23 w24 := by rw [hw9]; exact Ext.alloc _ _
                    have HC9 : Hid (∀ j u, ([.int .i64 (a : Int), .int .i64 z, .int .i64 r9] : List Value)[j]? = some u → w24.cell? ((⟨q9, 0, none⟩ : Addr).add j) = some u) := by unfold Hid; rw [hw9, hp9]; exact new_cells3n _ _ _ _ _
                    have HS24 := Lib.hid (HS23.out.ext hx9)
                    clear hw9 hp9 hx9 hSS HS23
                    have hSS : (fun W : World => W.cell? ⟨bo, 1, none⟩ = some (.slice la L.length lc)) w24 := blk_cell HS24.out.box (j := 1) (v := .slice la L.length lc) rfl
                    refine HK.out _ _ (fun _ => hSS) ?_
                    clear HK
                    refine wpAnyE_one (i := 12) (by kernel_rfl) rfl (fun K hK => ?_)
                    have HK := Lib.hid hK
                    clear hK
                    refine step_append_own rfl (.tmp 74) (.tmp 84) 25 rfl (w.heap.size + 1) 42 l0 (.agg #[.int .i64 0, .int .i64 0, .int .i64 0]) 3 24 Tryz.underlying25 hl0 hlz0 hlz1 hlz2 rfl (by decide) (.slice la L.length lc) L.length (L.flatMap encLink) (by simp [Act.eval, Act.put]) HS24.out.ownL ⟨q9, 0, none⟩ 1 1 [.int .i64 (a : Int), .int .i64 z, .int .i64 r9] (by simp [Act.eval, Act.put]) rfl HC9.out (by intro u hu; simp at hu; rcases hu with rfl | rfl | rfl <;> rfl) (by unfold maxLen; omega) (by omega) HS24.out.lbw ?_
                    intro v6 w6 hown6 hgr6
                    obtain ⟨a8, c8, rfl, _, _, _⟩ := own_form hown6
                    have hb6 := grown_blk hgr6 HS24.out.box (own_nbox HS24.out.ownL HS24.out.box (by decide))
                    have hl9 : (L ++ [(((a : Int), z, r9) : LinkT)]).length = L.length + 1 := by simp
                    have hp9 := HS24.out.pushL (L' := L ++ [((a : Int), z, r9)]) (la' := a8) (lc' := c8) (by rw [hl9, flat_snocL]; exact hown6) hgr6
                    rw [hl9] at hp9
                    have HS90 := Lib.hid hp9
                    clear hSS
                    have hSS : (fun W : World => W.cell? ⟨bo, 1, none⟩ = some (.slice la L.length lc)) w6 := blk_cell hb6 (j := 1) (v := .slice la L.length lc) rfl
                    clear hown6 hgr6 hp9 hl9 HC9
                    refine HK.out _ _ (fun _ => hSS) ?_
                    clear HK
                    refine wpAnyE_take (i := 13) (v := ?_) rfl (by kernel_rfl) (by kernel_rfl) (by kernel_rfl) (fun _ _ _ h => h) (Or.inl ⟨by rfl, ?_⟩) (by assumption) ?_
                    rotate_left 1
                    focus (intro W hSW; (try dsimp only at hSW); go_simp; try with_reducible rfl)
                    (try simp only [Act.put, List.setIfInBounds_toArray, List.set_cons_zero, List.set_cons_succ])
                    have e61 := blk_cell hb6 (j := 1) (v := .slice la L.length lc) rfl
                    have f61 := blk_free hb6 1
                    clear hSS hb6
                    refine wpAnyE_one (i := 14) (by kernel_rfl) rfl (fun K hK => ?_)
                    have HK := Lib.hid hK
                    clear hK
                    go_simp
                    refine HK.out _ _ (fun hn => absurd ?_ hn) (wpAnyE_done (by kernel_rfl) ?_ _)
                    · intro oj hoj q hq hne
                      cases hoj
                      revert hne
                      revert q
                      decide
                    clear e61 f61 HK
                    go_wp2
                    go_roundg (n - (z + 1)).toNat
                    case measure => omega
                    case rel => exact ⟨z + 1, _, a8, c8, L ++ [((a : Int), z, r9)], by go_num, by omega, by omega, by omega, by simp; omega, by omega, HS90.out, HSL.out.snoc (by omega) (by omega) (by omega)⟩
                · go_wp2
                  go_roundg (n - (a + 1)).toNat
                  case measure => omega
                  case rel => exact ⟨a + 1, la, lc, L, by go_num, by omega, by omega, hL1, HS6.out.mono (by omega), HSL⟩
              · go_wp2
                go_roundg (n - (a + 1)).toNat
                case measure => omega
                case rel => exact ⟨a + 1, la, lc, L, by go_num, by omega, by omega, hL1, HS6.out.mono (by omega), HSL⟩
          · have k0 := blk_cell HS5.out.box (j := 0) (v := .slice ta T.length tc) rfl
            have k1 := blk_cell HS5.out.box (j := 1) (v := .slice la L.length lc) rfl
            have z0 := blk_cell HS5.out.res (j := 0) (v := .slice none 0 0) rfl
            have z1 := blk_cell HS5.out.res (j := 1) (v := .slice none 0 0) rfl
            have f0 := blk_free HS5.out.res 0
            have f1 := blk_free HS5.out.res 1
            go_wp2
            obtain ⟨w9, hw9⟩ : ∃ W, W = (wo.setCell ⟨w.heap.size, 0, none⟩ (.slice ta T.length tc)).setCell ⟨w.heap.size, 1, none⟩ (.slice la L.length lc) := ⟨_, rfl⟩
            rw [← hw9]
            obtain ⟨g2, hO, hC, hK⟩ := HS5.out.fin hw9
            have y0 := blk_cell g2 (j := 0) (v := .slice ta T.length tc) rfl
            have y1 := blk_cell g2 (j := 1) (v := .slice la L.length lc) rfl
            refine bodyPost_ret (v := .agg #[.slice ta T.length tc, .slice la L.length lc]) (by simp [results, Tryz.results49, go_sem, y0, y1]) rfl ⟨ta, tc, T, la, lc, L, rfl, hO, by omega, by omega, hL0, hC.mono (by omega), hK, HST.out, HSL.out⟩
theorem c_net (b k : Nat) (w : World) (h : Cur w b k) (hk : k ≤ 800000) : Calls Tryz.prog 49 #[.pointer (some ⟨b, 0, none⟩)] w (DrawNet b (k + 5000) 1 16 40 w) :=
  (c_netS b k w h hk).mono fun e w' ⟨ta, tc, T, la, lc, L, h1, h2, h3, h4, h5, h6, h7, _, _⟩ => ⟨ta, tc, T, la, lc, L, h1, h2, h3, h4, h5, h6, h7⟩
end Go.Proofs.YtmaaeemhbccpcaaGreatDoor
