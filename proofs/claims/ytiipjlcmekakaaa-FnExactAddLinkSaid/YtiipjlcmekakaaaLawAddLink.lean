
/- FnExactAddLink: for all arguments the call returns true. No condition. -/
import Derived.Test.YtiipjlcmekakaaaAddI
import Derived.Test.YtiipjlcmekakaaaAddQ
import Derived.Test.YtiipjlcmekakaaaNetM
namespace Go.Proofs.Ytiipjlcmekakaaa
open Go.ChangeShapes Go.WideShapes Go.ChangeAt Go.RowKit
open Go.ChangeMaps (open_string shut_string)
set_option linter.unusedVariables false
set_option linter.unusedSimpArgs false
set_option maxRecDepth 100000 in
set_option maxHeartbeats 4000000 in
theorem law_AddLink (v0 : Value) (x0 : NetT) (v1 : Value) (x1 : LinkT) (w : World) (h0 : ArgNet w v0 x0) (h1 : ArgLink w v1 x1) :
    Calls Try.prog 6 #[v0, v1] w fun e w' => e = .returned (.bool true) ∧ Ext w w' := by
  obtain rfl := h1
  obtain ⟨y1, y2, y3⟩ := x1
  simp only
  obtain ⟨hG0, _⟩ := h0
  obtain ⟨a0, cap0, a0e, cap0e, rfl, ⟨m0, m0b⟩, m0c, m0d⟩ := hG0.form
  have H0 := Lib.hid hG0
  clear hG0
  obtain ⟨ys, hys⟩ : ∃ ys, ys = adV x0 (y1, y2, y3) := ⟨_, rfl⟩
  obtain ⟨ok, hok⟩ : ∃ ok, ok = adOk x0 (y1, y2, y3) := ⟨_, rfl⟩
  have hyl0 : Hid (x0.1.length + x0.2.length ≤ 1048576 → ys.1.length + ys.2.length ≤ 1048576) := fun hz0 => by rw [hys]; exact adV_bound x0 (y1, y2, y3)
  have CS : Hid (∀ W v0 lo0 hi0, Nets W lo0 hi0 v0 x0 → hi0 ≤ W.heap.size → Calls Try.prog 10 #[v0, .agg #[.int .i64 y1, .int .i64 y2, .int .i64 y3]] W fun e w' => ∃ r, e = .returned (.tuple #[r, .bool ok]) ∧ OwnNet w' W.heap.size w'.heap.size r ys ∧ Ext W w') :=
    fun W v0 lo0 hi0 hr0 hh0 => by rw [hys, hok]; exact c_sAddLink v0 lo0 hi0 x0 (y1, y2, y3) W hr0 hh0
  have CI : Hid (∀ W v0 lo0 hi0, Nets W lo0 hi0 v0 x0 → hi0 ≤ W.heap.size → Calls Try.prog 9 #[v0, .agg #[.int .i64 y1, .int .i64 y2, .int .i64 y3]] W fun e w' => ∃ r, e = .returned (.tuple #[r, .bool ok]) ∧ OwnNet w' W.heap.size w'.heap.size r ys ∧ Ext W w') :=
    fun W v0 lo0 hi0 hr0 hh0 => by rw [hys, hok]; exact c_iAddLink v0 lo0 hi0 x0 (y1, y2, y3) W hr0 hh0
  clear hys hok
  obtain ⟨N0, hN0⟩ : ∃ N : Int, N = ((x0.1.length + x0.2.length : Nat) : Int) := ⟨_, rfl⟩
  have hN00 : 0 ≤ N0 := by omega
  by_cases hsz0 : N0 ≤ 1048576
  · have CZ0 : Hid (∀ W, Ext w W → Calls Try.prog 27 #[.agg #[.slice a0 x0.1.length cap0, .slice a0e x0.2.length cap0e], .int .i64 (1048576)] W fun e w' => e = .returned (.int .i64 (1048576 - N0)) ∧ Ext W w') := fun W hX => by
      have e := c_szNet _ _ _ x0 (1048576) W (H0.out.ext hX (Nat.le_refl _)) (by omega) (by omega)
      rw [← hN0, szL_pos hsz0] at e
      exact e
    have hz0 : x0.1.length + x0.2.length ≤ 1048576 := by omega
    have hsn0 : ¬ (1048576 - N0 < 0) := by omega
    have HN0 := Lib.hid hN0
    clear hN0
    have CT0 : Hid (∀ W, Ext w W → Calls Try.prog 28 #[.agg #[.slice a0 x0.1.length cap0, .slice a0e x0.2.length cap0e]] W fun e w' => ∃ v, e = .returned v ∧ OwnNet w' W.heap.size w'.heap.size v x0 ∧ Ext W w') :=
      fun W hX => c_toNet _ 0 w.heap.size x0 W (H0.out.ext hX (Nat.le_refl _)) hX.size hz0
    have hyl := hyl0.out hz0
    have hyI : (0 : Int) ≤ (ys.1.length : Int) := by omega
    have hyJ : (0 : Int) ≤ (ys.2.length : Int) := by omega
    have hyI2 : (ys.1.length : Int) + (ys.2.length : Int) ≤ 1048576 := by omega
    clear hyl0
    cases ok
    case false =>
      go_enter Try.func6, Try.ntmps6
      have X := Lib.hid (Ext.refl w)
      go_wp2_with fail
      obtain ⟨W1, hW⟩ : ∃ W, W = w.alloc (.cells #[.slice a0 x0.1.length cap0, .slice a0e x0.2.length cap0e] 52) := ⟨_, rfl⟩
      rw [← hW]
      have Y : Ext w W1 := by rw [hW]; exact Ext.alloc _ _
      have hB : W1.heap[w.heap.size]? = some (.cells #[.slice a0 x0.1.length cap0, .slice a0e x0.2.length cap0e] 52) := by rw [hW]; exact blk_alloc _ _
      have hnA0 : W1.heap.size = w.heap.size + 1 := by rw [hW, size_alloc]
      clear hW
      have sbA0 := (Array.getElem?_eq_some_iff.1 hB).1
      have s1 := Y.size
      have T__ := Lib.hid (X.out.trans Y)
      clear X
      have X := T__
      clear T__
      have BA0 := Lib.hid hB
      clear hB Y
      obtain ⟨W2, hW⟩ : ∃ W, W = W1.alloc (.cells #[.int .i64 y1, .int .i64 y2, .int .i64 y3] 60) := ⟨_, rfl⟩
      rw [← hW]
      have Y : Ext W1 W2 := by rw [hW]; exact Ext.alloc _ _
      have hB : W2.heap[W1.heap.size]? = some (.cells #[.int .i64 y1, .int .i64 y2, .int .i64 y3] 60) := by rw [hW]; exact blk_alloc _ _
      rw [hnA0] at hB
      clear hW
      have sbL1 := (Array.getElem?_eq_some_iff.1 hB).1
      have s2 := Y.size
      have T__ := Lib.hid (X.out.trans Y)
      clear X
      have X := T__
      clear T__
      have T__ := Lib.hid (Y.blk BA0.out)
      clear BA0
      have BA0 := T__
      clear T__
      have BL1 := Lib.hid hB
      clear hB Y
      refine (CZ0.out W2 X.out).mono ?_
      rintro e W3 ⟨rfl, Y⟩
      have s3 := Y.size
      have T__ := Lib.hid (X.out.trans Y)
      clear X
      have X := T__
      clear T__
      have T__ := Lib.hid (Y.blk BA0.out)
      clear BA0
      have BA0 := T__
      clear T__
      have T__ := Lib.hid (Y.blk BL1.out)
      clear BL1
      have BL1 := T__
      clear T__
      clear Y
      have kA00 := blk_cell BA0.out (j := 0) rfl
      have kA01 := blk_cell BA0.out (j := 1) rfl
      have kL10 := blk_cell BL1.out (j := 0) rfl
      have kL11 := blk_cell BL1.out (j := 1) rfl
      have kL12 := blk_cell BL1.out (j := 2) rfl
      go_upto_region 5 with fail
      clear kA00 kA01 kL10 kL11 kL12
      go_cut [6, 7] from 21 to 28 (fun v6 v7 wx => LkRes W3 ys false v6 v7 wx)
      case first =>
        have HS : Hid (∀ W, Ext W3 W → W.cell? ⟨w.heap.size, 0, none⟩ = some (.slice a0 x0.1.length cap0) ∧ W.cell? ⟨w.heap.size, 1, none⟩ = some (.slice a0e x0.2.length cap0e) ∧ W.cell? ⟨w.heap.size + 1, 0, none⟩ = some (.int .i64 y1) ∧ W.cell? ⟨w.heap.size + 1, 1, none⟩ = some (.int .i64 y2) ∧ W.cell? ⟨w.heap.size + 1, 2, none⟩ = some (.int .i64 y3)) := fun W hX => ⟨hX.cell (blk_cell BA0.out (j := 0) rfl), hX.cell (blk_cell BA0.out (j := 1) rfl), hX.cell (blk_cell BL1.out (j := 0) rfl), hX.cell (blk_cell BL1.out (j := 1) rfl), hX.cell (blk_cell BL1.out (j := 2) rfl)⟩
        obtain ⟨w20, hw20⟩ : ∃ W, W = (W3).drew := ⟨_, rfl⟩
        have X20 : Hid (Ext W3 w20) := by unfold Hid; rw [hw20]; exact Ext.drew _
        refine wp_region_E (S := fun W => W.cell? ⟨w.heap.size, 0, none⟩ = some (.slice a0 x0.1.length cap0) ∧ W.cell? ⟨w.heap.size, 1, none⟩ = some (.slice a0e x0.2.length cap0e) ∧ W.cell? ⟨w.heap.size + 1, 0, none⟩ = some (.int .i64 y1) ∧ W.cell? ⟨w.heap.size + 1, 1, none⟩ = some (.int .i64 y2) ∧ W.cell? ⟨w.heap.size + 1, 2, none⟩ = some (.int .i64 y3)) (by kernel_rfl) ?_
        rw [← hw20]
        clear hw20
        have sz20 := X20.out.size
        have hSS : (fun W : World => W.cell? ⟨w.heap.size, 0, none⟩ = some (.slice a0 x0.1.length cap0) ∧ W.cell? ⟨w.heap.size, 1, none⟩ = some (.slice a0e x0.2.length cap0e) ∧ W.cell? ⟨w.heap.size + 1, 0, none⟩ = some (.int .i64 y1) ∧ W.cell? ⟨w.heap.size + 1, 1, none⟩ = some (.int .i64 y2) ∧ W.cell? ⟨w.heap.size + 1, 2, none⟩ = some (.int .i64 y3)) w20 := HS.out _ X20.out
        refine wpAnyE_take (i := 0) (v := ?_) rfl (by kernel_rfl) (by kernel_rfl) (by kernel_rfl) (fun _ _ _ h => h) (Or.inl ⟨by rfl, ?_⟩) (by assumption) ?_
        rotate_left 1
        focus (intro W hSW; (try dsimp only at hSW); go_simp; try with_reducible rfl)
        (try simp only [Act.put, List.setIfInBounds_toArray, List.set_cons_zero, List.set_cons_succ])
        refine wpAnyE_take (i := 2) (v := ?_) rfl (by kernel_rfl) (by kernel_rfl) (by kernel_rfl) (fun _ _ _ h => h) (Or.inl ⟨by rfl, ?_⟩) (by assumption) ?_
        rotate_left 1
        focus (intro W hSW; (try dsimp only at hSW); go_simp; try with_reducible rfl)
        (try simp only [Act.put, List.setIfInBounds_toArray, List.set_cons_zero, List.set_cons_succ])
        refine wpAnyE_pair (i := 1) (j := 8) (by kernel_rfl) rfl rfl (fun K hK => ?_) (fun K hK => ?_)
        ·
          have HK := Lib.hid hK
          clear hK
          go_simp
          refine (CT0.out _ (X.out.trans X20.out)).mono ?_
          rintro e w21 ⟨vp, rfl, hp, hx9⟩
          obtain ⟨ap, cp, ape, cpe, rfl, ⟨_, _⟩, _, _⟩ := hp.form
          have OP := Lib.hid hp
          have X21 := Lib.hid (X20.out.trans hx9)
          have sz21 := hx9.size
          clear hSS hx9 hp
          have hSS : (fun W : World => W.cell? ⟨w.heap.size, 0, none⟩ = some (.slice a0 x0.1.length cap0) ∧ W.cell? ⟨w.heap.size, 1, none⟩ = some (.slice a0e x0.2.length cap0e) ∧ W.cell? ⟨w.heap.size + 1, 0, none⟩ = some (.int .i64 y1) ∧ W.cell? ⟨w.heap.size + 1, 1, none⟩ = some (.int .i64 y2) ∧ W.cell? ⟨w.heap.size + 1, 2, none⟩ = some (.int .i64 y3)) w21 := HS.out _ X21.out
          refine HK.out _ _ (fun _ => hSS) ?_
          clear HK
          refine wpAnyE_pair (i := 3) (j := 8) (by kernel_rfl) rfl rfl (fun K hK => ?_) (fun K hK => ?_)
          ·
            have HK := Lib.hid hK
            clear hK
            go_simp
            refine (c_toLink y1 y2 y3 _).mono ?_
            rintro e w22 ⟨rfl, hx9⟩
            have g9 := Lib.hid (OP.out.ext hx9)
            clear OP
            have OP := g9
            clear g9
            have X22 := Lib.hid (X21.out.trans hx9)
            have sz22 := hx9.size
            clear hSS hx9 
            have hSS : (fun W : World => W.cell? ⟨w.heap.size, 0, none⟩ = some (.slice a0 x0.1.length cap0) ∧ W.cell? ⟨w.heap.size, 1, none⟩ = some (.slice a0e x0.2.length cap0e) ∧ W.cell? ⟨w.heap.size + 1, 0, none⟩ = some (.int .i64 y1) ∧ W.cell? ⟨w.heap.size + 1, 1, none⟩ = some (.int .i64 y2) ∧ W.cell? ⟨w.heap.size + 1, 2, none⟩ = some (.int .i64 y3)) w22 := HS.out _ X22.out
            refine HK.out _ _ (fun _ => hSS) ?_
            clear HK
            refine wpAnyE_pair (i := 4) (j := 8) (by kernel_rfl) rfl rfl (fun K hK => ?_) (fun K hK => ?_)
            ·
              have HK := Lib.hid hK
              clear hK
              go_simp
              refine (CS.out w22 _ _ _ OP.out.read (by omega)).mono ?_
              rintro e w23 ⟨vr, rfl, hr, hx9⟩
              obtain ⟨ar, cr, are, cre, rfl, ⟨_, _⟩, _, _⟩ := hr.form
              have OR := Lib.hid hr
              clear OP
              have X23 := Lib.hid (X22.out.trans hx9)
              have sz23 := hx9.size
              clear hSS hx9 hr
              have hSS : (fun W : World => W.cell? ⟨w.heap.size, 0, none⟩ = some (.slice a0 x0.1.length cap0) ∧ W.cell? ⟨w.heap.size, 1, none⟩ = some (.slice a0e x0.2.length cap0e) ∧ W.cell? ⟨w.heap.size + 1, 0, none⟩ = some (.int .i64 y1) ∧ W.cell? ⟨w.heap.size + 1, 1, none⟩ = some (.int .i64 y2) ∧ W.cell? ⟨w.heap.size + 1, 2, none⟩ = some (.int .i64 y3)) w23 := HS.out _ X23.out
              refine HK.out _ _ (fun _ => hSS) ?_
              clear HK
              refine wpAnyE_take (i := 5) (v := ?_) rfl (by kernel_rfl) (by kernel_rfl) (by kernel_rfl) (fun _ _ _ h => h) (Or.inl ⟨by rfl, ?_⟩) (by assumption) ?_
              rotate_left 1
              focus (intro W hSW; (try dsimp only at hSW); go_simp; try with_reducible rfl)
              (try simp only [Act.put, List.setIfInBounds_toArray, List.set_cons_zero, List.set_cons_succ])
              refine wpAnyE_take (i := 6) (v := ?_) rfl (by kernel_rfl) (by kernel_rfl) (by kernel_rfl) (fun _ _ _ h => h) (Or.inl ⟨by rfl, ?_⟩) (by assumption) ?_
              rotate_left 1
              focus (intro W hSW; (try dsimp only at hSW); go_simp; try with_reducible rfl)
              (try simp only [Act.put, List.setIfInBounds_toArray, List.set_cons_zero, List.set_cons_succ])
              refine wpAnyE_take (i := 7) (v := ?_) rfl (by kernel_rfl) (by kernel_rfl) (by kernel_rfl) (fun _ _ _ h => h) (Or.inl ⟨by rfl, ?_⟩) (by assumption) ?_
              rotate_left 1
              focus (intro W hSW; (try dsimp only at hSW); go_simp; try with_reducible rfl)
              (try simp only [Act.put, List.setIfInBounds_toArray, List.set_cons_zero, List.set_cons_succ])
              refine wpAnyE_one (i := 8) (by kernel_rfl) rfl (fun K hK => ?_)
              have HK := Lib.hid hK
              clear hK
              go_simp
              obtain ⟨w24, hw9⟩ : ∃ W, W = w23.alloc (.cells #[.slice none 0 0, .slice none 0 0] 27) := ⟨_, rfl⟩
              rw [← hw9]
              obtain ⟨bS, hp9⟩ : ∃ p, p = w23.heap.size := ⟨_, rfl⟩
              rw [← hp9]
              have HB : Hid (w24.heap[bS]? = some (.cells #[.slice none 0 0, .slice none 0 0] 27)) := by unfold Hid; rw [hw9, hp9]; exact blk_alloc _ _
              have hx9 : Ext w23 w24 := by rw [hw9]; exact Ext.alloc _ _
              have sb9 := (Array.getElem?_eq_some_iff.1 HB.out).1
              have hb1 : w23.heap.size ≤ bS := by omega
              have hb2 : bS ≤ w23.heap.size := by omega
              clear hp9
              have g9 := Lib.hid (OR.out.ext hx9)
              clear OR
              have OR := g9
              clear g9
              have X24 := Lib.hid (X23.out.trans hx9)
              have sz24 := hx9.size
              clear hSS hx9 hw9
              have hSS : (fun W : World => W.cell? ⟨w.heap.size, 0, none⟩ = some (.slice a0 x0.1.length cap0) ∧ W.cell? ⟨w.heap.size, 1, none⟩ = some (.slice a0e x0.2.length cap0e) ∧ W.cell? ⟨w.heap.size + 1, 0, none⟩ = some (.int .i64 y1) ∧ W.cell? ⟨w.heap.size + 1, 1, none⟩ = some (.int .i64 y2) ∧ W.cell? ⟨w.heap.size + 1, 2, none⟩ = some (.int .i64 y3)) w24 := HS.out _ X24.out
              refine HK.out _ _ (fun _ => hSS) ?_
              clear HK
              clear hSS
              have z0 := blk_cell HB.out (j := 0) (v := .slice none 0 0) rfl
              have z1 := blk_cell HB.out (j := 1) (v := .slice none 0 0) rfl
              have f0 := blk_free HB.out 0
              have f1 := blk_free HB.out 1
              refine wpAnyE_one (i := 9) (by kernel_rfl) rfl (fun K hK => ?_)
              have HK := Lib.hid hK
              clear hK
              go_simp
              clear z0 z1 f0 f1
              obtain ⟨w40, hw40⟩ : ∃ W, W = (w24.setCell ⟨bS, 0, none⟩ (.slice ar ys.1.length cr)).setCell ⟨bS, 1, none⟩ (.slice are ys.2.length cre) := ⟨_, rfl⟩
              rw [← hw40]
              have g1 : (w24.setCell ⟨bS, 0, none⟩ (.slice ar ys.1.length cr)).heap[bS]? = some (.cells #[.slice ar ys.1.length cr, .slice none 0 0] 27) := by rw [heap_setCell_same _ _ _ _ _ _ HB.out]; rfl
              have g2 : w40.heap[bS]? = some (.cells #[.slice ar ys.1.length cr, .slice are ys.2.length cre] 27) := by rw [hw40]; exact (heap_setCell_same _ _ _ _ _ _ g1).trans rfl
              have HK40 : Keep bS (bS + 1) w24 w40 := by rw [hw40]; exact (keep_setj9 w24 bS 0 _).trans (keep_setj9 _ bS 1 _)
              have OR40 := Lib.hid (OR.out.keepd HK40 (by omega))
              have X40 := Lib.hid (X24.out.keep HK40 (by omega))
              have HB40 := Lib.hid g2
              have sz40 := HK40.size
              clear hw40 g1 g2 HK40 HB OR
              have hSS : (fun W : World => W.cell? ⟨w.heap.size, 0, none⟩ = some (.slice a0 x0.1.length cap0) ∧ W.cell? ⟨w.heap.size, 1, none⟩ = some (.slice a0e x0.2.length cap0e) ∧ W.cell? ⟨w.heap.size + 1, 0, none⟩ = some (.int .i64 y1) ∧ W.cell? ⟨w.heap.size + 1, 1, none⟩ = some (.int .i64 y2) ∧ W.cell? ⟨w.heap.size + 1, 2, none⟩ = some (.int .i64 y3)) w40 := HS.out _ X40.out
              refine HK.out _ _ (fun _ => hSS) ?_
              clear HK
              refine wpAnyE_take (i := 10) (v := ?_) rfl (by kernel_rfl) (by kernel_rfl) (by kernel_rfl) (fun _ _ _ h => h) (Or.inl ⟨by rfl, ?_⟩) (by assumption) ?_
              rotate_left 1
              focus (intro W hSW; (try dsimp only at hSW); go_simp; try with_reducible rfl)
              (try simp only [Act.put, List.setIfInBounds_toArray, List.set_cons_zero, List.set_cons_succ])
              clear hSS
              refine wpAnyE_done (by kernel_rfl) ?_ _
              try go_simp
              try go_wp2
              go_meet
              case rel => exact ⟨bS, _, _, ar, cr, are, cre, rfl, rfl, HB40.out, OR40.out, by omega, by omega, by omega, by omega, by omega, X40.out⟩
            ·
              have HK := Lib.hid hK
              clear hK
              go_simp
              obtain ⟨w23, hw9⟩ : ∃ W, W = w22.alloc (.cells #[.slice none 0 0, .slice none 0 0] 27) := ⟨_, rfl⟩
              rw [← hw9]
              obtain ⟨bS, hp9⟩ : ∃ p, p = w22.heap.size := ⟨_, rfl⟩
              rw [← hp9]
              have HB : Hid (w23.heap[bS]? = some (.cells #[.slice none 0 0, .slice none 0 0] 27)) := by unfold Hid; rw [hw9, hp9]; exact blk_alloc _ _
              have hx9 : Ext w22 w23 := by rw [hw9]; exact Ext.alloc _ _
              have sb9 := (Array.getElem?_eq_some_iff.1 HB.out).1
              have hb1 : w22.heap.size ≤ bS := by omega
              have hb2 : bS ≤ w22.heap.size := by omega
              clear hp9
              have g9 := Lib.hid (OP.out.ext hx9)
              clear OP
              have OP := g9
              clear g9
              have X23 := Lib.hid (X22.out.trans hx9)
              have sz23 := hx9.size
              clear hSS hx9 hw9
              have hSS : (fun W : World => W.cell? ⟨w.heap.size, 0, none⟩ = some (.slice a0 x0.1.length cap0) ∧ W.cell? ⟨w.heap.size, 1, none⟩ = some (.slice a0e x0.2.length cap0e) ∧ W.cell? ⟨w.heap.size + 1, 0, none⟩ = some (.int .i64 y1) ∧ W.cell? ⟨w.heap.size + 1, 1, none⟩ = some (.int .i64 y2) ∧ W.cell? ⟨w.heap.size + 1, 2, none⟩ = some (.int .i64 y3)) w23 := HS.out _ X23.out
              refine HK.out _ _ (fun _ => hSS) ?_
              clear HK
              refine wpAnyE_one (i := 4) (by kernel_rfl) rfl (fun K hK => ?_)
              have HK := Lib.hid hK
              clear hK
              go_simp
              refine (CS.out w23 _ _ _ OP.out.read (by omega)).mono ?_
              rintro e w24 ⟨vr, rfl, hr, hx9⟩
              obtain ⟨ar, cr, are, cre, rfl, ⟨_, _⟩, _, _⟩ := hr.form
              have OR := Lib.hid hr
              clear OP
              have g9 := Lib.hid (hx9.blk HB.out)
              clear HB
              have HB := g9
              clear g9
              have X24 := Lib.hid (X23.out.trans hx9)
              have sz24 := hx9.size
              clear hSS hx9 hr
              have hSS : (fun W : World => W.cell? ⟨w.heap.size, 0, none⟩ = some (.slice a0 x0.1.length cap0) ∧ W.cell? ⟨w.heap.size, 1, none⟩ = some (.slice a0e x0.2.length cap0e) ∧ W.cell? ⟨w.heap.size + 1, 0, none⟩ = some (.int .i64 y1) ∧ W.cell? ⟨w.heap.size + 1, 1, none⟩ = some (.int .i64 y2) ∧ W.cell? ⟨w.heap.size + 1, 2, none⟩ = some (.int .i64 y3)) w24 := HS.out _ X24.out
              refine HK.out _ _ (fun _ => hSS) ?_
              clear HK
              refine wpAnyE_take (i := 5) (v := ?_) rfl (by kernel_rfl) (by kernel_rfl) (by kernel_rfl) (fun _ _ _ h => h) (Or.inl ⟨by rfl, ?_⟩) (by assumption) ?_
              rotate_left 1
              focus (intro W hSW; (try dsimp only at hSW); go_simp; try with_reducible rfl)
              (try simp only [Act.put, List.setIfInBounds_toArray, List.set_cons_zero, List.set_cons_succ])
              refine wpAnyE_take (i := 6) (v := ?_) rfl (by kernel_rfl) (by kernel_rfl) (by kernel_rfl) (fun _ _ _ h => h) (Or.inl ⟨by rfl, ?_⟩) (by assumption) ?_
              rotate_left 1
              focus (intro W hSW; (try dsimp only at hSW); go_simp; try with_reducible rfl)
              (try simp only [Act.put, List.setIfInBounds_toArray, List.set_cons_zero, List.set_cons_succ])
              refine wpAnyE_take (i := 7) (v := ?_) rfl (by kernel_rfl) (by kernel_rfl) (by kernel_rfl) (fun _ _ _ h => h) (Or.inl ⟨by rfl, ?_⟩) (by assumption) ?_
              rotate_left 1
              focus (intro W hSW; (try dsimp only at hSW); go_simp; try with_reducible rfl)
              (try simp only [Act.put, List.setIfInBounds_toArray, List.set_cons_zero, List.set_cons_succ])
              clear hSS
              have z0 := blk_cell HB.out (j := 0) (v := .slice none 0 0) rfl
              have z1 := blk_cell HB.out (j := 1) (v := .slice none 0 0) rfl
              have f0 := blk_free HB.out 0
              have f1 := blk_free HB.out 1
              refine wpAnyE_one (i := 9) (by kernel_rfl) rfl (fun K hK => ?_)
              have HK := Lib.hid hK
              clear hK
              go_simp
              clear z0 z1 f0 f1
              obtain ⟨w40, hw40⟩ : ∃ W, W = (w24.setCell ⟨bS, 0, none⟩ (.slice ar ys.1.length cr)).setCell ⟨bS, 1, none⟩ (.slice are ys.2.length cre) := ⟨_, rfl⟩
              rw [← hw40]
              have g1 : (w24.setCell ⟨bS, 0, none⟩ (.slice ar ys.1.length cr)).heap[bS]? = some (.cells #[.slice ar ys.1.length cr, .slice none 0 0] 27) := by rw [heap_setCell_same _ _ _ _ _ _ HB.out]; rfl
              have g2 : w40.heap[bS]? = some (.cells #[.slice ar ys.1.length cr, .slice are ys.2.length cre] 27) := by rw [hw40]; exact (heap_setCell_same _ _ _ _ _ _ g1).trans rfl
              have HK40 : Keep bS (bS + 1) w24 w40 := by rw [hw40]; exact (keep_setj9 w24 bS 0 _).trans (keep_setj9 _ bS 1 _)
              have OR40 := Lib.hid (OR.out.keepd HK40 (by omega))
              have X40 := Lib.hid (X24.out.keep HK40 (by omega))
              have HB40 := Lib.hid g2
              have sz40 := HK40.size
              clear hw40 g1 g2 HK40 HB OR
              have hSS : (fun W : World => W.cell? ⟨w.heap.size, 0, none⟩ = some (.slice a0 x0.1.length cap0) ∧ W.cell? ⟨w.heap.size, 1, none⟩ = some (.slice a0e x0.2.length cap0e) ∧ W.cell? ⟨w.heap.size + 1, 0, none⟩ = some (.int .i64 y1) ∧ W.cell? ⟨w.heap.size + 1, 1, none⟩ = some (.int .i64 y2) ∧ W.cell? ⟨w.heap.size + 1, 2, none⟩ = some (.int .i64 y3)) w40 := HS.out _ X40.out
              refine HK.out _ _ (fun _ => hSS) ?_
              clear HK
              refine wpAnyE_take (i := 10) (v := ?_) rfl (by kernel_rfl) (by kernel_rfl) (by kernel_rfl) (fun _ _ _ h => h) (Or.inl ⟨by rfl, ?_⟩) (by assumption) ?_
              rotate_left 1
              focus (intro W hSW; (try dsimp only at hSW); go_simp; try with_reducible rfl)
              (try simp only [Act.put, List.setIfInBounds_toArray, List.set_cons_zero, List.set_cons_succ])
              clear hSS
              refine wpAnyE_done (by kernel_rfl) ?_ _
              try go_simp
              try go_wp2
              go_meet
              case rel => exact ⟨bS, _, _, ar, cr, are, cre, rfl, rfl, HB40.out, OR40.out, by omega, by omega, by omega, by omega, by omega, X40.out⟩
          ·
            have HK := Lib.hid hK
            clear hK
            go_simp
            obtain ⟨w22, hw9⟩ : ∃ W, W = w21.alloc (.cells #[.slice none 0 0, .slice none 0 0] 27) := ⟨_, rfl⟩
            rw [← hw9]
            obtain ⟨bS, hp9⟩ : ∃ p, p = w21.heap.size := ⟨_, rfl⟩
            rw [← hp9]
            have HB : Hid (w22.heap[bS]? = some (.cells #[.slice none 0 0, .slice none 0 0] 27)) := by unfold Hid; rw [hw9, hp9]; exact blk_alloc _ _
            have hx9 : Ext w21 w22 := by rw [hw9]; exact Ext.alloc _ _
            have sb9 := (Array.getElem?_eq_some_iff.1 HB.out).1
            have hb1 : w21.heap.size ≤ bS := by omega
            have hb2 : bS ≤ w21.heap.size := by omega
            clear hp9
            have g9 := Lib.hid (OP.out.ext hx9)
            clear OP
            have OP := g9
            clear g9
            have X22 := Lib.hid (X21.out.trans hx9)
            have sz22 := hx9.size
            clear hSS hx9 hw9
            have hSS : (fun W : World => W.cell? ⟨w.heap.size, 0, none⟩ = some (.slice a0 x0.1.length cap0) ∧ W.cell? ⟨w.heap.size, 1, none⟩ = some (.slice a0e x0.2.length cap0e) ∧ W.cell? ⟨w.heap.size + 1, 0, none⟩ = some (.int .i64 y1) ∧ W.cell? ⟨w.heap.size + 1, 1, none⟩ = some (.int .i64 y2) ∧ W.cell? ⟨w.heap.size + 1, 2, none⟩ = some (.int .i64 y3)) w22 := HS.out _ X22.out
            refine HK.out _ _ (fun _ => hSS) ?_
            clear HK
            refine wpAnyE_one (i := 3) (by kernel_rfl) rfl (fun K hK => ?_)
            have HK := Lib.hid hK
            clear hK
            go_simp
            refine (c_toLink y1 y2 y3 _).mono ?_
            rintro e w23 ⟨rfl, hx9⟩
            have g9 := Lib.hid (OP.out.ext hx9)
            clear OP
            have OP := g9
            clear g9
            have g9 := Lib.hid (hx9.blk HB.out)
            clear HB
            have HB := g9
            clear g9
            have X23 := Lib.hid (X22.out.trans hx9)
            have sz23 := hx9.size
            clear hSS hx9 
            have hSS : (fun W : World => W.cell? ⟨w.heap.size, 0, none⟩ = some (.slice a0 x0.1.length cap0) ∧ W.cell? ⟨w.heap.size, 1, none⟩ = some (.slice a0e x0.2.length cap0e) ∧ W.cell? ⟨w.heap.size + 1, 0, none⟩ = some (.int .i64 y1) ∧ W.cell? ⟨w.heap.size + 1, 1, none⟩ = some (.int .i64 y2) ∧ W.cell? ⟨w.heap.size + 1, 2, none⟩ = some (.int .i64 y3)) w23 := HS.out _ X23.out
            refine HK.out _ _ (fun _ => hSS) ?_
            clear HK
            refine wpAnyE_one (i := 4) (by kernel_rfl) rfl (fun K hK => ?_)
            have HK := Lib.hid hK
            clear hK
            go_simp
            refine (CS.out w23 _ _ _ OP.out.read (by omega)).mono ?_
            rintro e w24 ⟨vr, rfl, hr, hx9⟩
            obtain ⟨ar, cr, are, cre, rfl, ⟨_, _⟩, _, _⟩ := hr.form
            have OR := Lib.hid hr
            clear OP
            have g9 := Lib.hid (hx9.blk HB.out)
            clear HB
            have HB := g9
            clear g9
            have X24 := Lib.hid (X23.out.trans hx9)
            have sz24 := hx9.size
            clear hSS hx9 hr
            have hSS : (fun W : World => W.cell? ⟨w.heap.size, 0, none⟩ = some (.slice a0 x0.1.length cap0) ∧ W.cell? ⟨w.heap.size, 1, none⟩ = some (.slice a0e x0.2.length cap0e) ∧ W.cell? ⟨w.heap.size + 1, 0, none⟩ = some (.int .i64 y1) ∧ W.cell? ⟨w.heap.size + 1, 1, none⟩ = some (.int .i64 y2) ∧ W.cell? ⟨w.heap.size + 1, 2, none⟩ = some (.int .i64 y3)) w24 := HS.out _ X24.out
            refine HK.out _ _ (fun _ => hSS) ?_
            clear HK
            refine wpAnyE_take (i := 5) (v := ?_) rfl (by kernel_rfl) (by kernel_rfl) (by kernel_rfl) (fun _ _ _ h => h) (Or.inl ⟨by rfl, ?_⟩) (by assumption) ?_
            rotate_left 1
            focus (intro W hSW; (try dsimp only at hSW); go_simp; try with_reducible rfl)
            (try simp only [Act.put, List.setIfInBounds_toArray, List.set_cons_zero, List.set_cons_succ])
            refine wpAnyE_take (i := 6) (v := ?_) rfl (by kernel_rfl) (by kernel_rfl) (by kernel_rfl) (fun _ _ _ h => h) (Or.inl ⟨by rfl, ?_⟩) (by assumption) ?_
            rotate_left 1
            focus (intro W hSW; (try dsimp only at hSW); go_simp; try with_reducible rfl)
            (try simp only [Act.put, List.setIfInBounds_toArray, List.set_cons_zero, List.set_cons_succ])
            refine wpAnyE_take (i := 7) (v := ?_) rfl (by kernel_rfl) (by kernel_rfl) (by kernel_rfl) (fun _ _ _ h => h) (Or.inl ⟨by rfl, ?_⟩) (by assumption) ?_
            rotate_left 1
            focus (intro W hSW; (try dsimp only at hSW); go_simp; try with_reducible rfl)
            (try simp only [Act.put, List.setIfInBounds_toArray, List.set_cons_zero, List.set_cons_succ])
            clear hSS
            have z0 := blk_cell HB.out (j := 0) (v := .slice none 0 0) rfl
            have z1 := blk_cell HB.out (j := 1) (v := .slice none 0 0) rfl
            have f0 := blk_free HB.out 0
            have f1 := blk_free HB.out 1
            refine wpAnyE_one (i := 9) (by kernel_rfl) rfl (fun K hK => ?_)
            have HK := Lib.hid hK
            clear hK
            go_simp
            clear z0 z1 f0 f1
            obtain ⟨w40, hw40⟩ : ∃ W, W = (w24.setCell ⟨bS, 0, none⟩ (.slice ar ys.1.length cr)).setCell ⟨bS, 1, none⟩ (.slice are ys.2.length cre) := ⟨_, rfl⟩
            rw [← hw40]
            have g1 : (w24.setCell ⟨bS, 0, none⟩ (.slice ar ys.1.length cr)).heap[bS]? = some (.cells #[.slice ar ys.1.length cr, .slice none 0 0] 27) := by rw [heap_setCell_same _ _ _ _ _ _ HB.out]; rfl
            have g2 : w40.heap[bS]? = some (.cells #[.slice ar ys.1.length cr, .slice are ys.2.length cre] 27) := by rw [hw40]; exact (heap_setCell_same _ _ _ _ _ _ g1).trans rfl
            have HK40 : Keep bS (bS + 1) w24 w40 := by rw [hw40]; exact (keep_setj9 w24 bS 0 _).trans (keep_setj9 _ bS 1 _)
            have OR40 := Lib.hid (OR.out.keepd HK40 (by omega))
            have X40 := Lib.hid (X24.out.keep HK40 (by omega))
            have HB40 := Lib.hid g2
            have sz40 := HK40.size
            clear hw40 g1 g2 HK40 HB OR
            have hSS : (fun W : World => W.cell? ⟨w.heap.size, 0, none⟩ = some (.slice a0 x0.1.length cap0) ∧ W.cell? ⟨w.heap.size, 1, none⟩ = some (.slice a0e x0.2.length cap0e) ∧ W.cell? ⟨w.heap.size + 1, 0, none⟩ = some (.int .i64 y1) ∧ W.cell? ⟨w.heap.size + 1, 1, none⟩ = some (.int .i64 y2) ∧ W.cell? ⟨w.heap.size + 1, 2, none⟩ = some (.int .i64 y3)) w40 := HS.out _ X40.out
            refine HK.out _ _ (fun _ => hSS) ?_
            clear HK
            refine wpAnyE_take (i := 10) (v := ?_) rfl (by kernel_rfl) (by kernel_rfl) (by kernel_rfl) (fun _ _ _ h => h) (Or.inl ⟨by rfl, ?_⟩) (by assumption) ?_
            rotate_left 1
            focus (intro W hSW; (try dsimp only at hSW); go_simp; try with_reducible rfl)
            (try simp only [Act.put, List.setIfInBounds_toArray, List.set_cons_zero, List.set_cons_succ])
            clear hSS
            refine wpAnyE_done (by kernel_rfl) ?_ _
            try go_simp
            try go_wp2
            go_meet
            case rel => exact ⟨bS, _, _, ar, cr, are, cre, rfl, rfl, HB40.out, OR40.out, by omega, by omega, by omega, by omega, by omega, X40.out⟩
        ·
          have HK := Lib.hid hK
          clear hK
          go_simp
          obtain ⟨w21, hw9⟩ : ∃ W, W = w20.alloc (.cells #[.slice none 0 0, .slice none 0 0] 27) := ⟨_, rfl⟩
          rw [← hw9]
          obtain ⟨bS, hp9⟩ : ∃ p, p = w20.heap.size := ⟨_, rfl⟩
          rw [← hp9]
          have HB : Hid (w21.heap[bS]? = some (.cells #[.slice none 0 0, .slice none 0 0] 27)) := by unfold Hid; rw [hw9, hp9]; exact blk_alloc _ _
          have hx9 : Ext w20 w21 := by rw [hw9]; exact Ext.alloc _ _
          have sb9 := (Array.getElem?_eq_some_iff.1 HB.out).1
          have hb1 : w20.heap.size ≤ bS := by omega
          have hb2 : bS ≤ w20.heap.size := by omega
          clear hp9
          have X21 := Lib.hid (X20.out.trans hx9)
          have sz21 := hx9.size
          clear hSS hx9 hw9
          have hSS : (fun W : World => W.cell? ⟨w.heap.size, 0, none⟩ = some (.slice a0 x0.1.length cap0) ∧ W.cell? ⟨w.heap.size, 1, none⟩ = some (.slice a0e x0.2.length cap0e) ∧ W.cell? ⟨w.heap.size + 1, 0, none⟩ = some (.int .i64 y1) ∧ W.cell? ⟨w.heap.size + 1, 1, none⟩ = some (.int .i64 y2) ∧ W.cell? ⟨w.heap.size + 1, 2, none⟩ = some (.int .i64 y3)) w21 := HS.out _ X21.out
          refine HK.out _ _ (fun _ => hSS) ?_
          clear HK
          refine wpAnyE_one (i := 1) (by kernel_rfl) rfl (fun K hK => ?_)
          have HK := Lib.hid hK
          clear hK
          go_simp
          refine (CT0.out _ (X.out.trans X21.out)).mono ?_
          rintro e w22 ⟨vp, rfl, hp, hx9⟩
          obtain ⟨ap, cp, ape, cpe, rfl, ⟨_, _⟩, _, _⟩ := hp.form
          have OP := Lib.hid hp
          have g9 := Lib.hid (hx9.blk HB.out)
          clear HB
          have HB := g9
          clear g9
          have X22 := Lib.hid (X21.out.trans hx9)
          have sz22 := hx9.size
          clear hSS hx9 hp
          have hSS : (fun W : World => W.cell? ⟨w.heap.size, 0, none⟩ = some (.slice a0 x0.1.length cap0) ∧ W.cell? ⟨w.heap.size, 1, none⟩ = some (.slice a0e x0.2.length cap0e) ∧ W.cell? ⟨w.heap.size + 1, 0, none⟩ = some (.int .i64 y1) ∧ W.cell? ⟨w.heap.size + 1, 1, none⟩ = some (.int .i64 y2) ∧ W.cell? ⟨w.heap.size + 1, 2, none⟩ = some (.int .i64 y3)) w22 := HS.out _ X22.out
          refine HK.out _ _ (fun _ => hSS) ?_
          clear HK
          refine wpAnyE_one (i := 3) (by kernel_rfl) rfl (fun K hK => ?_)
          have HK := Lib.hid hK
          clear hK
          go_simp
          refine (c_toLink y1 y2 y3 _).mono ?_
          rintro e w23 ⟨rfl, hx9⟩
          have g9 := Lib.hid (OP.out.ext hx9)
          clear OP
          have OP := g9
          clear g9
          have g9 := Lib.hid (hx9.blk HB.out)
          clear HB
          have HB := g9
          clear g9
          have X23 := Lib.hid (X22.out.trans hx9)
          have sz23 := hx9.size
          clear hSS hx9 
          have hSS : (fun W : World => W.cell? ⟨w.heap.size, 0, none⟩ = some (.slice a0 x0.1.length cap0) ∧ W.cell? ⟨w.heap.size, 1, none⟩ = some (.slice a0e x0.2.length cap0e) ∧ W.cell? ⟨w.heap.size + 1, 0, none⟩ = some (.int .i64 y1) ∧ W.cell? ⟨w.heap.size + 1, 1, none⟩ = some (.int .i64 y2) ∧ W.cell? ⟨w.heap.size + 1, 2, none⟩ = some (.int .i64 y3)) w23 := HS.out _ X23.out
          refine HK.out _ _ (fun _ => hSS) ?_
          clear HK
          refine wpAnyE_one (i := 4) (by kernel_rfl) rfl (fun K hK => ?_)
          have HK := Lib.hid hK
          clear hK
          go_simp
          refine (CS.out w23 _ _ _ OP.out.read (by omega)).mono ?_
          rintro e w24 ⟨vr, rfl, hr, hx9⟩
          obtain ⟨ar, cr, are, cre, rfl, ⟨_, _⟩, _, _⟩ := hr.form
          have OR := Lib.hid hr
          clear OP
          have g9 := Lib.hid (hx9.blk HB.out)
          clear HB
          have HB := g9
          clear g9
          have X24 := Lib.hid (X23.out.trans hx9)
          have sz24 := hx9.size
          clear hSS hx9 hr
          have hSS : (fun W : World => W.cell? ⟨w.heap.size, 0, none⟩ = some (.slice a0 x0.1.length cap0) ∧ W.cell? ⟨w.heap.size, 1, none⟩ = some (.slice a0e x0.2.length cap0e) ∧ W.cell? ⟨w.heap.size + 1, 0, none⟩ = some (.int .i64 y1) ∧ W.cell? ⟨w.heap.size + 1, 1, none⟩ = some (.int .i64 y2) ∧ W.cell? ⟨w.heap.size + 1, 2, none⟩ = some (.int .i64 y3)) w24 := HS.out _ X24.out
          refine HK.out _ _ (fun _ => hSS) ?_
          clear HK
          refine wpAnyE_take (i := 5) (v := ?_) rfl (by kernel_rfl) (by kernel_rfl) (by kernel_rfl) (fun _ _ _ h => h) (Or.inl ⟨by rfl, ?_⟩) (by assumption) ?_
          rotate_left 1
          focus (intro W hSW; (try dsimp only at hSW); go_simp; try with_reducible rfl)
          (try simp only [Act.put, List.setIfInBounds_toArray, List.set_cons_zero, List.set_cons_succ])
          refine wpAnyE_take (i := 6) (v := ?_) rfl (by kernel_rfl) (by kernel_rfl) (by kernel_rfl) (fun _ _ _ h => h) (Or.inl ⟨by rfl, ?_⟩) (by assumption) ?_
          rotate_left 1
          focus (intro W hSW; (try dsimp only at hSW); go_simp; try with_reducible rfl)
          (try simp only [Act.put, List.setIfInBounds_toArray, List.set_cons_zero, List.set_cons_succ])
          refine wpAnyE_take (i := 7) (v := ?_) rfl (by kernel_rfl) (by kernel_rfl) (by kernel_rfl) (fun _ _ _ h => h) (Or.inl ⟨by rfl, ?_⟩) (by assumption) ?_
          rotate_left 1
          focus (intro W hSW; (try dsimp only at hSW); go_simp; try with_reducible rfl)
          (try simp only [Act.put, List.setIfInBounds_toArray, List.set_cons_zero, List.set_cons_succ])
          clear hSS
          have z0 := blk_cell HB.out (j := 0) (v := .slice none 0 0) rfl
          have z1 := blk_cell HB.out (j := 1) (v := .slice none 0 0) rfl
          have f0 := blk_free HB.out 0
          have f1 := blk_free HB.out 1
          refine wpAnyE_one (i := 9) (by kernel_rfl) rfl (fun K hK => ?_)
          have HK := Lib.hid hK
          clear hK
          go_simp
          clear z0 z1 f0 f1
          obtain ⟨w40, hw40⟩ : ∃ W, W = (w24.setCell ⟨bS, 0, none⟩ (.slice ar ys.1.length cr)).setCell ⟨bS, 1, none⟩ (.slice are ys.2.length cre) := ⟨_, rfl⟩
          rw [← hw40]
          have g1 : (w24.setCell ⟨bS, 0, none⟩ (.slice ar ys.1.length cr)).heap[bS]? = some (.cells #[.slice ar ys.1.length cr, .slice none 0 0] 27) := by rw [heap_setCell_same _ _ _ _ _ _ HB.out]; rfl
          have g2 : w40.heap[bS]? = some (.cells #[.slice ar ys.1.length cr, .slice are ys.2.length cre] 27) := by rw [hw40]; exact (heap_setCell_same _ _ _ _ _ _ g1).trans rfl
          have HK40 : Keep bS (bS + 1) w24 w40 := by rw [hw40]; exact (keep_setj9 w24 bS 0 _).trans (keep_setj9 _ bS 1 _)
          have OR40 := Lib.hid (OR.out.keepd HK40 (by omega))
          have X40 := Lib.hid (X24.out.keep HK40 (by omega))
          have HB40 := Lib.hid g2
          have sz40 := HK40.size
          clear hw40 g1 g2 HK40 HB OR
          have hSS : (fun W : World => W.cell? ⟨w.heap.size, 0, none⟩ = some (.slice a0 x0.1.length cap0) ∧ W.cell? ⟨w.heap.size, 1, none⟩ = some (.slice a0e x0.2.length cap0e) ∧ W.cell? ⟨w.heap.size + 1, 0, none⟩ = some (.int .i64 y1) ∧ W.cell? ⟨w.heap.size + 1, 1, none⟩ = some (.int .i64 y2) ∧ W.cell? ⟨w.heap.size + 1, 2, none⟩ = some (.int .i64 y3)) w40 := HS.out _ X40.out
          refine HK.out _ _ (fun _ => hSS) ?_
          clear HK
          refine wpAnyE_take (i := 10) (v := ?_) rfl (by kernel_rfl) (by kernel_rfl) (by kernel_rfl) (fun _ _ _ h => h) (Or.inl ⟨by rfl, ?_⟩) (by assumption) ?_
          rotate_left 1
          focus (intro W hSW; (try dsimp only at hSW); go_simp; try with_reducible rfl)
          (try simp only [Act.put, List.setIfInBounds_toArray, List.set_cons_zero, List.set_cons_succ])
          clear hSS
          refine wpAnyE_done (by kernel_rfl) ?_ _
          try go_simp
          try go_wp2
          go_meet
          case rel => exact ⟨bS, _, _, ar, cr, are, cre, rfl, rfl, HB40.out, OR40.out, by omega, by omega, by omega, by omega, by omega, X40.out⟩
      case rest =>
        obtain ⟨bs, ls, ts, ads, cds, adse, cdse, rfl, rfl, hB, hs, q1s, q2s, q3s, q4s, q5s, Y⟩ := hcut
        obtain ⟨W4, hW⟩ : ∃ W, W = wc := ⟨_, rfl⟩
        subst hW
        have sbs := (Array.getElem?_eq_some_iff.1 hB).1
        have s4 := Y.size
        have T__ := Lib.hid (X.out.trans Y)
        clear X
        have X := T__
        clear T__
        have T__ := Lib.hid (Y.blk BA0.out)
        clear BA0
        have BA0 := T__
        clear T__
        have T__ := Lib.hid (Y.blk BL1.out)
        clear BL1
        have BL1 := T__
        clear T__
        have Os := Lib.hid hs
        have BS9 := Lib.hid hB
        clear hs hB Y
        have kA00 := blk_cell BA0.out (j := 0) rfl
        have kA01 := blk_cell BA0.out (j := 1) rfl
        have kL10 := blk_cell BL1.out (j := 0) rfl
        have kL11 := blk_cell BL1.out (j := 1) rfl
        have kL12 := blk_cell BL1.out (j := 2) rfl
        have kS90 := blk_cell BS9.out (j := 0) rfl
        have kS91 := blk_cell BS9.out (j := 1) rfl
        go_wp2_with fail
        refine (CT0.out W4 X.out).mono ?_
        rintro e W5 ⟨q0, rfl, hq0, Y⟩
        have s5 := Y.size
        clear kA00 kA01 kL10 kL11 kL12 kS90 kS91
        have T__ := Lib.hid (X.out.trans Y)
        clear X
        have X := T__
        clear T__
        have T__ := Lib.hid (Y.blk BA0.out)
        clear BA0
        have BA0 := T__
        clear T__
        have T__ := Lib.hid (Y.blk BL1.out)
        clear BL1
        have BL1 := T__
        clear T__
        have T__ := Lib.hid (Os.out.ext Y)
        clear Os
        have Os := T__
        clear T__
        have T__ := Lib.hid (Y.blk BS9.out)
        clear BS9
        have BS9 := T__
        clear T__
        have Oq0 := Lib.hid hq0
        obtain ⟨adq0, cdq0, adq0e, cdq0e, rfl, ⟨_, _⟩, _, _⟩ := (Oq0.out.form)
        clear hq0 Y
        have kA00 := blk_cell BA0.out (j := 0) rfl
        have kA01 := blk_cell BA0.out (j := 1) rfl
        have kL10 := blk_cell BL1.out (j := 0) rfl
        have kL11 := blk_cell BL1.out (j := 1) rfl
        have kL12 := blk_cell BL1.out (j := 2) rfl
        have kS90 := blk_cell BS9.out (j := 0) rfl
        have kS91 := blk_cell BS9.out (j := 1) rfl
        have kA00n := (Ext.alloc (W5) (.cells #[.slice adq0 x0.1.length cdq0, .slice adq0e x0.2.length cdq0e] 27)).cell kA00
        have kA01n := (Ext.alloc (W5) (.cells #[.slice adq0 x0.1.length cdq0, .slice adq0e x0.2.length cdq0e] 27)).cell kA01
        have kL10n := (Ext.alloc (W5) (.cells #[.slice adq0 x0.1.length cdq0, .slice adq0e x0.2.length cdq0e] 27)).cell kL10
        have kL11n := (Ext.alloc (W5) (.cells #[.slice adq0 x0.1.length cdq0, .slice adq0e x0.2.length cdq0e] 27)).cell kL11
        have kL12n := (Ext.alloc (W5) (.cells #[.slice adq0 x0.1.length cdq0, .slice adq0e x0.2.length cdq0e] 27)).cell kL12
        have kS90n := (Ext.alloc (W5) (.cells #[.slice adq0 x0.1.length cdq0, .slice adq0e x0.2.length cdq0e] 27)).cell kS90
        have kS91n := (Ext.alloc (W5) (.cells #[.slice adq0 x0.1.length cdq0, .slice adq0e x0.2.length cdq0e] 27)).cell kS91
        go_upto_region 7 with fail
        obtain ⟨W6, hW⟩ : ∃ W, W = W5.alloc (.cells #[.slice adq0 x0.1.length cdq0, .slice adq0e x0.2.length cdq0e] 27) := ⟨_, rfl⟩
        rw [← hW]
        have Y : Ext W5 W6 := by rw [hW]; exact Ext.alloc _ _
        have hB : W6.heap[W5.heap.size]? = some (.cells #[.slice adq0 x0.1.length cdq0, .slice adq0e x0.2.length cdq0e] 27) := by rw [hW]; exact blk_alloc _ _
        clear hW
        have sbQ0 := (Array.getElem?_eq_some_iff.1 hB).1
        have s6 := Y.size
        clear kA00 kA01 kL10 kL11 kL12 kS90 kS91 kA00n kA01n kL10n kL11n kL12n kS90n kS91n
        have T__ := Lib.hid (X.out.trans Y)
        clear X
        have X := T__
        clear T__
        have T__ := Lib.hid (Y.blk BA0.out)
        clear BA0
        have BA0 := T__
        clear T__
        have T__ := Lib.hid (Y.blk BL1.out)
        clear BL1
        have BL1 := T__
        clear T__
        have T__ := Lib.hid (Os.out.ext Y)
        clear Os
        have Os := T__
        clear T__
        have T__ := Lib.hid (Y.blk BS9.out)
        clear BS9
        have BS9 := T__
        clear T__
        have T__ := Lib.hid (Oq0.out.ext Y)
        clear Oq0
        have Oq0 := T__
        clear T__
        have BQ0 := Lib.hid hB
        clear hB Y
        go_cut [9, 10] from 31 to 37 (fun v6 v7 wx => LkRes W6 ys false v6 v7 wx)
        case first =>
          have HS : Hid (∀ W, Ext W6 W → W.cell? ⟨W5.heap.size, 0, none⟩ = some (.slice adq0 x0.1.length cdq0) ∧ W.cell? ⟨W5.heap.size, 1, none⟩ = some (.slice adq0e x0.2.length cdq0e) ∧ W.cell? ⟨w.heap.size + 1, 0, none⟩ = some (.int .i64 y1) ∧ W.cell? ⟨w.heap.size + 1, 1, none⟩ = some (.int .i64 y2) ∧ W.cell? ⟨w.heap.size + 1, 2, none⟩ = some (.int .i64 y3)) := fun W hX => ⟨hX.cell (blk_cell BQ0.out (j := 0) rfl), hX.cell (blk_cell BQ0.out (j := 1) rfl), hX.cell (blk_cell BL1.out (j := 0) rfl), hX.cell (blk_cell BL1.out (j := 1) rfl), hX.cell (blk_cell BL1.out (j := 2) rfl)⟩
          obtain ⟨w20, hw20⟩ : ∃ W, W = (W6).drew := ⟨_, rfl⟩
          have X20 : Hid (Ext W6 w20) := by unfold Hid; rw [hw20]; exact Ext.drew _
          refine wp_region_E (S := fun W => W.cell? ⟨W5.heap.size, 0, none⟩ = some (.slice adq0 x0.1.length cdq0) ∧ W.cell? ⟨W5.heap.size, 1, none⟩ = some (.slice adq0e x0.2.length cdq0e) ∧ W.cell? ⟨w.heap.size + 1, 0, none⟩ = some (.int .i64 y1) ∧ W.cell? ⟨w.heap.size + 1, 1, none⟩ = some (.int .i64 y2) ∧ W.cell? ⟨w.heap.size + 1, 2, none⟩ = some (.int .i64 y3)) (by kernel_rfl) ?_
          rw [← hw20]
          clear hw20
          have sz20 := X20.out.size
          have hSS : (fun W : World => W.cell? ⟨W5.heap.size, 0, none⟩ = some (.slice adq0 x0.1.length cdq0) ∧ W.cell? ⟨W5.heap.size, 1, none⟩ = some (.slice adq0e x0.2.length cdq0e) ∧ W.cell? ⟨w.heap.size + 1, 0, none⟩ = some (.int .i64 y1) ∧ W.cell? ⟨w.heap.size + 1, 1, none⟩ = some (.int .i64 y2) ∧ W.cell? ⟨w.heap.size + 1, 2, none⟩ = some (.int .i64 y3)) w20 := HS.out _ X20.out
          have OP := Lib.hid (Oq0.out.ext X20.out)
          refine wpAnyE_take (i := 0) (v := ?_) rfl (by kernel_rfl) (by kernel_rfl) (by kernel_rfl) (fun _ _ _ h => h) (Or.inl ⟨by rfl, ?_⟩) (by assumption) ?_
          rotate_left 1
          focus (intro W hSW; (try dsimp only at hSW); go_simp; try with_reducible rfl)
          (try simp only [Act.put, List.setIfInBounds_toArray, List.set_cons_zero, List.set_cons_succ])
          refine wpAnyE_take (i := 1) (v := ?_) rfl (by kernel_rfl) (by kernel_rfl) (by kernel_rfl) (fun _ _ _ h => h) (Or.inl ⟨by rfl, ?_⟩) (by assumption) ?_
          rotate_left 1
          focus (intro W hSW; (try dsimp only at hSW); go_simp; try with_reducible rfl)
          (try simp only [Act.put, List.setIfInBounds_toArray, List.set_cons_zero, List.set_cons_succ])
          refine wpAnyE_pair (i := 2) (j := 7) (by kernel_rfl) rfl rfl (fun K hK => ?_) (fun K hK => ?_)
          ·
            have HK := Lib.hid hK
            clear hK
            go_simp
            refine (c_toLink y1 y2 y3 _).mono ?_
            rintro e w21 ⟨rfl, hx9⟩
            have g9 := Lib.hid (OP.out.ext hx9)
            clear OP
            have OP := g9
            clear g9
            have X21 := Lib.hid (X20.out.trans hx9)
            have sz21 := hx9.size
            clear hSS hx9 
            have hSS : (fun W : World => W.cell? ⟨W5.heap.size, 0, none⟩ = some (.slice adq0 x0.1.length cdq0) ∧ W.cell? ⟨W5.heap.size, 1, none⟩ = some (.slice adq0e x0.2.length cdq0e) ∧ W.cell? ⟨w.heap.size + 1, 0, none⟩ = some (.int .i64 y1) ∧ W.cell? ⟨w.heap.size + 1, 1, none⟩ = some (.int .i64 y2) ∧ W.cell? ⟨w.heap.size + 1, 2, none⟩ = some (.int .i64 y3)) w21 := HS.out _ X21.out
            refine HK.out _ _ (fun _ => hSS) ?_
            clear HK
            refine wpAnyE_pair (i := 3) (j := 7) (by kernel_rfl) rfl rfl (fun K hK => ?_) (fun K hK => ?_)
            ·
              have HK := Lib.hid hK
              clear hK
              go_simp
              refine (CI.out w21 _ _ _ OP.out.read (by omega)).mono ?_
              rintro e w22 ⟨vr, rfl, hr, hx9⟩
              obtain ⟨ar, cr, are, cre, rfl, ⟨_, _⟩, _, _⟩ := hr.form
              have OR := Lib.hid hr
              clear OP
              have X22 := Lib.hid (X21.out.trans hx9)
              have sz22 := hx9.size
              clear hSS hx9 hr
              have hSS : (fun W : World => W.cell? ⟨W5.heap.size, 0, none⟩ = some (.slice adq0 x0.1.length cdq0) ∧ W.cell? ⟨W5.heap.size, 1, none⟩ = some (.slice adq0e x0.2.length cdq0e) ∧ W.cell? ⟨w.heap.size + 1, 0, none⟩ = some (.int .i64 y1) ∧ W.cell? ⟨w.heap.size + 1, 1, none⟩ = some (.int .i64 y2) ∧ W.cell? ⟨w.heap.size + 1, 2, none⟩ = some (.int .i64 y3)) w22 := HS.out _ X22.out
              refine HK.out _ _ (fun _ => hSS) ?_
              clear HK
              refine wpAnyE_take (i := 4) (v := ?_) rfl (by kernel_rfl) (by kernel_rfl) (by kernel_rfl) (fun _ _ _ h => h) (Or.inl ⟨by rfl, ?_⟩) (by assumption) ?_
              rotate_left 1
              focus (intro W hSW; (try dsimp only at hSW); go_simp; try with_reducible rfl)
              (try simp only [Act.put, List.setIfInBounds_toArray, List.set_cons_zero, List.set_cons_succ])
              refine wpAnyE_take (i := 5) (v := ?_) rfl (by kernel_rfl) (by kernel_rfl) (by kernel_rfl) (fun _ _ _ h => h) (Or.inl ⟨by rfl, ?_⟩) (by assumption) ?_
              rotate_left 1
              focus (intro W hSW; (try dsimp only at hSW); go_simp; try with_reducible rfl)
              (try simp only [Act.put, List.setIfInBounds_toArray, List.set_cons_zero, List.set_cons_succ])
              refine wpAnyE_take (i := 6) (v := ?_) rfl (by kernel_rfl) (by kernel_rfl) (by kernel_rfl) (fun _ _ _ h => h) (Or.inl ⟨by rfl, ?_⟩) (by assumption) ?_
              rotate_left 1
              focus (intro W hSW; (try dsimp only at hSW); go_simp; try with_reducible rfl)
              (try simp only [Act.put, List.setIfInBounds_toArray, List.set_cons_zero, List.set_cons_succ])
              refine wpAnyE_one (i := 7) (by kernel_rfl) rfl (fun K hK => ?_)
              have HK := Lib.hid hK
              clear hK
              go_simp
              obtain ⟨w23, hw9⟩ : ∃ W, W = w22.alloc (.cells #[.slice none 0 0, .slice none 0 0] 27) := ⟨_, rfl⟩
              rw [← hw9]
              obtain ⟨bS, hp9⟩ : ∃ p, p = w22.heap.size := ⟨_, rfl⟩
              rw [← hp9]
              have HB : Hid (w23.heap[bS]? = some (.cells #[.slice none 0 0, .slice none 0 0] 27)) := by unfold Hid; rw [hw9, hp9]; exact blk_alloc _ _
              have hx9 : Ext w22 w23 := by rw [hw9]; exact Ext.alloc _ _
              have sb9 := (Array.getElem?_eq_some_iff.1 HB.out).1
              have hb1 : w22.heap.size ≤ bS := by omega
              have hb2 : bS ≤ w22.heap.size := by omega
              clear hp9
              have g9 := Lib.hid (OR.out.ext hx9)
              clear OR
              have OR := g9
              clear g9
              have X23 := Lib.hid (X22.out.trans hx9)
              have sz23 := hx9.size
              clear hSS hx9 hw9
              have hSS : (fun W : World => W.cell? ⟨W5.heap.size, 0, none⟩ = some (.slice adq0 x0.1.length cdq0) ∧ W.cell? ⟨W5.heap.size, 1, none⟩ = some (.slice adq0e x0.2.length cdq0e) ∧ W.cell? ⟨w.heap.size + 1, 0, none⟩ = some (.int .i64 y1) ∧ W.cell? ⟨w.heap.size + 1, 1, none⟩ = some (.int .i64 y2) ∧ W.cell? ⟨w.heap.size + 1, 2, none⟩ = some (.int .i64 y3)) w23 := HS.out _ X23.out
              refine HK.out _ _ (fun _ => hSS) ?_
              clear HK
              clear hSS
              have z0 := blk_cell HB.out (j := 0) (v := .slice none 0 0) rfl
              have z1 := blk_cell HB.out (j := 1) (v := .slice none 0 0) rfl
              have f0 := blk_free HB.out 0
              have f1 := blk_free HB.out 1
              refine wpAnyE_one (i := 8) (by kernel_rfl) rfl (fun K hK => ?_)
              have HK := Lib.hid hK
              clear hK
              go_simp
              clear z0 z1 f0 f1
              obtain ⟨w40, hw40⟩ : ∃ W, W = (w23.setCell ⟨bS, 0, none⟩ (.slice ar ys.1.length cr)).setCell ⟨bS, 1, none⟩ (.slice are ys.2.length cre) := ⟨_, rfl⟩
              rw [← hw40]
              have g1 : (w23.setCell ⟨bS, 0, none⟩ (.slice ar ys.1.length cr)).heap[bS]? = some (.cells #[.slice ar ys.1.length cr, .slice none 0 0] 27) := by rw [heap_setCell_same _ _ _ _ _ _ HB.out]; rfl
              have g2 : w40.heap[bS]? = some (.cells #[.slice ar ys.1.length cr, .slice are ys.2.length cre] 27) := by rw [hw40]; exact (heap_setCell_same _ _ _ _ _ _ g1).trans rfl
              have HK40 : Keep bS (bS + 1) w23 w40 := by rw [hw40]; exact (keep_setj9 w23 bS 0 _).trans (keep_setj9 _ bS 1 _)
              have OR40 := Lib.hid (OR.out.keepd HK40 (by omega))
              have X40 := Lib.hid (X23.out.keep HK40 (by omega))
              have HB40 := Lib.hid g2
              have sz40 := HK40.size
              clear hw40 g1 g2 HK40 HB OR
              have hSS : (fun W : World => W.cell? ⟨W5.heap.size, 0, none⟩ = some (.slice adq0 x0.1.length cdq0) ∧ W.cell? ⟨W5.heap.size, 1, none⟩ = some (.slice adq0e x0.2.length cdq0e) ∧ W.cell? ⟨w.heap.size + 1, 0, none⟩ = some (.int .i64 y1) ∧ W.cell? ⟨w.heap.size + 1, 1, none⟩ = some (.int .i64 y2) ∧ W.cell? ⟨w.heap.size + 1, 2, none⟩ = some (.int .i64 y3)) w40 := HS.out _ X40.out
              refine HK.out _ _ (fun _ => hSS) ?_
              clear HK
              refine wpAnyE_take (i := 9) (v := ?_) rfl (by kernel_rfl) (by kernel_rfl) (by kernel_rfl) (fun _ _ _ h => h) (Or.inl ⟨by rfl, ?_⟩) (by assumption) ?_
              rotate_left 1
              focus (intro W hSW; (try dsimp only at hSW); go_simp; try with_reducible rfl)
              (try simp only [Act.put, List.setIfInBounds_toArray, List.set_cons_zero, List.set_cons_succ])
              clear hSS
              refine wpAnyE_done (by kernel_rfl) ?_ _
              try go_simp
              try go_wp2
              go_meet
              case rel => exact ⟨bS, _, _, ar, cr, are, cre, rfl, rfl, HB40.out, OR40.out, by omega, by omega, by omega, by omega, by omega, X40.out⟩
            ·
              have HK := Lib.hid hK
              clear hK
              go_simp
              obtain ⟨w22, hw9⟩ : ∃ W, W = w21.alloc (.cells #[.slice none 0 0, .slice none 0 0] 27) := ⟨_, rfl⟩
              rw [← hw9]
              obtain ⟨bS, hp9⟩ : ∃ p, p = w21.heap.size := ⟨_, rfl⟩
              rw [← hp9]
              have HB : Hid (w22.heap[bS]? = some (.cells #[.slice none 0 0, .slice none 0 0] 27)) := by unfold Hid; rw [hw9, hp9]; exact blk_alloc _ _
              have hx9 : Ext w21 w22 := by rw [hw9]; exact Ext.alloc _ _
              have sb9 := (Array.getElem?_eq_some_iff.1 HB.out).1
              have hb1 : w21.heap.size ≤ bS := by omega
              have hb2 : bS ≤ w21.heap.size := by omega
              clear hp9
              have g9 := Lib.hid (OP.out.ext hx9)
              clear OP
              have OP := g9
              clear g9
              have X22 := Lib.hid (X21.out.trans hx9)
              have sz22 := hx9.size
              clear hSS hx9 hw9
              have hSS : (fun W : World => W.cell? ⟨W5.heap.size, 0, none⟩ = some (.slice adq0 x0.1.length cdq0) ∧ W.cell? ⟨W5.heap.size, 1, none⟩ = some (.slice adq0e x0.2.length cdq0e) ∧ W.cell? ⟨w.heap.size + 1, 0, none⟩ = some (.int .i64 y1) ∧ W.cell? ⟨w.heap.size + 1, 1, none⟩ = some (.int .i64 y2) ∧ W.cell? ⟨w.heap.size + 1, 2, none⟩ = some (.int .i64 y3)) w22 := HS.out _ X22.out
              refine HK.out _ _ (fun _ => hSS) ?_
              clear HK
              refine wpAnyE_one (i := 3) (by kernel_rfl) rfl (fun K hK => ?_)
              have HK := Lib.hid hK
              clear hK
              go_simp
              refine (CI.out w22 _ _ _ OP.out.read (by omega)).mono ?_
              rintro e w23 ⟨vr, rfl, hr, hx9⟩
              obtain ⟨ar, cr, are, cre, rfl, ⟨_, _⟩, _, _⟩ := hr.form
              have OR := Lib.hid hr
              clear OP
              have g9 := Lib.hid (hx9.blk HB.out)
              clear HB
              have HB := g9
              clear g9
              have X23 := Lib.hid (X22.out.trans hx9)
              have sz23 := hx9.size
              clear hSS hx9 hr
              have hSS : (fun W : World => W.cell? ⟨W5.heap.size, 0, none⟩ = some (.slice adq0 x0.1.length cdq0) ∧ W.cell? ⟨W5.heap.size, 1, none⟩ = some (.slice adq0e x0.2.length cdq0e) ∧ W.cell? ⟨w.heap.size + 1, 0, none⟩ = some (.int .i64 y1) ∧ W.cell? ⟨w.heap.size + 1, 1, none⟩ = some (.int .i64 y2) ∧ W.cell? ⟨w.heap.size + 1, 2, none⟩ = some (.int .i64 y3)) w23 := HS.out _ X23.out
              refine HK.out _ _ (fun _ => hSS) ?_
              clear HK
              refine wpAnyE_take (i := 4) (v := ?_) rfl (by kernel_rfl) (by kernel_rfl) (by kernel_rfl) (fun _ _ _ h => h) (Or.inl ⟨by rfl, ?_⟩) (by assumption) ?_
              rotate_left 1
              focus (intro W hSW; (try dsimp only at hSW); go_simp; try with_reducible rfl)
              (try simp only [Act.put, List.setIfInBounds_toArray, List.set_cons_zero, List.set_cons_succ])
              refine wpAnyE_take (i := 5) (v := ?_) rfl (by kernel_rfl) (by kernel_rfl) (by kernel_rfl) (fun _ _ _ h => h) (Or.inl ⟨by rfl, ?_⟩) (by assumption) ?_
              rotate_left 1
              focus (intro W hSW; (try dsimp only at hSW); go_simp; try with_reducible rfl)
              (try simp only [Act.put, List.setIfInBounds_toArray, List.set_cons_zero, List.set_cons_succ])
              refine wpAnyE_take (i := 6) (v := ?_) rfl (by kernel_rfl) (by kernel_rfl) (by kernel_rfl) (fun _ _ _ h => h) (Or.inl ⟨by rfl, ?_⟩) (by assumption) ?_
              rotate_left 1
              focus (intro W hSW; (try dsimp only at hSW); go_simp; try with_reducible rfl)
              (try simp only [Act.put, List.setIfInBounds_toArray, List.set_cons_zero, List.set_cons_succ])
              clear hSS
              have z0 := blk_cell HB.out (j := 0) (v := .slice none 0 0) rfl
              have z1 := blk_cell HB.out (j := 1) (v := .slice none 0 0) rfl
              have f0 := blk_free HB.out 0
              have f1 := blk_free HB.out 1
              refine wpAnyE_one (i := 8) (by kernel_rfl) rfl (fun K hK => ?_)
              have HK := Lib.hid hK
              clear hK
              go_simp
              clear z0 z1 f0 f1
              obtain ⟨w40, hw40⟩ : ∃ W, W = (w23.setCell ⟨bS, 0, none⟩ (.slice ar ys.1.length cr)).setCell ⟨bS, 1, none⟩ (.slice are ys.2.length cre) := ⟨_, rfl⟩
              rw [← hw40]
              have g1 : (w23.setCell ⟨bS, 0, none⟩ (.slice ar ys.1.length cr)).heap[bS]? = some (.cells #[.slice ar ys.1.length cr, .slice none 0 0] 27) := by rw [heap_setCell_same _ _ _ _ _ _ HB.out]; rfl
              have g2 : w40.heap[bS]? = some (.cells #[.slice ar ys.1.length cr, .slice are ys.2.length cre] 27) := by rw [hw40]; exact (heap_setCell_same _ _ _ _ _ _ g1).trans rfl
              have HK40 : Keep bS (bS + 1) w23 w40 := by rw [hw40]; exact (keep_setj9 w23 bS 0 _).trans (keep_setj9 _ bS 1 _)
              have OR40 := Lib.hid (OR.out.keepd HK40 (by omega))
              have X40 := Lib.hid (X23.out.keep HK40 (by omega))
              have HB40 := Lib.hid g2
              have sz40 := HK40.size
              clear hw40 g1 g2 HK40 HB OR
              have hSS : (fun W : World => W.cell? ⟨W5.heap.size, 0, none⟩ = some (.slice adq0 x0.1.length cdq0) ∧ W.cell? ⟨W5.heap.size, 1, none⟩ = some (.slice adq0e x0.2.length cdq0e) ∧ W.cell? ⟨w.heap.size + 1, 0, none⟩ = some (.int .i64 y1) ∧ W.cell? ⟨w.heap.size + 1, 1, none⟩ = some (.int .i64 y2) ∧ W.cell? ⟨w.heap.size + 1, 2, none⟩ = some (.int .i64 y3)) w40 := HS.out _ X40.out
              refine HK.out _ _ (fun _ => hSS) ?_
              clear HK
              refine wpAnyE_take (i := 9) (v := ?_) rfl (by kernel_rfl) (by kernel_rfl) (by kernel_rfl) (fun _ _ _ h => h) (Or.inl ⟨by rfl, ?_⟩) (by assumption) ?_
              rotate_left 1
              focus (intro W hSW; (try dsimp only at hSW); go_simp; try with_reducible rfl)
              (try simp only [Act.put, List.setIfInBounds_toArray, List.set_cons_zero, List.set_cons_succ])
              clear hSS
              refine wpAnyE_done (by kernel_rfl) ?_ _
              try go_simp
              try go_wp2
              go_meet
              case rel => exact ⟨bS, _, _, ar, cr, are, cre, rfl, rfl, HB40.out, OR40.out, by omega, by omega, by omega, by omega, by omega, X40.out⟩
          ·
            have HK := Lib.hid hK
            clear hK
            go_simp
            obtain ⟨w21, hw9⟩ : ∃ W, W = w20.alloc (.cells #[.slice none 0 0, .slice none 0 0] 27) := ⟨_, rfl⟩
            rw [← hw9]
            obtain ⟨bS, hp9⟩ : ∃ p, p = w20.heap.size := ⟨_, rfl⟩
            rw [← hp9]
            have HB : Hid (w21.heap[bS]? = some (.cells #[.slice none 0 0, .slice none 0 0] 27)) := by unfold Hid; rw [hw9, hp9]; exact blk_alloc _ _
            have hx9 : Ext w20 w21 := by rw [hw9]; exact Ext.alloc _ _
            have sb9 := (Array.getElem?_eq_some_iff.1 HB.out).1
            have hb1 : w20.heap.size ≤ bS := by omega
            have hb2 : bS ≤ w20.heap.size := by omega
            clear hp9
            have g9 := Lib.hid (OP.out.ext hx9)
            clear OP
            have OP := g9
            clear g9
            have X21 := Lib.hid (X20.out.trans hx9)
            have sz21 := hx9.size
            clear hSS hx9 hw9
            have hSS : (fun W : World => W.cell? ⟨W5.heap.size, 0, none⟩ = some (.slice adq0 x0.1.length cdq0) ∧ W.cell? ⟨W5.heap.size, 1, none⟩ = some (.slice adq0e x0.2.length cdq0e) ∧ W.cell? ⟨w.heap.size + 1, 0, none⟩ = some (.int .i64 y1) ∧ W.cell? ⟨w.heap.size + 1, 1, none⟩ = some (.int .i64 y2) ∧ W.cell? ⟨w.heap.size + 1, 2, none⟩ = some (.int .i64 y3)) w21 := HS.out _ X21.out
            refine HK.out _ _ (fun _ => hSS) ?_
            clear HK
            refine wpAnyE_one (i := 2) (by kernel_rfl) rfl (fun K hK => ?_)
            have HK := Lib.hid hK
            clear hK
            go_simp
            refine (c_toLink y1 y2 y3 _).mono ?_
            rintro e w22 ⟨rfl, hx9⟩
            have g9 := Lib.hid (OP.out.ext hx9)
            clear OP
            have OP := g9
            clear g9
            have g9 := Lib.hid (hx9.blk HB.out)
            clear HB
            have HB := g9
            clear g9
            have X22 := Lib.hid (X21.out.trans hx9)
            have sz22 := hx9.size
            clear hSS hx9 
            have hSS : (fun W : World => W.cell? ⟨W5.heap.size, 0, none⟩ = some (.slice adq0 x0.1.length cdq0) ∧ W.cell? ⟨W5.heap.size, 1, none⟩ = some (.slice adq0e x0.2.length cdq0e) ∧ W.cell? ⟨w.heap.size + 1, 0, none⟩ = some (.int .i64 y1) ∧ W.cell? ⟨w.heap.size + 1, 1, none⟩ = some (.int .i64 y2) ∧ W.cell? ⟨w.heap.size + 1, 2, none⟩ = some (.int .i64 y3)) w22 := HS.out _ X22.out
            refine HK.out _ _ (fun _ => hSS) ?_
            clear HK
            refine wpAnyE_one (i := 3) (by kernel_rfl) rfl (fun K hK => ?_)
            have HK := Lib.hid hK
            clear hK
            go_simp
            refine (CI.out w22 _ _ _ OP.out.read (by omega)).mono ?_
            rintro e w23 ⟨vr, rfl, hr, hx9⟩
            obtain ⟨ar, cr, are, cre, rfl, ⟨_, _⟩, _, _⟩ := hr.form
            have OR := Lib.hid hr
            clear OP
            have g9 := Lib.hid (hx9.blk HB.out)
            clear HB
            have HB := g9
            clear g9
            have X23 := Lib.hid (X22.out.trans hx9)
            have sz23 := hx9.size
            clear hSS hx9 hr
            have hSS : (fun W : World => W.cell? ⟨W5.heap.size, 0, none⟩ = some (.slice adq0 x0.1.length cdq0) ∧ W.cell? ⟨W5.heap.size, 1, none⟩ = some (.slice adq0e x0.2.length cdq0e) ∧ W.cell? ⟨w.heap.size + 1, 0, none⟩ = some (.int .i64 y1) ∧ W.cell? ⟨w.heap.size + 1, 1, none⟩ = some (.int .i64 y2) ∧ W.cell? ⟨w.heap.size + 1, 2, none⟩ = some (.int .i64 y3)) w23 := HS.out _ X23.out
            refine HK.out _ _ (fun _ => hSS) ?_
            clear HK
            refine wpAnyE_take (i := 4) (v := ?_) rfl (by kernel_rfl) (by kernel_rfl) (by kernel_rfl) (fun _ _ _ h => h) (Or.inl ⟨by rfl, ?_⟩) (by assumption) ?_
            rotate_left 1
            focus (intro W hSW; (try dsimp only at hSW); go_simp; try with_reducible rfl)
            (try simp only [Act.put, List.setIfInBounds_toArray, List.set_cons_zero, List.set_cons_succ])
            refine wpAnyE_take (i := 5) (v := ?_) rfl (by kernel_rfl) (by kernel_rfl) (by kernel_rfl) (fun _ _ _ h => h) (Or.inl ⟨by rfl, ?_⟩) (by assumption) ?_
            rotate_left 1
            focus (intro W hSW; (try dsimp only at hSW); go_simp; try with_reducible rfl)
            (try simp only [Act.put, List.setIfInBounds_toArray, List.set_cons_zero, List.set_cons_succ])
            refine wpAnyE_take (i := 6) (v := ?_) rfl (by kernel_rfl) (by kernel_rfl) (by kernel_rfl) (fun _ _ _ h => h) (Or.inl ⟨by rfl, ?_⟩) (by assumption) ?_
            rotate_left 1
            focus (intro W hSW; (try dsimp only at hSW); go_simp; try with_reducible rfl)
            (try simp only [Act.put, List.setIfInBounds_toArray, List.set_cons_zero, List.set_cons_succ])
            clear hSS
            have z0 := blk_cell HB.out (j := 0) (v := .slice none 0 0) rfl
            have z1 := blk_cell HB.out (j := 1) (v := .slice none 0 0) rfl
            have f0 := blk_free HB.out 0
            have f1 := blk_free HB.out 1
            refine wpAnyE_one (i := 8) (by kernel_rfl) rfl (fun K hK => ?_)
            have HK := Lib.hid hK
            clear hK
            go_simp
            clear z0 z1 f0 f1
            obtain ⟨w40, hw40⟩ : ∃ W, W = (w23.setCell ⟨bS, 0, none⟩ (.slice ar ys.1.length cr)).setCell ⟨bS, 1, none⟩ (.slice are ys.2.length cre) := ⟨_, rfl⟩
            rw [← hw40]
            have g1 : (w23.setCell ⟨bS, 0, none⟩ (.slice ar ys.1.length cr)).heap[bS]? = some (.cells #[.slice ar ys.1.length cr, .slice none 0 0] 27) := by rw [heap_setCell_same _ _ _ _ _ _ HB.out]; rfl
            have g2 : w40.heap[bS]? = some (.cells #[.slice ar ys.1.length cr, .slice are ys.2.length cre] 27) := by rw [hw40]; exact (heap_setCell_same _ _ _ _ _ _ g1).trans rfl
            have HK40 : Keep bS (bS + 1) w23 w40 := by rw [hw40]; exact (keep_setj9 w23 bS 0 _).trans (keep_setj9 _ bS 1 _)
            have OR40 := Lib.hid (OR.out.keepd HK40 (by omega))
            have X40 := Lib.hid (X23.out.keep HK40 (by omega))
            have HB40 := Lib.hid g2
            have sz40 := HK40.size
            clear hw40 g1 g2 HK40 HB OR
            have hSS : (fun W : World => W.cell? ⟨W5.heap.size, 0, none⟩ = some (.slice adq0 x0.1.length cdq0) ∧ W.cell? ⟨W5.heap.size, 1, none⟩ = some (.slice adq0e x0.2.length cdq0e) ∧ W.cell? ⟨w.heap.size + 1, 0, none⟩ = some (.int .i64 y1) ∧ W.cell? ⟨w.heap.size + 1, 1, none⟩ = some (.int .i64 y2) ∧ W.cell? ⟨w.heap.size + 1, 2, none⟩ = some (.int .i64 y3)) w40 := HS.out _ X40.out
            refine HK.out _ _ (fun _ => hSS) ?_
            clear HK
            refine wpAnyE_take (i := 9) (v := ?_) rfl (by kernel_rfl) (by kernel_rfl) (by kernel_rfl) (fun _ _ _ h => h) (Or.inl ⟨by rfl, ?_⟩) (by assumption) ?_
            rotate_left 1
            focus (intro W hSW; (try dsimp only at hSW); go_simp; try with_reducible rfl)
            (try simp only [Act.put, List.setIfInBounds_toArray, List.set_cons_zero, List.set_cons_succ])
            clear hSS
            refine wpAnyE_done (by kernel_rfl) ?_ _
            try go_simp
            try go_wp2
            go_meet
            case rel => exact ⟨bS, _, _, ar, cr, are, cre, rfl, rfl, HB40.out, OR40.out, by omega, by omega, by omega, by omega, by omega, X40.out⟩
        case rest =>
          obtain ⟨bg, lg, tg, adg, cdg, adge, cdge, rfl, rfl, hB, hg, q1g, q2g, q3g, q4g, q5g, Y⟩ := hcut
          obtain ⟨W7, hW⟩ : ∃ W, W = wc := ⟨_, rfl⟩
          subst hW
          have sbg := (Array.getElem?_eq_some_iff.1 hB).1
          have s7 := Y.size
          have T__ := Lib.hid (X.out.trans Y)
          clear X
          have X := T__
          clear T__
          have T__ := Lib.hid (Y.blk BA0.out)
          clear BA0
          have BA0 := T__
          clear T__
          have T__ := Lib.hid (Y.blk BL1.out)
          clear BL1
          have BL1 := T__
          clear T__
          have T__ := Lib.hid (Os.out.ext Y)
          clear Os
          have Os := T__
          clear T__
          have T__ := Lib.hid (Y.blk BS9.out)
          clear BS9
          have BS9 := T__
          clear T__
          have T__ := Lib.hid (Oq0.out.ext Y)
          clear Oq0
          have Oq0 := T__
          clear T__
          have T__ := Lib.hid (Y.blk BQ0.out)
          clear BQ0
          have BQ0 := T__
          clear T__
          have Og := Lib.hid hg
          have BG9 := Lib.hid hB
          clear hg hB Y
          have kA00 := blk_cell BA0.out (j := 0) rfl
          have kA01 := blk_cell BA0.out (j := 1) rfl
          have kL10 := blk_cell BL1.out (j := 0) rfl
          have kL11 := blk_cell BL1.out (j := 1) rfl
          have kL12 := blk_cell BL1.out (j := 2) rfl
          have kS90 := blk_cell BS9.out (j := 0) rfl
          have kS91 := blk_cell BS9.out (j := 1) rfl
          have kQ00 := blk_cell BQ0.out (j := 0) rfl
          have kQ01 := blk_cell BQ0.out (j := 1) rfl
          have kG90 := blk_cell BG9.out (j := 0) rfl
          have kG91 := blk_cell BG9.out (j := 1) rfl
          go_wp2_with fail
          refine (c_eqNet _ _ _ _ _ _ ys ys W7 Og.out.read Os.out.read (by omega) (by omega)).mono ?_
          rw [decide_eq_true rfl]
          rintro e W8 ⟨rfl, Y⟩
          have s8 := Y.size
          clear kA00 kA01 kL10 kL11 kL12 kS90 kS91 kQ00 kQ01 kG90 kG91
          have T__ := Lib.hid (X.out.trans Y)
          clear X
          have X := T__
          clear T__
          have T__ := Lib.hid (Y.blk BA0.out)
          clear BA0
          have BA0 := T__
          clear T__
          have T__ := Lib.hid (Y.blk BL1.out)
          clear BL1
          have BL1 := T__
          clear T__
          have T__ := Lib.hid (Os.out.ext Y)
          clear Os
          have Os := T__
          clear T__
          have T__ := Lib.hid (Y.blk BS9.out)
          clear BS9
          have BS9 := T__
          clear T__
          have T__ := Lib.hid (Oq0.out.ext Y)
          clear Oq0
          have Oq0 := T__
          clear T__
          have T__ := Lib.hid (Y.blk BQ0.out)
          clear BQ0
          have BQ0 := T__
          clear T__
          have T__ := Lib.hid (Og.out.ext Y)
          clear Og
          have Og := T__
          clear T__
          have T__ := Lib.hid (Y.blk BG9.out)
          clear BG9
          have BG9 := T__
          clear T__
          clear Y
          have kA00 := blk_cell BA0.out (j := 0) rfl
          have kA01 := blk_cell BA0.out (j := 1) rfl
          have kL10 := blk_cell BL1.out (j := 0) rfl
          have kL11 := blk_cell BL1.out (j := 1) rfl
          have kL12 := blk_cell BL1.out (j := 2) rfl
          have kS90 := blk_cell BS9.out (j := 0) rfl
          have kS91 := blk_cell BS9.out (j := 1) rfl
          have kQ00 := blk_cell BQ0.out (j := 0) rfl
          have kQ01 := blk_cell BQ0.out (j := 1) rfl
          have kG90 := blk_cell BG9.out (j := 0) rfl
          have kG91 := blk_cell BG9.out (j := 1) rfl
          go_wp2_with fail
          have TS : Hid (∀ W, Ext W8 W → Calls Try.prog 28 #[.agg #[.slice a0 x0.1.length cap0, .slice a0e x0.2.length cap0e]] W fun e w' => ∃ a3 c3 a3e c3e, e = .returned (.agg #[.slice a3 x0.1.length c3, .slice a3e x0.2.length c3e]) ∧ Nets w' W.heap.size w'.heap.size (.agg #[.slice a3 x0.1.length c3, .slice a3e x0.2.length c3e]) x0 ∧ Ext W8 w') := fun W hX =>
            (CT0.out W (X.out.trans hX)).mono fun e w' ⟨v, he, ho, hx⟩ => by
              obtain ⟨a3, c3, a3e, c3e, rfl, _⟩ := ho.form
              exact ⟨a3, c3, a3e, c3e, he, ho.read, hX.trans hx⟩
          have ES : Hid (∀ W a3 c3 a3e c3e lo, Ext W8 W → Nets W lo W.heap.size (.agg #[.slice a3 x0.1.length c3, .slice a3e x0.2.length c3e]) x0 → Calls Try.prog 29 #[.agg #[.slice adq0 x0.1.length cdq0, .slice adq0e x0.2.length cdq0e], .agg #[.slice a3 x0.1.length c3, .slice a3e x0.2.length c3e]] W fun e w' => e = .returned (.bool true) ∧ Ext W8 w') := fun W a3 c3 a3e c3e lo hX hg =>
            (c_eqNet _ _ _ _ _ _ x0 x0 W (Oq0.out.ext hX).read hg (by have := hX.size; omega) (Nat.le_refl _)).mono fun e w' ⟨he, hx⟩ => ⟨by rw [he, decide_eq_true rfl], hX.trans hx⟩
          go_region_held3 (fun w' => Ext W8 w' ∧ w'.cell? ⟨w.heap.size, 0, none⟩ = some (.slice a0 x0.1.length cap0) ∧ w'.cell? ⟨w.heap.size, 1, none⟩ = some (.slice a0e x0.2.length cap0e) ∧ w'.cell? ⟨W5.heap.size, 0, none⟩ = some (.slice adq0 x0.1.length cdq0) ∧ w'.cell? ⟨W5.heap.size, 1, none⟩ = some (.slice adq0e x0.2.length cdq0e))
            (first | exact ⟨Ext.drew _, kA00, kA01, kQ00, kQ01⟩ | exact ⟨hxs, hxs.cell kA00, hxs.cell kA01, hxs.cell kQ00, hxs.cell kQ01⟩)
            (first | (go_at_call 28; refine (TS.out _ (Ext.drew _)).mono ?_; rintro e w3 ⟨a3, c3, a3e, c3e, rfl, hg3, hxs⟩) | (go_at_call 29; refine (ES.out _ _ _ _ _ _ hxs hg3).mono ?_; rintro e w3 ⟨rfl, hxs⟩))
          obtain ⟨W9, hW⟩ : ∃ W, W = w3 := ⟨_, rfl⟩
          subst hW
          have Y : Ext W8 W9 := hxs
          have s9 := Y.size
          clear kA00 kA01 kL10 kL11 kL12 kS90 kS91 kQ00 kQ01 kG90 kG91
          have T__ := Lib.hid (X.out.trans Y)
          clear X
          have X := T__
          clear T__
          have T__ := Lib.hid (Y.blk BA0.out)
          clear BA0
          have BA0 := T__
          clear T__
          have T__ := Lib.hid (Y.blk BL1.out)
          clear BL1
          have BL1 := T__
          clear T__
          have T__ := Lib.hid (Os.out.ext Y)
          clear Os
          have Os := T__
          clear T__
          have T__ := Lib.hid (Y.blk BS9.out)
          clear BS9
          have BS9 := T__
          clear T__
          have T__ := Lib.hid (Oq0.out.ext Y)
          clear Oq0
          have Oq0 := T__
          clear T__
          have T__ := Lib.hid (Y.blk BQ0.out)
          clear BQ0
          have BQ0 := T__
          clear T__
          have T__ := Lib.hid (Og.out.ext Y)
          clear Og
          have Og := T__
          clear T__
          have T__ := Lib.hid (Y.blk BG9.out)
          clear BG9
          have BG9 := T__
          clear T__
          clear Y hxs TS ES
          have kA00 := blk_cell BA0.out (j := 0) rfl
          have kA01 := blk_cell BA0.out (j := 1) rfl
          have kL10 := blk_cell BL1.out (j := 0) rfl
          have kL11 := blk_cell BL1.out (j := 1) rfl
          have kL12 := blk_cell BL1.out (j := 2) rfl
          have kS90 := blk_cell BS9.out (j := 0) rfl
          have kS91 := blk_cell BS9.out (j := 1) rfl
          have kQ00 := blk_cell BQ0.out (j := 0) rfl
          have kQ01 := blk_cell BQ0.out (j := 1) rfl
          have kG90 := blk_cell BG9.out (j := 0) rfl
          have kG91 := blk_cell BG9.out (j := 1) rfl
          go_wp2_with fail
          refine (c_markNet _ _ _ x0 1 W9 Oq0.out (by omega) (by omega) (by omega) (by omega)).mono ?_
          rintro e W10 ⟨rfl, Y⟩
          clear BQ0
          have s10 := Y.size
          clear kA00 kA01 kL10 kL11 kL12 kS90 kS91 kQ00 kQ01 kG90 kG91
          have T__ := Lib.hid (X.out.keep Y (by omega))
          clear X
          have X := T__
          clear T__
          have T__ := Lib.hid (Y.blk BA0.out (by omega))
          clear BA0
          have BA0 := T__
          clear T__
          have T__ := Lib.hid (Y.blk BL1.out (by omega))
          clear BL1
          have BL1 := T__
          clear T__
          have T__ := Lib.hid (Os.out.keepd Y (by omega))
          clear Os
          have Os := T__
          clear T__
          have T__ := Lib.hid (Y.blk BS9.out (by omega))
          clear BS9
          have BS9 := T__
          clear T__
          have T__ := Lib.hid (Og.out.keepd Y (by omega))
          clear Og
          have Og := T__
          clear T__
          have T__ := Lib.hid (Y.blk BG9.out (by omega))
          clear BG9
          have BG9 := T__
          clear T__
          clear Y Oq0
          have kA00 := blk_cell BA0.out (j := 0) rfl
          have kA01 := blk_cell BA0.out (j := 1) rfl
          have kL10 := blk_cell BL1.out (j := 0) rfl
          have kL11 := blk_cell BL1.out (j := 1) rfl
          have kL12 := blk_cell BL1.out (j := 2) rfl
          have kS90 := blk_cell BS9.out (j := 0) rfl
          have kS91 := blk_cell BS9.out (j := 1) rfl
          have kG90 := blk_cell BG9.out (j := 0) rfl
          have kG91 := blk_cell BG9.out (j := 1) rfl
          go_wp2_with fail
          refine (c_eqNet _ _ _ _ _ _ ys ys W10 Og.out.read Os.out.read (by omega) (by omega)).mono ?_
          rw [decide_eq_true rfl]
          rintro e W11 ⟨rfl, Y⟩
          have s11 := Y.size
          clear kA00 kA01 kL10 kL11 kL12 kS90 kS91 kG90 kG91
          have T__ := Lib.hid (X.out.trans Y)
          clear X
          have X := T__
          clear T__
          have T__ := Lib.hid (Y.blk BA0.out)
          clear BA0
          have BA0 := T__
          clear T__
          have T__ := Lib.hid (Y.blk BL1.out)
          clear BL1
          have BL1 := T__
          clear T__
          have T__ := Lib.hid (Os.out.ext Y)
          clear Os
          have Os := T__
          clear T__
          have T__ := Lib.hid (Y.blk BS9.out)
          clear BS9
          have BS9 := T__
          clear T__
          have T__ := Lib.hid (Og.out.ext Y)
          clear Og
          have Og := T__
          clear T__
          have T__ := Lib.hid (Y.blk BG9.out)
          clear BG9
          have BG9 := T__
          clear T__
          clear Y
          have kA00 := blk_cell BA0.out (j := 0) rfl
          have kA01 := blk_cell BA0.out (j := 1) rfl
          have kL10 := blk_cell BL1.out (j := 0) rfl
          have kL11 := blk_cell BL1.out (j := 1) rfl
          have kL12 := blk_cell BL1.out (j := 2) rfl
          have kS90 := blk_cell BS9.out (j := 0) rfl
          have kS91 := blk_cell BS9.out (j := 1) rfl
          have kG90 := blk_cell BG9.out (j := 0) rfl
          have kG91 := blk_cell BG9.out (j := 1) rfl
          go_wp2_with fail
          refine (c_markNetM _ _ _ ys W11 Og.out (by omega) hyl).mono ?_
          rintro e W12 ⟨rfl, Y, hm⟩
          have M : Hid (MarkNet W12 _ _ _ ys.1.length ys.2.length) := hm
          have s12 := Y.size
          clear kA00 kA01 kL10 kL11 kL12 kS90 kS91 kG90 kG91
          have T__ := Lib.hid (X.out.keep Y (by omega))
          clear X
          have X := T__
          clear T__
          have T__ := Lib.hid (Y.blk BA0.out (by omega))
          clear BA0
          have BA0 := T__
          clear T__
          have T__ := Lib.hid (Y.blk BL1.out (by omega))
          clear BL1
          have BL1 := T__
          clear T__
          have T__ := Lib.hid (Os.out.keepd Y (by omega))
          clear Os
          have Os := T__
          clear T__
          have T__ := Lib.hid (Y.blk BS9.out (by omega))
          clear BS9
          have BS9 := T__
          clear T__
          have T__ := Lib.hid (Y.blk BG9.out (by omega))
          clear BG9
          have BG9 := T__
          clear T__
          clear Y Og hm
          have kA00 := blk_cell BA0.out (j := 0) rfl
          have kA01 := blk_cell BA0.out (j := 1) rfl
          have kL10 := blk_cell BL1.out (j := 0) rfl
          have kL11 := blk_cell BL1.out (j := 1) rfl
          have kL12 := blk_cell BL1.out (j := 2) rfl
          have kS90 := blk_cell BS9.out (j := 0) rfl
          have kS91 := blk_cell BS9.out (j := 1) rfl
          have kG90 := blk_cell BG9.out (j := 0) rfl
          have kG91 := blk_cell BG9.out (j := 1) rfl
          go_wp2_with fail
          refine (c_heldNet _ _ _ ys.1.length ys.2.length W12 M.out (by omega) hyl).mono ?_
          rintro e W13 ⟨rfl, Y⟩
          have s13 := Y.size
          clear kA00 kA01 kL10 kL11 kL12 kS90 kS91 kG90 kG91
          have T__ := Lib.hid (X.out.trans Y)
          clear X
          have X := T__
          clear T__
          have T__ := Lib.hid (Y.blk BA0.out)
          clear BA0
          have BA0 := T__
          clear T__
          have T__ := Lib.hid (Y.blk BL1.out)
          clear BL1
          have BL1 := T__
          clear T__
          have T__ := Lib.hid (Os.out.ext Y)
          clear Os
          have Os := T__
          clear T__
          have T__ := Lib.hid (Y.blk BS9.out)
          clear BS9
          have BS9 := T__
          clear T__
          have T__ := Lib.hid (Y.blk BG9.out)
          clear BG9
          have BG9 := T__
          clear T__
          have T__ := Lib.hid (M.out.ext Y)
          clear M
          have M := T__
          clear T__
          clear Y
          have kA00 := blk_cell BA0.out (j := 0) rfl
          have kA01 := blk_cell BA0.out (j := 1) rfl
          have kL10 := blk_cell BL1.out (j := 0) rfl
          have kL11 := blk_cell BL1.out (j := 1) rfl
          have kL12 := blk_cell BL1.out (j := 2) rfl
          have kS90 := blk_cell BS9.out (j := 0) rfl
          have kS91 := blk_cell BS9.out (j := 1) rfl
          have kG90 := blk_cell BG9.out (j := 0) rfl
          have kG91 := blk_cell BG9.out (j := 1) rfl
          go_upto_region 24 with fail
          clear kA00 kA01 kL10 kL11 kL12 kS90 kS91 kG90 kG91
          go_cut [14, 15] from 79 to 86 (fun v6 v7 wx => LkRes W13 ys false v6 v7 wx)
          case first =>
            have HS : Hid (∀ W, Ext W13 W → W.cell? ⟨w.heap.size, 0, none⟩ = some (.slice a0 x0.1.length cap0) ∧ W.cell? ⟨w.heap.size, 1, none⟩ = some (.slice a0e x0.2.length cap0e) ∧ W.cell? ⟨w.heap.size + 1, 0, none⟩ = some (.int .i64 y1) ∧ W.cell? ⟨w.heap.size + 1, 1, none⟩ = some (.int .i64 y2) ∧ W.cell? ⟨w.heap.size + 1, 2, none⟩ = some (.int .i64 y3)) := fun W hX => ⟨hX.cell (blk_cell BA0.out (j := 0) rfl), hX.cell (blk_cell BA0.out (j := 1) rfl), hX.cell (blk_cell BL1.out (j := 0) rfl), hX.cell (blk_cell BL1.out (j := 1) rfl), hX.cell (blk_cell BL1.out (j := 2) rfl)⟩
            obtain ⟨w20, hw20⟩ : ∃ W, W = (W13).drew := ⟨_, rfl⟩
            have X20 : Hid (Ext W13 w20) := by unfold Hid; rw [hw20]; exact Ext.drew _
            refine wp_region_E (S := fun W => W.cell? ⟨w.heap.size, 0, none⟩ = some (.slice a0 x0.1.length cap0) ∧ W.cell? ⟨w.heap.size, 1, none⟩ = some (.slice a0e x0.2.length cap0e) ∧ W.cell? ⟨w.heap.size + 1, 0, none⟩ = some (.int .i64 y1) ∧ W.cell? ⟨w.heap.size + 1, 1, none⟩ = some (.int .i64 y2) ∧ W.cell? ⟨w.heap.size + 1, 2, none⟩ = some (.int .i64 y3)) (by kernel_rfl) ?_
            rw [← hw20]
            clear hw20
            have sz20 := X20.out.size
            have hSS : (fun W : World => W.cell? ⟨w.heap.size, 0, none⟩ = some (.slice a0 x0.1.length cap0) ∧ W.cell? ⟨w.heap.size, 1, none⟩ = some (.slice a0e x0.2.length cap0e) ∧ W.cell? ⟨w.heap.size + 1, 0, none⟩ = some (.int .i64 y1) ∧ W.cell? ⟨w.heap.size + 1, 1, none⟩ = some (.int .i64 y2) ∧ W.cell? ⟨w.heap.size + 1, 2, none⟩ = some (.int .i64 y3)) w20 := HS.out _ X20.out
            refine wpAnyE_take (i := 0) (v := ?_) rfl (by kernel_rfl) (by kernel_rfl) (by kernel_rfl) (fun _ _ _ h => h) (Or.inl ⟨by rfl, ?_⟩) (by assumption) ?_
            rotate_left 1
            focus (intro W hSW; (try dsimp only at hSW); go_simp; try with_reducible rfl)
            (try simp only [Act.put, List.setIfInBounds_toArray, List.set_cons_zero, List.set_cons_succ])
            refine wpAnyE_take (i := 2) (v := ?_) rfl (by kernel_rfl) (by kernel_rfl) (by kernel_rfl) (fun _ _ _ h => h) (Or.inl ⟨by rfl, ?_⟩) (by assumption) ?_
            rotate_left 1
            focus (intro W hSW; (try dsimp only at hSW); go_simp; try with_reducible rfl)
            (try simp only [Act.put, List.setIfInBounds_toArray, List.set_cons_zero, List.set_cons_succ])
            refine wpAnyE_pair (i := 1) (j := 8) (by kernel_rfl) rfl rfl (fun K hK => ?_) (fun K hK => ?_)
            ·
              have HK := Lib.hid hK
              clear hK
              go_simp
              refine (CT0.out _ (X.out.trans X20.out)).mono ?_
              rintro e w21 ⟨vp, rfl, hp, hx9⟩
              obtain ⟨ap, cp, ape, cpe, rfl, ⟨_, _⟩, _, _⟩ := hp.form
              have OP := Lib.hid hp
              have X21 := Lib.hid (X20.out.trans hx9)
              have sz21 := hx9.size
              clear hSS hx9 hp
              have hSS : (fun W : World => W.cell? ⟨w.heap.size, 0, none⟩ = some (.slice a0 x0.1.length cap0) ∧ W.cell? ⟨w.heap.size, 1, none⟩ = some (.slice a0e x0.2.length cap0e) ∧ W.cell? ⟨w.heap.size + 1, 0, none⟩ = some (.int .i64 y1) ∧ W.cell? ⟨w.heap.size + 1, 1, none⟩ = some (.int .i64 y2) ∧ W.cell? ⟨w.heap.size + 1, 2, none⟩ = some (.int .i64 y3)) w21 := HS.out _ X21.out
              refine HK.out _ _ (fun _ => hSS) ?_
              clear HK
              refine wpAnyE_pair (i := 3) (j := 8) (by kernel_rfl) rfl rfl (fun K hK => ?_) (fun K hK => ?_)
              ·
                have HK := Lib.hid hK
                clear hK
                go_simp
                refine (c_toLink y1 y2 y3 _).mono ?_
                rintro e w22 ⟨rfl, hx9⟩
                have g9 := Lib.hid (OP.out.ext hx9)
                clear OP
                have OP := g9
                clear g9
                have X22 := Lib.hid (X21.out.trans hx9)
                have sz22 := hx9.size
                clear hSS hx9 
                have hSS : (fun W : World => W.cell? ⟨w.heap.size, 0, none⟩ = some (.slice a0 x0.1.length cap0) ∧ W.cell? ⟨w.heap.size, 1, none⟩ = some (.slice a0e x0.2.length cap0e) ∧ W.cell? ⟨w.heap.size + 1, 0, none⟩ = some (.int .i64 y1) ∧ W.cell? ⟨w.heap.size + 1, 1, none⟩ = some (.int .i64 y2) ∧ W.cell? ⟨w.heap.size + 1, 2, none⟩ = some (.int .i64 y3)) w22 := HS.out _ X22.out
                refine HK.out _ _ (fun _ => hSS) ?_
                clear HK
                refine wpAnyE_pair (i := 4) (j := 8) (by kernel_rfl) rfl rfl (fun K hK => ?_) (fun K hK => ?_)
                ·
                  have HK := Lib.hid hK
                  clear hK
                  go_simp
                  refine (CI.out w22 _ _ _ OP.out.read (by omega)).mono ?_
                  rintro e w23 ⟨vr, rfl, hr, hx9⟩
                  obtain ⟨ar, cr, are, cre, rfl, ⟨_, _⟩, _, _⟩ := hr.form
                  have OR := Lib.hid hr
                  clear OP
                  have X23 := Lib.hid (X22.out.trans hx9)
                  have sz23 := hx9.size
                  clear hSS hx9 hr
                  have hSS : (fun W : World => W.cell? ⟨w.heap.size, 0, none⟩ = some (.slice a0 x0.1.length cap0) ∧ W.cell? ⟨w.heap.size, 1, none⟩ = some (.slice a0e x0.2.length cap0e) ∧ W.cell? ⟨w.heap.size + 1, 0, none⟩ = some (.int .i64 y1) ∧ W.cell? ⟨w.heap.size + 1, 1, none⟩ = some (.int .i64 y2) ∧ W.cell? ⟨w.heap.size + 1, 2, none⟩ = some (.int .i64 y3)) w23 := HS.out _ X23.out
                  refine HK.out _ _ (fun _ => hSS) ?_
                  clear HK
                  refine wpAnyE_take (i := 5) (v := ?_) rfl (by kernel_rfl) (by kernel_rfl) (by kernel_rfl) (fun _ _ _ h => h) (Or.inl ⟨by rfl, ?_⟩) (by assumption) ?_
                  rotate_left 1
                  focus (intro W hSW; (try dsimp only at hSW); go_simp; try with_reducible rfl)
                  (try simp only [Act.put, List.setIfInBounds_toArray, List.set_cons_zero, List.set_cons_succ])
                  refine wpAnyE_take (i := 6) (v := ?_) rfl (by kernel_rfl) (by kernel_rfl) (by kernel_rfl) (fun _ _ _ h => h) (Or.inl ⟨by rfl, ?_⟩) (by assumption) ?_
                  rotate_left 1
                  focus (intro W hSW; (try dsimp only at hSW); go_simp; try with_reducible rfl)
                  (try simp only [Act.put, List.setIfInBounds_toArray, List.set_cons_zero, List.set_cons_succ])
                  refine wpAnyE_take (i := 7) (v := ?_) rfl (by kernel_rfl) (by kernel_rfl) (by kernel_rfl) (fun _ _ _ h => h) (Or.inl ⟨by rfl, ?_⟩) (by assumption) ?_
                  rotate_left 1
                  focus (intro W hSW; (try dsimp only at hSW); go_simp; try with_reducible rfl)
                  (try simp only [Act.put, List.setIfInBounds_toArray, List.set_cons_zero, List.set_cons_succ])
                  refine wpAnyE_one (i := 8) (by kernel_rfl) rfl (fun K hK => ?_)
                  have HK := Lib.hid hK
                  clear hK
                  go_simp
                  obtain ⟨w24, hw9⟩ : ∃ W, W = w23.alloc (.cells #[.slice none 0 0, .slice none 0 0] 27) := ⟨_, rfl⟩
                  rw [← hw9]
                  obtain ⟨bS, hp9⟩ : ∃ p, p = w23.heap.size := ⟨_, rfl⟩
                  rw [← hp9]
                  have HB : Hid (w24.heap[bS]? = some (.cells #[.slice none 0 0, .slice none 0 0] 27)) := by unfold Hid; rw [hw9, hp9]; exact blk_alloc _ _
                  have hx9 : Ext w23 w24 := by rw [hw9]; exact Ext.alloc _ _
                  have sb9 := (Array.getElem?_eq_some_iff.1 HB.out).1
                  have hb1 : w23.heap.size ≤ bS := by omega
                  have hb2 : bS ≤ w23.heap.size := by omega
                  clear hp9
                  have g9 := Lib.hid (OR.out.ext hx9)
                  clear OR
                  have OR := g9
                  clear g9
                  have X24 := Lib.hid (X23.out.trans hx9)
                  have sz24 := hx9.size
                  clear hSS hx9 hw9
                  have hSS : (fun W : World => W.cell? ⟨w.heap.size, 0, none⟩ = some (.slice a0 x0.1.length cap0) ∧ W.cell? ⟨w.heap.size, 1, none⟩ = some (.slice a0e x0.2.length cap0e) ∧ W.cell? ⟨w.heap.size + 1, 0, none⟩ = some (.int .i64 y1) ∧ W.cell? ⟨w.heap.size + 1, 1, none⟩ = some (.int .i64 y2) ∧ W.cell? ⟨w.heap.size + 1, 2, none⟩ = some (.int .i64 y3)) w24 := HS.out _ X24.out
                  refine HK.out _ _ (fun _ => hSS) ?_
                  clear HK
                  clear hSS
                  have z0 := blk_cell HB.out (j := 0) (v := .slice none 0 0) rfl
                  have z1 := blk_cell HB.out (j := 1) (v := .slice none 0 0) rfl
                  have f0 := blk_free HB.out 0
                  have f1 := blk_free HB.out 1
                  refine wpAnyE_one (i := 9) (by kernel_rfl) rfl (fun K hK => ?_)
                  have HK := Lib.hid hK
                  clear hK
                  go_simp
                  clear z0 z1 f0 f1
                  obtain ⟨w40, hw40⟩ : ∃ W, W = (w24.setCell ⟨bS, 0, none⟩ (.slice ar ys.1.length cr)).setCell ⟨bS, 1, none⟩ (.slice are ys.2.length cre) := ⟨_, rfl⟩
                  rw [← hw40]
                  have g1 : (w24.setCell ⟨bS, 0, none⟩ (.slice ar ys.1.length cr)).heap[bS]? = some (.cells #[.slice ar ys.1.length cr, .slice none 0 0] 27) := by rw [heap_setCell_same _ _ _ _ _ _ HB.out]; rfl
                  have g2 : w40.heap[bS]? = some (.cells #[.slice ar ys.1.length cr, .slice are ys.2.length cre] 27) := by rw [hw40]; exact (heap_setCell_same _ _ _ _ _ _ g1).trans rfl
                  have HK40 : Keep bS (bS + 1) w24 w40 := by rw [hw40]; exact (keep_setj9 w24 bS 0 _).trans (keep_setj9 _ bS 1 _)
                  have OR40 := Lib.hid (OR.out.keepd HK40 (by omega))
                  have X40 := Lib.hid (X24.out.keep HK40 (by omega))
                  have HB40 := Lib.hid g2
                  have sz40 := HK40.size
                  clear hw40 g1 g2 HK40 HB OR
                  have hSS : (fun W : World => W.cell? ⟨w.heap.size, 0, none⟩ = some (.slice a0 x0.1.length cap0) ∧ W.cell? ⟨w.heap.size, 1, none⟩ = some (.slice a0e x0.2.length cap0e) ∧ W.cell? ⟨w.heap.size + 1, 0, none⟩ = some (.int .i64 y1) ∧ W.cell? ⟨w.heap.size + 1, 1, none⟩ = some (.int .i64 y2) ∧ W.cell? ⟨w.heap.size + 1, 2, none⟩ = some (.int .i64 y3)) w40 := HS.out _ X40.out
                  refine HK.out _ _ (fun _ => hSS) ?_
                  clear HK
                  refine wpAnyE_take (i := 10) (v := ?_) rfl (by kernel_rfl) (by kernel_rfl) (by kernel_rfl) (fun _ _ _ h => h) (Or.inl ⟨by rfl, ?_⟩) (by assumption) ?_
                  rotate_left 1
                  focus (intro W hSW; (try dsimp only at hSW); go_simp; try with_reducible rfl)
                  (try simp only [Act.put, List.setIfInBounds_toArray, List.set_cons_zero, List.set_cons_succ])
                  clear hSS
                  refine wpAnyE_done (by kernel_rfl) ?_ _
                  try go_simp
                  try go_wp2
                  go_meet
                  case rel => exact ⟨bS, _, _, ar, cr, are, cre, rfl, rfl, HB40.out, OR40.out, by omega, by omega, by omega, by omega, by omega, X40.out⟩
                ·
                  have HK := Lib.hid hK
                  clear hK
                  go_simp
                  obtain ⟨w23, hw9⟩ : ∃ W, W = w22.alloc (.cells #[.slice none 0 0, .slice none 0 0] 27) := ⟨_, rfl⟩
                  rw [← hw9]
                  obtain ⟨bS, hp9⟩ : ∃ p, p = w22.heap.size := ⟨_, rfl⟩
                  rw [← hp9]
                  have HB : Hid (w23.heap[bS]? = some (.cells #[.slice none 0 0, .slice none 0 0] 27)) := by unfold Hid; rw [hw9, hp9]; exact blk_alloc _ _
                  have hx9 : Ext w22 w23 := by rw [hw9]; exact Ext.alloc _ _
                  have sb9 := (Array.getElem?_eq_some_iff.1 HB.out).1
                  have hb1 : w22.heap.size ≤ bS := by omega
                  have hb2 : bS ≤ w22.heap.size := by omega
                  clear hp9
                  have g9 := Lib.hid (OP.out.ext hx9)
                  clear OP
                  have OP := g9
                  clear g9
                  have X23 := Lib.hid (X22.out.trans hx9)
                  have sz23 := hx9.size
                  clear hSS hx9 hw9
                  have hSS : (fun W : World => W.cell? ⟨w.heap.size, 0, none⟩ = some (.slice a0 x0.1.length cap0) ∧ W.cell? ⟨w.heap.size, 1, none⟩ = some (.slice a0e x0.2.length cap0e) ∧ W.cell? ⟨w.heap.size + 1, 0, none⟩ = some (.int .i64 y1) ∧ W.cell? ⟨w.heap.size + 1, 1, none⟩ = some (.int .i64 y2) ∧ W.cell? ⟨w.heap.size + 1, 2, none⟩ = some (.int .i64 y3)) w23 := HS.out _ X23.out
                  refine HK.out _ _ (fun _ => hSS) ?_
                  clear HK
                  refine wpAnyE_one (i := 4) (by kernel_rfl) rfl (fun K hK => ?_)
                  have HK := Lib.hid hK
                  clear hK
                  go_simp
                  refine (CI.out w23 _ _ _ OP.out.read (by omega)).mono ?_
                  rintro e w24 ⟨vr, rfl, hr, hx9⟩
                  obtain ⟨ar, cr, are, cre, rfl, ⟨_, _⟩, _, _⟩ := hr.form
                  have OR := Lib.hid hr
                  clear OP
                  have g9 := Lib.hid (hx9.blk HB.out)
                  clear HB
                  have HB := g9
                  clear g9
                  have X24 := Lib.hid (X23.out.trans hx9)
                  have sz24 := hx9.size
                  clear hSS hx9 hr
                  have hSS : (fun W : World => W.cell? ⟨w.heap.size, 0, none⟩ = some (.slice a0 x0.1.length cap0) ∧ W.cell? ⟨w.heap.size, 1, none⟩ = some (.slice a0e x0.2.length cap0e) ∧ W.cell? ⟨w.heap.size + 1, 0, none⟩ = some (.int .i64 y1) ∧ W.cell? ⟨w.heap.size + 1, 1, none⟩ = some (.int .i64 y2) ∧ W.cell? ⟨w.heap.size + 1, 2, none⟩ = some (.int .i64 y3)) w24 := HS.out _ X24.out
                  refine HK.out _ _ (fun _ => hSS) ?_
                  clear HK
                  refine wpAnyE_take (i := 5) (v := ?_) rfl (by kernel_rfl) (by kernel_rfl) (by kernel_rfl) (fun _ _ _ h => h) (Or.inl ⟨by rfl, ?_⟩) (by assumption) ?_
                  rotate_left 1
                  focus (intro W hSW; (try dsimp only at hSW); go_simp; try with_reducible rfl)
                  (try simp only [Act.put, List.setIfInBounds_toArray, List.set_cons_zero, List.set_cons_succ])
                  refine wpAnyE_take (i := 6) (v := ?_) rfl (by kernel_rfl) (by kernel_rfl) (by kernel_rfl) (fun _ _ _ h => h) (Or.inl ⟨by rfl, ?_⟩) (by assumption) ?_
                  rotate_left 1
                  focus (intro W hSW; (try dsimp only at hSW); go_simp; try with_reducible rfl)
                  (try simp only [Act.put, List.setIfInBounds_toArray, List.set_cons_zero, List.set_cons_succ])
                  refine wpAnyE_take (i := 7) (v := ?_) rfl (by kernel_rfl) (by kernel_rfl) (by kernel_rfl) (fun _ _ _ h => h) (Or.inl ⟨by rfl, ?_⟩) (by assumption) ?_
                  rotate_left 1
                  focus (intro W hSW; (try dsimp only at hSW); go_simp; try with_reducible rfl)
                  (try simp only [Act.put, List.setIfInBounds_toArray, List.set_cons_zero, List.set_cons_succ])
                  clear hSS
                  have z0 := blk_cell HB.out (j := 0) (v := .slice none 0 0) rfl
                  have z1 := blk_cell HB.out (j := 1) (v := .slice none 0 0) rfl
                  have f0 := blk_free HB.out 0
                  have f1 := blk_free HB.out 1
                  refine wpAnyE_one (i := 9) (by kernel_rfl) rfl (fun K hK => ?_)
                  have HK := Lib.hid hK
                  clear hK
                  go_simp
                  clear z0 z1 f0 f1
                  obtain ⟨w40, hw40⟩ : ∃ W, W = (w24.setCell ⟨bS, 0, none⟩ (.slice ar ys.1.length cr)).setCell ⟨bS, 1, none⟩ (.slice are ys.2.length cre) := ⟨_, rfl⟩
                  rw [← hw40]
                  have g1 : (w24.setCell ⟨bS, 0, none⟩ (.slice ar ys.1.length cr)).heap[bS]? = some (.cells #[.slice ar ys.1.length cr, .slice none 0 0] 27) := by rw [heap_setCell_same _ _ _ _ _ _ HB.out]; rfl
                  have g2 : w40.heap[bS]? = some (.cells #[.slice ar ys.1.length cr, .slice are ys.2.length cre] 27) := by rw [hw40]; exact (heap_setCell_same _ _ _ _ _ _ g1).trans rfl
                  have HK40 : Keep bS (bS + 1) w24 w40 := by rw [hw40]; exact (keep_setj9 w24 bS 0 _).trans (keep_setj9 _ bS 1 _)
                  have OR40 := Lib.hid (OR.out.keepd HK40 (by omega))
                  have X40 := Lib.hid (X24.out.keep HK40 (by omega))
                  have HB40 := Lib.hid g2
                  have sz40 := HK40.size
                  clear hw40 g1 g2 HK40 HB OR
                  have hSS : (fun W : World => W.cell? ⟨w.heap.size, 0, none⟩ = some (.slice a0 x0.1.length cap0) ∧ W.cell? ⟨w.heap.size, 1, none⟩ = some (.slice a0e x0.2.length cap0e) ∧ W.cell? ⟨w.heap.size + 1, 0, none⟩ = some (.int .i64 y1) ∧ W.cell? ⟨w.heap.size + 1, 1, none⟩ = some (.int .i64 y2) ∧ W.cell? ⟨w.heap.size + 1, 2, none⟩ = some (.int .i64 y3)) w40 := HS.out _ X40.out
                  refine HK.out _ _ (fun _ => hSS) ?_
                  clear HK
                  refine wpAnyE_take (i := 10) (v := ?_) rfl (by kernel_rfl) (by kernel_rfl) (by kernel_rfl) (fun _ _ _ h => h) (Or.inl ⟨by rfl, ?_⟩) (by assumption) ?_
                  rotate_left 1
                  focus (intro W hSW; (try dsimp only at hSW); go_simp; try with_reducible rfl)
                  (try simp only [Act.put, List.setIfInBounds_toArray, List.set_cons_zero, List.set_cons_succ])
                  clear hSS
                  refine wpAnyE_done (by kernel_rfl) ?_ _
                  try go_simp
                  try go_wp2
                  go_meet
                  case rel => exact ⟨bS, _, _, ar, cr, are, cre, rfl, rfl, HB40.out, OR40.out, by omega, by omega, by omega, by omega, by omega, X40.out⟩
              ·
                have HK := Lib.hid hK
                clear hK
                go_simp
                obtain ⟨w22, hw9⟩ : ∃ W, W = w21.alloc (.cells #[.slice none 0 0, .slice none 0 0] 27) := ⟨_, rfl⟩
                rw [← hw9]
                obtain ⟨bS, hp9⟩ : ∃ p, p = w21.heap.size := ⟨_, rfl⟩
                rw [← hp9]
                have HB : Hid (w22.heap[bS]? = some (.cells #[.slice none 0 0, .slice none 0 0] 27)) := by unfold Hid; rw [hw9, hp9]; exact blk_alloc _ _
                have hx9 : Ext w21 w22 := by rw [hw9]; exact Ext.alloc _ _
                have sb9 := (Array.getElem?_eq_some_iff.1 HB.out).1
                have hb1 : w21.heap.size ≤ bS := by omega
                have hb2 : bS ≤ w21.heap.size := by omega
                clear hp9
                have g9 := Lib.hid (OP.out.ext hx9)
                clear OP
                have OP := g9
                clear g9
                have X22 := Lib.hid (X21.out.trans hx9)
                have sz22 := hx9.size
                clear hSS hx9 hw9
                have hSS : (fun W : World => W.cell? ⟨w.heap.size, 0, none⟩ = some (.slice a0 x0.1.length cap0) ∧ W.cell? ⟨w.heap.size, 1, none⟩ = some (.slice a0e x0.2.length cap0e) ∧ W.cell? ⟨w.heap.size + 1, 0, none⟩ = some (.int .i64 y1) ∧ W.cell? ⟨w.heap.size + 1, 1, none⟩ = some (.int .i64 y2) ∧ W.cell? ⟨w.heap.size + 1, 2, none⟩ = some (.int .i64 y3)) w22 := HS.out _ X22.out
                refine HK.out _ _ (fun _ => hSS) ?_
                clear HK
                refine wpAnyE_one (i := 3) (by kernel_rfl) rfl (fun K hK => ?_)
                have HK := Lib.hid hK
                clear hK
                go_simp
                refine (c_toLink y1 y2 y3 _).mono ?_
                rintro e w23 ⟨rfl, hx9⟩
                have g9 := Lib.hid (OP.out.ext hx9)
                clear OP
                have OP := g9
                clear g9
                have g9 := Lib.hid (hx9.blk HB.out)
                clear HB
                have HB := g9
                clear g9
                have X23 := Lib.hid (X22.out.trans hx9)
                have sz23 := hx9.size
                clear hSS hx9 
                have hSS : (fun W : World => W.cell? ⟨w.heap.size, 0, none⟩ = some (.slice a0 x0.1.length cap0) ∧ W.cell? ⟨w.heap.size, 1, none⟩ = some (.slice a0e x0.2.length cap0e) ∧ W.cell? ⟨w.heap.size + 1, 0, none⟩ = some (.int .i64 y1) ∧ W.cell? ⟨w.heap.size + 1, 1, none⟩ = some (.int .i64 y2) ∧ W.cell? ⟨w.heap.size + 1, 2, none⟩ = some (.int .i64 y3)) w23 := HS.out _ X23.out
                refine HK.out _ _ (fun _ => hSS) ?_
                clear HK
                refine wpAnyE_one (i := 4) (by kernel_rfl) rfl (fun K hK => ?_)
                have HK := Lib.hid hK
                clear hK
                go_simp
                refine (CI.out w23 _ _ _ OP.out.read (by omega)).mono ?_
                rintro e w24 ⟨vr, rfl, hr, hx9⟩
                obtain ⟨ar, cr, are, cre, rfl, ⟨_, _⟩, _, _⟩ := hr.form
                have OR := Lib.hid hr
                clear OP
                have g9 := Lib.hid (hx9.blk HB.out)
                clear HB
                have HB := g9
                clear g9
                have X24 := Lib.hid (X23.out.trans hx9)
                have sz24 := hx9.size
                clear hSS hx9 hr
                have hSS : (fun W : World => W.cell? ⟨w.heap.size, 0, none⟩ = some (.slice a0 x0.1.length cap0) ∧ W.cell? ⟨w.heap.size, 1, none⟩ = some (.slice a0e x0.2.length cap0e) ∧ W.cell? ⟨w.heap.size + 1, 0, none⟩ = some (.int .i64 y1) ∧ W.cell? ⟨w.heap.size + 1, 1, none⟩ = some (.int .i64 y2) ∧ W.cell? ⟨w.heap.size + 1, 2, none⟩ = some (.int .i64 y3)) w24 := HS.out _ X24.out
                refine HK.out _ _ (fun _ => hSS) ?_
                clear HK
                refine wpAnyE_take (i := 5) (v := ?_) rfl (by kernel_rfl) (by kernel_rfl) (by kernel_rfl) (fun _ _ _ h => h) (Or.inl ⟨by rfl, ?_⟩) (by assumption) ?_
                rotate_left 1
                focus (intro W hSW; (try dsimp only at hSW); go_simp; try with_reducible rfl)
                (try simp only [Act.put, List.setIfInBounds_toArray, List.set_cons_zero, List.set_cons_succ])
                refine wpAnyE_take (i := 6) (v := ?_) rfl (by kernel_rfl) (by kernel_rfl) (by kernel_rfl) (fun _ _ _ h => h) (Or.inl ⟨by rfl, ?_⟩) (by assumption) ?_
                rotate_left 1
                focus (intro W hSW; (try dsimp only at hSW); go_simp; try with_reducible rfl)
                (try simp only [Act.put, List.setIfInBounds_toArray, List.set_cons_zero, List.set_cons_succ])
                refine wpAnyE_take (i := 7) (v := ?_) rfl (by kernel_rfl) (by kernel_rfl) (by kernel_rfl) (fun _ _ _ h => h) (Or.inl ⟨by rfl, ?_⟩) (by assumption) ?_
                rotate_left 1
                focus (intro W hSW; (try dsimp only at hSW); go_simp; try with_reducible rfl)
                (try simp only [Act.put, List.setIfInBounds_toArray, List.set_cons_zero, List.set_cons_succ])
                clear hSS
                have z0 := blk_cell HB.out (j := 0) (v := .slice none 0 0) rfl
                have z1 := blk_cell HB.out (j := 1) (v := .slice none 0 0) rfl
                have f0 := blk_free HB.out 0
                have f1 := blk_free HB.out 1
                refine wpAnyE_one (i := 9) (by kernel_rfl) rfl (fun K hK => ?_)
                have HK := Lib.hid hK
                clear hK
                go_simp
                clear z0 z1 f0 f1
                obtain ⟨w40, hw40⟩ : ∃ W, W = (w24.setCell ⟨bS, 0, none⟩ (.slice ar ys.1.length cr)).setCell ⟨bS, 1, none⟩ (.slice are ys.2.length cre) := ⟨_, rfl⟩
                rw [← hw40]
                have g1 : (w24.setCell ⟨bS, 0, none⟩ (.slice ar ys.1.length cr)).heap[bS]? = some (.cells #[.slice ar ys.1.length cr, .slice none 0 0] 27) := by rw [heap_setCell_same _ _ _ _ _ _ HB.out]; rfl
                have g2 : w40.heap[bS]? = some (.cells #[.slice ar ys.1.length cr, .slice are ys.2.length cre] 27) := by rw [hw40]; exact (heap_setCell_same _ _ _ _ _ _ g1).trans rfl
                have HK40 : Keep bS (bS + 1) w24 w40 := by rw [hw40]; exact (keep_setj9 w24 bS 0 _).trans (keep_setj9 _ bS 1 _)
                have OR40 := Lib.hid (OR.out.keepd HK40 (by omega))
                have X40 := Lib.hid (X24.out.keep HK40 (by omega))
                have HB40 := Lib.hid g2
                have sz40 := HK40.size
                clear hw40 g1 g2 HK40 HB OR
                have hSS : (fun W : World => W.cell? ⟨w.heap.size, 0, none⟩ = some (.slice a0 x0.1.length cap0) ∧ W.cell? ⟨w.heap.size, 1, none⟩ = some (.slice a0e x0.2.length cap0e) ∧ W.cell? ⟨w.heap.size + 1, 0, none⟩ = some (.int .i64 y1) ∧ W.cell? ⟨w.heap.size + 1, 1, none⟩ = some (.int .i64 y2) ∧ W.cell? ⟨w.heap.size + 1, 2, none⟩ = some (.int .i64 y3)) w40 := HS.out _ X40.out
                refine HK.out _ _ (fun _ => hSS) ?_
                clear HK
                refine wpAnyE_take (i := 10) (v := ?_) rfl (by kernel_rfl) (by kernel_rfl) (by kernel_rfl) (fun _ _ _ h => h) (Or.inl ⟨by rfl, ?_⟩) (by assumption) ?_
                rotate_left 1
                focus (intro W hSW; (try dsimp only at hSW); go_simp; try with_reducible rfl)
                (try simp only [Act.put, List.setIfInBounds_toArray, List.set_cons_zero, List.set_cons_succ])
                clear hSS
                refine wpAnyE_done (by kernel_rfl) ?_ _
                try go_simp
                try go_wp2
                go_meet
                case rel => exact ⟨bS, _, _, ar, cr, are, cre, rfl, rfl, HB40.out, OR40.out, by omega, by omega, by omega, by omega, by omega, X40.out⟩
            ·
              have HK := Lib.hid hK
              clear hK
              go_simp
              obtain ⟨w21, hw9⟩ : ∃ W, W = w20.alloc (.cells #[.slice none 0 0, .slice none 0 0] 27) := ⟨_, rfl⟩
              rw [← hw9]
              obtain ⟨bS, hp9⟩ : ∃ p, p = w20.heap.size := ⟨_, rfl⟩
              rw [← hp9]
              have HB : Hid (w21.heap[bS]? = some (.cells #[.slice none 0 0, .slice none 0 0] 27)) := by unfold Hid; rw [hw9, hp9]; exact blk_alloc _ _
              have hx9 : Ext w20 w21 := by rw [hw9]; exact Ext.alloc _ _
              have sb9 := (Array.getElem?_eq_some_iff.1 HB.out).1
              have hb1 : w20.heap.size ≤ bS := by omega
              have hb2 : bS ≤ w20.heap.size := by omega
              clear hp9
              have X21 := Lib.hid (X20.out.trans hx9)
              have sz21 := hx9.size
              clear hSS hx9 hw9
              have hSS : (fun W : World => W.cell? ⟨w.heap.size, 0, none⟩ = some (.slice a0 x0.1.length cap0) ∧ W.cell? ⟨w.heap.size, 1, none⟩ = some (.slice a0e x0.2.length cap0e) ∧ W.cell? ⟨w.heap.size + 1, 0, none⟩ = some (.int .i64 y1) ∧ W.cell? ⟨w.heap.size + 1, 1, none⟩ = some (.int .i64 y2) ∧ W.cell? ⟨w.heap.size + 1, 2, none⟩ = some (.int .i64 y3)) w21 := HS.out _ X21.out
              refine HK.out _ _ (fun _ => hSS) ?_
              clear HK
              refine wpAnyE_one (i := 1) (by kernel_rfl) rfl (fun K hK => ?_)
              have HK := Lib.hid hK
              clear hK
              go_simp
              refine (CT0.out _ (X.out.trans X21.out)).mono ?_
              rintro e w22 ⟨vp, rfl, hp, hx9⟩
              obtain ⟨ap, cp, ape, cpe, rfl, ⟨_, _⟩, _, _⟩ := hp.form
              have OP := Lib.hid hp
              have g9 := Lib.hid (hx9.blk HB.out)
              clear HB
              have HB := g9
              clear g9
              have X22 := Lib.hid (X21.out.trans hx9)
              have sz22 := hx9.size
              clear hSS hx9 hp
              have hSS : (fun W : World => W.cell? ⟨w.heap.size, 0, none⟩ = some (.slice a0 x0.1.length cap0) ∧ W.cell? ⟨w.heap.size, 1, none⟩ = some (.slice a0e x0.2.length cap0e) ∧ W.cell? ⟨w.heap.size + 1, 0, none⟩ = some (.int .i64 y1) ∧ W.cell? ⟨w.heap.size + 1, 1, none⟩ = some (.int .i64 y2) ∧ W.cell? ⟨w.heap.size + 1, 2, none⟩ = some (.int .i64 y3)) w22 := HS.out _ X22.out
              refine HK.out _ _ (fun _ => hSS) ?_
              clear HK
              refine wpAnyE_one (i := 3) (by kernel_rfl) rfl (fun K hK => ?_)
              have HK := Lib.hid hK
              clear hK
              go_simp
              refine (c_toLink y1 y2 y3 _).mono ?_
              rintro e w23 ⟨rfl, hx9⟩
              have g9 := Lib.hid (OP.out.ext hx9)
              clear OP
              have OP := g9
              clear g9
              have g9 := Lib.hid (hx9.blk HB.out)
              clear HB
              have HB := g9
              clear g9
              have X23 := Lib.hid (X22.out.trans hx9)
              have sz23 := hx9.size
              clear hSS hx9 
              have hSS : (fun W : World => W.cell? ⟨w.heap.size, 0, none⟩ = some (.slice a0 x0.1.length cap0) ∧ W.cell? ⟨w.heap.size, 1, none⟩ = some (.slice a0e x0.2.length cap0e) ∧ W.cell? ⟨w.heap.size + 1, 0, none⟩ = some (.int .i64 y1) ∧ W.cell? ⟨w.heap.size + 1, 1, none⟩ = some (.int .i64 y2) ∧ W.cell? ⟨w.heap.size + 1, 2, none⟩ = some (.int .i64 y3)) w23 := HS.out _ X23.out
              refine HK.out _ _ (fun _ => hSS) ?_
              clear HK
              refine wpAnyE_one (i := 4) (by kernel_rfl) rfl (fun K hK => ?_)
              have HK := Lib.hid hK
              clear hK
              go_simp
              refine (CI.out w23 _ _ _ OP.out.read (by omega)).mono ?_
              rintro e w24 ⟨vr, rfl, hr, hx9⟩
              obtain ⟨ar, cr, are, cre, rfl, ⟨_, _⟩, _, _⟩ := hr.form
              have OR := Lib.hid hr
              clear OP
              have g9 := Lib.hid (hx9.blk HB.out)
              clear HB
              have HB := g9
              clear g9
              have X24 := Lib.hid (X23.out.trans hx9)
              have sz24 := hx9.size
              clear hSS hx9 hr
              have hSS : (fun W : World => W.cell? ⟨w.heap.size, 0, none⟩ = some (.slice a0 x0.1.length cap0) ∧ W.cell? ⟨w.heap.size, 1, none⟩ = some (.slice a0e x0.2.length cap0e) ∧ W.cell? ⟨w.heap.size + 1, 0, none⟩ = some (.int .i64 y1) ∧ W.cell? ⟨w.heap.size + 1, 1, none⟩ = some (.int .i64 y2) ∧ W.cell? ⟨w.heap.size + 1, 2, none⟩ = some (.int .i64 y3)) w24 := HS.out _ X24.out
              refine HK.out _ _ (fun _ => hSS) ?_
              clear HK
              refine wpAnyE_take (i := 5) (v := ?_) rfl (by kernel_rfl) (by kernel_rfl) (by kernel_rfl) (fun _ _ _ h => h) (Or.inl ⟨by rfl, ?_⟩) (by assumption) ?_
              rotate_left 1
              focus (intro W hSW; (try dsimp only at hSW); go_simp; try with_reducible rfl)
              (try simp only [Act.put, List.setIfInBounds_toArray, List.set_cons_zero, List.set_cons_succ])
              refine wpAnyE_take (i := 6) (v := ?_) rfl (by kernel_rfl) (by kernel_rfl) (by kernel_rfl) (fun _ _ _ h => h) (Or.inl ⟨by rfl, ?_⟩) (by assumption) ?_
              rotate_left 1
              focus (intro W hSW; (try dsimp only at hSW); go_simp; try with_reducible rfl)
              (try simp only [Act.put, List.setIfInBounds_toArray, List.set_cons_zero, List.set_cons_succ])
              refine wpAnyE_take (i := 7) (v := ?_) rfl (by kernel_rfl) (by kernel_rfl) (by kernel_rfl) (fun _ _ _ h => h) (Or.inl ⟨by rfl, ?_⟩) (by assumption) ?_
              rotate_left 1
              focus (intro W hSW; (try dsimp only at hSW); go_simp; try with_reducible rfl)
              (try simp only [Act.put, List.setIfInBounds_toArray, List.set_cons_zero, List.set_cons_succ])
              clear hSS
              have z0 := blk_cell HB.out (j := 0) (v := .slice none 0 0) rfl
              have z1 := blk_cell HB.out (j := 1) (v := .slice none 0 0) rfl
              have f0 := blk_free HB.out 0
              have f1 := blk_free HB.out 1
              refine wpAnyE_one (i := 9) (by kernel_rfl) rfl (fun K hK => ?_)
              have HK := Lib.hid hK
              clear hK
              go_simp
              clear z0 z1 f0 f1
              obtain ⟨w40, hw40⟩ : ∃ W, W = (w24.setCell ⟨bS, 0, none⟩ (.slice ar ys.1.length cr)).setCell ⟨bS, 1, none⟩ (.slice are ys.2.length cre) := ⟨_, rfl⟩
              rw [← hw40]
              have g1 : (w24.setCell ⟨bS, 0, none⟩ (.slice ar ys.1.length cr)).heap[bS]? = some (.cells #[.slice ar ys.1.length cr, .slice none 0 0] 27) := by rw [heap_setCell_same _ _ _ _ _ _ HB.out]; rfl
              have g2 : w40.heap[bS]? = some (.cells #[.slice ar ys.1.length cr, .slice are ys.2.length cre] 27) := by rw [hw40]; exact (heap_setCell_same _ _ _ _ _ _ g1).trans rfl
              have HK40 : Keep bS (bS + 1) w24 w40 := by rw [hw40]; exact (keep_setj9 w24 bS 0 _).trans (keep_setj9 _ bS 1 _)
              have OR40 := Lib.hid (OR.out.keepd HK40 (by omega))
              have X40 := Lib.hid (X24.out.keep HK40 (by omega))
              have HB40 := Lib.hid g2
              have sz40 := HK40.size
              clear hw40 g1 g2 HK40 HB OR
              have hSS : (fun W : World => W.cell? ⟨w.heap.size, 0, none⟩ = some (.slice a0 x0.1.length cap0) ∧ W.cell? ⟨w.heap.size, 1, none⟩ = some (.slice a0e x0.2.length cap0e) ∧ W.cell? ⟨w.heap.size + 1, 0, none⟩ = some (.int .i64 y1) ∧ W.cell? ⟨w.heap.size + 1, 1, none⟩ = some (.int .i64 y2) ∧ W.cell? ⟨w.heap.size + 1, 2, none⟩ = some (.int .i64 y3)) w40 := HS.out _ X40.out
              refine HK.out _ _ (fun _ => hSS) ?_
              clear HK
              refine wpAnyE_take (i := 10) (v := ?_) rfl (by kernel_rfl) (by kernel_rfl) (by kernel_rfl) (fun _ _ _ h => h) (Or.inl ⟨by rfl, ?_⟩) (by assumption) ?_
              rotate_left 1
              focus (intro W hSW; (try dsimp only at hSW); go_simp; try with_reducible rfl)
              (try simp only [Act.put, List.setIfInBounds_toArray, List.set_cons_zero, List.set_cons_succ])
              clear hSS
              refine wpAnyE_done (by kernel_rfl) ?_ _
              try go_simp
              try go_wp2
              go_meet
              case rel => exact ⟨bS, _, _, ar, cr, are, cre, rfl, rfl, HB40.out, OR40.out, by omega, by omega, by omega, by omega, by omega, X40.out⟩
          case rest =>
            obtain ⟨bz, lz, tz, adz, cdz, adze, cdze, rfl, rfl, hB, hz, q1z, q2z, q3z, q4z, q5z, Y⟩ := hcut
            obtain ⟨W14, hW⟩ : ∃ W, W = wc := ⟨_, rfl⟩
            subst hW
            have sbz := (Array.getElem?_eq_some_iff.1 hB).1
            have s14 := Y.size
            have T__ := Lib.hid (X.out.trans Y)
            clear X
            have X := T__
            clear T__
            have T__ := Lib.hid (Y.blk BA0.out)
            clear BA0
            have BA0 := T__
            clear T__
            have T__ := Lib.hid (Y.blk BL1.out)
            clear BL1
            have BL1 := T__
            clear T__
            have T__ := Lib.hid (Os.out.ext Y)
            clear Os
            have Os := T__
            clear T__
            have T__ := Lib.hid (Y.blk BS9.out)
            clear BS9
            have BS9 := T__
            clear T__
            have T__ := Lib.hid (Y.blk BG9.out)
            clear BG9
            have BG9 := T__
            clear T__
            have T__ := Lib.hid (M.out.ext Y)
            clear M
            have M := T__
            clear T__
            have Oz := Lib.hid hz
            have BZ9 := Lib.hid hB
            clear hz hB Y
            have kA00 := blk_cell BA0.out (j := 0) rfl
            have kA01 := blk_cell BA0.out (j := 1) rfl
            have kL10 := blk_cell BL1.out (j := 0) rfl
            have kL11 := blk_cell BL1.out (j := 1) rfl
            have kL12 := blk_cell BL1.out (j := 2) rfl
            have kS90 := blk_cell BS9.out (j := 0) rfl
            have kS91 := blk_cell BS9.out (j := 1) rfl
            have kG90 := blk_cell BG9.out (j := 0) rfl
            have kG91 := blk_cell BG9.out (j := 1) rfl
            have kZ90 := blk_cell BZ9.out (j := 0) rfl
            have kZ91 := blk_cell BZ9.out (j := 1) rfl
            go_wp2_with fail
            refine (c_eqNet _ _ _ _ _ _ ys ys W14 Oz.out.read Os.out.read (by omega) (by omega)).mono ?_
            rw [decide_eq_true rfl]
            rintro e W15 ⟨rfl, Y⟩
            have s15 := Y.size
            clear kA00 kA01 kL10 kL11 kL12 kS90 kS91 kG90 kG91 kZ90 kZ91
            have T__ := Lib.hid (X.out.trans Y)
            clear X
            have X := T__
            clear T__
            have T__ := Lib.hid (Y.blk BA0.out)
            clear BA0
            have BA0 := T__
            clear T__
            have T__ := Lib.hid (Y.blk BL1.out)
            clear BL1
            have BL1 := T__
            clear T__
            have T__ := Lib.hid (Os.out.ext Y)
            clear Os
            have Os := T__
            clear T__
            have T__ := Lib.hid (Y.blk BS9.out)
            clear BS9
            have BS9 := T__
            clear T__
            have T__ := Lib.hid (Y.blk BG9.out)
            clear BG9
            have BG9 := T__
            clear T__
            have T__ := Lib.hid (M.out.ext Y)
            clear M
            have M := T__
            clear T__
            have T__ := Lib.hid (Oz.out.ext Y)
            clear Oz
            have Oz := T__
            clear T__
            have T__ := Lib.hid (Y.blk BZ9.out)
            clear BZ9
            have BZ9 := T__
            clear T__
            clear Y
            have kA00 := blk_cell BA0.out (j := 0) rfl
            have kA01 := blk_cell BA0.out (j := 1) rfl
            have kL10 := blk_cell BL1.out (j := 0) rfl
            have kL11 := blk_cell BL1.out (j := 1) rfl
            have kL12 := blk_cell BL1.out (j := 2) rfl
            have kS90 := blk_cell BS9.out (j := 0) rfl
            have kS91 := blk_cell BS9.out (j := 1) rfl
            have kG90 := blk_cell BG9.out (j := 0) rfl
            have kG91 := blk_cell BG9.out (j := 1) rfl
            have kZ90 := blk_cell BZ9.out (j := 0) rfl
            have kZ91 := blk_cell BZ9.out (j := 1) rfl
            go_wp2_with fail
            refine (c_heldNet _ _ _ ys.1.length ys.2.length W15 M.out (by omega) hyl).mono ?_
            rintro e W16 ⟨rfl, Y⟩
            have s16 := Y.size
            clear kA00 kA01 kL10 kL11 kL12 kS90 kS91 kG90 kG91 kZ90 kZ91
            have T__ := Lib.hid (X.out.trans Y)
            clear X
            have X := T__
            clear T__
            have T__ := Lib.hid (Y.blk BA0.out)
            clear BA0
            have BA0 := T__
            clear T__
            have T__ := Lib.hid (Y.blk BL1.out)
            clear BL1
            have BL1 := T__
            clear T__
            have T__ := Lib.hid (Os.out.ext Y)
            clear Os
            have Os := T__
            clear T__
            have T__ := Lib.hid (Y.blk BS9.out)
            clear BS9
            have BS9 := T__
            clear T__
            have T__ := Lib.hid (Y.blk BG9.out)
            clear BG9
            have BG9 := T__
            clear T__
            have T__ := Lib.hid (M.out.ext Y)
            clear M
            have M := T__
            clear T__
            have T__ := Lib.hid (Oz.out.ext Y)
            clear Oz
            have Oz := T__
            clear T__
            have T__ := Lib.hid (Y.blk BZ9.out)
            clear BZ9
            have BZ9 := T__
            clear T__
            clear Y
            go_wp2
            go_ret
            exact ⟨rfl, X.out⟩
    case true =>
      go_enter Try.func6, Try.ntmps6
      have X := Lib.hid (Ext.refl w)
      go_wp2_with fail
      obtain ⟨W1, hW⟩ : ∃ W, W = w.alloc (.cells #[.slice a0 x0.1.length cap0, .slice a0e x0.2.length cap0e] 52) := ⟨_, rfl⟩
      rw [← hW]
      have Y : Ext w W1 := by rw [hW]; exact Ext.alloc _ _
      have hB : W1.heap[w.heap.size]? = some (.cells #[.slice a0 x0.1.length cap0, .slice a0e x0.2.length cap0e] 52) := by rw [hW]; exact blk_alloc _ _
      have hnA0 : W1.heap.size = w.heap.size + 1 := by rw [hW, size_alloc]
      clear hW
      have sbA0 := (Array.getElem?_eq_some_iff.1 hB).1
      have s1 := Y.size
      have T__ := Lib.hid (X.out.trans Y)
      clear X
      have X := T__
      clear T__
      have BA0 := Lib.hid hB
      clear hB Y
      obtain ⟨W2, hW⟩ : ∃ W, W = W1.alloc (.cells #[.int .i64 y1, .int .i64 y2, .int .i64 y3] 60) := ⟨_, rfl⟩
      rw [← hW]
      have Y : Ext W1 W2 := by rw [hW]; exact Ext.alloc _ _
      have hB : W2.heap[W1.heap.size]? = some (.cells #[.int .i64 y1, .int .i64 y2, .int .i64 y3] 60) := by rw [hW]; exact blk_alloc _ _
      rw [hnA0] at hB
      clear hW
      have sbL1 := (Array.getElem?_eq_some_iff.1 hB).1
      have s2 := Y.size
      have T__ := Lib.hid (X.out.trans Y)
      clear X
      have X := T__
      clear T__
      have T__ := Lib.hid (Y.blk BA0.out)
      clear BA0
      have BA0 := T__
      clear T__
      have BL1 := Lib.hid hB
      clear hB Y
      refine (CZ0.out W2 X.out).mono ?_
      rintro e W3 ⟨rfl, Y⟩
      have s3 := Y.size
      have T__ := Lib.hid (X.out.trans Y)
      clear X
      have X := T__
      clear T__
      have T__ := Lib.hid (Y.blk BA0.out)
      clear BA0
      have BA0 := T__
      clear T__
      have T__ := Lib.hid (Y.blk BL1.out)
      clear BL1
      have BL1 := T__
      clear T__
      clear Y
      have kA00 := blk_cell BA0.out (j := 0) rfl
      have kA01 := blk_cell BA0.out (j := 1) rfl
      have kL10 := blk_cell BL1.out (j := 0) rfl
      have kL11 := blk_cell BL1.out (j := 1) rfl
      have kL12 := blk_cell BL1.out (j := 2) rfl
      go_upto_region 5 with fail
      clear kA00 kA01 kL10 kL11 kL12
      go_cut [6, 7] from 21 to 28 (fun v6 v7 wx => LkRes W3 ys true v6 v7 wx)
      case first =>
        have HS : Hid (∀ W, Ext W3 W → W.cell? ⟨w.heap.size, 0, none⟩ = some (.slice a0 x0.1.length cap0) ∧ W.cell? ⟨w.heap.size, 1, none⟩ = some (.slice a0e x0.2.length cap0e) ∧ W.cell? ⟨w.heap.size + 1, 0, none⟩ = some (.int .i64 y1) ∧ W.cell? ⟨w.heap.size + 1, 1, none⟩ = some (.int .i64 y2) ∧ W.cell? ⟨w.heap.size + 1, 2, none⟩ = some (.int .i64 y3)) := fun W hX => ⟨hX.cell (blk_cell BA0.out (j := 0) rfl), hX.cell (blk_cell BA0.out (j := 1) rfl), hX.cell (blk_cell BL1.out (j := 0) rfl), hX.cell (blk_cell BL1.out (j := 1) rfl), hX.cell (blk_cell BL1.out (j := 2) rfl)⟩
        obtain ⟨w20, hw20⟩ : ∃ W, W = (W3).drew := ⟨_, rfl⟩
        have X20 : Hid (Ext W3 w20) := by unfold Hid; rw [hw20]; exact Ext.drew _
        refine wp_region_E (S := fun W => W.cell? ⟨w.heap.size, 0, none⟩ = some (.slice a0 x0.1.length cap0) ∧ W.cell? ⟨w.heap.size, 1, none⟩ = some (.slice a0e x0.2.length cap0e) ∧ W.cell? ⟨w.heap.size + 1, 0, none⟩ = some (.int .i64 y1) ∧ W.cell? ⟨w.heap.size + 1, 1, none⟩ = some (.int .i64 y2) ∧ W.cell? ⟨w.heap.size + 1, 2, none⟩ = some (.int .i64 y3)) (by kernel_rfl) ?_
        rw [← hw20]
        clear hw20
        have sz20 := X20.out.size
        have hSS : (fun W : World => W.cell? ⟨w.heap.size, 0, none⟩ = some (.slice a0 x0.1.length cap0) ∧ W.cell? ⟨w.heap.size, 1, none⟩ = some (.slice a0e x0.2.length cap0e) ∧ W.cell? ⟨w.heap.size + 1, 0, none⟩ = some (.int .i64 y1) ∧ W.cell? ⟨w.heap.size + 1, 1, none⟩ = some (.int .i64 y2) ∧ W.cell? ⟨w.heap.size + 1, 2, none⟩ = some (.int .i64 y3)) w20 := HS.out _ X20.out
        refine wpAnyE_take (i := 0) (v := ?_) rfl (by kernel_rfl) (by kernel_rfl) (by kernel_rfl) (fun _ _ _ h => h) (Or.inl ⟨by rfl, ?_⟩) (by assumption) ?_
        rotate_left 1
        focus (intro W hSW; (try dsimp only at hSW); go_simp; try with_reducible rfl)
        (try simp only [Act.put, List.setIfInBounds_toArray, List.set_cons_zero, List.set_cons_succ])
        refine wpAnyE_take (i := 2) (v := ?_) rfl (by kernel_rfl) (by kernel_rfl) (by kernel_rfl) (fun _ _ _ h => h) (Or.inl ⟨by rfl, ?_⟩) (by assumption) ?_
        rotate_left 1
        focus (intro W hSW; (try dsimp only at hSW); go_simp; try with_reducible rfl)
        (try simp only [Act.put, List.setIfInBounds_toArray, List.set_cons_zero, List.set_cons_succ])
        refine wpAnyE_pair (i := 1) (j := 8) (by kernel_rfl) rfl rfl (fun K hK => ?_) (fun K hK => ?_)
        ·
          have HK := Lib.hid hK
          clear hK
          go_simp
          refine (CT0.out _ (X.out.trans X20.out)).mono ?_
          rintro e w21 ⟨vp, rfl, hp, hx9⟩
          obtain ⟨ap, cp, ape, cpe, rfl, ⟨_, _⟩, _, _⟩ := hp.form
          have OP := Lib.hid hp
          have X21 := Lib.hid (X20.out.trans hx9)
          have sz21 := hx9.size
          clear hSS hx9 hp
          have hSS : (fun W : World => W.cell? ⟨w.heap.size, 0, none⟩ = some (.slice a0 x0.1.length cap0) ∧ W.cell? ⟨w.heap.size, 1, none⟩ = some (.slice a0e x0.2.length cap0e) ∧ W.cell? ⟨w.heap.size + 1, 0, none⟩ = some (.int .i64 y1) ∧ W.cell? ⟨w.heap.size + 1, 1, none⟩ = some (.int .i64 y2) ∧ W.cell? ⟨w.heap.size + 1, 2, none⟩ = some (.int .i64 y3)) w21 := HS.out _ X21.out
          refine HK.out _ _ (fun _ => hSS) ?_
          clear HK
          refine wpAnyE_pair (i := 3) (j := 8) (by kernel_rfl) rfl rfl (fun K hK => ?_) (fun K hK => ?_)
          ·
            have HK := Lib.hid hK
            clear hK
            go_simp
            refine (c_toLink y1 y2 y3 _).mono ?_
            rintro e w22 ⟨rfl, hx9⟩
            have g9 := Lib.hid (OP.out.ext hx9)
            clear OP
            have OP := g9
            clear g9
            have X22 := Lib.hid (X21.out.trans hx9)
            have sz22 := hx9.size
            clear hSS hx9 
            have hSS : (fun W : World => W.cell? ⟨w.heap.size, 0, none⟩ = some (.slice a0 x0.1.length cap0) ∧ W.cell? ⟨w.heap.size, 1, none⟩ = some (.slice a0e x0.2.length cap0e) ∧ W.cell? ⟨w.heap.size + 1, 0, none⟩ = some (.int .i64 y1) ∧ W.cell? ⟨w.heap.size + 1, 1, none⟩ = some (.int .i64 y2) ∧ W.cell? ⟨w.heap.size + 1, 2, none⟩ = some (.int .i64 y3)) w22 := HS.out _ X22.out
            refine HK.out _ _ (fun _ => hSS) ?_
            clear HK
            refine wpAnyE_pair (i := 4) (j := 8) (by kernel_rfl) rfl rfl (fun K hK => ?_) (fun K hK => ?_)
            ·
              have HK := Lib.hid hK
              clear hK
              go_simp
              refine (CS.out w22 _ _ _ OP.out.read (by omega)).mono ?_
              rintro e w23 ⟨vr, rfl, hr, hx9⟩
              obtain ⟨ar, cr, are, cre, rfl, ⟨_, _⟩, _, _⟩ := hr.form
              have OR := Lib.hid hr
              clear OP
              have X23 := Lib.hid (X22.out.trans hx9)
              have sz23 := hx9.size
              clear hSS hx9 hr
              have hSS : (fun W : World => W.cell? ⟨w.heap.size, 0, none⟩ = some (.slice a0 x0.1.length cap0) ∧ W.cell? ⟨w.heap.size, 1, none⟩ = some (.slice a0e x0.2.length cap0e) ∧ W.cell? ⟨w.heap.size + 1, 0, none⟩ = some (.int .i64 y1) ∧ W.cell? ⟨w.heap.size + 1, 1, none⟩ = some (.int .i64 y2) ∧ W.cell? ⟨w.heap.size + 1, 2, none⟩ = some (.int .i64 y3)) w23 := HS.out _ X23.out
              refine HK.out _ _ (fun _ => hSS) ?_
              clear HK
              refine wpAnyE_take (i := 5) (v := ?_) rfl (by kernel_rfl) (by kernel_rfl) (by kernel_rfl) (fun _ _ _ h => h) (Or.inl ⟨by rfl, ?_⟩) (by assumption) ?_
              rotate_left 1
              focus (intro W hSW; (try dsimp only at hSW); go_simp; try with_reducible rfl)
              (try simp only [Act.put, List.setIfInBounds_toArray, List.set_cons_zero, List.set_cons_succ])
              refine wpAnyE_take (i := 6) (v := ?_) rfl (by kernel_rfl) (by kernel_rfl) (by kernel_rfl) (fun _ _ _ h => h) (Or.inl ⟨by rfl, ?_⟩) (by assumption) ?_
              rotate_left 1
              focus (intro W hSW; (try dsimp only at hSW); go_simp; try with_reducible rfl)
              (try simp only [Act.put, List.setIfInBounds_toArray, List.set_cons_zero, List.set_cons_succ])
              refine wpAnyE_take (i := 7) (v := ?_) rfl (by kernel_rfl) (by kernel_rfl) (by kernel_rfl) (fun _ _ _ h => h) (Or.inl ⟨by rfl, ?_⟩) (by assumption) ?_
              rotate_left 1
              focus (intro W hSW; (try dsimp only at hSW); go_simp; try with_reducible rfl)
              (try simp only [Act.put, List.setIfInBounds_toArray, List.set_cons_zero, List.set_cons_succ])
              refine wpAnyE_one (i := 8) (by kernel_rfl) rfl (fun K hK => ?_)
              have HK := Lib.hid hK
              clear hK
              go_simp
              obtain ⟨w24, hw9⟩ : ∃ W, W = w23.alloc (.cells #[.slice none 0 0, .slice none 0 0] 27) := ⟨_, rfl⟩
              rw [← hw9]
              obtain ⟨bS, hp9⟩ : ∃ p, p = w23.heap.size := ⟨_, rfl⟩
              rw [← hp9]
              have HB : Hid (w24.heap[bS]? = some (.cells #[.slice none 0 0, .slice none 0 0] 27)) := by unfold Hid; rw [hw9, hp9]; exact blk_alloc _ _
              have hx9 : Ext w23 w24 := by rw [hw9]; exact Ext.alloc _ _
              have sb9 := (Array.getElem?_eq_some_iff.1 HB.out).1
              have hb1 : w23.heap.size ≤ bS := by omega
              have hb2 : bS ≤ w23.heap.size := by omega
              clear hp9
              have g9 := Lib.hid (OR.out.ext hx9)
              clear OR
              have OR := g9
              clear g9
              have X24 := Lib.hid (X23.out.trans hx9)
              have sz24 := hx9.size
              clear hSS hx9 hw9
              have hSS : (fun W : World => W.cell? ⟨w.heap.size, 0, none⟩ = some (.slice a0 x0.1.length cap0) ∧ W.cell? ⟨w.heap.size, 1, none⟩ = some (.slice a0e x0.2.length cap0e) ∧ W.cell? ⟨w.heap.size + 1, 0, none⟩ = some (.int .i64 y1) ∧ W.cell? ⟨w.heap.size + 1, 1, none⟩ = some (.int .i64 y2) ∧ W.cell? ⟨w.heap.size + 1, 2, none⟩ = some (.int .i64 y3)) w24 := HS.out _ X24.out
              refine HK.out _ _ (fun _ => hSS) ?_
              clear HK
              clear hSS
              have z0 := blk_cell HB.out (j := 0) (v := .slice none 0 0) rfl
              have z1 := blk_cell HB.out (j := 1) (v := .slice none 0 0) rfl
              have f0 := blk_free HB.out 0
              have f1 := blk_free HB.out 1
              refine wpAnyE_one (i := 9) (by kernel_rfl) rfl (fun K hK => ?_)
              have HK := Lib.hid hK
              clear hK
              go_simp
              clear z0 z1 f0 f1
              obtain ⟨w40, hw40⟩ : ∃ W, W = (w24.setCell ⟨bS, 0, none⟩ (.slice ar ys.1.length cr)).setCell ⟨bS, 1, none⟩ (.slice are ys.2.length cre) := ⟨_, rfl⟩
              rw [← hw40]
              have g1 : (w24.setCell ⟨bS, 0, none⟩ (.slice ar ys.1.length cr)).heap[bS]? = some (.cells #[.slice ar ys.1.length cr, .slice none 0 0] 27) := by rw [heap_setCell_same _ _ _ _ _ _ HB.out]; rfl
              have g2 : w40.heap[bS]? = some (.cells #[.slice ar ys.1.length cr, .slice are ys.2.length cre] 27) := by rw [hw40]; exact (heap_setCell_same _ _ _ _ _ _ g1).trans rfl
              have HK40 : Keep bS (bS + 1) w24 w40 := by rw [hw40]; exact (keep_setj9 w24 bS 0 _).trans (keep_setj9 _ bS 1 _)
              have OR40 := Lib.hid (OR.out.keepd HK40 (by omega))
              have X40 := Lib.hid (X24.out.keep HK40 (by omega))
              have HB40 := Lib.hid g2
              have sz40 := HK40.size
              clear hw40 g1 g2 HK40 HB OR
              have hSS : (fun W : World => W.cell? ⟨w.heap.size, 0, none⟩ = some (.slice a0 x0.1.length cap0) ∧ W.cell? ⟨w.heap.size, 1, none⟩ = some (.slice a0e x0.2.length cap0e) ∧ W.cell? ⟨w.heap.size + 1, 0, none⟩ = some (.int .i64 y1) ∧ W.cell? ⟨w.heap.size + 1, 1, none⟩ = some (.int .i64 y2) ∧ W.cell? ⟨w.heap.size + 1, 2, none⟩ = some (.int .i64 y3)) w40 := HS.out _ X40.out
              refine HK.out _ _ (fun _ => hSS) ?_
              clear HK
              refine wpAnyE_take (i := 10) (v := ?_) rfl (by kernel_rfl) (by kernel_rfl) (by kernel_rfl) (fun _ _ _ h => h) (Or.inl ⟨by rfl, ?_⟩) (by assumption) ?_
              rotate_left 1
              focus (intro W hSW; (try dsimp only at hSW); go_simp; try with_reducible rfl)
              (try simp only [Act.put, List.setIfInBounds_toArray, List.set_cons_zero, List.set_cons_succ])
              clear hSS
              refine wpAnyE_done (by kernel_rfl) ?_ _
              try go_simp
              try go_wp2
              go_meet
              case rel => exact ⟨bS, _, _, ar, cr, are, cre, rfl, rfl, HB40.out, OR40.out, by omega, by omega, by omega, by omega, by omega, X40.out⟩
            ·
              have HK := Lib.hid hK
              clear hK
              go_simp
              obtain ⟨w23, hw9⟩ : ∃ W, W = w22.alloc (.cells #[.slice none 0 0, .slice none 0 0] 27) := ⟨_, rfl⟩
              rw [← hw9]
              obtain ⟨bS, hp9⟩ : ∃ p, p = w22.heap.size := ⟨_, rfl⟩
              rw [← hp9]
              have HB : Hid (w23.heap[bS]? = some (.cells #[.slice none 0 0, .slice none 0 0] 27)) := by unfold Hid; rw [hw9, hp9]; exact blk_alloc _ _
              have hx9 : Ext w22 w23 := by rw [hw9]; exact Ext.alloc _ _
              have sb9 := (Array.getElem?_eq_some_iff.1 HB.out).1
              have hb1 : w22.heap.size ≤ bS := by omega
              have hb2 : bS ≤ w22.heap.size := by omega
              clear hp9
              have g9 := Lib.hid (OP.out.ext hx9)
              clear OP
              have OP := g9
              clear g9
              have X23 := Lib.hid (X22.out.trans hx9)
              have sz23 := hx9.size
              clear hSS hx9 hw9
              have hSS : (fun W : World => W.cell? ⟨w.heap.size, 0, none⟩ = some (.slice a0 x0.1.length cap0) ∧ W.cell? ⟨w.heap.size, 1, none⟩ = some (.slice a0e x0.2.length cap0e) ∧ W.cell? ⟨w.heap.size + 1, 0, none⟩ = some (.int .i64 y1) ∧ W.cell? ⟨w.heap.size + 1, 1, none⟩ = some (.int .i64 y2) ∧ W.cell? ⟨w.heap.size + 1, 2, none⟩ = some (.int .i64 y3)) w23 := HS.out _ X23.out
              refine HK.out _ _ (fun _ => hSS) ?_
              clear HK
              refine wpAnyE_one (i := 4) (by kernel_rfl) rfl (fun K hK => ?_)
              have HK := Lib.hid hK
              clear hK
              go_simp
              refine (CS.out w23 _ _ _ OP.out.read (by omega)).mono ?_
              rintro e w24 ⟨vr, rfl, hr, hx9⟩
              obtain ⟨ar, cr, are, cre, rfl, ⟨_, _⟩, _, _⟩ := hr.form
              have OR := Lib.hid hr
              clear OP
              have g9 := Lib.hid (hx9.blk HB.out)
              clear HB
              have HB := g9
              clear g9
              have X24 := Lib.hid (X23.out.trans hx9)
              have sz24 := hx9.size
              clear hSS hx9 hr
              have hSS : (fun W : World => W.cell? ⟨w.heap.size, 0, none⟩ = some (.slice a0 x0.1.length cap0) ∧ W.cell? ⟨w.heap.size, 1, none⟩ = some (.slice a0e x0.2.length cap0e) ∧ W.cell? ⟨w.heap.size + 1, 0, none⟩ = some (.int .i64 y1) ∧ W.cell? ⟨w.heap.size + 1, 1, none⟩ = some (.int .i64 y2) ∧ W.cell? ⟨w.heap.size + 1, 2, none⟩ = some (.int .i64 y3)) w24 := HS.out _ X24.out
              refine HK.out _ _ (fun _ => hSS) ?_
              clear HK
              refine wpAnyE_take (i := 5) (v := ?_) rfl (by kernel_rfl) (by kernel_rfl) (by kernel_rfl) (fun _ _ _ h => h) (Or.inl ⟨by rfl, ?_⟩) (by assumption) ?_
              rotate_left 1
              focus (intro W hSW; (try dsimp only at hSW); go_simp; try with_reducible rfl)
              (try simp only [Act.put, List.setIfInBounds_toArray, List.set_cons_zero, List.set_cons_succ])
              refine wpAnyE_take (i := 6) (v := ?_) rfl (by kernel_rfl) (by kernel_rfl) (by kernel_rfl) (fun _ _ _ h => h) (Or.inl ⟨by rfl, ?_⟩) (by assumption) ?_
              rotate_left 1
              focus (intro W hSW; (try dsimp only at hSW); go_simp; try with_reducible rfl)
              (try simp only [Act.put, List.setIfInBounds_toArray, List.set_cons_zero, List.set_cons_succ])
              refine wpAnyE_take (i := 7) (v := ?_) rfl (by kernel_rfl) (by kernel_rfl) (by kernel_rfl) (fun _ _ _ h => h) (Or.inl ⟨by rfl, ?_⟩) (by assumption) ?_
              rotate_left 1
              focus (intro W hSW; (try dsimp only at hSW); go_simp; try with_reducible rfl)
              (try simp only [Act.put, List.setIfInBounds_toArray, List.set_cons_zero, List.set_cons_succ])
              clear hSS
              have z0 := blk_cell HB.out (j := 0) (v := .slice none 0 0) rfl
              have z1 := blk_cell HB.out (j := 1) (v := .slice none 0 0) rfl
              have f0 := blk_free HB.out 0
              have f1 := blk_free HB.out 1
              refine wpAnyE_one (i := 9) (by kernel_rfl) rfl (fun K hK => ?_)
              have HK := Lib.hid hK
              clear hK
              go_simp
              clear z0 z1 f0 f1
              obtain ⟨w40, hw40⟩ : ∃ W, W = (w24.setCell ⟨bS, 0, none⟩ (.slice ar ys.1.length cr)).setCell ⟨bS, 1, none⟩ (.slice are ys.2.length cre) := ⟨_, rfl⟩
              rw [← hw40]
              have g1 : (w24.setCell ⟨bS, 0, none⟩ (.slice ar ys.1.length cr)).heap[bS]? = some (.cells #[.slice ar ys.1.length cr, .slice none 0 0] 27) := by rw [heap_setCell_same _ _ _ _ _ _ HB.out]; rfl
              have g2 : w40.heap[bS]? = some (.cells #[.slice ar ys.1.length cr, .slice are ys.2.length cre] 27) := by rw [hw40]; exact (heap_setCell_same _ _ _ _ _ _ g1).trans rfl
              have HK40 : Keep bS (bS + 1) w24 w40 := by rw [hw40]; exact (keep_setj9 w24 bS 0 _).trans (keep_setj9 _ bS 1 _)
              have OR40 := Lib.hid (OR.out.keepd HK40 (by omega))
              have X40 := Lib.hid (X24.out.keep HK40 (by omega))
              have HB40 := Lib.hid g2
              have sz40 := HK40.size
              clear hw40 g1 g2 HK40 HB OR
              have hSS : (fun W : World => W.cell? ⟨w.heap.size, 0, none⟩ = some (.slice a0 x0.1.length cap0) ∧ W.cell? ⟨w.heap.size, 1, none⟩ = some (.slice a0e x0.2.length cap0e) ∧ W.cell? ⟨w.heap.size + 1, 0, none⟩ = some (.int .i64 y1) ∧ W.cell? ⟨w.heap.size + 1, 1, none⟩ = some (.int .i64 y2) ∧ W.cell? ⟨w.heap.size + 1, 2, none⟩ = some (.int .i64 y3)) w40 := HS.out _ X40.out
              refine HK.out _ _ (fun _ => hSS) ?_
              clear HK
              refine wpAnyE_take (i := 10) (v := ?_) rfl (by kernel_rfl) (by kernel_rfl) (by kernel_rfl) (fun _ _ _ h => h) (Or.inl ⟨by rfl, ?_⟩) (by assumption) ?_
              rotate_left 1
              focus (intro W hSW; (try dsimp only at hSW); go_simp; try with_reducible rfl)
              (try simp only [Act.put, List.setIfInBounds_toArray, List.set_cons_zero, List.set_cons_succ])
              clear hSS
              refine wpAnyE_done (by kernel_rfl) ?_ _
              try go_simp
              try go_wp2
              go_meet
              case rel => exact ⟨bS, _, _, ar, cr, are, cre, rfl, rfl, HB40.out, OR40.out, by omega, by omega, by omega, by omega, by omega, X40.out⟩
          ·
            have HK := Lib.hid hK
            clear hK
            go_simp
            obtain ⟨w22, hw9⟩ : ∃ W, W = w21.alloc (.cells #[.slice none 0 0, .slice none 0 0] 27) := ⟨_, rfl⟩
            rw [← hw9]
            obtain ⟨bS, hp9⟩ : ∃ p, p = w21.heap.size := ⟨_, rfl⟩
            rw [← hp9]
            have HB : Hid (w22.heap[bS]? = some (.cells #[.slice none 0 0, .slice none 0 0] 27)) := by unfold Hid; rw [hw9, hp9]; exact blk_alloc _ _
            have hx9 : Ext w21 w22 := by rw [hw9]; exact Ext.alloc _ _
            have sb9 := (Array.getElem?_eq_some_iff.1 HB.out).1
            have hb1 : w21.heap.size ≤ bS := by omega
            have hb2 : bS ≤ w21.heap.size := by omega
            clear hp9
            have g9 := Lib.hid (OP.out.ext hx9)
            clear OP
            have OP := g9
            clear g9
            have X22 := Lib.hid (X21.out.trans hx9)
            have sz22 := hx9.size
            clear hSS hx9 hw9
            have hSS : (fun W : World => W.cell? ⟨w.heap.size, 0, none⟩ = some (.slice a0 x0.1.length cap0) ∧ W.cell? ⟨w.heap.size, 1, none⟩ = some (.slice a0e x0.2.length cap0e) ∧ W.cell? ⟨w.heap.size + 1, 0, none⟩ = some (.int .i64 y1) ∧ W.cell? ⟨w.heap.size + 1, 1, none⟩ = some (.int .i64 y2) ∧ W.cell? ⟨w.heap.size + 1, 2, none⟩ = some (.int .i64 y3)) w22 := HS.out _ X22.out
            refine HK.out _ _ (fun _ => hSS) ?_
            clear HK
            refine wpAnyE_one (i := 3) (by kernel_rfl) rfl (fun K hK => ?_)
            have HK := Lib.hid hK
            clear hK
            go_simp
            refine (c_toLink y1 y2 y3 _).mono ?_
            rintro e w23 ⟨rfl, hx9⟩
            have g9 := Lib.hid (OP.out.ext hx9)
            clear OP
            have OP := g9
            clear g9
            have g9 := Lib.hid (hx9.blk HB.out)
            clear HB
            have HB := g9
            clear g9
            have X23 := Lib.hid (X22.out.trans hx9)
            have sz23 := hx9.size
            clear hSS hx9 
            have hSS : (fun W : World => W.cell? ⟨w.heap.size, 0, none⟩ = some (.slice a0 x0.1.length cap0) ∧ W.cell? ⟨w.heap.size, 1, none⟩ = some (.slice a0e x0.2.length cap0e) ∧ W.cell? ⟨w.heap.size + 1, 0, none⟩ = some (.int .i64 y1) ∧ W.cell? ⟨w.heap.size + 1, 1, none⟩ = some (.int .i64 y2) ∧ W.cell? ⟨w.heap.size + 1, 2, none⟩ = some (.int .i64 y3)) w23 := HS.out _ X23.out
            refine HK.out _ _ (fun _ => hSS) ?_
            clear HK
            refine wpAnyE_one (i := 4) (by kernel_rfl) rfl (fun K hK => ?_)
            have HK := Lib.hid hK
            clear hK
            go_simp
            refine (CS.out w23 _ _ _ OP.out.read (by omega)).mono ?_
            rintro e w24 ⟨vr, rfl, hr, hx9⟩
            obtain ⟨ar, cr, are, cre, rfl, ⟨_, _⟩, _, _⟩ := hr.form
            have OR := Lib.hid hr
            clear OP
            have g9 := Lib.hid (hx9.blk HB.out)
            clear HB
            have HB := g9
            clear g9
            have X24 := Lib.hid (X23.out.trans hx9)
            have sz24 := hx9.size
            clear hSS hx9 hr
            have hSS : (fun W : World => W.cell? ⟨w.heap.size, 0, none⟩ = some (.slice a0 x0.1.length cap0) ∧ W.cell? ⟨w.heap.size, 1, none⟩ = some (.slice a0e x0.2.length cap0e) ∧ W.cell? ⟨w.heap.size + 1, 0, none⟩ = some (.int .i64 y1) ∧ W.cell? ⟨w.heap.size + 1, 1, none⟩ = some (.int .i64 y2) ∧ W.cell? ⟨w.heap.size + 1, 2, none⟩ = some (.int .i64 y3)) w24 := HS.out _ X24.out
            refine HK.out _ _ (fun _ => hSS) ?_
            clear HK
            refine wpAnyE_take (i := 5) (v := ?_) rfl (by kernel_rfl) (by kernel_rfl) (by kernel_rfl) (fun _ _ _ h => h) (Or.inl ⟨by rfl, ?_⟩) (by assumption) ?_
            rotate_left 1
            focus (intro W hSW; (try dsimp only at hSW); go_simp; try with_reducible rfl)
            (try simp only [Act.put, List.setIfInBounds_toArray, List.set_cons_zero, List.set_cons_succ])
            refine wpAnyE_take (i := 6) (v := ?_) rfl (by kernel_rfl) (by kernel_rfl) (by kernel_rfl) (fun _ _ _ h => h) (Or.inl ⟨by rfl, ?_⟩) (by assumption) ?_
            rotate_left 1
            focus (intro W hSW; (try dsimp only at hSW); go_simp; try with_reducible rfl)
            (try simp only [Act.put, List.setIfInBounds_toArray, List.set_cons_zero, List.set_cons_succ])
            refine wpAnyE_take (i := 7) (v := ?_) rfl (by kernel_rfl) (by kernel_rfl) (by kernel_rfl) (fun _ _ _ h => h) (Or.inl ⟨by rfl, ?_⟩) (by assumption) ?_
            rotate_left 1
            focus (intro W hSW; (try dsimp only at hSW); go_simp; try with_reducible rfl)
            (try simp only [Act.put, List.setIfInBounds_toArray, List.set_cons_zero, List.set_cons_succ])
            clear hSS
            have z0 := blk_cell HB.out (j := 0) (v := .slice none 0 0) rfl
            have z1 := blk_cell HB.out (j := 1) (v := .slice none 0 0) rfl
            have f0 := blk_free HB.out 0
            have f1 := blk_free HB.out 1
            refine wpAnyE_one (i := 9) (by kernel_rfl) rfl (fun K hK => ?_)
            have HK := Lib.hid hK
            clear hK
            go_simp
            clear z0 z1 f0 f1
            obtain ⟨w40, hw40⟩ : ∃ W, W = (w24.setCell ⟨bS, 0, none⟩ (.slice ar ys.1.length cr)).setCell ⟨bS, 1, none⟩ (.slice are ys.2.length cre) := ⟨_, rfl⟩
            rw [← hw40]
            have g1 : (w24.setCell ⟨bS, 0, none⟩ (.slice ar ys.1.length cr)).heap[bS]? = some (.cells #[.slice ar ys.1.length cr, .slice none 0 0] 27) := by rw [heap_setCell_same _ _ _ _ _ _ HB.out]; rfl
            have g2 : w40.heap[bS]? = some (.cells #[.slice ar ys.1.length cr, .slice are ys.2.length cre] 27) := by rw [hw40]; exact (heap_setCell_same _ _ _ _ _ _ g1).trans rfl
            have HK40 : Keep bS (bS + 1) w24 w40 := by rw [hw40]; exact (keep_setj9 w24 bS 0 _).trans (keep_setj9 _ bS 1 _)
            have OR40 := Lib.hid (OR.out.keepd HK40 (by omega))
            have X40 := Lib.hid (X24.out.keep HK40 (by omega))
            have HB40 := Lib.hid g2
            have sz40 := HK40.size
            clear hw40 g1 g2 HK40 HB OR
            have hSS : (fun W : World => W.cell? ⟨w.heap.size, 0, none⟩ = some (.slice a0 x0.1.length cap0) ∧ W.cell? ⟨w.heap.size, 1, none⟩ = some (.slice a0e x0.2.length cap0e) ∧ W.cell? ⟨w.heap.size + 1, 0, none⟩ = some (.int .i64 y1) ∧ W.cell? ⟨w.heap.size + 1, 1, none⟩ = some (.int .i64 y2) ∧ W.cell? ⟨w.heap.size + 1, 2, none⟩ = some (.int .i64 y3)) w40 := HS.out _ X40.out
            refine HK.out _ _ (fun _ => hSS) ?_
            clear HK
            refine wpAnyE_take (i := 10) (v := ?_) rfl (by kernel_rfl) (by kernel_rfl) (by kernel_rfl) (fun _ _ _ h => h) (Or.inl ⟨by rfl, ?_⟩) (by assumption) ?_
            rotate_left 1
            focus (intro W hSW; (try dsimp only at hSW); go_simp; try with_reducible rfl)
            (try simp only [Act.put, List.setIfInBounds_toArray, List.set_cons_zero, List.set_cons_succ])
            clear hSS
            refine wpAnyE_done (by kernel_rfl) ?_ _
            try go_simp
            try go_wp2
            go_meet
            case rel => exact ⟨bS, _, _, ar, cr, are, cre, rfl, rfl, HB40.out, OR40.out, by omega, by omega, by omega, by omega, by omega, X40.out⟩
        ·
          have HK := Lib.hid hK
          clear hK
          go_simp
          obtain ⟨w21, hw9⟩ : ∃ W, W = w20.alloc (.cells #[.slice none 0 0, .slice none 0 0] 27) := ⟨_, rfl⟩
          rw [← hw9]
          obtain ⟨bS, hp9⟩ : ∃ p, p = w20.heap.size := ⟨_, rfl⟩
          rw [← hp9]
          have HB : Hid (w21.heap[bS]? = some (.cells #[.slice none 0 0, .slice none 0 0] 27)) := by unfold Hid; rw [hw9, hp9]; exact blk_alloc _ _
          have hx9 : Ext w20 w21 := by rw [hw9]; exact Ext.alloc _ _
          have sb9 := (Array.getElem?_eq_some_iff.1 HB.out).1
          have hb1 : w20.heap.size ≤ bS := by omega
          have hb2 : bS ≤ w20.heap.size := by omega
          clear hp9
          have X21 := Lib.hid (X20.out.trans hx9)
          have sz21 := hx9.size
          clear hSS hx9 hw9
          have hSS : (fun W : World => W.cell? ⟨w.heap.size, 0, none⟩ = some (.slice a0 x0.1.length cap0) ∧ W.cell? ⟨w.heap.size, 1, none⟩ = some (.slice a0e x0.2.length cap0e) ∧ W.cell? ⟨w.heap.size + 1, 0, none⟩ = some (.int .i64 y1) ∧ W.cell? ⟨w.heap.size + 1, 1, none⟩ = some (.int .i64 y2) ∧ W.cell? ⟨w.heap.size + 1, 2, none⟩ = some (.int .i64 y3)) w21 := HS.out _ X21.out
          refine HK.out _ _ (fun _ => hSS) ?_
          clear HK
          refine wpAnyE_one (i := 1) (by kernel_rfl) rfl (fun K hK => ?_)
          have HK := Lib.hid hK
          clear hK
          go_simp
          refine (CT0.out _ (X.out.trans X21.out)).mono ?_
          rintro e w22 ⟨vp, rfl, hp, hx9⟩
          obtain ⟨ap, cp, ape, cpe, rfl, ⟨_, _⟩, _, _⟩ := hp.form
          have OP := Lib.hid hp
          have g9 := Lib.hid (hx9.blk HB.out)
          clear HB
          have HB := g9
          clear g9
          have X22 := Lib.hid (X21.out.trans hx9)
          have sz22 := hx9.size
          clear hSS hx9 hp
          have hSS : (fun W : World => W.cell? ⟨w.heap.size, 0, none⟩ = some (.slice a0 x0.1.length cap0) ∧ W.cell? ⟨w.heap.size, 1, none⟩ = some (.slice a0e x0.2.length cap0e) ∧ W.cell? ⟨w.heap.size + 1, 0, none⟩ = some (.int .i64 y1) ∧ W.cell? ⟨w.heap.size + 1, 1, none⟩ = some (.int .i64 y2) ∧ W.cell? ⟨w.heap.size + 1, 2, none⟩ = some (.int .i64 y3)) w22 := HS.out _ X22.out
          refine HK.out _ _ (fun _ => hSS) ?_
          clear HK
          refine wpAnyE_one (i := 3) (by kernel_rfl) rfl (fun K hK => ?_)
          have HK := Lib.hid hK
          clear hK
          go_simp
          refine (c_toLink y1 y2 y3 _).mono ?_
          rintro e w23 ⟨rfl, hx9⟩
          have g9 := Lib.hid (OP.out.ext hx9)
          clear OP
          have OP := g9
          clear g9
          have g9 := Lib.hid (hx9.blk HB.out)
          clear HB
          have HB := g9
          clear g9
          have X23 := Lib.hid (X22.out.trans hx9)
          have sz23 := hx9.size
          clear hSS hx9 
          have hSS : (fun W : World => W.cell? ⟨w.heap.size, 0, none⟩ = some (.slice a0 x0.1.length cap0) ∧ W.cell? ⟨w.heap.size, 1, none⟩ = some (.slice a0e x0.2.length cap0e) ∧ W.cell? ⟨w.heap.size + 1, 0, none⟩ = some (.int .i64 y1) ∧ W.cell? ⟨w.heap.size + 1, 1, none⟩ = some (.int .i64 y2) ∧ W.cell? ⟨w.heap.size + 1, 2, none⟩ = some (.int .i64 y3)) w23 := HS.out _ X23.out
          refine HK.out _ _ (fun _ => hSS) ?_
          clear HK
          refine wpAnyE_one (i := 4) (by kernel_rfl) rfl (fun K hK => ?_)
          have HK := Lib.hid hK
          clear hK
          go_simp
          refine (CS.out w23 _ _ _ OP.out.read (by omega)).mono ?_
          rintro e w24 ⟨vr, rfl, hr, hx9⟩
          obtain ⟨ar, cr, are, cre, rfl, ⟨_, _⟩, _, _⟩ := hr.form
          have OR := Lib.hid hr
          clear OP
          have g9 := Lib.hid (hx9.blk HB.out)
          clear HB
          have HB := g9
          clear g9
          have X24 := Lib.hid (X23.out.trans hx9)
          have sz24 := hx9.size
          clear hSS hx9 hr
          have hSS : (fun W : World => W.cell? ⟨w.heap.size, 0, none⟩ = some (.slice a0 x0.1.length cap0) ∧ W.cell? ⟨w.heap.size, 1, none⟩ = some (.slice a0e x0.2.length cap0e) ∧ W.cell? ⟨w.heap.size + 1, 0, none⟩ = some (.int .i64 y1) ∧ W.cell? ⟨w.heap.size + 1, 1, none⟩ = some (.int .i64 y2) ∧ W.cell? ⟨w.heap.size + 1, 2, none⟩ = some (.int .i64 y3)) w24 := HS.out _ X24.out
          refine HK.out _ _ (fun _ => hSS) ?_
          clear HK
          refine wpAnyE_take (i := 5) (v := ?_) rfl (by kernel_rfl) (by kernel_rfl) (by kernel_rfl) (fun _ _ _ h => h) (Or.inl ⟨by rfl, ?_⟩) (by assumption) ?_
          rotate_left 1
          focus (intro W hSW; (try dsimp only at hSW); go_simp; try with_reducible rfl)
          (try simp only [Act.put, List.setIfInBounds_toArray, List.set_cons_zero, List.set_cons_succ])
          refine wpAnyE_take (i := 6) (v := ?_) rfl (by kernel_rfl) (by kernel_rfl) (by kernel_rfl) (fun _ _ _ h => h) (Or.inl ⟨by rfl, ?_⟩) (by assumption) ?_
          rotate_left 1
          focus (intro W hSW; (try dsimp only at hSW); go_simp; try with_reducible rfl)
          (try simp only [Act.put, List.setIfInBounds_toArray, List.set_cons_zero, List.set_cons_succ])
          refine wpAnyE_take (i := 7) (v := ?_) rfl (by kernel_rfl) (by kernel_rfl) (by kernel_rfl) (fun _ _ _ h => h) (Or.inl ⟨by rfl, ?_⟩) (by assumption) ?_
          rotate_left 1
          focus (intro W hSW; (try dsimp only at hSW); go_simp; try with_reducible rfl)
          (try simp only [Act.put, List.setIfInBounds_toArray, List.set_cons_zero, List.set_cons_succ])
          clear hSS
          have z0 := blk_cell HB.out (j := 0) (v := .slice none 0 0) rfl
          have z1 := blk_cell HB.out (j := 1) (v := .slice none 0 0) rfl
          have f0 := blk_free HB.out 0
          have f1 := blk_free HB.out 1
          refine wpAnyE_one (i := 9) (by kernel_rfl) rfl (fun K hK => ?_)
          have HK := Lib.hid hK
          clear hK
          go_simp
          clear z0 z1 f0 f1
          obtain ⟨w40, hw40⟩ : ∃ W, W = (w24.setCell ⟨bS, 0, none⟩ (.slice ar ys.1.length cr)).setCell ⟨bS, 1, none⟩ (.slice are ys.2.length cre) := ⟨_, rfl⟩
          rw [← hw40]
          have g1 : (w24.setCell ⟨bS, 0, none⟩ (.slice ar ys.1.length cr)).heap[bS]? = some (.cells #[.slice ar ys.1.length cr, .slice none 0 0] 27) := by rw [heap_setCell_same _ _ _ _ _ _ HB.out]; rfl
          have g2 : w40.heap[bS]? = some (.cells #[.slice ar ys.1.length cr, .slice are ys.2.length cre] 27) := by rw [hw40]; exact (heap_setCell_same _ _ _ _ _ _ g1).trans rfl
          have HK40 : Keep bS (bS + 1) w24 w40 := by rw [hw40]; exact (keep_setj9 w24 bS 0 _).trans (keep_setj9 _ bS 1 _)
          have OR40 := Lib.hid (OR.out.keepd HK40 (by omega))
          have X40 := Lib.hid (X24.out.keep HK40 (by omega))
          have HB40 := Lib.hid g2
          have sz40 := HK40.size
          clear hw40 g1 g2 HK40 HB OR
          have hSS : (fun W : World => W.cell? ⟨w.heap.size, 0, none⟩ = some (.slice a0 x0.1.length cap0) ∧ W.cell? ⟨w.heap.size, 1, none⟩ = some (.slice a0e x0.2.length cap0e) ∧ W.cell? ⟨w.heap.size + 1, 0, none⟩ = some (.int .i64 y1) ∧ W.cell? ⟨w.heap.size + 1, 1, none⟩ = some (.int .i64 y2) ∧ W.cell? ⟨w.heap.size + 1, 2, none⟩ = some (.int .i64 y3)) w40 := HS.out _ X40.out
          refine HK.out _ _ (fun _ => hSS) ?_
          clear HK
          refine wpAnyE_take (i := 10) (v := ?_) rfl (by kernel_rfl) (by kernel_rfl) (by kernel_rfl) (fun _ _ _ h => h) (Or.inl ⟨by rfl, ?_⟩) (by assumption) ?_
          rotate_left 1
          focus (intro W hSW; (try dsimp only at hSW); go_simp; try with_reducible rfl)
          (try simp only [Act.put, List.setIfInBounds_toArray, List.set_cons_zero, List.set_cons_succ])
          clear hSS
          refine wpAnyE_done (by kernel_rfl) ?_ _
          try go_simp
          try go_wp2
          go_meet
          case rel => exact ⟨bS, _, _, ar, cr, are, cre, rfl, rfl, HB40.out, OR40.out, by omega, by omega, by omega, by omega, by omega, X40.out⟩
      case rest =>
        obtain ⟨bs, ls, ts, ads, cds, adse, cdse, rfl, rfl, hB, hs, q1s, q2s, q3s, q4s, q5s, Y⟩ := hcut
        obtain ⟨W4, hW⟩ : ∃ W, W = wc := ⟨_, rfl⟩
        subst hW
        have sbs := (Array.getElem?_eq_some_iff.1 hB).1
        have s4 := Y.size
        have T__ := Lib.hid (X.out.trans Y)
        clear X
        have X := T__
        clear T__
        have T__ := Lib.hid (Y.blk BA0.out)
        clear BA0
        have BA0 := T__
        clear T__
        have T__ := Lib.hid (Y.blk BL1.out)
        clear BL1
        have BL1 := T__
        clear T__
        have Os := Lib.hid hs
        have BS9 := Lib.hid hB
        clear hs hB Y
        have kA00 := blk_cell BA0.out (j := 0) rfl
        have kA01 := blk_cell BA0.out (j := 1) rfl
        have kL10 := blk_cell BL1.out (j := 0) rfl
        have kL11 := blk_cell BL1.out (j := 1) rfl
        have kL12 := blk_cell BL1.out (j := 2) rfl
        have kS90 := blk_cell BS9.out (j := 0) rfl
        have kS91 := blk_cell BS9.out (j := 1) rfl
        go_wp2_with fail
        refine (CT0.out W4 X.out).mono ?_
        rintro e W5 ⟨q0, rfl, hq0, Y⟩
        have s5 := Y.size
        clear kA00 kA01 kL10 kL11 kL12 kS90 kS91
        have T__ := Lib.hid (X.out.trans Y)
        clear X
        have X := T__
        clear T__
        have T__ := Lib.hid (Y.blk BA0.out)
        clear BA0
        have BA0 := T__
        clear T__
        have T__ := Lib.hid (Y.blk BL1.out)
        clear BL1
        have BL1 := T__
        clear T__
        have T__ := Lib.hid (Os.out.ext Y)
        clear Os
        have Os := T__
        clear T__
        have T__ := Lib.hid (Y.blk BS9.out)
        clear BS9
        have BS9 := T__
        clear T__
        have Oq0 := Lib.hid hq0
        obtain ⟨adq0, cdq0, adq0e, cdq0e, rfl, ⟨_, _⟩, _, _⟩ := (Oq0.out.form)
        clear hq0 Y
        have kA00 := blk_cell BA0.out (j := 0) rfl
        have kA01 := blk_cell BA0.out (j := 1) rfl
        have kL10 := blk_cell BL1.out (j := 0) rfl
        have kL11 := blk_cell BL1.out (j := 1) rfl
        have kL12 := blk_cell BL1.out (j := 2) rfl
        have kS90 := blk_cell BS9.out (j := 0) rfl
        have kS91 := blk_cell BS9.out (j := 1) rfl
        have kA00n := (Ext.alloc (W5) (.cells #[.slice adq0 x0.1.length cdq0, .slice adq0e x0.2.length cdq0e] 27)).cell kA00
        have kA01n := (Ext.alloc (W5) (.cells #[.slice adq0 x0.1.length cdq0, .slice adq0e x0.2.length cdq0e] 27)).cell kA01
        have kL10n := (Ext.alloc (W5) (.cells #[.slice adq0 x0.1.length cdq0, .slice adq0e x0.2.length cdq0e] 27)).cell kL10
        have kL11n := (Ext.alloc (W5) (.cells #[.slice adq0 x0.1.length cdq0, .slice adq0e x0.2.length cdq0e] 27)).cell kL11
        have kL12n := (Ext.alloc (W5) (.cells #[.slice adq0 x0.1.length cdq0, .slice adq0e x0.2.length cdq0e] 27)).cell kL12
        have kS90n := (Ext.alloc (W5) (.cells #[.slice adq0 x0.1.length cdq0, .slice adq0e x0.2.length cdq0e] 27)).cell kS90
        have kS91n := (Ext.alloc (W5) (.cells #[.slice adq0 x0.1.length cdq0, .slice adq0e x0.2.length cdq0e] 27)).cell kS91
        go_upto_region 7 with fail
        obtain ⟨W6, hW⟩ : ∃ W, W = W5.alloc (.cells #[.slice adq0 x0.1.length cdq0, .slice adq0e x0.2.length cdq0e] 27) := ⟨_, rfl⟩
        rw [← hW]
        have Y : Ext W5 W6 := by rw [hW]; exact Ext.alloc _ _
        have hB : W6.heap[W5.heap.size]? = some (.cells #[.slice adq0 x0.1.length cdq0, .slice adq0e x0.2.length cdq0e] 27) := by rw [hW]; exact blk_alloc _ _
        clear hW
        have sbQ0 := (Array.getElem?_eq_some_iff.1 hB).1
        have s6 := Y.size
        clear kA00 kA01 kL10 kL11 kL12 kS90 kS91 kA00n kA01n kL10n kL11n kL12n kS90n kS91n
        have T__ := Lib.hid (X.out.trans Y)
        clear X
        have X := T__
        clear T__
        have T__ := Lib.hid (Y.blk BA0.out)
        clear BA0
        have BA0 := T__
        clear T__
        have T__ := Lib.hid (Y.blk BL1.out)
        clear BL1
        have BL1 := T__
        clear T__
        have T__ := Lib.hid (Os.out.ext Y)
        clear Os
        have Os := T__
        clear T__
        have T__ := Lib.hid (Y.blk BS9.out)
        clear BS9
        have BS9 := T__
        clear T__
        have T__ := Lib.hid (Oq0.out.ext Y)
        clear Oq0
        have Oq0 := T__
        clear T__
        have BQ0 := Lib.hid hB
        clear hB Y
        go_cut [9, 10] from 31 to 37 (fun v6 v7 wx => LkRes W6 ys true v6 v7 wx)
        case first =>
          have HS : Hid (∀ W, Ext W6 W → W.cell? ⟨W5.heap.size, 0, none⟩ = some (.slice adq0 x0.1.length cdq0) ∧ W.cell? ⟨W5.heap.size, 1, none⟩ = some (.slice adq0e x0.2.length cdq0e) ∧ W.cell? ⟨w.heap.size + 1, 0, none⟩ = some (.int .i64 y1) ∧ W.cell? ⟨w.heap.size + 1, 1, none⟩ = some (.int .i64 y2) ∧ W.cell? ⟨w.heap.size + 1, 2, none⟩ = some (.int .i64 y3)) := fun W hX => ⟨hX.cell (blk_cell BQ0.out (j := 0) rfl), hX.cell (blk_cell BQ0.out (j := 1) rfl), hX.cell (blk_cell BL1.out (j := 0) rfl), hX.cell (blk_cell BL1.out (j := 1) rfl), hX.cell (blk_cell BL1.out (j := 2) rfl)⟩
          obtain ⟨w20, hw20⟩ : ∃ W, W = (W6).drew := ⟨_, rfl⟩
          have X20 : Hid (Ext W6 w20) := by unfold Hid; rw [hw20]; exact Ext.drew _
          refine wp_region_E (S := fun W => W.cell? ⟨W5.heap.size, 0, none⟩ = some (.slice adq0 x0.1.length cdq0) ∧ W.cell? ⟨W5.heap.size, 1, none⟩ = some (.slice adq0e x0.2.length cdq0e) ∧ W.cell? ⟨w.heap.size + 1, 0, none⟩ = some (.int .i64 y1) ∧ W.cell? ⟨w.heap.size + 1, 1, none⟩ = some (.int .i64 y2) ∧ W.cell? ⟨w.heap.size + 1, 2, none⟩ = some (.int .i64 y3)) (by kernel_rfl) ?_
          rw [← hw20]
          clear hw20
          have sz20 := X20.out.size
          have hSS : (fun W : World => W.cell? ⟨W5.heap.size, 0, none⟩ = some (.slice adq0 x0.1.length cdq0) ∧ W.cell? ⟨W5.heap.size, 1, none⟩ = some (.slice adq0e x0.2.length cdq0e) ∧ W.cell? ⟨w.heap.size + 1, 0, none⟩ = some (.int .i64 y1) ∧ W.cell? ⟨w.heap.size + 1, 1, none⟩ = some (.int .i64 y2) ∧ W.cell? ⟨w.heap.size + 1, 2, none⟩ = some (.int .i64 y3)) w20 := HS.out _ X20.out
          have OP := Lib.hid (Oq0.out.ext X20.out)
          refine wpAnyE_take (i := 0) (v := ?_) rfl (by kernel_rfl) (by kernel_rfl) (by kernel_rfl) (fun _ _ _ h => h) (Or.inl ⟨by rfl, ?_⟩) (by assumption) ?_
          rotate_left 1
          focus (intro W hSW; (try dsimp only at hSW); go_simp; try with_reducible rfl)
          (try simp only [Act.put, List.setIfInBounds_toArray, List.set_cons_zero, List.set_cons_succ])
          refine wpAnyE_take (i := 1) (v := ?_) rfl (by kernel_rfl) (by kernel_rfl) (by kernel_rfl) (fun _ _ _ h => h) (Or.inl ⟨by rfl, ?_⟩) (by assumption) ?_
          rotate_left 1
          focus (intro W hSW; (try dsimp only at hSW); go_simp; try with_reducible rfl)
          (try simp only [Act.put, List.setIfInBounds_toArray, List.set_cons_zero, List.set_cons_succ])
          refine wpAnyE_pair (i := 2) (j := 7) (by kernel_rfl) rfl rfl (fun K hK => ?_) (fun K hK => ?_)
          ·
            have HK := Lib.hid hK
            clear hK
            go_simp
            refine (c_toLink y1 y2 y3 _).mono ?_
            rintro e w21 ⟨rfl, hx9⟩
            have g9 := Lib.hid (OP.out.ext hx9)
            clear OP
            have OP := g9
            clear g9
            have X21 := Lib.hid (X20.out.trans hx9)
            have sz21 := hx9.size
            clear hSS hx9 
            have hSS : (fun W : World => W.cell? ⟨W5.heap.size, 0, none⟩ = some (.slice adq0 x0.1.length cdq0) ∧ W.cell? ⟨W5.heap.size, 1, none⟩ = some (.slice adq0e x0.2.length cdq0e) ∧ W.cell? ⟨w.heap.size + 1, 0, none⟩ = some (.int .i64 y1) ∧ W.cell? ⟨w.heap.size + 1, 1, none⟩ = some (.int .i64 y2) ∧ W.cell? ⟨w.heap.size + 1, 2, none⟩ = some (.int .i64 y3)) w21 := HS.out _ X21.out
            refine HK.out _ _ (fun _ => hSS) ?_
            clear HK
            refine wpAnyE_pair (i := 3) (j := 7) (by kernel_rfl) rfl rfl (fun K hK => ?_) (fun K hK => ?_)
            ·
              have HK := Lib.hid hK
              clear hK
              go_simp
              refine (CI.out w21 _ _ _ OP.out.read (by omega)).mono ?_
              rintro e w22 ⟨vr, rfl, hr, hx9⟩
              obtain ⟨ar, cr, are, cre, rfl, ⟨_, _⟩, _, _⟩ := hr.form
              have OR := Lib.hid hr
              clear OP
              have X22 := Lib.hid (X21.out.trans hx9)
              have sz22 := hx9.size
              clear hSS hx9 hr
              have hSS : (fun W : World => W.cell? ⟨W5.heap.size, 0, none⟩ = some (.slice adq0 x0.1.length cdq0) ∧ W.cell? ⟨W5.heap.size, 1, none⟩ = some (.slice adq0e x0.2.length cdq0e) ∧ W.cell? ⟨w.heap.size + 1, 0, none⟩ = some (.int .i64 y1) ∧ W.cell? ⟨w.heap.size + 1, 1, none⟩ = some (.int .i64 y2) ∧ W.cell? ⟨w.heap.size + 1, 2, none⟩ = some (.int .i64 y3)) w22 := HS.out _ X22.out
              refine HK.out _ _ (fun _ => hSS) ?_
              clear HK
              refine wpAnyE_take (i := 4) (v := ?_) rfl (by kernel_rfl) (by kernel_rfl) (by kernel_rfl) (fun _ _ _ h => h) (Or.inl ⟨by rfl, ?_⟩) (by assumption) ?_
              rotate_left 1
              focus (intro W hSW; (try dsimp only at hSW); go_simp; try with_reducible rfl)
              (try simp only [Act.put, List.setIfInBounds_toArray, List.set_cons_zero, List.set_cons_succ])
              refine wpAnyE_take (i := 5) (v := ?_) rfl (by kernel_rfl) (by kernel_rfl) (by kernel_rfl) (fun _ _ _ h => h) (Or.inl ⟨by rfl, ?_⟩) (by assumption) ?_
              rotate_left 1
              focus (intro W hSW; (try dsimp only at hSW); go_simp; try with_reducible rfl)
              (try simp only [Act.put, List.setIfInBounds_toArray, List.set_cons_zero, List.set_cons_succ])
              refine wpAnyE_take (i := 6) (v := ?_) rfl (by kernel_rfl) (by kernel_rfl) (by kernel_rfl) (fun _ _ _ h => h) (Or.inl ⟨by rfl, ?_⟩) (by assumption) ?_
              rotate_left 1
              focus (intro W hSW; (try dsimp only at hSW); go_simp; try with_reducible rfl)
              (try simp only [Act.put, List.setIfInBounds_toArray, List.set_cons_zero, List.set_cons_succ])
              refine wpAnyE_one (i := 7) (by kernel_rfl) rfl (fun K hK => ?_)
              have HK := Lib.hid hK
              clear hK
              go_simp
              obtain ⟨w23, hw9⟩ : ∃ W, W = w22.alloc (.cells #[.slice none 0 0, .slice none 0 0] 27) := ⟨_, rfl⟩
              rw [← hw9]
              obtain ⟨bS, hp9⟩ : ∃ p, p = w22.heap.size := ⟨_, rfl⟩
              rw [← hp9]
              have HB : Hid (w23.heap[bS]? = some (.cells #[.slice none 0 0, .slice none 0 0] 27)) := by unfold Hid; rw [hw9, hp9]; exact blk_alloc _ _
              have hx9 : Ext w22 w23 := by rw [hw9]; exact Ext.alloc _ _
              have sb9 := (Array.getElem?_eq_some_iff.1 HB.out).1
              have hb1 : w22.heap.size ≤ bS := by omega
              have hb2 : bS ≤ w22.heap.size := by omega
              clear hp9
              have g9 := Lib.hid (OR.out.ext hx9)
              clear OR
              have OR := g9
              clear g9
              have X23 := Lib.hid (X22.out.trans hx9)
              have sz23 := hx9.size
              clear hSS hx9 hw9
              have hSS : (fun W : World => W.cell? ⟨W5.heap.size, 0, none⟩ = some (.slice adq0 x0.1.length cdq0) ∧ W.cell? ⟨W5.heap.size, 1, none⟩ = some (.slice adq0e x0.2.length cdq0e) ∧ W.cell? ⟨w.heap.size + 1, 0, none⟩ = some (.int .i64 y1) ∧ W.cell? ⟨w.heap.size + 1, 1, none⟩ = some (.int .i64 y2) ∧ W.cell? ⟨w.heap.size + 1, 2, none⟩ = some (.int .i64 y3)) w23 := HS.out _ X23.out
              refine HK.out _ _ (fun _ => hSS) ?_
              clear HK
              clear hSS
              have z0 := blk_cell HB.out (j := 0) (v := .slice none 0 0) rfl
              have z1 := blk_cell HB.out (j := 1) (v := .slice none 0 0) rfl
              have f0 := blk_free HB.out 0
              have f1 := blk_free HB.out 1
              refine wpAnyE_one (i := 8) (by kernel_rfl) rfl (fun K hK => ?_)
              have HK := Lib.hid hK
              clear hK
              go_simp
              clear z0 z1 f0 f1
              obtain ⟨w40, hw40⟩ : ∃ W, W = (w23.setCell ⟨bS, 0, none⟩ (.slice ar ys.1.length cr)).setCell ⟨bS, 1, none⟩ (.slice are ys.2.length cre) := ⟨_, rfl⟩
              rw [← hw40]
              have g1 : (w23.setCell ⟨bS, 0, none⟩ (.slice ar ys.1.length cr)).heap[bS]? = some (.cells #[.slice ar ys.1.length cr, .slice none 0 0] 27) := by rw [heap_setCell_same _ _ _ _ _ _ HB.out]; rfl
              have g2 : w40.heap[bS]? = some (.cells #[.slice ar ys.1.length cr, .slice are ys.2.length cre] 27) := by rw [hw40]; exact (heap_setCell_same _ _ _ _ _ _ g1).trans rfl
              have HK40 : Keep bS (bS + 1) w23 w40 := by rw [hw40]; exact (keep_setj9 w23 bS 0 _).trans (keep_setj9 _ bS 1 _)
              have OR40 := Lib.hid (OR.out.keepd HK40 (by omega))
              have X40 := Lib.hid (X23.out.keep HK40 (by omega))
              have HB40 := Lib.hid g2
              have sz40 := HK40.size
              clear hw40 g1 g2 HK40 HB OR
              have hSS : (fun W : World => W.cell? ⟨W5.heap.size, 0, none⟩ = some (.slice adq0 x0.1.length cdq0) ∧ W.cell? ⟨W5.heap.size, 1, none⟩ = some (.slice adq0e x0.2.length cdq0e) ∧ W.cell? ⟨w.heap.size + 1, 0, none⟩ = some (.int .i64 y1) ∧ W.cell? ⟨w.heap.size + 1, 1, none⟩ = some (.int .i64 y2) ∧ W.cell? ⟨w.heap.size + 1, 2, none⟩ = some (.int .i64 y3)) w40 := HS.out _ X40.out
              refine HK.out _ _ (fun _ => hSS) ?_
              clear HK
              refine wpAnyE_take (i := 9) (v := ?_) rfl (by kernel_rfl) (by kernel_rfl) (by kernel_rfl) (fun _ _ _ h => h) (Or.inl ⟨by rfl, ?_⟩) (by assumption) ?_
              rotate_left 1
              focus (intro W hSW; (try dsimp only at hSW); go_simp; try with_reducible rfl)
              (try simp only [Act.put, List.setIfInBounds_toArray, List.set_cons_zero, List.set_cons_succ])
              clear hSS
              refine wpAnyE_done (by kernel_rfl) ?_ _
              try go_simp
              try go_wp2
              go_meet
              case rel => exact ⟨bS, _, _, ar, cr, are, cre, rfl, rfl, HB40.out, OR40.out, by omega, by omega, by omega, by omega, by omega, X40.out⟩
            ·
              have HK := Lib.hid hK
              clear hK
              go_simp
              obtain ⟨w22, hw9⟩ : ∃ W, W = w21.alloc (.cells #[.slice none 0 0, .slice none 0 0] 27) := ⟨_, rfl⟩
              rw [← hw9]
              obtain ⟨bS, hp9⟩ : ∃ p, p = w21.heap.size := ⟨_, rfl⟩
              rw [← hp9]
              have HB : Hid (w22.heap[bS]? = some (.cells #[.slice none 0 0, .slice none 0 0] 27)) := by unfold Hid; rw [hw9, hp9]; exact blk_alloc _ _
              have hx9 : Ext w21 w22 := by rw [hw9]; exact Ext.alloc _ _
              have sb9 := (Array.getElem?_eq_some_iff.1 HB.out).1
              have hb1 : w21.heap.size ≤ bS := by omega
              have hb2 : bS ≤ w21.heap.size := by omega
              clear hp9
              have g9 := Lib.hid (OP.out.ext hx9)
              clear OP
              have OP := g9
              clear g9
              have X22 := Lib.hid (X21.out.trans hx9)
              have sz22 := hx9.size
              clear hSS hx9 hw9
              have hSS : (fun W : World => W.cell? ⟨W5.heap.size, 0, none⟩ = some (.slice adq0 x0.1.length cdq0) ∧ W.cell? ⟨W5.heap.size, 1, none⟩ = some (.slice adq0e x0.2.length cdq0e) ∧ W.cell? ⟨w.heap.size + 1, 0, none⟩ = some (.int .i64 y1) ∧ W.cell? ⟨w.heap.size + 1, 1, none⟩ = some (.int .i64 y2) ∧ W.cell? ⟨w.heap.size + 1, 2, none⟩ = some (.int .i64 y3)) w22 := HS.out _ X22.out
              refine HK.out _ _ (fun _ => hSS) ?_
              clear HK
              refine wpAnyE_one (i := 3) (by kernel_rfl) rfl (fun K hK => ?_)
              have HK := Lib.hid hK
              clear hK
              go_simp
              refine (CI.out w22 _ _ _ OP.out.read (by omega)).mono ?_
              rintro e w23 ⟨vr, rfl, hr, hx9⟩
              obtain ⟨ar, cr, are, cre, rfl, ⟨_, _⟩, _, _⟩ := hr.form
              have OR := Lib.hid hr
              clear OP
              have g9 := Lib.hid (hx9.blk HB.out)
              clear HB
              have HB := g9
              clear g9
              have X23 := Lib.hid (X22.out.trans hx9)
              have sz23 := hx9.size
              clear hSS hx9 hr
              have hSS : (fun W : World => W.cell? ⟨W5.heap.size, 0, none⟩ = some (.slice adq0 x0.1.length cdq0) ∧ W.cell? ⟨W5.heap.size, 1, none⟩ = some (.slice adq0e x0.2.length cdq0e) ∧ W.cell? ⟨w.heap.size + 1, 0, none⟩ = some (.int .i64 y1) ∧ W.cell? ⟨w.heap.size + 1, 1, none⟩ = some (.int .i64 y2) ∧ W.cell? ⟨w.heap.size + 1, 2, none⟩ = some (.int .i64 y3)) w23 := HS.out _ X23.out
              refine HK.out _ _ (fun _ => hSS) ?_
              clear HK
              refine wpAnyE_take (i := 4) (v := ?_) rfl (by kernel_rfl) (by kernel_rfl) (by kernel_rfl) (fun _ _ _ h => h) (Or.inl ⟨by rfl, ?_⟩) (by assumption) ?_
              rotate_left 1
              focus (intro W hSW; (try dsimp only at hSW); go_simp; try with_reducible rfl)
              (try simp only [Act.put, List.setIfInBounds_toArray, List.set_cons_zero, List.set_cons_succ])
              refine wpAnyE_take (i := 5) (v := ?_) rfl (by kernel_rfl) (by kernel_rfl) (by kernel_rfl) (fun _ _ _ h => h) (Or.inl ⟨by rfl, ?_⟩) (by assumption) ?_
              rotate_left 1
              focus (intro W hSW; (try dsimp only at hSW); go_simp; try with_reducible rfl)
              (try simp only [Act.put, List.setIfInBounds_toArray, List.set_cons_zero, List.set_cons_succ])
              refine wpAnyE_take (i := 6) (v := ?_) rfl (by kernel_rfl) (by kernel_rfl) (by kernel_rfl) (fun _ _ _ h => h) (Or.inl ⟨by rfl, ?_⟩) (by assumption) ?_
              rotate_left 1
              focus (intro W hSW; (try dsimp only at hSW); go_simp; try with_reducible rfl)
              (try simp only [Act.put, List.setIfInBounds_toArray, List.set_cons_zero, List.set_cons_succ])
              clear hSS
              have z0 := blk_cell HB.out (j := 0) (v := .slice none 0 0) rfl
              have z1 := blk_cell HB.out (j := 1) (v := .slice none 0 0) rfl
              have f0 := blk_free HB.out 0
              have f1 := blk_free HB.out 1
              refine wpAnyE_one (i := 8) (by kernel_rfl) rfl (fun K hK => ?_)
              have HK := Lib.hid hK
              clear hK
              go_simp
              clear z0 z1 f0 f1
              obtain ⟨w40, hw40⟩ : ∃ W, W = (w23.setCell ⟨bS, 0, none⟩ (.slice ar ys.1.length cr)).setCell ⟨bS, 1, none⟩ (.slice are ys.2.length cre) := ⟨_, rfl⟩
              rw [← hw40]
              have g1 : (w23.setCell ⟨bS, 0, none⟩ (.slice ar ys.1.length cr)).heap[bS]? = some (.cells #[.slice ar ys.1.length cr, .slice none 0 0] 27) := by rw [heap_setCell_same _ _ _ _ _ _ HB.out]; rfl
              have g2 : w40.heap[bS]? = some (.cells #[.slice ar ys.1.length cr, .slice are ys.2.length cre] 27) := by rw [hw40]; exact (heap_setCell_same _ _ _ _ _ _ g1).trans rfl
              have HK40 : Keep bS (bS + 1) w23 w40 := by rw [hw40]; exact (keep_setj9 w23 bS 0 _).trans (keep_setj9 _ bS 1 _)
              have OR40 := Lib.hid (OR.out.keepd HK40 (by omega))
              have X40 := Lib.hid (X23.out.keep HK40 (by omega))
              have HB40 := Lib.hid g2
              have sz40 := HK40.size
              clear hw40 g1 g2 HK40 HB OR
              have hSS : (fun W : World => W.cell? ⟨W5.heap.size, 0, none⟩ = some (.slice adq0 x0.1.length cdq0) ∧ W.cell? ⟨W5.heap.size, 1, none⟩ = some (.slice adq0e x0.2.length cdq0e) ∧ W.cell? ⟨w.heap.size + 1, 0, none⟩ = some (.int .i64 y1) ∧ W.cell? ⟨w.heap.size + 1, 1, none⟩ = some (.int .i64 y2) ∧ W.cell? ⟨w.heap.size + 1, 2, none⟩ = some (.int .i64 y3)) w40 := HS.out _ X40.out
              refine HK.out _ _ (fun _ => hSS) ?_
              clear HK
              refine wpAnyE_take (i := 9) (v := ?_) rfl (by kernel_rfl) (by kernel_rfl) (by kernel_rfl) (fun _ _ _ h => h) (Or.inl ⟨by rfl, ?_⟩) (by assumption) ?_
              rotate_left 1
              focus (intro W hSW; (try dsimp only at hSW); go_simp; try with_reducible rfl)
              (try simp only [Act.put, List.setIfInBounds_toArray, List.set_cons_zero, List.set_cons_succ])
              clear hSS
              refine wpAnyE_done (by kernel_rfl) ?_ _
              try go_simp
              try go_wp2
              go_meet
              case rel => exact ⟨bS, _, _, ar, cr, are, cre, rfl, rfl, HB40.out, OR40.out, by omega, by omega, by omega, by omega, by omega, X40.out⟩
          ·
            have HK := Lib.hid hK
            clear hK
            go_simp
            obtain ⟨w21, hw9⟩ : ∃ W, W = w20.alloc (.cells #[.slice none 0 0, .slice none 0 0] 27) := ⟨_, rfl⟩
            rw [← hw9]
            obtain ⟨bS, hp9⟩ : ∃ p, p = w20.heap.size := ⟨_, rfl⟩
            rw [← hp9]
            have HB : Hid (w21.heap[bS]? = some (.cells #[.slice none 0 0, .slice none 0 0] 27)) := by unfold Hid; rw [hw9, hp9]; exact blk_alloc _ _
            have hx9 : Ext w20 w21 := by rw [hw9]; exact Ext.alloc _ _
            have sb9 := (Array.getElem?_eq_some_iff.1 HB.out).1
            have hb1 : w20.heap.size ≤ bS := by omega
            have hb2 : bS ≤ w20.heap.size := by omega
            clear hp9
            have g9 := Lib.hid (OP.out.ext hx9)
            clear OP
            have OP := g9
            clear g9
            have X21 := Lib.hid (X20.out.trans hx9)
            have sz21 := hx9.size
            clear hSS hx9 hw9
            have hSS : (fun W : World => W.cell? ⟨W5.heap.size, 0, none⟩ = some (.slice adq0 x0.1.length cdq0) ∧ W.cell? ⟨W5.heap.size, 1, none⟩ = some (.slice adq0e x0.2.length cdq0e) ∧ W.cell? ⟨w.heap.size + 1, 0, none⟩ = some (.int .i64 y1) ∧ W.cell? ⟨w.heap.size + 1, 1, none⟩ = some (.int .i64 y2) ∧ W.cell? ⟨w.heap.size + 1, 2, none⟩ = some (.int .i64 y3)) w21 := HS.out _ X21.out
            refine HK.out _ _ (fun _ => hSS) ?_
            clear HK
            refine wpAnyE_one (i := 2) (by kernel_rfl) rfl (fun K hK => ?_)
            have HK := Lib.hid hK
            clear hK
            go_simp
            refine (c_toLink y1 y2 y3 _).mono ?_
            rintro e w22 ⟨rfl, hx9⟩
            have g9 := Lib.hid (OP.out.ext hx9)
            clear OP
            have OP := g9
            clear g9
            have g9 := Lib.hid (hx9.blk HB.out)
            clear HB
            have HB := g9
            clear g9
            have X22 := Lib.hid (X21.out.trans hx9)
            have sz22 := hx9.size
            clear hSS hx9 
            have hSS : (fun W : World => W.cell? ⟨W5.heap.size, 0, none⟩ = some (.slice adq0 x0.1.length cdq0) ∧ W.cell? ⟨W5.heap.size, 1, none⟩ = some (.slice adq0e x0.2.length cdq0e) ∧ W.cell? ⟨w.heap.size + 1, 0, none⟩ = some (.int .i64 y1) ∧ W.cell? ⟨w.heap.size + 1, 1, none⟩ = some (.int .i64 y2) ∧ W.cell? ⟨w.heap.size + 1, 2, none⟩ = some (.int .i64 y3)) w22 := HS.out _ X22.out
            refine HK.out _ _ (fun _ => hSS) ?_
            clear HK
            refine wpAnyE_one (i := 3) (by kernel_rfl) rfl (fun K hK => ?_)
            have HK := Lib.hid hK
            clear hK
            go_simp
            refine (CI.out w22 _ _ _ OP.out.read (by omega)).mono ?_
            rintro e w23 ⟨vr, rfl, hr, hx9⟩
            obtain ⟨ar, cr, are, cre, rfl, ⟨_, _⟩, _, _⟩ := hr.form
            have OR := Lib.hid hr
            clear OP
            have g9 := Lib.hid (hx9.blk HB.out)
            clear HB
            have HB := g9
            clear g9
            have X23 := Lib.hid (X22.out.trans hx9)
            have sz23 := hx9.size
            clear hSS hx9 hr
            have hSS : (fun W : World => W.cell? ⟨W5.heap.size, 0, none⟩ = some (.slice adq0 x0.1.length cdq0) ∧ W.cell? ⟨W5.heap.size, 1, none⟩ = some (.slice adq0e x0.2.length cdq0e) ∧ W.cell? ⟨w.heap.size + 1, 0, none⟩ = some (.int .i64 y1) ∧ W.cell? ⟨w.heap.size + 1, 1, none⟩ = some (.int .i64 y2) ∧ W.cell? ⟨w.heap.size + 1, 2, none⟩ = some (.int .i64 y3)) w23 := HS.out _ X23.out
            refine HK.out _ _ (fun _ => hSS) ?_
            clear HK
            refine wpAnyE_take (i := 4) (v := ?_) rfl (by kernel_rfl) (by kernel_rfl) (by kernel_rfl) (fun _ _ _ h => h) (Or.inl ⟨by rfl, ?_⟩) (by assumption) ?_
            rotate_left 1
            focus (intro W hSW; (try dsimp only at hSW); go_simp; try with_reducible rfl)
            (try simp only [Act.put, List.setIfInBounds_toArray, List.set_cons_zero, List.set_cons_succ])
            refine wpAnyE_take (i := 5) (v := ?_) rfl (by kernel_rfl) (by kernel_rfl) (by kernel_rfl) (fun _ _ _ h => h) (Or.inl ⟨by rfl, ?_⟩) (by assumption) ?_
            rotate_left 1
            focus (intro W hSW; (try dsimp only at hSW); go_simp; try with_reducible rfl)
            (try simp only [Act.put, List.setIfInBounds_toArray, List.set_cons_zero, List.set_cons_succ])
            refine wpAnyE_take (i := 6) (v := ?_) rfl (by kernel_rfl) (by kernel_rfl) (by kernel_rfl) (fun _ _ _ h => h) (Or.inl ⟨by rfl, ?_⟩) (by assumption) ?_
            rotate_left 1
            focus (intro W hSW; (try dsimp only at hSW); go_simp; try with_reducible rfl)
            (try simp only [Act.put, List.setIfInBounds_toArray, List.set_cons_zero, List.set_cons_succ])
            clear hSS
            have z0 := blk_cell HB.out (j := 0) (v := .slice none 0 0) rfl
            have z1 := blk_cell HB.out (j := 1) (v := .slice none 0 0) rfl
            have f0 := blk_free HB.out 0
            have f1 := blk_free HB.out 1
            refine wpAnyE_one (i := 8) (by kernel_rfl) rfl (fun K hK => ?_)
            have HK := Lib.hid hK
            clear hK
            go_simp
            clear z0 z1 f0 f1
            obtain ⟨w40, hw40⟩ : ∃ W, W = (w23.setCell ⟨bS, 0, none⟩ (.slice ar ys.1.length cr)).setCell ⟨bS, 1, none⟩ (.slice are ys.2.length cre) := ⟨_, rfl⟩
            rw [← hw40]
            have g1 : (w23.setCell ⟨bS, 0, none⟩ (.slice ar ys.1.length cr)).heap[bS]? = some (.cells #[.slice ar ys.1.length cr, .slice none 0 0] 27) := by rw [heap_setCell_same _ _ _ _ _ _ HB.out]; rfl
            have g2 : w40.heap[bS]? = some (.cells #[.slice ar ys.1.length cr, .slice are ys.2.length cre] 27) := by rw [hw40]; exact (heap_setCell_same _ _ _ _ _ _ g1).trans rfl
            have HK40 : Keep bS (bS + 1) w23 w40 := by rw [hw40]; exact (keep_setj9 w23 bS 0 _).trans (keep_setj9 _ bS 1 _)
            have OR40 := Lib.hid (OR.out.keepd HK40 (by omega))
            have X40 := Lib.hid (X23.out.keep HK40 (by omega))
            have HB40 := Lib.hid g2
            have sz40 := HK40.size
            clear hw40 g1 g2 HK40 HB OR
            have hSS : (fun W : World => W.cell? ⟨W5.heap.size, 0, none⟩ = some (.slice adq0 x0.1.length cdq0) ∧ W.cell? ⟨W5.heap.size, 1, none⟩ = some (.slice adq0e x0.2.length cdq0e) ∧ W.cell? ⟨w.heap.size + 1, 0, none⟩ = some (.int .i64 y1) ∧ W.cell? ⟨w.heap.size + 1, 1, none⟩ = some (.int .i64 y2) ∧ W.cell? ⟨w.heap.size + 1, 2, none⟩ = some (.int .i64 y3)) w40 := HS.out _ X40.out
            refine HK.out _ _ (fun _ => hSS) ?_
            clear HK
            refine wpAnyE_take (i := 9) (v := ?_) rfl (by kernel_rfl) (by kernel_rfl) (by kernel_rfl) (fun _ _ _ h => h) (Or.inl ⟨by rfl, ?_⟩) (by assumption) ?_
            rotate_left 1
            focus (intro W hSW; (try dsimp only at hSW); go_simp; try with_reducible rfl)
            (try simp only [Act.put, List.setIfInBounds_toArray, List.set_cons_zero, List.set_cons_succ])
            clear hSS
            refine wpAnyE_done (by kernel_rfl) ?_ _
            try go_simp
            try go_wp2
            go_meet
            case rel => exact ⟨bS, _, _, ar, cr, are, cre, rfl, rfl, HB40.out, OR40.out, by omega, by omega, by omega, by omega, by omega, X40.out⟩
        case rest =>
          obtain ⟨bg, lg, tg, adg, cdg, adge, cdge, rfl, rfl, hB, hg, q1g, q2g, q3g, q4g, q5g, Y⟩ := hcut
          obtain ⟨W7, hW⟩ : ∃ W, W = wc := ⟨_, rfl⟩
          subst hW
          have sbg := (Array.getElem?_eq_some_iff.1 hB).1
          have s7 := Y.size
          have T__ := Lib.hid (X.out.trans Y)
          clear X
          have X := T__
          clear T__
          have T__ := Lib.hid (Y.blk BA0.out)
          clear BA0
          have BA0 := T__
          clear T__
          have T__ := Lib.hid (Y.blk BL1.out)
          clear BL1
          have BL1 := T__
          clear T__
          have T__ := Lib.hid (Os.out.ext Y)
          clear Os
          have Os := T__
          clear T__
          have T__ := Lib.hid (Y.blk BS9.out)
          clear BS9
          have BS9 := T__
          clear T__
          have T__ := Lib.hid (Oq0.out.ext Y)
          clear Oq0
          have Oq0 := T__
          clear T__
          have T__ := Lib.hid (Y.blk BQ0.out)
          clear BQ0
          have BQ0 := T__
          clear T__
          have Og := Lib.hid hg
          have BG9 := Lib.hid hB
          clear hg hB Y
          have kA00 := blk_cell BA0.out (j := 0) rfl
          have kA01 := blk_cell BA0.out (j := 1) rfl
          have kL10 := blk_cell BL1.out (j := 0) rfl
          have kL11 := blk_cell BL1.out (j := 1) rfl
          have kL12 := blk_cell BL1.out (j := 2) rfl
          have kS90 := blk_cell BS9.out (j := 0) rfl
          have kS91 := blk_cell BS9.out (j := 1) rfl
          have kQ00 := blk_cell BQ0.out (j := 0) rfl
          have kQ01 := blk_cell BQ0.out (j := 1) rfl
          have kG90 := blk_cell BG9.out (j := 0) rfl
          have kG91 := blk_cell BG9.out (j := 1) rfl
          go_wp2_with fail
          refine (c_eqNet _ _ _ _ _ _ ys ys W7 Og.out.read Os.out.read (by omega) (by omega)).mono ?_
          rw [decide_eq_true rfl]
          rintro e W8 ⟨rfl, Y⟩
          have s8 := Y.size
          clear kA00 kA01 kL10 kL11 kL12 kS90 kS91 kQ00 kQ01 kG90 kG91
          have T__ := Lib.hid (X.out.trans Y)
          clear X
          have X := T__
          clear T__
          have T__ := Lib.hid (Y.blk BA0.out)
          clear BA0
          have BA0 := T__
          clear T__
          have T__ := Lib.hid (Y.blk BL1.out)
          clear BL1
          have BL1 := T__
          clear T__
          have T__ := Lib.hid (Os.out.ext Y)
          clear Os
          have Os := T__
          clear T__
          have T__ := Lib.hid (Y.blk BS9.out)
          clear BS9
          have BS9 := T__
          clear T__
          have T__ := Lib.hid (Oq0.out.ext Y)
          clear Oq0
          have Oq0 := T__
          clear T__
          have T__ := Lib.hid (Y.blk BQ0.out)
          clear BQ0
          have BQ0 := T__
          clear T__
          have T__ := Lib.hid (Og.out.ext Y)
          clear Og
          have Og := T__
          clear T__
          have T__ := Lib.hid (Y.blk BG9.out)
          clear BG9
          have BG9 := T__
          clear T__
          clear Y
          have kA00 := blk_cell BA0.out (j := 0) rfl
          have kA01 := blk_cell BA0.out (j := 1) rfl
          have kL10 := blk_cell BL1.out (j := 0) rfl
          have kL11 := blk_cell BL1.out (j := 1) rfl
          have kL12 := blk_cell BL1.out (j := 2) rfl
          have kS90 := blk_cell BS9.out (j := 0) rfl
          have kS91 := blk_cell BS9.out (j := 1) rfl
          have kQ00 := blk_cell BQ0.out (j := 0) rfl
          have kQ01 := blk_cell BQ0.out (j := 1) rfl
          have kG90 := blk_cell BG9.out (j := 0) rfl
          have kG91 := blk_cell BG9.out (j := 1) rfl
          go_wp2_with fail
          have TS : Hid (∀ W, Ext W8 W → Calls Try.prog 28 #[.agg #[.slice a0 x0.1.length cap0, .slice a0e x0.2.length cap0e]] W fun e w' => ∃ a3 c3 a3e c3e, e = .returned (.agg #[.slice a3 x0.1.length c3, .slice a3e x0.2.length c3e]) ∧ Nets w' W.heap.size w'.heap.size (.agg #[.slice a3 x0.1.length c3, .slice a3e x0.2.length c3e]) x0 ∧ Ext W8 w') := fun W hX =>
            (CT0.out W (X.out.trans hX)).mono fun e w' ⟨v, he, ho, hx⟩ => by
              obtain ⟨a3, c3, a3e, c3e, rfl, _⟩ := ho.form
              exact ⟨a3, c3, a3e, c3e, he, ho.read, hX.trans hx⟩
          have ES : Hid (∀ W a3 c3 a3e c3e lo, Ext W8 W → Nets W lo W.heap.size (.agg #[.slice a3 x0.1.length c3, .slice a3e x0.2.length c3e]) x0 → Calls Try.prog 29 #[.agg #[.slice adq0 x0.1.length cdq0, .slice adq0e x0.2.length cdq0e], .agg #[.slice a3 x0.1.length c3, .slice a3e x0.2.length c3e]] W fun e w' => e = .returned (.bool true) ∧ Ext W8 w') := fun W a3 c3 a3e c3e lo hX hg =>
            (c_eqNet _ _ _ _ _ _ x0 x0 W (Oq0.out.ext hX).read hg (by have := hX.size; omega) (Nat.le_refl _)).mono fun e w' ⟨he, hx⟩ => ⟨by rw [he, decide_eq_true rfl], hX.trans hx⟩
          go_region_held3 (fun w' => Ext W8 w' ∧ w'.cell? ⟨w.heap.size, 0, none⟩ = some (.slice a0 x0.1.length cap0) ∧ w'.cell? ⟨w.heap.size, 1, none⟩ = some (.slice a0e x0.2.length cap0e) ∧ w'.cell? ⟨W5.heap.size, 0, none⟩ = some (.slice adq0 x0.1.length cdq0) ∧ w'.cell? ⟨W5.heap.size, 1, none⟩ = some (.slice adq0e x0.2.length cdq0e))
            (first | exact ⟨Ext.drew _, kA00, kA01, kQ00, kQ01⟩ | exact ⟨hxs, hxs.cell kA00, hxs.cell kA01, hxs.cell kQ00, hxs.cell kQ01⟩)
            (first | (go_at_call 28; refine (TS.out _ (Ext.drew _)).mono ?_; rintro e w3 ⟨a3, c3, a3e, c3e, rfl, hg3, hxs⟩) | (go_at_call 29; refine (ES.out _ _ _ _ _ _ hxs hg3).mono ?_; rintro e w3 ⟨rfl, hxs⟩))
          obtain ⟨W9, hW⟩ : ∃ W, W = w3 := ⟨_, rfl⟩
          subst hW
          have Y : Ext W8 W9 := hxs
          have s9 := Y.size
          clear kA00 kA01 kL10 kL11 kL12 kS90 kS91 kQ00 kQ01 kG90 kG91
          have T__ := Lib.hid (X.out.trans Y)
          clear X
          have X := T__
          clear T__
          have T__ := Lib.hid (Y.blk BA0.out)
          clear BA0
          have BA0 := T__
          clear T__
          have T__ := Lib.hid (Y.blk BL1.out)
          clear BL1
          have BL1 := T__
          clear T__
          have T__ := Lib.hid (Os.out.ext Y)
          clear Os
          have Os := T__
          clear T__
          have T__ := Lib.hid (Y.blk BS9.out)
          clear BS9
          have BS9 := T__
          clear T__
          have T__ := Lib.hid (Oq0.out.ext Y)
          clear Oq0
          have Oq0 := T__
          clear T__
          have T__ := Lib.hid (Y.blk BQ0.out)
          clear BQ0
          have BQ0 := T__
          clear T__
          have T__ := Lib.hid (Og.out.ext Y)
          clear Og
          have Og := T__
          clear T__
          have T__ := Lib.hid (Y.blk BG9.out)
          clear BG9
          have BG9 := T__
          clear T__
          clear Y hxs TS ES
          have kA00 := blk_cell BA0.out (j := 0) rfl
          have kA01 := blk_cell BA0.out (j := 1) rfl
          have kL10 := blk_cell BL1.out (j := 0) rfl
          have kL11 := blk_cell BL1.out (j := 1) rfl
          have kL12 := blk_cell BL1.out (j := 2) rfl
          have kS90 := blk_cell BS9.out (j := 0) rfl
          have kS91 := blk_cell BS9.out (j := 1) rfl
          have kQ00 := blk_cell BQ0.out (j := 0) rfl
          have kQ01 := blk_cell BQ0.out (j := 1) rfl
          have kG90 := blk_cell BG9.out (j := 0) rfl
          have kG91 := blk_cell BG9.out (j := 1) rfl
          go_wp2_with fail
          refine (c_markNet _ _ _ x0 1 W9 Oq0.out (by omega) (by omega) (by omega) (by omega)).mono ?_
          rintro e W10 ⟨rfl, Y⟩
          clear BQ0
          have s10 := Y.size
          clear kA00 kA01 kL10 kL11 kL12 kS90 kS91 kQ00 kQ01 kG90 kG91
          have T__ := Lib.hid (X.out.keep Y (by omega))
          clear X
          have X := T__
          clear T__
          have T__ := Lib.hid (Y.blk BA0.out (by omega))
          clear BA0
          have BA0 := T__
          clear T__
          have T__ := Lib.hid (Y.blk BL1.out (by omega))
          clear BL1
          have BL1 := T__
          clear T__
          have T__ := Lib.hid (Os.out.keepd Y (by omega))
          clear Os
          have Os := T__
          clear T__
          have T__ := Lib.hid (Y.blk BS9.out (by omega))
          clear BS9
          have BS9 := T__
          clear T__
          have T__ := Lib.hid (Og.out.keepd Y (by omega))
          clear Og
          have Og := T__
          clear T__
          have T__ := Lib.hid (Y.blk BG9.out (by omega))
          clear BG9
          have BG9 := T__
          clear T__
          clear Y Oq0
          have kA00 := blk_cell BA0.out (j := 0) rfl
          have kA01 := blk_cell BA0.out (j := 1) rfl
          have kL10 := blk_cell BL1.out (j := 0) rfl
          have kL11 := blk_cell BL1.out (j := 1) rfl
          have kL12 := blk_cell BL1.out (j := 2) rfl
          have kS90 := blk_cell BS9.out (j := 0) rfl
          have kS91 := blk_cell BS9.out (j := 1) rfl
          have kG90 := blk_cell BG9.out (j := 0) rfl
          have kG91 := blk_cell BG9.out (j := 1) rfl
          go_wp2_with fail
          refine (c_eqNet _ _ _ _ _ _ ys ys W10 Og.out.read Os.out.read (by omega) (by omega)).mono ?_
          rw [decide_eq_true rfl]
          rintro e W11 ⟨rfl, Y⟩
          have s11 := Y.size
          clear kA00 kA01 kL10 kL11 kL12 kS90 kS91 kG90 kG91
          have T__ := Lib.hid (X.out.trans Y)
          clear X
          have X := T__
          clear T__
          have T__ := Lib.hid (Y.blk BA0.out)
          clear BA0
          have BA0 := T__
          clear T__
          have T__ := Lib.hid (Y.blk BL1.out)
          clear BL1
          have BL1 := T__
          clear T__
          have T__ := Lib.hid (Os.out.ext Y)
          clear Os
          have Os := T__
          clear T__
          have T__ := Lib.hid (Y.blk BS9.out)
          clear BS9
          have BS9 := T__
          clear T__
          have T__ := Lib.hid (Og.out.ext Y)
          clear Og
          have Og := T__
          clear T__
          have T__ := Lib.hid (Y.blk BG9.out)
          clear BG9
          have BG9 := T__
          clear T__
          clear Y
          have kA00 := blk_cell BA0.out (j := 0) rfl
          have kA01 := blk_cell BA0.out (j := 1) rfl
          have kL10 := blk_cell BL1.out (j := 0) rfl
          have kL11 := blk_cell BL1.out (j := 1) rfl
          have kL12 := blk_cell BL1.out (j := 2) rfl
          have kS90 := blk_cell BS9.out (j := 0) rfl
          have kS91 := blk_cell BS9.out (j := 1) rfl
          have kG90 := blk_cell BG9.out (j := 0) rfl
          have kG91 := blk_cell BG9.out (j := 1) rfl
          go_wp2_with fail
          refine (c_markNetM _ _ _ ys W11 Og.out (by omega) hyl).mono ?_
          rintro e W12 ⟨rfl, Y, hm⟩
          have M : Hid (MarkNet W12 _ _ _ ys.1.length ys.2.length) := hm
          have s12 := Y.size
          clear kA00 kA01 kL10 kL11 kL12 kS90 kS91 kG90 kG91
          have T__ := Lib.hid (X.out.keep Y (by omega))
          clear X
          have X := T__
          clear T__
          have T__ := Lib.hid (Y.blk BA0.out (by omega))
          clear BA0
          have BA0 := T__
          clear T__
          have T__ := Lib.hid (Y.blk BL1.out (by omega))
          clear BL1
          have BL1 := T__
          clear T__
          have T__ := Lib.hid (Os.out.keepd Y (by omega))
          clear Os
          have Os := T__
          clear T__
          have T__ := Lib.hid (Y.blk BS9.out (by omega))
          clear BS9
          have BS9 := T__
          clear T__
          have T__ := Lib.hid (Y.blk BG9.out (by omega))
          clear BG9
          have BG9 := T__
          clear T__
          clear Y Og hm
          have kA00 := blk_cell BA0.out (j := 0) rfl
          have kA01 := blk_cell BA0.out (j := 1) rfl
          have kL10 := blk_cell BL1.out (j := 0) rfl
          have kL11 := blk_cell BL1.out (j := 1) rfl
          have kL12 := blk_cell BL1.out (j := 2) rfl
          have kS90 := blk_cell BS9.out (j := 0) rfl
          have kS91 := blk_cell BS9.out (j := 1) rfl
          have kG90 := blk_cell BG9.out (j := 0) rfl
          have kG91 := blk_cell BG9.out (j := 1) rfl
          go_wp2_with fail
          refine (c_heldNet _ _ _ ys.1.length ys.2.length W12 M.out (by omega) hyl).mono ?_
          rintro e W13 ⟨rfl, Y⟩
          have s13 := Y.size
          clear kA00 kA01 kL10 kL11 kL12 kS90 kS91 kG90 kG91
          have T__ := Lib.hid (X.out.trans Y)
          clear X
          have X := T__
          clear T__
          have T__ := Lib.hid (Y.blk BA0.out)
          clear BA0
          have BA0 := T__
          clear T__
          have T__ := Lib.hid (Y.blk BL1.out)
          clear BL1
          have BL1 := T__
          clear T__
          have T__ := Lib.hid (Os.out.ext Y)
          clear Os
          have Os := T__
          clear T__
          have T__ := Lib.hid (Y.blk BS9.out)
          clear BS9
          have BS9 := T__
          clear T__
          have T__ := Lib.hid (Y.blk BG9.out)
          clear BG9
          have BG9 := T__
          clear T__
          have T__ := Lib.hid (M.out.ext Y)
          clear M
          have M := T__
          clear T__
          clear Y
          have kA00 := blk_cell BA0.out (j := 0) rfl
          have kA01 := blk_cell BA0.out (j := 1) rfl
          have kL10 := blk_cell BL1.out (j := 0) rfl
          have kL11 := blk_cell BL1.out (j := 1) rfl
          have kL12 := blk_cell BL1.out (j := 2) rfl
          have kS90 := blk_cell BS9.out (j := 0) rfl
          have kS91 := blk_cell BS9.out (j := 1) rfl
          have kG90 := blk_cell BG9.out (j := 0) rfl
          have kG91 := blk_cell BG9.out (j := 1) rfl
          go_upto_region 24 with fail
          clear kA00 kA01 kL10 kL11 kL12 kS90 kS91 kG90 kG91
          go_cut [14, 15] from 79 to 86 (fun v6 v7 wx => LkRes W13 ys true v6 v7 wx)
          case first =>
            have HS : Hid (∀ W, Ext W13 W → W.cell? ⟨w.heap.size, 0, none⟩ = some (.slice a0 x0.1.length cap0) ∧ W.cell? ⟨w.heap.size, 1, none⟩ = some (.slice a0e x0.2.length cap0e) ∧ W.cell? ⟨w.heap.size + 1, 0, none⟩ = some (.int .i64 y1) ∧ W.cell? ⟨w.heap.size + 1, 1, none⟩ = some (.int .i64 y2) ∧ W.cell? ⟨w.heap.size + 1, 2, none⟩ = some (.int .i64 y3)) := fun W hX => ⟨hX.cell (blk_cell BA0.out (j := 0) rfl), hX.cell (blk_cell BA0.out (j := 1) rfl), hX.cell (blk_cell BL1.out (j := 0) rfl), hX.cell (blk_cell BL1.out (j := 1) rfl), hX.cell (blk_cell BL1.out (j := 2) rfl)⟩
            obtain ⟨w20, hw20⟩ : ∃ W, W = (W13).drew := ⟨_, rfl⟩
            have X20 : Hid (Ext W13 w20) := by unfold Hid; rw [hw20]; exact Ext.drew _
            refine wp_region_E (S := fun W => W.cell? ⟨w.heap.size, 0, none⟩ = some (.slice a0 x0.1.length cap0) ∧ W.cell? ⟨w.heap.size, 1, none⟩ = some (.slice a0e x0.2.length cap0e) ∧ W.cell? ⟨w.heap.size + 1, 0, none⟩ = some (.int .i64 y1) ∧ W.cell? ⟨w.heap.size + 1, 1, none⟩ = some (.int .i64 y2) ∧ W.cell? ⟨w.heap.size + 1, 2, none⟩ = some (.int .i64 y3)) (by kernel_rfl) ?_
            rw [← hw20]
            clear hw20
            have sz20 := X20.out.size
            have hSS : (fun W : World => W.cell? ⟨w.heap.size, 0, none⟩ = some (.slice a0 x0.1.length cap0) ∧ W.cell? ⟨w.heap.size, 1, none⟩ = some (.slice a0e x0.2.length cap0e) ∧ W.cell? ⟨w.heap.size + 1, 0, none⟩ = some (.int .i64 y1) ∧ W.cell? ⟨w.heap.size + 1, 1, none⟩ = some (.int .i64 y2) ∧ W.cell? ⟨w.heap.size + 1, 2, none⟩ = some (.int .i64 y3)) w20 := HS.out _ X20.out
            refine wpAnyE_take (i := 0) (v := ?_) rfl (by kernel_rfl) (by kernel_rfl) (by kernel_rfl) (fun _ _ _ h => h) (Or.inl ⟨by rfl, ?_⟩) (by assumption) ?_
            rotate_left 1
            focus (intro W hSW; (try dsimp only at hSW); go_simp; try with_reducible rfl)
            (try simp only [Act.put, List.setIfInBounds_toArray, List.set_cons_zero, List.set_cons_succ])
            refine wpAnyE_take (i := 2) (v := ?_) rfl (by kernel_rfl) (by kernel_rfl) (by kernel_rfl) (fun _ _ _ h => h) (Or.inl ⟨by rfl, ?_⟩) (by assumption) ?_
            rotate_left 1
            focus (intro W hSW; (try dsimp only at hSW); go_simp; try with_reducible rfl)
            (try simp only [Act.put, List.setIfInBounds_toArray, List.set_cons_zero, List.set_cons_succ])
            refine wpAnyE_pair (i := 1) (j := 8) (by kernel_rfl) rfl rfl (fun K hK => ?_) (fun K hK => ?_)
            ·
              have HK := Lib.hid hK
              clear hK
              go_simp
              refine (CT0.out _ (X.out.trans X20.out)).mono ?_
              rintro e w21 ⟨vp, rfl, hp, hx9⟩
              obtain ⟨ap, cp, ape, cpe, rfl, ⟨_, _⟩, _, _⟩ := hp.form
              have OP := Lib.hid hp
              have X21 := Lib.hid (X20.out.trans hx9)
              have sz21 := hx9.size
              clear hSS hx9 hp
              have hSS : (fun W : World => W.cell? ⟨w.heap.size, 0, none⟩ = some (.slice a0 x0.1.length cap0) ∧ W.cell? ⟨w.heap.size, 1, none⟩ = some (.slice a0e x0.2.length cap0e) ∧ W.cell? ⟨w.heap.size + 1, 0, none⟩ = some (.int .i64 y1) ∧ W.cell? ⟨w.heap.size + 1, 1, none⟩ = some (.int .i64 y2) ∧ W.cell? ⟨w.heap.size + 1, 2, none⟩ = some (.int .i64 y3)) w21 := HS.out _ X21.out
              refine HK.out _ _ (fun _ => hSS) ?_
              clear HK
              refine wpAnyE_pair (i := 3) (j := 8) (by kernel_rfl) rfl rfl (fun K hK => ?_) (fun K hK => ?_)
              ·
                have HK := Lib.hid hK
                clear hK
                go_simp
                refine (c_toLink y1 y2 y3 _).mono ?_
                rintro e w22 ⟨rfl, hx9⟩
                have g9 := Lib.hid (OP.out.ext hx9)
                clear OP
                have OP := g9
                clear g9
                have X22 := Lib.hid (X21.out.trans hx9)
                have sz22 := hx9.size
                clear hSS hx9 
                have hSS : (fun W : World => W.cell? ⟨w.heap.size, 0, none⟩ = some (.slice a0 x0.1.length cap0) ∧ W.cell? ⟨w.heap.size, 1, none⟩ = some (.slice a0e x0.2.length cap0e) ∧ W.cell? ⟨w.heap.size + 1, 0, none⟩ = some (.int .i64 y1) ∧ W.cell? ⟨w.heap.size + 1, 1, none⟩ = some (.int .i64 y2) ∧ W.cell? ⟨w.heap.size + 1, 2, none⟩ = some (.int .i64 y3)) w22 := HS.out _ X22.out
                refine HK.out _ _ (fun _ => hSS) ?_
                clear HK
                refine wpAnyE_pair (i := 4) (j := 8) (by kernel_rfl) rfl rfl (fun K hK => ?_) (fun K hK => ?_)
                ·
                  have HK := Lib.hid hK
                  clear hK
                  go_simp
                  refine (CI.out w22 _ _ _ OP.out.read (by omega)).mono ?_
                  rintro e w23 ⟨vr, rfl, hr, hx9⟩
                  obtain ⟨ar, cr, are, cre, rfl, ⟨_, _⟩, _, _⟩ := hr.form
                  have OR := Lib.hid hr
                  clear OP
                  have X23 := Lib.hid (X22.out.trans hx9)
                  have sz23 := hx9.size
                  clear hSS hx9 hr
                  have hSS : (fun W : World => W.cell? ⟨w.heap.size, 0, none⟩ = some (.slice a0 x0.1.length cap0) ∧ W.cell? ⟨w.heap.size, 1, none⟩ = some (.slice a0e x0.2.length cap0e) ∧ W.cell? ⟨w.heap.size + 1, 0, none⟩ = some (.int .i64 y1) ∧ W.cell? ⟨w.heap.size + 1, 1, none⟩ = some (.int .i64 y2) ∧ W.cell? ⟨w.heap.size + 1, 2, none⟩ = some (.int .i64 y3)) w23 := HS.out _ X23.out
                  refine HK.out _ _ (fun _ => hSS) ?_
                  clear HK
                  refine wpAnyE_take (i := 5) (v := ?_) rfl (by kernel_rfl) (by kernel_rfl) (by kernel_rfl) (fun _ _ _ h => h) (Or.inl ⟨by rfl, ?_⟩) (by assumption) ?_
                  rotate_left 1
                  focus (intro W hSW; (try dsimp only at hSW); go_simp; try with_reducible rfl)
                  (try simp only [Act.put, List.setIfInBounds_toArray, List.set_cons_zero, List.set_cons_succ])
                  refine wpAnyE_take (i := 6) (v := ?_) rfl (by kernel_rfl) (by kernel_rfl) (by kernel_rfl) (fun _ _ _ h => h) (Or.inl ⟨by rfl, ?_⟩) (by assumption) ?_
                  rotate_left 1
                  focus (intro W hSW; (try dsimp only at hSW); go_simp; try with_reducible rfl)
                  (try simp only [Act.put, List.setIfInBounds_toArray, List.set_cons_zero, List.set_cons_succ])
                  refine wpAnyE_take (i := 7) (v := ?_) rfl (by kernel_rfl) (by kernel_rfl) (by kernel_rfl) (fun _ _ _ h => h) (Or.inl ⟨by rfl, ?_⟩) (by assumption) ?_
                  rotate_left 1
                  focus (intro W hSW; (try dsimp only at hSW); go_simp; try with_reducible rfl)
                  (try simp only [Act.put, List.setIfInBounds_toArray, List.set_cons_zero, List.set_cons_succ])
                  refine wpAnyE_one (i := 8) (by kernel_rfl) rfl (fun K hK => ?_)
                  have HK := Lib.hid hK
                  clear hK
                  go_simp
                  obtain ⟨w24, hw9⟩ : ∃ W, W = w23.alloc (.cells #[.slice none 0 0, .slice none 0 0] 27) := ⟨_, rfl⟩
                  rw [← hw9]
                  obtain ⟨bS, hp9⟩ : ∃ p, p = w23.heap.size := ⟨_, rfl⟩
                  rw [← hp9]
                  have HB : Hid (w24.heap[bS]? = some (.cells #[.slice none 0 0, .slice none 0 0] 27)) := by unfold Hid; rw [hw9, hp9]; exact blk_alloc _ _
                  have hx9 : Ext w23 w24 := by rw [hw9]; exact Ext.alloc _ _
                  have sb9 := (Array.getElem?_eq_some_iff.1 HB.out).1
                  have hb1 : w23.heap.size ≤ bS := by omega
                  have hb2 : bS ≤ w23.heap.size := by omega
                  clear hp9
                  have g9 := Lib.hid (OR.out.ext hx9)
                  clear OR
                  have OR := g9
                  clear g9
                  have X24 := Lib.hid (X23.out.trans hx9)
                  have sz24 := hx9.size
                  clear hSS hx9 hw9
                  have hSS : (fun W : World => W.cell? ⟨w.heap.size, 0, none⟩ = some (.slice a0 x0.1.length cap0) ∧ W.cell? ⟨w.heap.size, 1, none⟩ = some (.slice a0e x0.2.length cap0e) ∧ W.cell? ⟨w.heap.size + 1, 0, none⟩ = some (.int .i64 y1) ∧ W.cell? ⟨w.heap.size + 1, 1, none⟩ = some (.int .i64 y2) ∧ W.cell? ⟨w.heap.size + 1, 2, none⟩ = some (.int .i64 y3)) w24 := HS.out _ X24.out
                  refine HK.out _ _ (fun _ => hSS) ?_
                  clear HK
                  clear hSS
                  have z0 := blk_cell HB.out (j := 0) (v := .slice none 0 0) rfl
                  have z1 := blk_cell HB.out (j := 1) (v := .slice none 0 0) rfl
                  have f0 := blk_free HB.out 0
                  have f1 := blk_free HB.out 1
                  refine wpAnyE_one (i := 9) (by kernel_rfl) rfl (fun K hK => ?_)
                  have HK := Lib.hid hK
                  clear hK
                  go_simp
                  clear z0 z1 f0 f1
                  obtain ⟨w40, hw40⟩ : ∃ W, W = (w24.setCell ⟨bS, 0, none⟩ (.slice ar ys.1.length cr)).setCell ⟨bS, 1, none⟩ (.slice are ys.2.length cre) := ⟨_, rfl⟩
                  rw [← hw40]
                  have g1 : (w24.setCell ⟨bS, 0, none⟩ (.slice ar ys.1.length cr)).heap[bS]? = some (.cells #[.slice ar ys.1.length cr, .slice none 0 0] 27) := by rw [heap_setCell_same _ _ _ _ _ _ HB.out]; rfl
                  have g2 : w40.heap[bS]? = some (.cells #[.slice ar ys.1.length cr, .slice are ys.2.length cre] 27) := by rw [hw40]; exact (heap_setCell_same _ _ _ _ _ _ g1).trans rfl
                  have HK40 : Keep bS (bS + 1) w24 w40 := by rw [hw40]; exact (keep_setj9 w24 bS 0 _).trans (keep_setj9 _ bS 1 _)
                  have OR40 := Lib.hid (OR.out.keepd HK40 (by omega))
                  have X40 := Lib.hid (X24.out.keep HK40 (by omega))
                  have HB40 := Lib.hid g2
                  have sz40 := HK40.size
                  clear hw40 g1 g2 HK40 HB OR
                  have hSS : (fun W : World => W.cell? ⟨w.heap.size, 0, none⟩ = some (.slice a0 x0.1.length cap0) ∧ W.cell? ⟨w.heap.size, 1, none⟩ = some (.slice a0e x0.2.length cap0e) ∧ W.cell? ⟨w.heap.size + 1, 0, none⟩ = some (.int .i64 y1) ∧ W.cell? ⟨w.heap.size + 1, 1, none⟩ = some (.int .i64 y2) ∧ W.cell? ⟨w.heap.size + 1, 2, none⟩ = some (.int .i64 y3)) w40 := HS.out _ X40.out
                  refine HK.out _ _ (fun _ => hSS) ?_
                  clear HK
                  refine wpAnyE_take (i := 10) (v := ?_) rfl (by kernel_rfl) (by kernel_rfl) (by kernel_rfl) (fun _ _ _ h => h) (Or.inl ⟨by rfl, ?_⟩) (by assumption) ?_
                  rotate_left 1
                  focus (intro W hSW; (try dsimp only at hSW); go_simp; try with_reducible rfl)
                  (try simp only [Act.put, List.setIfInBounds_toArray, List.set_cons_zero, List.set_cons_succ])
                  clear hSS
                  refine wpAnyE_done (by kernel_rfl) ?_ _
                  try go_simp
                  try go_wp2
                  go_meet
                  case rel => exact ⟨bS, _, _, ar, cr, are, cre, rfl, rfl, HB40.out, OR40.out, by omega, by omega, by omega, by omega, by omega, X40.out⟩
                ·
                  have HK := Lib.hid hK
                  clear hK
                  go_simp
                  obtain ⟨w23, hw9⟩ : ∃ W, W = w22.alloc (.cells #[.slice none 0 0, .slice none 0 0] 27) := ⟨_, rfl⟩
                  rw [← hw9]
                  obtain ⟨bS, hp9⟩ : ∃ p, p = w22.heap.size := ⟨_, rfl⟩
                  rw [← hp9]
                  have HB : Hid (w23.heap[bS]? = some (.cells #[.slice none 0 0, .slice none 0 0] 27)) := by unfold Hid; rw [hw9, hp9]; exact blk_alloc _ _
                  have hx9 : Ext w22 w23 := by rw [hw9]; exact Ext.alloc _ _
                  have sb9 := (Array.getElem?_eq_some_iff.1 HB.out).1
                  have hb1 : w22.heap.size ≤ bS := by omega
                  have hb2 : bS ≤ w22.heap.size := by omega
                  clear hp9
                  have g9 := Lib.hid (OP.out.ext hx9)
                  clear OP
                  have OP := g9
                  clear g9
                  have X23 := Lib.hid (X22.out.trans hx9)
                  have sz23 := hx9.size
                  clear hSS hx9 hw9
                  have hSS : (fun W : World => W.cell? ⟨w.heap.size, 0, none⟩ = some (.slice a0 x0.1.length cap0) ∧ W.cell? ⟨w.heap.size, 1, none⟩ = some (.slice a0e x0.2.length cap0e) ∧ W.cell? ⟨w.heap.size + 1, 0, none⟩ = some (.int .i64 y1) ∧ W.cell? ⟨w.heap.size + 1, 1, none⟩ = some (.int .i64 y2) ∧ W.cell? ⟨w.heap.size + 1, 2, none⟩ = some (.int .i64 y3)) w23 := HS.out _ X23.out
                  refine HK.out _ _ (fun _ => hSS) ?_
                  clear HK
                  refine wpAnyE_one (i := 4) (by kernel_rfl) rfl (fun K hK => ?_)
                  have HK := Lib.hid hK
                  clear hK
                  go_simp
                  refine (CI.out w23 _ _ _ OP.out.read (by omega)).mono ?_
                  rintro e w24 ⟨vr, rfl, hr, hx9⟩
                  obtain ⟨ar, cr, are, cre, rfl, ⟨_, _⟩, _, _⟩ := hr.form
                  have OR := Lib.hid hr
                  clear OP
                  have g9 := Lib.hid (hx9.blk HB.out)
                  clear HB
                  have HB := g9
                  clear g9
                  have X24 := Lib.hid (X23.out.trans hx9)
                  have sz24 := hx9.size
                  clear hSS hx9 hr
                  have hSS : (fun W : World => W.cell? ⟨w.heap.size, 0, none⟩ = some (.slice a0 x0.1.length cap0) ∧ W.cell? ⟨w.heap.size, 1, none⟩ = some (.slice a0e x0.2.length cap0e) ∧ W.cell? ⟨w.heap.size + 1, 0, none⟩ = some (.int .i64 y1) ∧ W.cell? ⟨w.heap.size + 1, 1, none⟩ = some (.int .i64 y2) ∧ W.cell? ⟨w.heap.size + 1, 2, none⟩ = some (.int .i64 y3)) w24 := HS.out _ X24.out
                  refine HK.out _ _ (fun _ => hSS) ?_
                  clear HK
                  refine wpAnyE_take (i := 5) (v := ?_) rfl (by kernel_rfl) (by kernel_rfl) (by kernel_rfl) (fun _ _ _ h => h) (Or.inl ⟨by rfl, ?_⟩) (by assumption) ?_
                  rotate_left 1
                  focus (intro W hSW; (try dsimp only at hSW); go_simp; try with_reducible rfl)
                  (try simp only [Act.put, List.setIfInBounds_toArray, List.set_cons_zero, List.set_cons_succ])
                  refine wpAnyE_take (i := 6) (v := ?_) rfl (by kernel_rfl) (by kernel_rfl) (by kernel_rfl) (fun _ _ _ h => h) (Or.inl ⟨by rfl, ?_⟩) (by assumption) ?_
                  rotate_left 1
                  focus (intro W hSW; (try dsimp only at hSW); go_simp; try with_reducible rfl)
                  (try simp only [Act.put, List.setIfInBounds_toArray, List.set_cons_zero, List.set_cons_succ])
                  refine wpAnyE_take (i := 7) (v := ?_) rfl (by kernel_rfl) (by kernel_rfl) (by kernel_rfl) (fun _ _ _ h => h) (Or.inl ⟨by rfl, ?_⟩) (by assumption) ?_
                  rotate_left 1
                  focus (intro W hSW; (try dsimp only at hSW); go_simp; try with_reducible rfl)
                  (try simp only [Act.put, List.setIfInBounds_toArray, List.set_cons_zero, List.set_cons_succ])
                  clear hSS
                  have z0 := blk_cell HB.out (j := 0) (v := .slice none 0 0) rfl
                  have z1 := blk_cell HB.out (j := 1) (v := .slice none 0 0) rfl
                  have f0 := blk_free HB.out 0
                  have f1 := blk_free HB.out 1
                  refine wpAnyE_one (i := 9) (by kernel_rfl) rfl (fun K hK => ?_)
                  have HK := Lib.hid hK
                  clear hK
                  go_simp
                  clear z0 z1 f0 f1
                  obtain ⟨w40, hw40⟩ : ∃ W, W = (w24.setCell ⟨bS, 0, none⟩ (.slice ar ys.1.length cr)).setCell ⟨bS, 1, none⟩ (.slice are ys.2.length cre) := ⟨_, rfl⟩
                  rw [← hw40]
                  have g1 : (w24.setCell ⟨bS, 0, none⟩ (.slice ar ys.1.length cr)).heap[bS]? = some (.cells #[.slice ar ys.1.length cr, .slice none 0 0] 27) := by rw [heap_setCell_same _ _ _ _ _ _ HB.out]; rfl
                  have g2 : w40.heap[bS]? = some (.cells #[.slice ar ys.1.length cr, .slice are ys.2.length cre] 27) := by rw [hw40]; exact (heap_setCell_same _ _ _ _ _ _ g1).trans rfl
                  have HK40 : Keep bS (bS + 1) w24 w40 := by rw [hw40]; exact (keep_setj9 w24 bS 0 _).trans (keep_setj9 _ bS 1 _)
                  have OR40 := Lib.hid (OR.out.keepd HK40 (by omega))
                  have X40 := Lib.hid (X24.out.keep HK40 (by omega))
                  have HB40 := Lib.hid g2
                  have sz40 := HK40.size
                  clear hw40 g1 g2 HK40 HB OR
                  have hSS : (fun W : World => W.cell? ⟨w.heap.size, 0, none⟩ = some (.slice a0 x0.1.length cap0) ∧ W.cell? ⟨w.heap.size, 1, none⟩ = some (.slice a0e x0.2.length cap0e) ∧ W.cell? ⟨w.heap.size + 1, 0, none⟩ = some (.int .i64 y1) ∧ W.cell? ⟨w.heap.size + 1, 1, none⟩ = some (.int .i64 y2) ∧ W.cell? ⟨w.heap.size + 1, 2, none⟩ = some (.int .i64 y3)) w40 := HS.out _ X40.out
                  refine HK.out _ _ (fun _ => hSS) ?_
                  clear HK
                  refine wpAnyE_take (i := 10) (v := ?_) rfl (by kernel_rfl) (by kernel_rfl) (by kernel_rfl) (fun _ _ _ h => h) (Or.inl ⟨by rfl, ?_⟩) (by assumption) ?_
                  rotate_left 1
                  focus (intro W hSW; (try dsimp only at hSW); go_simp; try with_reducible rfl)
                  (try simp only [Act.put, List.setIfInBounds_toArray, List.set_cons_zero, List.set_cons_succ])
                  clear hSS
                  refine wpAnyE_done (by kernel_rfl) ?_ _
                  try go_simp
                  try go_wp2
                  go_meet
                  case rel => exact ⟨bS, _, _, ar, cr, are, cre, rfl, rfl, HB40.out, OR40.out, by omega, by omega, by omega, by omega, by omega, X40.out⟩
              ·
                have HK := Lib.hid hK
                clear hK
                go_simp
                obtain ⟨w22, hw9⟩ : ∃ W, W = w21.alloc (.cells #[.slice none 0 0, .slice none 0 0] 27) := ⟨_, rfl⟩
                rw [← hw9]
                obtain ⟨bS, hp9⟩ : ∃ p, p = w21.heap.size := ⟨_, rfl⟩
                rw [← hp9]
                have HB : Hid (w22.heap[bS]? = some (.cells #[.slice none 0 0, .slice none 0 0] 27)) := by unfold Hid; rw [hw9, hp9]; exact blk_alloc _ _
                have hx9 : Ext w21 w22 := by rw [hw9]; exact Ext.alloc _ _
                have sb9 := (Array.getElem?_eq_some_iff.1 HB.out).1
                have hb1 : w21.heap.size ≤ bS := by omega
                have hb2 : bS ≤ w21.heap.size := by omega
                clear hp9
                have g9 := Lib.hid (OP.out.ext hx9)
                clear OP
                have OP := g9
                clear g9
                have X22 := Lib.hid (X21.out.trans hx9)
                have sz22 := hx9.size
                clear hSS hx9 hw9
                have hSS : (fun W : World => W.cell? ⟨w.heap.size, 0, none⟩ = some (.slice a0 x0.1.length cap0) ∧ W.cell? ⟨w.heap.size, 1, none⟩ = some (.slice a0e x0.2.length cap0e) ∧ W.cell? ⟨w.heap.size + 1, 0, none⟩ = some (.int .i64 y1) ∧ W.cell? ⟨w.heap.size + 1, 1, none⟩ = some (.int .i64 y2) ∧ W.cell? ⟨w.heap.size + 1, 2, none⟩ = some (.int .i64 y3)) w22 := HS.out _ X22.out
                refine HK.out _ _ (fun _ => hSS) ?_
                clear HK
                refine wpAnyE_one (i := 3) (by kernel_rfl) rfl (fun K hK => ?_)
                have HK := Lib.hid hK
                clear hK
                go_simp
                refine (c_toLink y1 y2 y3 _).mono ?_
                rintro e w23 ⟨rfl, hx9⟩
                have g9 := Lib.hid (OP.out.ext hx9)
                clear OP
                have OP := g9
                clear g9
                have g9 := Lib.hid (hx9.blk HB.out)
                clear HB
                have HB := g9
                clear g9
                have X23 := Lib.hid (X22.out.trans hx9)
                have sz23 := hx9.size
                clear hSS hx9 
                have hSS : (fun W : World => W.cell? ⟨w.heap.size, 0, none⟩ = some (.slice a0 x0.1.length cap0) ∧ W.cell? ⟨w.heap.size, 1, none⟩ = some (.slice a0e x0.2.length cap0e) ∧ W.cell? ⟨w.heap.size + 1, 0, none⟩ = some (.int .i64 y1) ∧ W.cell? ⟨w.heap.size + 1, 1, none⟩ = some (.int .i64 y2) ∧ W.cell? ⟨w.heap.size + 1, 2, none⟩ = some (.int .i64 y3)) w23 := HS.out _ X23.out
                refine HK.out _ _ (fun _ => hSS) ?_
                clear HK
                refine wpAnyE_one (i := 4) (by kernel_rfl) rfl (fun K hK => ?_)
                have HK := Lib.hid hK
                clear hK
                go_simp
                refine (CI.out w23 _ _ _ OP.out.read (by omega)).mono ?_
                rintro e w24 ⟨vr, rfl, hr, hx9⟩
                obtain ⟨ar, cr, are, cre, rfl, ⟨_, _⟩, _, _⟩ := hr.form
                have OR := Lib.hid hr
                clear OP
                have g9 := Lib.hid (hx9.blk HB.out)
                clear HB
                have HB := g9
                clear g9
                have X24 := Lib.hid (X23.out.trans hx9)
                have sz24 := hx9.size
                clear hSS hx9 hr
                have hSS : (fun W : World => W.cell? ⟨w.heap.size, 0, none⟩ = some (.slice a0 x0.1.length cap0) ∧ W.cell? ⟨w.heap.size, 1, none⟩ = some (.slice a0e x0.2.length cap0e) ∧ W.cell? ⟨w.heap.size + 1, 0, none⟩ = some (.int .i64 y1) ∧ W.cell? ⟨w.heap.size + 1, 1, none⟩ = some (.int .i64 y2) ∧ W.cell? ⟨w.heap.size + 1, 2, none⟩ = some (.int .i64 y3)) w24 := HS.out _ X24.out
                refine HK.out _ _ (fun _ => hSS) ?_
                clear HK
                refine wpAnyE_take (i := 5) (v := ?_) rfl (by kernel_rfl) (by kernel_rfl) (by kernel_rfl) (fun _ _ _ h => h) (Or.inl ⟨by rfl, ?_⟩) (by assumption) ?_
                rotate_left 1
                focus (intro W hSW; (try dsimp only at hSW); go_simp; try with_reducible rfl)
                (try simp only [Act.put, List.setIfInBounds_toArray, List.set_cons_zero, List.set_cons_succ])
                refine wpAnyE_take (i := 6) (v := ?_) rfl (by kernel_rfl) (by kernel_rfl) (by kernel_rfl) (fun _ _ _ h => h) (Or.inl ⟨by rfl, ?_⟩) (by assumption) ?_
                rotate_left 1
                focus (intro W hSW; (try dsimp only at hSW); go_simp; try with_reducible rfl)
                (try simp only [Act.put, List.setIfInBounds_toArray, List.set_cons_zero, List.set_cons_succ])
                refine wpAnyE_take (i := 7) (v := ?_) rfl (by kernel_rfl) (by kernel_rfl) (by kernel_rfl) (fun _ _ _ h => h) (Or.inl ⟨by rfl, ?_⟩) (by assumption) ?_
                rotate_left 1
                focus (intro W hSW; (try dsimp only at hSW); go_simp; try with_reducible rfl)
                (try simp only [Act.put, List.setIfInBounds_toArray, List.set_cons_zero, List.set_cons_succ])
                clear hSS
                have z0 := blk_cell HB.out (j := 0) (v := .slice none 0 0) rfl
                have z1 := blk_cell HB.out (j := 1) (v := .slice none 0 0) rfl
                have f0 := blk_free HB.out 0
                have f1 := blk_free HB.out 1
                refine wpAnyE_one (i := 9) (by kernel_rfl) rfl (fun K hK => ?_)
                have HK := Lib.hid hK
                clear hK
                go_simp
                clear z0 z1 f0 f1
                obtain ⟨w40, hw40⟩ : ∃ W, W = (w24.setCell ⟨bS, 0, none⟩ (.slice ar ys.1.length cr)).setCell ⟨bS, 1, none⟩ (.slice are ys.2.length cre) := ⟨_, rfl⟩
                rw [← hw40]
                have g1 : (w24.setCell ⟨bS, 0, none⟩ (.slice ar ys.1.length cr)).heap[bS]? = some (.cells #[.slice ar ys.1.length cr, .slice none 0 0] 27) := by rw [heap_setCell_same _ _ _ _ _ _ HB.out]; rfl
                have g2 : w40.heap[bS]? = some (.cells #[.slice ar ys.1.length cr, .slice are ys.2.length cre] 27) := by rw [hw40]; exact (heap_setCell_same _ _ _ _ _ _ g1).trans rfl
                have HK40 : Keep bS (bS + 1) w24 w40 := by rw [hw40]; exact (keep_setj9 w24 bS 0 _).trans (keep_setj9 _ bS 1 _)
                have OR40 := Lib.hid (OR.out.keepd HK40 (by omega))
                have X40 := Lib.hid (X24.out.keep HK40 (by omega))
                have HB40 := Lib.hid g2
                have sz40 := HK40.size
                clear hw40 g1 g2 HK40 HB OR
                have hSS : (fun W : World => W.cell? ⟨w.heap.size, 0, none⟩ = some (.slice a0 x0.1.length cap0) ∧ W.cell? ⟨w.heap.size, 1, none⟩ = some (.slice a0e x0.2.length cap0e) ∧ W.cell? ⟨w.heap.size + 1, 0, none⟩ = some (.int .i64 y1) ∧ W.cell? ⟨w.heap.size + 1, 1, none⟩ = some (.int .i64 y2) ∧ W.cell? ⟨w.heap.size + 1, 2, none⟩ = some (.int .i64 y3)) w40 := HS.out _ X40.out
                refine HK.out _ _ (fun _ => hSS) ?_
                clear HK
                refine wpAnyE_take (i := 10) (v := ?_) rfl (by kernel_rfl) (by kernel_rfl) (by kernel_rfl) (fun _ _ _ h => h) (Or.inl ⟨by rfl, ?_⟩) (by assumption) ?_
                rotate_left 1
                focus (intro W hSW; (try dsimp only at hSW); go_simp; try with_reducible rfl)
                (try simp only [Act.put, List.setIfInBounds_toArray, List.set_cons_zero, List.set_cons_succ])
                clear hSS
                refine wpAnyE_done (by kernel_rfl) ?_ _
                try go_simp
                try go_wp2
                go_meet
                case rel => exact ⟨bS, _, _, ar, cr, are, cre, rfl, rfl, HB40.out, OR40.out, by omega, by omega, by omega, by omega, by omega, X40.out⟩
            ·
              have HK := Lib.hid hK
              clear hK
              go_simp
              obtain ⟨w21, hw9⟩ : ∃ W, W = w20.alloc (.cells #[.slice none 0 0, .slice none 0 0] 27) := ⟨_, rfl⟩
              rw [← hw9]
              obtain ⟨bS, hp9⟩ : ∃ p, p = w20.heap.size := ⟨_, rfl⟩
              rw [← hp9]
              have HB : Hid (w21.heap[bS]? = some (.cells #[.slice none 0 0, .slice none 0 0] 27)) := by unfold Hid; rw [hw9, hp9]; exact blk_alloc _ _
              have hx9 : Ext w20 w21 := by rw [hw9]; exact Ext.alloc _ _
              have sb9 := (Array.getElem?_eq_some_iff.1 HB.out).1
              have hb1 : w20.heap.size ≤ bS := by omega
              have hb2 : bS ≤ w20.heap.size := by omega
              clear hp9
              have X21 := Lib.hid (X20.out.trans hx9)
              have sz21 := hx9.size
              clear hSS hx9 hw9
              have hSS : (fun W : World => W.cell? ⟨w.heap.size, 0, none⟩ = some (.slice a0 x0.1.length cap0) ∧ W.cell? ⟨w.heap.size, 1, none⟩ = some (.slice a0e x0.2.length cap0e) ∧ W.cell? ⟨w.heap.size + 1, 0, none⟩ = some (.int .i64 y1) ∧ W.cell? ⟨w.heap.size + 1, 1, none⟩ = some (.int .i64 y2) ∧ W.cell? ⟨w.heap.size + 1, 2, none⟩ = some (.int .i64 y3)) w21 := HS.out _ X21.out
              refine HK.out _ _ (fun _ => hSS) ?_
              clear HK
              refine wpAnyE_one (i := 1) (by kernel_rfl) rfl (fun K hK => ?_)
              have HK := Lib.hid hK
              clear hK
              go_simp
              refine (CT0.out _ (X.out.trans X21.out)).mono ?_
              rintro e w22 ⟨vp, rfl, hp, hx9⟩
              obtain ⟨ap, cp, ape, cpe, rfl, ⟨_, _⟩, _, _⟩ := hp.form
              have OP := Lib.hid hp
              have g9 := Lib.hid (hx9.blk HB.out)
              clear HB
              have HB := g9
              clear g9
              have X22 := Lib.hid (X21.out.trans hx9)
              have sz22 := hx9.size
              clear hSS hx9 hp
              have hSS : (fun W : World => W.cell? ⟨w.heap.size, 0, none⟩ = some (.slice a0 x0.1.length cap0) ∧ W.cell? ⟨w.heap.size, 1, none⟩ = some (.slice a0e x0.2.length cap0e) ∧ W.cell? ⟨w.heap.size + 1, 0, none⟩ = some (.int .i64 y1) ∧ W.cell? ⟨w.heap.size + 1, 1, none⟩ = some (.int .i64 y2) ∧ W.cell? ⟨w.heap.size + 1, 2, none⟩ = some (.int .i64 y3)) w22 := HS.out _ X22.out
              refine HK.out _ _ (fun _ => hSS) ?_
              clear HK
              refine wpAnyE_one (i := 3) (by kernel_rfl) rfl (fun K hK => ?_)
              have HK := Lib.hid hK
              clear hK
              go_simp
              refine (c_toLink y1 y2 y3 _).mono ?_
              rintro e w23 ⟨rfl, hx9⟩
              have g9 := Lib.hid (OP.out.ext hx9)
              clear OP
              have OP := g9
              clear g9
              have g9 := Lib.hid (hx9.blk HB.out)
              clear HB
              have HB := g9
              clear g9
              have X23 := Lib.hid (X22.out.trans hx9)
              have sz23 := hx9.size
              clear hSS hx9 
              have hSS : (fun W : World => W.cell? ⟨w.heap.size, 0, none⟩ = some (.slice a0 x0.1.length cap0) ∧ W.cell? ⟨w.heap.size, 1, none⟩ = some (.slice a0e x0.2.length cap0e) ∧ W.cell? ⟨w.heap.size + 1, 0, none⟩ = some (.int .i64 y1) ∧ W.cell? ⟨w.heap.size + 1, 1, none⟩ = some (.int .i64 y2) ∧ W.cell? ⟨w.heap.size + 1, 2, none⟩ = some (.int .i64 y3)) w23 := HS.out _ X23.out
              refine HK.out _ _ (fun _ => hSS) ?_
              clear HK
              refine wpAnyE_one (i := 4) (by kernel_rfl) rfl (fun K hK => ?_)
              have HK := Lib.hid hK
              clear hK
              go_simp
              refine (CI.out w23 _ _ _ OP.out.read (by omega)).mono ?_
              rintro e w24 ⟨vr, rfl, hr, hx9⟩
              obtain ⟨ar, cr, are, cre, rfl, ⟨_, _⟩, _, _⟩ := hr.form
              have OR := Lib.hid hr
              clear OP
              have g9 := Lib.hid (hx9.blk HB.out)
              clear HB
              have HB := g9
              clear g9
              have X24 := Lib.hid (X23.out.trans hx9)
              have sz24 := hx9.size
              clear hSS hx9 hr
              have hSS : (fun W : World => W.cell? ⟨w.heap.size, 0, none⟩ = some (.slice a0 x0.1.length cap0) ∧ W.cell? ⟨w.heap.size, 1, none⟩ = some (.slice a0e x0.2.length cap0e) ∧ W.cell? ⟨w.heap.size + 1, 0, none⟩ = some (.int .i64 y1) ∧ W.cell? ⟨w.heap.size + 1, 1, none⟩ = some (.int .i64 y2) ∧ W.cell? ⟨w.heap.size + 1, 2, none⟩ = some (.int .i64 y3)) w24 := HS.out _ X24.out
              refine HK.out _ _ (fun _ => hSS) ?_
              clear HK
              refine wpAnyE_take (i := 5) (v := ?_) rfl (by kernel_rfl) (by kernel_rfl) (by kernel_rfl) (fun _ _ _ h => h) (Or.inl ⟨by rfl, ?_⟩) (by assumption) ?_
              rotate_left 1
              focus (intro W hSW; (try dsimp only at hSW); go_simp; try with_reducible rfl)
              (try simp only [Act.put, List.setIfInBounds_toArray, List.set_cons_zero, List.set_cons_succ])
              refine wpAnyE_take (i := 6) (v := ?_) rfl (by kernel_rfl) (by kernel_rfl) (by kernel_rfl) (fun _ _ _ h => h) (Or.inl ⟨by rfl, ?_⟩) (by assumption) ?_
              rotate_left 1
              focus (intro W hSW; (try dsimp only at hSW); go_simp; try with_reducible rfl)
              (try simp only [Act.put, List.setIfInBounds_toArray, List.set_cons_zero, List.set_cons_succ])
              refine wpAnyE_take (i := 7) (v := ?_) rfl (by kernel_rfl) (by kernel_rfl) (by kernel_rfl) (fun _ _ _ h => h) (Or.inl ⟨by rfl, ?_⟩) (by assumption) ?_
              rotate_left 1
              focus (intro W hSW; (try dsimp only at hSW); go_simp; try with_reducible rfl)
              (try simp only [Act.put, List.setIfInBounds_toArray, List.set_cons_zero, List.set_cons_succ])
              clear hSS
              have z0 := blk_cell HB.out (j := 0) (v := .slice none 0 0) rfl
              have z1 := blk_cell HB.out (j := 1) (v := .slice none 0 0) rfl
              have f0 := blk_free HB.out 0
              have f1 := blk_free HB.out 1
              refine wpAnyE_one (i := 9) (by kernel_rfl) rfl (fun K hK => ?_)
              have HK := Lib.hid hK
              clear hK
              go_simp
              clear z0 z1 f0 f1
              obtain ⟨w40, hw40⟩ : ∃ W, W = (w24.setCell ⟨bS, 0, none⟩ (.slice ar ys.1.length cr)).setCell ⟨bS, 1, none⟩ (.slice are ys.2.length cre) := ⟨_, rfl⟩
              rw [← hw40]
              have g1 : (w24.setCell ⟨bS, 0, none⟩ (.slice ar ys.1.length cr)).heap[bS]? = some (.cells #[.slice ar ys.1.length cr, .slice none 0 0] 27) := by rw [heap_setCell_same _ _ _ _ _ _ HB.out]; rfl
              have g2 : w40.heap[bS]? = some (.cells #[.slice ar ys.1.length cr, .slice are ys.2.length cre] 27) := by rw [hw40]; exact (heap_setCell_same _ _ _ _ _ _ g1).trans rfl
              have HK40 : Keep bS (bS + 1) w24 w40 := by rw [hw40]; exact (keep_setj9 w24 bS 0 _).trans (keep_setj9 _ bS 1 _)
              have OR40 := Lib.hid (OR.out.keepd HK40 (by omega))
              have X40 := Lib.hid (X24.out.keep HK40 (by omega))
              have HB40 := Lib.hid g2
              have sz40 := HK40.size
              clear hw40 g1 g2 HK40 HB OR
              have hSS : (fun W : World => W.cell? ⟨w.heap.size, 0, none⟩ = some (.slice a0 x0.1.length cap0) ∧ W.cell? ⟨w.heap.size, 1, none⟩ = some (.slice a0e x0.2.length cap0e) ∧ W.cell? ⟨w.heap.size + 1, 0, none⟩ = some (.int .i64 y1) ∧ W.cell? ⟨w.heap.size + 1, 1, none⟩ = some (.int .i64 y2) ∧ W.cell? ⟨w.heap.size + 1, 2, none⟩ = some (.int .i64 y3)) w40 := HS.out _ X40.out
              refine HK.out _ _ (fun _ => hSS) ?_
              clear HK
              refine wpAnyE_take (i := 10) (v := ?_) rfl (by kernel_rfl) (by kernel_rfl) (by kernel_rfl) (fun _ _ _ h => h) (Or.inl ⟨by rfl, ?_⟩) (by assumption) ?_
              rotate_left 1
              focus (intro W hSW; (try dsimp only at hSW); go_simp; try with_reducible rfl)
              (try simp only [Act.put, List.setIfInBounds_toArray, List.set_cons_zero, List.set_cons_succ])
              clear hSS
              refine wpAnyE_done (by kernel_rfl) ?_ _
              try go_simp
              try go_wp2
              go_meet
              case rel => exact ⟨bS, _, _, ar, cr, are, cre, rfl, rfl, HB40.out, OR40.out, by omega, by omega, by omega, by omega, by omega, X40.out⟩
          case rest =>
            obtain ⟨bz, lz, tz, adz, cdz, adze, cdze, rfl, rfl, hB, hz, q1z, q2z, q3z, q4z, q5z, Y⟩ := hcut
            obtain ⟨W14, hW⟩ : ∃ W, W = wc := ⟨_, rfl⟩
            subst hW
            have sbz := (Array.getElem?_eq_some_iff.1 hB).1
            have s14 := Y.size
            have T__ := Lib.hid (X.out.trans Y)
            clear X
            have X := T__
            clear T__
            have T__ := Lib.hid (Y.blk BA0.out)
            clear BA0
            have BA0 := T__
            clear T__
            have T__ := Lib.hid (Y.blk BL1.out)
            clear BL1
            have BL1 := T__
            clear T__
            have T__ := Lib.hid (Os.out.ext Y)
            clear Os
            have Os := T__
            clear T__
            have T__ := Lib.hid (Y.blk BS9.out)
            clear BS9
            have BS9 := T__
            clear T__
            have T__ := Lib.hid (Y.blk BG9.out)
            clear BG9
            have BG9 := T__
            clear T__
            have T__ := Lib.hid (M.out.ext Y)
            clear M
            have M := T__
            clear T__
            have Oz := Lib.hid hz
            have BZ9 := Lib.hid hB
            clear hz hB Y
            have kA00 := blk_cell BA0.out (j := 0) rfl
            have kA01 := blk_cell BA0.out (j := 1) rfl
            have kL10 := blk_cell BL1.out (j := 0) rfl
            have kL11 := blk_cell BL1.out (j := 1) rfl
            have kL12 := blk_cell BL1.out (j := 2) rfl
            have kS90 := blk_cell BS9.out (j := 0) rfl
            have kS91 := blk_cell BS9.out (j := 1) rfl
            have kG90 := blk_cell BG9.out (j := 0) rfl
            have kG91 := blk_cell BG9.out (j := 1) rfl
            have kZ90 := blk_cell BZ9.out (j := 0) rfl
            have kZ91 := blk_cell BZ9.out (j := 1) rfl
            go_wp2_with fail
            refine (c_eqNet _ _ _ _ _ _ ys ys W14 Oz.out.read Os.out.read (by omega) (by omega)).mono ?_
            rw [decide_eq_true rfl]
            rintro e W15 ⟨rfl, Y⟩
            have s15 := Y.size
            clear kA00 kA01 kL10 kL11 kL12 kS90 kS91 kG90 kG91 kZ90 kZ91
            have T__ := Lib.hid (X.out.trans Y)
            clear X
            have X := T__
            clear T__
            have T__ := Lib.hid (Y.blk BA0.out)
            clear BA0
            have BA0 := T__
            clear T__
            have T__ := Lib.hid (Y.blk BL1.out)
            clear BL1
            have BL1 := T__
            clear T__
            have T__ := Lib.hid (Os.out.ext Y)
            clear Os
            have Os := T__
            clear T__
            have T__ := Lib.hid (Y.blk BS9.out)
            clear BS9
            have BS9 := T__
            clear T__
            have T__ := Lib.hid (Y.blk BG9.out)
            clear BG9
            have BG9 := T__
            clear T__
            have T__ := Lib.hid (M.out.ext Y)
            clear M
            have M := T__
            clear T__
            have T__ := Lib.hid (Oz.out.ext Y)
            clear Oz
            have Oz := T__
            clear T__
            have T__ := Lib.hid (Y.blk BZ9.out)
            clear BZ9
            have BZ9 := T__
            clear T__
            clear Y
            have kA00 := blk_cell BA0.out (j := 0) rfl
            have kA01 := blk_cell BA0.out (j := 1) rfl
            have kL10 := blk_cell BL1.out (j := 0) rfl
            have kL11 := blk_cell BL1.out (j := 1) rfl
            have kL12 := blk_cell BL1.out (j := 2) rfl
            have kS90 := blk_cell BS9.out (j := 0) rfl
            have kS91 := blk_cell BS9.out (j := 1) rfl
            have kG90 := blk_cell BG9.out (j := 0) rfl
            have kG91 := blk_cell BG9.out (j := 1) rfl
            have kZ90 := blk_cell BZ9.out (j := 0) rfl
            have kZ91 := blk_cell BZ9.out (j := 1) rfl
            go_wp2_with fail
            refine (c_heldNet _ _ _ ys.1.length ys.2.length W15 M.out (by omega) hyl).mono ?_
            rintro e W16 ⟨rfl, Y⟩
            have s16 := Y.size
            clear kA00 kA01 kL10 kL11 kL12 kS90 kS91 kG90 kG91 kZ90 kZ91
            have T__ := Lib.hid (X.out.trans Y)
            clear X
            have X := T__
            clear T__
            have T__ := Lib.hid (Y.blk BA0.out)
            clear BA0
            have BA0 := T__
            clear T__
            have T__ := Lib.hid (Y.blk BL1.out)
            clear BL1
            have BL1 := T__
            clear T__
            have T__ := Lib.hid (Os.out.ext Y)
            clear Os
            have Os := T__
            clear T__
            have T__ := Lib.hid (Y.blk BS9.out)
            clear BS9
            have BS9 := T__
            clear T__
            have T__ := Lib.hid (Y.blk BG9.out)
            clear BG9
            have BG9 := T__
            clear T__
            have T__ := Lib.hid (M.out.ext Y)
            clear M
            have M := T__
            clear T__
            have T__ := Lib.hid (Oz.out.ext Y)
            clear Oz
            have Oz := T__
            clear T__
            have T__ := Lib.hid (Y.blk BZ9.out)
            clear BZ9
            have BZ9 := T__
            clear T__
            clear Y
            go_wp2
            go_ret
            exact ⟨rfl, X.out⟩
  · have CZ0 : Hid (∀ W, Ext w W → Calls Try.prog 27 #[.agg #[.slice a0 x0.1.length cap0, .slice a0e x0.2.length cap0e], .int .i64 (1048576)] W fun e w' => e = .returned (.int .i64 (-1)) ∧ Ext W w') := fun W hX => by
      have e := c_szNet _ _ _ x0 (1048576) W (H0.out.ext hX (Nat.le_refl _)) (by omega) (by omega)
      rw [← hN0, szL_neg (by omega)] at e
      exact e
    have HN0 := Lib.hid hN0
    clear hN0
    go_enter Try.func6, Try.ntmps6
    have X := Lib.hid (Ext.refl w)
    have s0 := Nat.le_refl w.heap.size
    go_wp2_with fail
    obtain ⟨W1, hW⟩ : ∃ W, W = w.alloc (.cells #[.slice a0 x0.1.length cap0, .slice a0e x0.2.length cap0e] 52) := ⟨_, rfl⟩
    rw [← hW]
    have Y : Ext w W1 := by rw [hW]; exact Ext.alloc _ _
    have hB : W1.heap[w.heap.size]? = some (.cells #[.slice a0 x0.1.length cap0, .slice a0e x0.2.length cap0e] 52) := by rw [hW]; exact blk_alloc _ _
    have hnA0 : W1.heap.size = w.heap.size + 1 := by rw [hW, size_alloc]
    clear hW
    have sbA0 := (Array.getElem?_eq_some_iff.1 hB).1
    have s1 := Y.size
    have T__ := Lib.hid (X.out.trans Y)
    clear X
    have X := T__
    clear T__
    have BA0 := Lib.hid hB
    clear hB Y
    obtain ⟨W2, hW⟩ : ∃ W, W = W1.alloc (.cells #[.int .i64 y1, .int .i64 y2, .int .i64 y3] 60) := ⟨_, rfl⟩
    rw [← hW]
    have Y : Ext W1 W2 := by rw [hW]; exact Ext.alloc _ _
    have hB : W2.heap[W1.heap.size]? = some (.cells #[.int .i64 y1, .int .i64 y2, .int .i64 y3] 60) := by rw [hW]; exact blk_alloc _ _
    rw [hnA0] at hB
    clear hW
    have sbL1 := (Array.getElem?_eq_some_iff.1 hB).1
    have s2 := Y.size
    have T__ := Lib.hid (X.out.trans Y)
    clear X
    have X := T__
    clear T__
    have T__ := Lib.hid (Y.blk BA0.out)
    clear BA0
    have BA0 := T__
    clear T__
    have BL1 := Lib.hid hB
    clear hB Y
    refine (CZ0.out W2 X.out).mono ?_
    rintro e W3 ⟨rfl, Y⟩
    have s3 := Y.size
    have T__ := Lib.hid (X.out.trans Y)
    clear X
    have X := T__
    clear T__
    have T__ := Lib.hid (Y.blk BA0.out)
    clear BA0
    have BA0 := T__
    clear T__
    have T__ := Lib.hid (Y.blk BL1.out)
    clear BL1
    have BL1 := T__
    clear T__
    clear Y
    go_wp2
    go_ret
    exact ⟨rfl, X.out⟩
set_option maxRecDepth 100000 in
theorem lifted_FnExactAddLink (os : Os) (started : os.Started) (H : Type) (enc : TypeId × Value → H) :
    ReturnsInHanded {} Try.checked os 6 .any (Rows.fnExactAddLinkSpec.pre6 enc Try.prog Try.f6 Rows.fnExactAddLinkRow.domain false) (Rows.fnExactAddLinkSpec.post enc Try.prog Try.f6 false true false false) := by
  refine returnsInHanded_of_change (C := Try.checked) own_Ytiipjlcmekakaaa started (by kernel_rfl) Try.func6
    (ChangeSpec.witness6 (enc := enc) (C := Try.checked) false ⟨#[], #[.agg #[.slice none 0 0, .slice none 0 0], .agg #[.int .i64 0, .int .i64 0, .int .i64 0]], []⟩ 8 (by kernel_rfl) (by kernel_rfl) (by kernel_rfl) (by kernel_rfl)) ?_
  intro W base args ds gs before hval0 hW hcnd _
  have hval : ∀ (j : Nat) t v, Try.f6.params[j]? = some t → args[j]? = some v → Value.okWide Try.prog W .any base t v := hval0
  have hW' := hW
  obtain ⟨p, q, hA0, hV, rfl, hfz, hnd⟩ := hW
  have hA : DataW.TrodAll enc Try.prog W 0 (fun _ => true) true Try.f6.params.toList args.toList ds p := hA0
  rw [Try.params6] at hA hval
  obtain ⟨v0, vs0, d0, ds0, p0, q0, hargs, rfl, rfl, h0, r0⟩ := trodAll_cons hA
  obtain ⟨v1, vs1, d1, ds1, p1, q1, rfl, rfl, rfl, h1, r1⟩ := trodAll_cons r0
  obtain ⟨rfl, rfl, rfl⟩ := trodAll_nil r1
  obtain rfl : args = #[v0, v1] := by cases args; simp_all
  obtain ⟨rfl, rfl⟩ := trodVars_none hV
  have k0 := h0
  have lt0 : ∀ x ∈ p0, x.block < W.heap.size := by obtain ⟨m, hm⟩ := k0; exact DataW.trod_lt m _ _ _ hm
  obtain ⟨x0, w0⟩ := arg_net (hval 0 52 v0 rfl rfl) h0
  have k1 := h1
  have lt1 : ∀ x ∈ p1, x.block < W.heap.size := by obtain ⟨m, hm⟩ := k1; exact DataW.trod_lt m _ _ _ hm
  obtain ⟨x1, w1⟩ := arg_link (hval 1 60 v1 rfl rfl) h1
  clear hA0 hval0
  refine (law_AddLink v0 x0 v1 x1 W w0 w1).mono fun e W' ⟨he, bel⟩ => ?_
  subst he
  exact ⟨_, rfl, _, _, _, [], _, [], hW', trodAll_mk1 (shut_bool Try.underlying4 _), (trodAll_cons_mk (Below.trod laidOut_Ytiipjlcmekakaaa (by kernel_rfl) (of_decide_eq_true (by kernel_rfl)) k0 bel lt0) (trodAll_cons_mk (Below.trod laidOut_Ytiipjlcmekakaaa (by kernel_rfl) (of_decide_eq_true (by kernel_rfl)) k1 bel lt1) trodAll_mk0)), rfl, bel.frame _, fun h => by cases h⟩

theorem holds_FnExactAddLink : Rows.FnExactAddLinkSaid :=
  OpenClaim.holds_of_wide 6 Try.f6 rfl rfl rfl rfl rfl rfl rfl ⟨rfl, rfl, rfl, rfl, rfl⟩ rfl rfl rfl rfl rfl (by kernel_rfl) Try.func6 (by kernel_rfl)
    (of_decide_eq_true (by kernel_rfl)) (by unfold Func.isWrapper; first | (rw [if_pos (by decide +kernel)]; kernel_rfl) | (rw [if_neg (by decide +kernel)]; exact ⟨rfl, rfl⟩))
    (fun os started H enc _ => lifted_FnExactAddLink os started H enc)
end Go.Proofs.Ytiipjlcmekakaaa
