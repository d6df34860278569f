

/- FnHeights: for all arguments the call returns true. No condition. -/
import Derived.Test.YtnoagmjajhlmjaaDrawT
import Derived.Test.YtnoagmjajhlmjaaArgBytes
import Derived.Test.YtnoagmjajhlmjaaHeightP
namespace Go.Proofs.Ytnoagmjajhlmjaa
open Go.ChangeShapes Go.WideShapes Go.ChangeAt Go.RowKit
open Go.ChangeMaps (open_string shut_string)
set_option linter.unusedVariables false
set_option linter.unusedSimpArgs false
theorem lh_ex (D A B n : Int) (gs : List GroundT) : ∃ (h : Int) (ok : Bool), (Value.tuple #[Value.int .i64 ((Option.getD (lhR D A B n gs) 0 : Nat) : Int), Value.bool (Option.isSome (lhR D A B n gs))]) = .tuple #[.int .i64 h, .bool ok] ∧ 0 ≤ h ∧ h ≤ 3000 ∧
    (ok = true → seesV D A h n gs = true ∧ askedB D A h n gs = true ∧ (0 < h → seesV D A (h - 1) n gs = false ∧ askedB D A (h - 1) n gs = true)) := by
  cases e : lhR D A B n gs with
  | none => exact ⟨0, false, rfl, by omega, by omega, by simp⟩
  | some h =>
    obtain ⟨h1, h2, h3, h4⟩ := lh_facts e
    exact ⟨h, true, rfl, by omega, by omega, fun _ => ⟨h2, h3, fun hp => h4 (by omega)⟩⟩
theorem lr_ex (D A B n : Int) (gs : List GroundT) : ∃ (r : Int) (ok : Bool), (Value.tuple #[Value.int .i64 ((Option.getD (lrR D A B n gs) 0 : Nat) : Int), Value.bool (Option.isSome (lrR D A B n gs))]) = .tuple #[.int .i64 r, .bool ok] ∧ 0 ≤ r ∧ r ≤ 3000 ∧
    (ok = true → 0 ≤ A ∧ A ≤ 3000 ∧ 0 ≤ B ∧ B ≤ 3000 ∧ askedB D A B n gs = true ∧ seesV D A B n gs = (r == 0) ∧ (A + r ≤ 3000 → B + r ≤ 3000 → seesV D (A + r) (B + r) n gs = true ∧ askedB D (A + r) (B + r) n gs = true)) := by
  cases e : lrR D A B n gs with
  | none => exact ⟨0, false, rfl, by omega, by omega, by simp⟩
  | some r =>
    obtain ⟨h1, h2, h3, h4, h5, h6, h7, h8⟩ := lr_facts e
    exact ⟨r, true, rfl, by omega, by omega, fun _ => ⟨h2, h3, h4, h5, h6, h7, h8⟩⟩
theorem st_rel {w w1 w5 w10 : World} {o : Obj} {j1 j2 : Nat} {v1 v2 : Value} (X : Ext w w10) (X1 : Ext w1 w10) (X2 : Ext w5 w10) (B : w10.heap[w1.heap.size]? = some o) (h1 : w.heap.size ≤ w5.heap.size) (h2 : w1.heap.size < w5.heap.size) :
    Ext w ((w10.setCell ⟨w5.heap.size, j1, none⟩ v1).setCell ⟨w5.heap.size, j2, none⟩ v2) ∧ Ext w1 ((w10.setCell ⟨w5.heap.size, j1, none⟩ v1).setCell ⟨w5.heap.size, j2, none⟩ v2) ∧
    Ext w5 ((w10.setCell ⟨w5.heap.size, j1, none⟩ v1).setCell ⟨w5.heap.size, j2, none⟩ v2) ∧ ((w10.setCell ⟨w5.heap.size, j1, none⟩ v1).setCell ⟨w5.heap.size, j2, none⟩ v2).heap[w1.heap.size]? = some o := by
  refine ⟨(X.st (p := ⟨w5.heap.size, j1, none⟩) h1 _).st (p := ⟨w5.heap.size, j2, none⟩) h1 _, (X1.st (p := ⟨w5.heap.size, j1, none⟩) (Nat.le_of_lt h2) _).st (p := ⟨w5.heap.size, j2, none⟩) (Nat.le_of_lt h2) _, (X2.st (p := ⟨w5.heap.size, j1, none⟩) (Nat.le_refl _) _).st (p := ⟨w5.heap.size, j2, none⟩) (Nat.le_refl _) _, ?_⟩
  rw [heap_setCell_other _ _ _ _ (by show w1.heap.size ≠ w5.heap.size; omega), heap_setCell_other _ _ _ _ (by show w1.heap.size ≠ w5.heap.size; omega)]
  exact B
set_option maxRecDepth 100000 in
set_option maxHeartbeats 8000000 in
theorem law_Heights (v0 : Value) (bs : List Int) (v1 : Value) (cs : List Int) (w : World) (h0 : ArgBytes w v0 bs) (h1 : ArgBytes w v1 cs) :
    Calls Try.prog 4 #[v0, v1] w fun e w' => e = .returned (.bool true) ∧ Ext w w' := by
  obtain ⟨hB0, hY0⟩ := h0
  obtain ⟨hB1, hY1⟩ := h1
  obtain ⟨a0, p0, rfl, n0, n0b, _⟩ := id hB0
  obtain ⟨a1, p1, rfl, n1, n1b, _⟩ := id hB1
  have HB0 : Hid (Bytes w 0 w.heap.size _ bs) := ⟨hB0, hY0⟩
  have HB1 : Hid (Bytes w 0 w.heap.size _ cs) := ⟨hB1, hY1⟩
  obtain ⟨l0, hl0⟩ : ∃ n, n = bs.length := ⟨_, rfl⟩
  obtain ⟨l1, hl1⟩ : ∃ n, n = cs.length := ⟨_, rfl⟩
  rw [← hl0] at HB0 n0 ⊢
  rw [← hl1] at HB1 n1 ⊢
  clear hB0 hY0 hB1 hY1 hl0 hl1
  by_cases hbig : (1048576 : Int) < wrap64 ((l0 : Int) + (l1 : Int))
  ·
    go_enter Try.func4, Try.ntmps4
    go_wp2_with fail
    go_ret
    exact ⟨rfl, Ext.refl _⟩
  go_enter Try.func4, Try.ntmps4
  go_wp2_with fail
  refine (c_DrawLeastHeight _ 0 w.heap.size bs w HB0.out (Nat.le_refl _)).mono ?_
  rintro e w1 ⟨vx, ⟨D, A, B, gs⟩, n, rfl, ⟨ax, cx, rfl, ho, hlt⟩, hl, nn0, nn1, hx1⟩
  simp only at ho hl hlt
  obtain ⟨vg, hvg⟩ : ∃ v, v = Value.slice ax gs.length cx := ⟨_, rfl⟩
  have HG1 : Hid (Grounds w1 w.heap.size w1.heap.size (.slice ax gs.length cx) gs) := Row.of_own encGround_len ho
  obtain ⟨gn, hgn⟩ : ∃ k, k = gs.length := ⟨_, rfl⟩
  rw [← hgn] at HG1 ⊢
  clear ho hlt hl hgn hvg vg
  go_wp2_with fail
  obtain ⟨w2, hw2⟩ : ∃ W, W = w1.alloc (.cells #[.int .i64 D, .int .i64 A, .int .i64 B, .slice ax gn cx] 28) := ⟨_, rfl⟩
  rw [← hw2]
  have X1 : Hid (Ext w1 w2) := by unfold Hid; rw [hw2]; exact Ext.alloc _ _
  have B5 : Hid (w2.heap[w1.heap.size]? = some (.cells #[.int .i64 D, .int .i64 A, .int .i64 B, .slice ax gn cx] 28)) := by unfold Hid; rw [hw2]; exact blk_alloc _ _
  have X := Lib.hid (hx1.trans X1.out)
  clear hw2
  obtain ⟨hv, ok, hlh, hv0, hv1, hok⟩ := lh_ex D A B n gs
  have HOK := Lib.hid hok
  have CL : Hid (∀ W, Ext w1 W → Calls Try.prog 14 #[.agg #[.int .i64 D, .int .i64 A, .int .i64 B, .slice ax gn cx], .int .i64 n] W fun e w' => e = .returned (.tuple #[.int .i64 hv, .bool ok]) ∧ Ext W w') := fun W hX => by
    rw [← hlh]; exact c_iLeastHeight D A B n _ _ _ gs W (HG1.out.ext hX (Nat.le_refl _)) hX.size
  have CM : Hid (∀ W, Ext w1 W → Calls Try.prog 15 #[.agg #[.int .i64 D, .int .i64 A, .int .i64 B, .slice ax gn cx], .int .i64 n] W fun e w' => e = .returned (.tuple #[.int .i64 hv, .bool ok]) ∧ Ext W w') := fun W hX => by
    rw [← hlh]; exact c_sLeastHeight D A B n _ _ _ gs W (HG1.out.ext hX (Nat.le_refl _)) hX.size
  clear hok hlh
  refine (CL.out _ X1.out).mono ?_
  rintro e w3 ⟨rfl, hx3⟩
  have T1__ := Lib.hid (X.out.trans hx3)
  have T2__ := Lib.hid (X1.out.trans hx3)
  have T3__ := Lib.hid ((hx3).blk B5.out)
  clear X X1 B5
  have X := T1__
  have X1 := T2__
  have B5 := T3__
  clear T1__ T2__ T3__
  have k0 := blk_cell B5.out (j := 0) (v := .int .i64 D) rfl
  have k1 := blk_cell B5.out (j := 1) (v := .int .i64 A) rfl
  have k2 := blk_cell B5.out (j := 2) (v := .int .i64 B) rfl
  have k3 := blk_cell B5.out (j := 3) (v := .slice ax gn cx) rfl
  clear CL hx3
  go_wp2_with fail
  refine (CM.out _ X1.out).mono ?_
  rintro e w4 ⟨rfl, hx4⟩
  have T1__ := Lib.hid (X.out.trans hx4)
  have T2__ := Lib.hid (X1.out.trans hx4)
  have T3__ := Lib.hid ((hx4).blk B5.out)
  clear X X1 B5
  have X := T1__
  have X1 := T2__
  have B5 := T3__
  clear T1__ T2__ T3__
  clear CM hx4 k0 k1 k2 k3
  go_wp2_with fail
  refine (c_DrawLeastRaise _ 0 w.heap.size cs w4 ⟨HB1.out.1.ext X.out (Nat.le_refl _), HB1.out.2⟩ X.out.size).mono ?_
  rintro e w5 ⟨vx, ⟨D2, A2, C2, gs2⟩, n2, rfl, ⟨ax2, cx2, rfl, ho, hlt⟩, hl, m0, m1, hx5⟩
  simp only at ho hl hlt
  have HG2 : Hid (Grounds w5 w4.heap.size w5.heap.size (.slice ax2 gs2.length cx2) gs2) := Row.of_own encGround_len ho
  obtain ⟨gn2, hgn⟩ : ∃ k, k = gs2.length := ⟨_, rfl⟩
  rw [← hgn] at HG2 ⊢
  have T1__ := Lib.hid (X.out.trans hx5)
  have T2__ := Lib.hid (X1.out.trans hx5)
  have T3__ := Lib.hid ((hx5).blk B5.out)
  clear X X1 B5
  have X := T1__
  have X1 := T2__
  have B5 := T3__
  clear T1__ T2__ T3__
  have hs15 : w1.heap.size < w5.heap.size := (Array.getElem?_eq_some_iff.1 B5.out).1
  have hs01 : w.heap.size ≤ w1.heap.size := hx1.size
  have hs05 : w.heap.size ≤ w5.heap.size := X.out.size
  clear ho hlt hl hgn hx5
  go_wp2_with fail
  obtain ⟨w6, hw6⟩ : ∃ W, W = w5.alloc (.cells #[.int .i64 D2, .int .i64 A2, .int .i64 C2, .slice ax2 gn2 cx2] 28) := ⟨_, rfl⟩
  rw [← hw6]
  have hx6 : Ext w5 w6 := by rw [hw6]; exact Ext.alloc _ _
  have X2 : Hid (Ext w5 w6) := hx6
  have B11 : Hid (w6.heap[w5.heap.size]? = some (.cells #[.int .i64 D2, .int .i64 A2, .int .i64 C2, .slice ax2 gn2 cx2] 28)) := by unfold Hid; rw [hw6]; exact blk_alloc _ _
  have T1__ := Lib.hid (X.out.trans hx6)
  have T2__ := Lib.hid (X1.out.trans hx6)
  have T3__ := Lib.hid ((hx6).blk B5.out)
  clear X X1 B5
  have X := T1__
  have X1 := T2__
  have B5 := T3__
  clear T1__ T2__ T3__
  clear hw6 hx6
  obtain ⟨rv, one, hlr, rv0, rv1, hone⟩ := lr_ex D2 A2 C2 n2 gs2
  have HONE := Lib.hid hone
  have CL : Hid (∀ W, Ext w5 W → Calls Try.prog 17 #[.agg #[.int .i64 D2, .int .i64 A2, .int .i64 C2, .slice ax2 gn2 cx2], .int .i64 n2] W fun e w' => e = .returned (.tuple #[.int .i64 rv, .bool one]) ∧ Ext W w') := fun W hX => by
    rw [← hlr]; exact c_iLeastRaise D2 A2 C2 n2 _ _ _ gs2 W (HG2.out.ext hX (Nat.le_refl _)) hX.size
  have CM : Hid (∀ W, Ext w5 W → Calls Try.prog 18 #[.agg #[.int .i64 D2, .int .i64 A2, .int .i64 C2, .slice ax2 gn2 cx2], .int .i64 n2] W fun e w' => e = .returned (.tuple #[.int .i64 rv, .bool one]) ∧ Ext W w') := fun W hX => by
    rw [← hlr]; exact c_sLeastRaise D2 A2 C2 n2 _ _ _ gs2 W (HG2.out.ext hX (Nat.le_refl _)) hX.size
  clear hone hlr
  refine (CL.out _ X2.out).mono ?_
  rintro e w7 ⟨rfl, hx7⟩
  have T1__ := Lib.hid (X.out.trans hx7)
  have T2__ := Lib.hid (X1.out.trans hx7)
  have T3__ := Lib.hid ((hx7).blk B5.out)
  clear X X1 B5
  have X := T1__
  have X1 := T2__
  have B5 := T3__
  clear T1__ T2__ T3__
  have T1__ := Lib.hid (X2.out.trans hx7)
  have T2__ := Lib.hid ((hx7).blk B11.out)
  clear X2 B11
  have X2 := T1__
  have B11 := T2__
  clear T1__ T2__
  have k0 := blk_cell B11.out (j := 0) (v := .int .i64 D2) rfl
  have k1 := blk_cell B11.out (j := 1) (v := .int .i64 A2) rfl
  have k2 := blk_cell B11.out (j := 2) (v := .int .i64 C2) rfl
  have k3 := blk_cell B11.out (j := 3) (v := .slice ax2 gn2 cx2) rfl
  clear CL hx7
  go_wp2_with fail
  refine (CM.out _ X2.out).mono ?_
  rintro e w8 ⟨rfl, hx8⟩
  have T1__ := Lib.hid (X.out.trans hx8)
  have T2__ := Lib.hid (X1.out.trans hx8)
  have T3__ := Lib.hid ((hx8).blk B5.out)
  clear X X1 B5
  have X := T1__
  have X1 := T2__
  have B5 := T3__
  clear T1__ T2__ T3__
  have T1__ := Lib.hid (X2.out.trans hx8)
  have T2__ := Lib.hid ((hx8).blk B11.out)
  clear X2 B11
  have X2 := T1__
  have B11 := T2__
  clear T1__ T2__
  clear CM hx8 k0 k1 k2 k3
  go_wp2_with fail
  refine (c_DrawHorizonOf _ 0 w.heap.size cs w8 ⟨HB1.out.1.ext X.out (Nat.le_refl _), HB1.out.2⟩ X.out.size).mono ?_
  rintro e w9 ⟨m, hb, rfl, mm0, mm1, hb0, hb1, hx9⟩
  have T1__ := Lib.hid (X.out.trans hx9)
  have T2__ := Lib.hid (X1.out.trans hx9)
  have T3__ := Lib.hid ((hx9).blk B5.out)
  clear X X1 B5
  have X := T1__
  have X1 := T2__
  have B5 := T3__
  clear T1__ T2__ T3__
  have T1__ := Lib.hid (X2.out.trans hx9)
  have T2__ := Lib.hid ((hx9).blk B11.out)
  clear X2 B11
  have X2 := T1__
  have B11 := T2__
  clear T1__ T2__
  clear hx9
  obtain ⟨dv, hdv⟩ : ∃ x, x = hzV m hb := ⟨_, rfl⟩
  obtain ⟨three, hth⟩ : ∃ x, x = hzOk m hb := ⟨_, rfl⟩
  have CL := c_iHorizonOf m hb w9
  have CM := c_sHorizonOf m hb w9
  rw [← hdv, ← hth] at CL CM
  have CL := Lib.hid CL
  have CM := Lib.hid CM
  have HDV := Lib.hid hdv
  have HTH := Lib.hid hth
  clear hdv hth
  go_wp2_with fail
  refine CL.out.mono ?_
  rintro e w' ⟨rfl, rfl⟩
  go_wp2_with fail
  refine CM.out.mono ?_
  rintro e w' ⟨rfl, rfl⟩
  clear CL CM
  go_upto_if 118 with fail
  go_cut [] (fun wx => Ext w wx ∧ Ext w1 wx ∧ wx.heap[w1.heap.size]? = some (.cells #[.int .i64 D, .int .i64 A, .int .i64 B, .slice ax gn cx] 28))
  case first =>
    cases one
    · go_wp2
      go_meet
      case rel => exact ⟨X.out, X1.out, B5.out⟩
    · obtain ⟨qa0, qa1, qc0, qc1, hask, hsee, hnext⟩ := HONE.out rfl
      obtain ⟨z, hz⟩ : ∃ z, (rv == 0) = z := ⟨_, rfl⟩
      have CSE : Hid (∀ W A' C' z, Ext w5 W → seesV D2 A' C' n2 gs2 = z → askedB D2 A' C' n2 gs2 = true → Calls Try.prog 22 #[.agg #[.int .i64 D2, .int .i64 A', .int .i64 C', .slice ax2 gn2 cx2], .int .i64 n2] W fun e w' => e = .returned (.tuple #[.bool z, .bool true]) ∧ Ext W w') := fun W A' C' z hX h1 h2 => by
        have h9 := c_iSeesAt D2 A' C' n2 _ _ _ gs2 W (HG2.out.ext hX (Nat.le_refl _)) hX.size
        rw [h1, h2] at h9
        exact h9
      have CS := Lib.hid (CSE.out w9 A2 C2 z X2.out (hsee.trans hz) hask)
      have HNX := Lib.hid hnext
      have hn0 : ¬ rv < 0 := by omega
      have hn1 : ¬ 3000 < rv := by omega
      have k0 := blk_cell B11.out (j := 0) (v := .int .i64 D2) rfl
      have k1 := blk_cell B11.out (j := 1) (v := .int .i64 A2) rfl
      have k2 := blk_cell B11.out (j := 2) (v := .int .i64 C2) rfl
      have k3 := blk_cell B11.out (j := 3) (v := .slice ax2 gn2 cx2) rfl
      clear hsee hask hnext
      go_wp2_with fail
      refine CS.out.mono ?_
      rintro e w10 ⟨rfl, hx10⟩
      have T1__ := Lib.hid (X.out.trans hx10)
      have T2__ := Lib.hid (X1.out.trans hx10)
      have T3__ := Lib.hid ((hx10).blk B5.out)
      clear X X1 B5
      have X := T1__
      have X1 := T2__
      have B5 := T3__
      clear T1__ T2__ T3__
      have T1__ := Lib.hid (X2.out.trans hx10)
      have T2__ := Lib.hid ((hx10).blk B11.out)
      clear X2 B11
      have X2 := T1__
      have B11 := T2__
      clear T1__ T2__
      clear k0 k1 k2 k3 CS hx10
      have k0 := blk_cell B11.out (j := 0) (v := .int .i64 D2) rfl
      have k1 := blk_cell B11.out (j := 1) (v := .int .i64 A2) rfl
      have k2 := blk_cell B11.out (j := 2) (v := .int .i64 C2) rfl
      have k3 := blk_cell B11.out (j := 3) (v := .slice ax2 gn2 cx2) rfl
      have fz1 := fun j => blk_free B11.out j
      have fz2 := fun j => blk_free (blk_set (j := 1) B11.out (.int .i64 (A2 + rv))) j
      obtain ⟨XA, XB, XC, XD⟩ := st_rel (j1 := 1) (j2 := 2) (v1 := .int .i64 (A2 + rv)) (v2 := .int .i64 (C2 + rv)) X.out X1.out X2.out B5.out hs05 hs15
      have HXA := Lib.hid XA
      have HXB := Lib.hid XB
      have HXC := Lib.hid XC
      have HXD := Lib.hid XD
      clear XA XB XC XD
      by_cases hA : A2 + rv ≤ 3000
      · by_cases hC : C2 + rv ≤ 3000
        · obtain ⟨hs2, ha2⟩ := HNX.out hA hC
          have CS := Lib.hid (CSE.out _ _ _ true HXC.out hs2 ha2)
          clear hs2 ha2
          go_wp2_with fail
          refine CS.out.mono ?_
          rintro e w11 ⟨rfl, hx11⟩
          have HF : Hid (Ext w w11 ∧ Ext w1 w11 ∧ w11.heap[w1.heap.size]? = some (.cells #[.int .i64 D, .int .i64 A, .int .i64 B, .slice ax gn cx] 28)) := ⟨HXA.out.trans hx11, HXB.out.trans hx11, hx11.blk HXD.out⟩
          clear CS hx11
          go_wp2
          go_meet
          case rel => exact HF.out
        · go_wp2
          go_meet
          case rel => exact ⟨HXA.out, HXB.out, HXD.out⟩
      · go_wp2
        go_meet
        case rel => exact ⟨HXA.out, HXB.out, HXD.out⟩
  case rest =>
    clear X X1 B5 X2 B11 HG2 HONE
    obtain ⟨hcX, hcX1, hcB⟩ := hcut
    have X := Lib.hid hcX
    have X1 := Lib.hid hcX1
    have B5 := Lib.hid hcB
    clear hcX hcX1 hcB
    cases three
    · clear HTH HDV
      cases ok
      · go_wp2
        go_ret
        exact ⟨rfl, X.out⟩
      · obtain ⟨hs1, ha1, hnx⟩ := HOK.out rfl
        have HNX := Lib.hid hnx
        have CSE : Hid (∀ W B' z, Ext w1 W → seesV D A B' n gs = z → askedB D A B' n gs = true → Calls Try.prog 22 #[.agg #[.int .i64 D, .int .i64 A, .int .i64 B', .slice ax gn cx], .int .i64 n] W fun e w' => e = .returned (.tuple #[.bool z, .bool true]) ∧ Ext W w') := fun W B' z hX h1 h2 => by
          have h9 := c_iSeesAt D A B' n _ _ _ gs W (HG1.out.ext hX (Nat.le_refl _)) hX.size
          rw [h1, h2] at h9
          exact h9
        have k0 := blk_cell B5.out (j := 0) (v := .int .i64 D) rfl
        have k1 := blk_cell B5.out (j := 1) (v := .int .i64 A) rfl
        have k2 := blk_cell B5.out (j := 2) (v := .int .i64 B) rfl
        have k3 := blk_cell B5.out (j := 3) (v := .slice ax gn cx) rfl
        have fz1 := fun j => blk_free B5.out j
        obtain ⟨w20, hw20⟩ : ∃ W, W = wc.setCell ⟨w1.heap.size, 2, none⟩ (.int .i64 hv) := ⟨_, rfl⟩
        have B20 : Hid (w20.heap[w1.heap.size]? = some (.cells #[.int .i64 D, .int .i64 A, .int .i64 hv, .slice ax gn cx] 28)) := by unfold Hid; rw [hw20]; exact blk_set (j := 2) B5.out (.int .i64 hv)
        have X20 : Hid (Ext w w20) := by unfold Hid; rw [hw20]; exact X.out.st (p := ⟨w1.heap.size, 2, none⟩) hs01 _
        have X21 : Hid (Ext w1 w20) := by unfold Hid; rw [hw20]; exact X1.out.st (p := ⟨w1.heap.size, 2, none⟩) (Nat.le_refl _) _
        have CS := Lib.hid (CSE.out w20 hv true X21.out hs1 ha1)
        have HW20 := Lib.hid hw20
        clear hs1 ha1 hnx hw20
        go_wp2_with fail
        rw [← HW20.out]
        refine CS.out.mono ?_
        rintro e w21 ⟨rfl, hx21⟩
        have B5 := Lib.hid (hx21.blk B20.out)
        have X := Lib.hid (X20.out.trans hx21)
        have X1 := Lib.hid (X21.out.trans hx21)
        clear HW20 B20 X20 X21 CS k0 k1 k2 k3 fz1 hx21
        by_cases hz0 : hv = 0
        · have hzb : (hv == 0) = true := by simp [hz0]
          clear hz0
          go_wp2
          go_ret
          exact ⟨rfl, X.out⟩
        · have hzb : (hv == 0) = false := by simp [hz0]
          obtain ⟨hs1, ha1⟩ := HNX.out (by omega)
          clear hz0
          have k0 := blk_cell B5.out (j := 0) (v := .int .i64 D) rfl
          have k1 := blk_cell B5.out (j := 1) (v := .int .i64 A) rfl
          have k2 := blk_cell B5.out (j := 2) (v := .int .i64 hv) rfl
          have k3 := blk_cell B5.out (j := 3) (v := .slice ax gn cx) rfl
          have fz1 := fun j => blk_free B5.out j
          have CS := Lib.hid (CSE.out (w21.setCell ⟨w1.heap.size, 2, none⟩ (.int .i64 (hv - 1))) (hv - 1) false (X1.out.st (p := ⟨w1.heap.size, 2, none⟩) (Nat.le_refl _) _) hs1 ha1)
          have HX9 := Lib.hid (X.out.st (p := ⟨w1.heap.size, 2, none⟩) hs01 (.int .i64 (hv - 1)))
          clear hs1 ha1
          go_wp2_with fail
          refine CS.out.mono ?_
          rintro e w22 ⟨rfl, hx22⟩
          have HX22 := Lib.hid (HX9.out.trans hx22)
          clear CS hx22
          go_wp2
          go_ret
          exact ⟨rfl, HX22.out⟩
    · by_cases hm3 : m < 3000
      · obtain ⟨hm0, he2, hd0, hd1⟩ := hz_facts HTH.out.symm hm3
        obtain ⟨dv2, hdv2⟩ : ∃ x, x = hzV (m + 1) hb := ⟨_, rfl⟩
        rw [← HDV.out] at hd0
        rw [← HDV.out, ← hdv2] at hd1
        have CH := c_iHorizonOf (m + 1) hb wc
        rw [he2, ← hdv2] at CH
        have HCH := Lib.hid CH
        have hq0 : ¬ dv2 < dv := by omega
        have hq1 : ¬ dv < 0 := by omega
        clear hdv2 CH he2
        go_wp2_with fail
        refine HCH.out.mono ?_
        rintro e w' ⟨rfl, rfl⟩
        clear HTH HDV HCH
        cases ok
        · go_wp2
          go_ret
          exact ⟨rfl, X.out⟩
        · obtain ⟨hs1, ha1, hnx⟩ := HOK.out rfl
          have HNX := Lib.hid hnx
          have CSE : Hid (∀ W B' z, Ext w1 W → seesV D A B' n gs = z → askedB D A B' n gs = true → Calls Try.prog 22 #[.agg #[.int .i64 D, .int .i64 A, .int .i64 B', .slice ax gn cx], .int .i64 n] W fun e w' => e = .returned (.tuple #[.bool z, .bool true]) ∧ Ext W w') := fun W B' z hX h1 h2 => by
            have h9 := c_iSeesAt D A B' n _ _ _ gs W (HG1.out.ext hX (Nat.le_refl _)) hX.size
            rw [h1, h2] at h9
            exact h9
          have k0 := blk_cell B5.out (j := 0) (v := .int .i64 D) rfl
          have k1 := blk_cell B5.out (j := 1) (v := .int .i64 A) rfl
          have k2 := blk_cell B5.out (j := 2) (v := .int .i64 B) rfl
          have k3 := blk_cell B5.out (j := 3) (v := .slice ax gn cx) rfl
          have fz1 := fun j => blk_free B5.out j
          obtain ⟨w20, hw20⟩ : ∃ W, W = wc.setCell ⟨w1.heap.size, 2, none⟩ (.int .i64 hv) := ⟨_, rfl⟩
          have B20 : Hid (w20.heap[w1.heap.size]? = some (.cells #[.int .i64 D, .int .i64 A, .int .i64 hv, .slice ax gn cx] 28)) := by unfold Hid; rw [hw20]; exact blk_set (j := 2) B5.out (.int .i64 hv)
          have X20 : Hid (Ext w w20) := by unfold Hid; rw [hw20]; exact X.out.st (p := ⟨w1.heap.size, 2, none⟩) hs01 _
          have X21 : Hid (Ext w1 w20) := by unfold Hid; rw [hw20]; exact X1.out.st (p := ⟨w1.heap.size, 2, none⟩) (Nat.le_refl _) _
          have CS := Lib.hid (CSE.out w20 hv true X21.out hs1 ha1)
          have HW20 := Lib.hid hw20
          clear hs1 ha1 hnx hw20
          go_wp2_with fail
          rw [← HW20.out]
          refine CS.out.mono ?_
          rintro e w21 ⟨rfl, hx21⟩
          have B5 := Lib.hid (hx21.blk B20.out)
          have X := Lib.hid (X20.out.trans hx21)
          have X1 := Lib.hid (X21.out.trans hx21)
          clear HW20 B20 X20 X21 CS k0 k1 k2 k3 fz1 hx21
          by_cases hz0 : hv = 0
          · have hzb : (hv == 0) = true := by simp [hz0]
            clear hz0
            go_wp2
            go_ret
            exact ⟨rfl, X.out⟩
          · have hzb : (hv == 0) = false := by simp [hz0]
            obtain ⟨hs1, ha1⟩ := HNX.out (by omega)
            clear hz0
            have k0 := blk_cell B5.out (j := 0) (v := .int .i64 D) rfl
            have k1 := blk_cell B5.out (j := 1) (v := .int .i64 A) rfl
            have k2 := blk_cell B5.out (j := 2) (v := .int .i64 hv) rfl
            have k3 := blk_cell B5.out (j := 3) (v := .slice ax gn cx) rfl
            have fz1 := fun j => blk_free B5.out j
            have CS := Lib.hid (CSE.out (w21.setCell ⟨w1.heap.size, 2, none⟩ (.int .i64 (hv - 1))) (hv - 1) false (X1.out.st (p := ⟨w1.heap.size, 2, none⟩) (Nat.le_refl _) _) hs1 ha1)
            have HX9 := Lib.hid (X.out.st (p := ⟨w1.heap.size, 2, none⟩) hs01 (.int .i64 (hv - 1)))
            clear hs1 ha1
            go_wp2_with fail
            refine CS.out.mono ?_
            rintro e w22 ⟨rfl, hx22⟩
            have HX22 := Lib.hid (HX9.out.trans hx22)
            clear CS hx22
            go_wp2
            go_ret
            exact ⟨rfl, HX22.out⟩
      · clear HTH HDV
        cases ok
        · go_wp2
          go_ret
          exact ⟨rfl, X.out⟩
        · obtain ⟨hs1, ha1, hnx⟩ := HOK.out rfl
          have HNX := Lib.hid hnx
          have CSE : Hid (∀ W B' z, Ext w1 W → seesV D A B' n gs = z → askedB D A B' n gs = true → Calls Try.prog 22 #[.agg #[.int .i64 D, .int .i64 A, .int .i64 B', .slice ax gn cx], .int .i64 n] W fun e w' => e = .returned (.tuple #[.bool z, .bool true]) ∧ Ext W w') := fun W B' z hX h1 h2 => by
            have h9 := c_iSeesAt D A B' n _ _ _ gs W (HG1.out.ext hX (Nat.le_refl _)) hX.size
            rw [h1, h2] at h9
            exact h9
          have k0 := blk_cell B5.out (j := 0) (v := .int .i64 D) rfl
          have k1 := blk_cell B5.out (j := 1) (v := .int .i64 A) rfl
          have k2 := blk_cell B5.out (j := 2) (v := .int .i64 B) rfl
          have k3 := blk_cell B5.out (j := 3) (v := .slice ax gn cx) rfl
          have fz1 := fun j => blk_free B5.out j
          obtain ⟨w20, hw20⟩ : ∃ W, W = wc.setCell ⟨w1.heap.size, 2, none⟩ (.int .i64 hv) := ⟨_, rfl⟩
          have B20 : Hid (w20.heap[w1.heap.size]? = some (.cells #[.int .i64 D, .int .i64 A, .int .i64 hv, .slice ax gn cx] 28)) := by unfold Hid; rw [hw20]; exact blk_set (j := 2) B5.out (.int .i64 hv)
          have X20 : Hid (Ext w w20) := by unfold Hid; rw [hw20]; exact X.out.st (p := ⟨w1.heap.size, 2, none⟩) hs01 _
          have X21 : Hid (Ext w1 w20) := by unfold Hid; rw [hw20]; exact X1.out.st (p := ⟨w1.heap.size, 2, none⟩) (Nat.le_refl _) _
          have CS := Lib.hid (CSE.out w20 hv true X21.out hs1 ha1)
          have HW20 := Lib.hid hw20
          clear hs1 ha1 hnx hw20
          go_wp2_with fail
          rw [← HW20.out]
          refine CS.out.mono ?_
          rintro e w21 ⟨rfl, hx21⟩
          have B5 := Lib.hid (hx21.blk B20.out)
          have X := Lib.hid (X20.out.trans hx21)
          have X1 := Lib.hid (X21.out.trans hx21)
          clear HW20 B20 X20 X21 CS k0 k1 k2 k3 fz1 hx21
          by_cases hz0 : hv = 0
          · have hzb : (hv == 0) = true := by simp [hz0]
            clear hz0
            go_wp2
            go_ret
            exact ⟨rfl, X.out⟩
          · have hzb : (hv == 0) = false := by simp [hz0]
            obtain ⟨hs1, ha1⟩ := HNX.out (by omega)
            clear hz0
            have k0 := blk_cell B5.out (j := 0) (v := .int .i64 D) rfl
            have k1 := blk_cell B5.out (j := 1) (v := .int .i64 A) rfl
            have k2 := blk_cell B5.out (j := 2) (v := .int .i64 hv) rfl
            have k3 := blk_cell B5.out (j := 3) (v := .slice ax gn cx) rfl
            have fz1 := fun j => blk_free B5.out j
            have CS := Lib.hid (CSE.out (w21.setCell ⟨w1.heap.size, 2, none⟩ (.int .i64 (hv - 1))) (hv - 1) false (X1.out.st (p := ⟨w1.heap.size, 2, none⟩) (Nat.le_refl _) _) hs1 ha1)
            have HX9 := Lib.hid (X.out.st (p := ⟨w1.heap.size, 2, none⟩) hs01 (.int .i64 (hv - 1)))
            clear hs1 ha1
            go_wp2_with fail
            refine CS.out.mono ?_
            rintro e w22 ⟨rfl, hx22⟩
            have HX22 := Lib.hid (HX9.out.trans hx22)
            clear CS hx22
            go_wp2
            go_ret
            exact ⟨rfl, HX22.out⟩
set_option maxRecDepth 100000 in
theorem lifted_FnHeights (os : Os) (started : os.Started) (H : Type) (enc : TypeId × Value → H) :
    ReturnsInHanded {} Try.checked os 4 .any (Rows.fnHeightsSpec.pre6 enc Try.prog Try.f4 Rows.fnHeightsRow.domain false) (Rows.fnHeightsSpec.post enc Try.prog Try.f4 false true false false) := by
  refine returnsInHanded_of_change (C := Try.checked) own_Ytnoagmjajhlmjaa started (by kernel_rfl) Try.func4
    (ChangeSpec.witness6 (enc := enc) (C := Try.checked) false ⟨#[], #[.slice none 0 0, .slice none 0 0], []⟩ 8 (by kernel_rfl) (by kernel_rfl) (by kernel_rfl) (by kernel_rfl)) ?_
  intro W base args ds gs before hval0 hW hcnd _
  have hval : ∀ (j : Nat) t v, Try.f4.params[j]? = some t → args[j]? = some v → Value.okWide Try.prog W .any base t v := hval0
  have hW' := hW
  obtain ⟨p, q, hA0, hV, rfl, hfz, hnd⟩ := hW
  have hA : DataW.TrodAll enc Try.prog W 0 (fun _ => true) true Try.f4.params.toList args.toList ds p := hA0
  rw [Try.params4] at hA hval
  obtain ⟨v0, vs0, d0, ds0, p0, q0, hargs, rfl, rfl, h0, r0⟩ := trodAll_cons hA
  obtain ⟨v1, vs1, d1, ds1, p1, q1, rfl, rfl, rfl, h1, r1⟩ := trodAll_cons r0
  obtain ⟨rfl, rfl, rfl⟩ := trodAll_nil r1
  obtain rfl : args = #[v0, v1] := by cases args; simp_all
  obtain ⟨rfl, rfl⟩ := trodVars_none hV
  have k0 := h0
  have lt0 : ∀ x ∈ p0, x.block < W.heap.size := by obtain ⟨m, hm⟩ := k0; exact DataW.trod_lt m _ _ _ hm
  obtain ⟨x0, w0⟩ := arg_bytes (hval 0 35 v0 rfl rfl) h0
  have k1 := h1
  have lt1 : ∀ x ∈ p1, x.block < W.heap.size := by obtain ⟨m, hm⟩ := k1; exact DataW.trod_lt m _ _ _ hm
  obtain ⟨x1, w1⟩ := arg_bytes (hval 1 35 v1 rfl rfl) h1
  clear hA0 hval0
  refine (law_Heights v0 x0 v1 x1 W w0 w1).mono fun e W' ⟨he, bel⟩ => ?_
  subst he
  exact ⟨_, rfl, _, _, _, [], _, [], hW', trodAll_mk1 (shut_bool Try.underlying4 _), (trodAll_cons_mk (Below.trod laidOut_Ytnoagmjajhlmjaa (by kernel_rfl) (of_decide_eq_true (by kernel_rfl)) k0 bel lt0) (trodAll_cons_mk (Below.trod laidOut_Ytnoagmjajhlmjaa (by kernel_rfl) (of_decide_eq_true (by kernel_rfl)) k1 bel lt1) trodAll_mk0)), rfl, bel.frame _, fun h => by cases h⟩

theorem holds_FnHeights : Rows.FnHeightsSaid :=
  OpenClaim.holds_of_wide 4 Try.f4 rfl rfl rfl rfl rfl rfl rfl ⟨rfl, rfl, rfl, rfl, rfl⟩ rfl rfl rfl rfl rfl (by kernel_rfl) Try.func4 (by kernel_rfl)
    (of_decide_eq_true (by kernel_rfl)) (by unfold Func.isWrapper; first | (rw [if_pos (by decide +kernel)]; kernel_rfl) | (rw [if_neg (by decide +kernel)]; exact ⟨rfl, rfl⟩))
    (fun os started H enc _ => lifted_FnHeights os started H enc)
end Go.Proofs.Ytnoagmjajhlmjaa
