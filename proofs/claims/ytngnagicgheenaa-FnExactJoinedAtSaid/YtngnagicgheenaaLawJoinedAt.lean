
/- FnExactJoinedAt: for all arguments the call returns true. No condition. -/
import Derived.Test.YtngnagicgheenaaFogJ
import Derived.Test.YtngnagicgheenaaArgFogs
namespace Go.Proofs.Ytngnagicgheenaa
open Go.ChangeShapes Go.WideShapes Go.ChangeAt Go.RowKit
open Go.ChangeMaps (open_string shut_string)
set_option linter.unusedVariables false
set_option maxRecDepth 100000 in
set_option maxHeartbeats 4000000 in
theorem law_JoinedAt (v0 : Value) (x0 : NetT) (v1 : Value) (x1 : List FogT) (x2 : Int) (w : World) (h0 : ArgNet w v0 x0) (h1 : ArgFogs w v1 x1) :
    Calls Try.prog 10 #[v0, v1, .int .i64 x2] w fun e w' => e = .returned (.bool true) ∧ Ext w w' := by
  obtain ⟨hG0, _⟩ := h0
  obtain ⟨a0, cap0, a0e, cap0e, rfl, ⟨m0, m0b⟩, m0c, m0d⟩ := hG0.form
  have H0 := Lib.hid hG0
  clear hG0
  obtain ⟨hG1, _⟩ := h1
  obtain ⟨a1, cap1, rfl, m1, m1b⟩ := hG1.form
  have H1 := Lib.hid hG1
  clear hG1
  obtain ⟨RV, HRV⟩ := exists_ja x0 x1 x2
  obtain ⟨r0, hr50⟩ : ∃ r, r = (flOk x0 x1 x2 && decide (RV.length = x0.1.length)) := ⟨_, rfl⟩
  obtain ⟨r1, hr51⟩ : ∃ r, r = (flOk x0 x1 x2) := ⟨_, rfl⟩
  have CS : Hid (∀ W v0 lo0 hi0 v1 lo1 hi1, Nets W lo0 hi0 v0 x0 → hi0 ≤ W.heap.size → Fogs W lo1 hi1 v1 x1 → hi1 ≤ W.heap.size → Calls Try.prog 36 #[v0, v1, .int .i64 x2] W fun e w' => e = .returned (.tuple #[.bool r0, .bool r1]) ∧ Ext W w') :=
    fun W v0 lo0 hi0 v1 lo1 hi1 hr0 hh0 hr1 hh1 => by rw [hr50, hr51]; exact c_sJoinedAt v0 lo0 hi0 x0 v1 lo1 hi1 x1 x2 RV W hr0 hh0 hr1 hh1 HRV
  have CI : Hid (∀ W v0 lo0 hi0 v1 lo1 hi1, Nets W lo0 hi0 v0 x0 → hi0 ≤ W.heap.size → Fogs W lo1 hi1 v1 x1 → hi1 ≤ W.heap.size → Calls Try.prog 37 #[v0, v1, .int .i64 x2] W fun e w' => e = .returned (.tuple #[.bool r0, .bool r1]) ∧ Ext W w') :=
    fun W v0 lo0 hi0 v1 lo1 hi1 hr0 hh0 hr1 hh1 => by rw [hr50, hr51]; exact c_iJoinedAt v0 lo0 hi0 x0 v1 lo1 hi1 x1 x2 RV W hr0 hh0 hr1 hh1 HRV
  clear hr50 hr51
  obtain ⟨N0, hN0⟩ : ∃ N : Int, N = ((x0.1.length + x0.2.length : Nat) : Int) := ⟨_, rfl⟩
  have hN00 : 0 ≤ N0 := by omega
  by_cases hsz0 : N0 ≤ 1048576
  · have CZ0 : Hid (∀ W, Ext w W → Calls Try.prog 11 #[.agg #[.slice a0 x0.1.length cap0, .slice a0e x0.2.length cap0e], .int .i64 (1048576)] W fun e w' => e = .returned (.int .i64 (1048576 - N0)) ∧ Ext W w') := fun W hX => by
      have e := c_szNet _ _ _ x0 (1048576) W (H0.out.ext hX (Nat.le_refl _)) (by omega) (by omega)
      rw [← hN0, szL_pos hsz0] at e
      exact e
    have hz0 : x0.1.length + x0.2.length ≤ 1048576 := by omega
    have hsn0 : ¬ (1048576 - N0 < 0) := by omega
    have HN0 := Lib.hid hN0
    clear hN0
    obtain ⟨N1, hN1⟩ : ∃ N : Int, N = ((x1.length : Nat) : Int) := ⟨_, rfl⟩
    have hN10 : 0 ≤ N1 := by omega
    by_cases hsz1 : N1 ≤ 1048576 - N0
    · have CZ1 : Hid (∀ W, Ext w W → Calls Try.prog 12 #[.slice a1 x1.length cap1, .int .i64 (1048576 - N0)] W fun e w' => e = .returned (.int .i64 (1048576 - N0 - N1)) ∧ W = w') := fun W hX => by
        have e := c_szFogS a1 x1.length cap1 (1048576 - N0) W (by omega) (by omega) (by omega)
        rw [← hN1, szL_pos hsz1] at e
        exact e
      have hz1 : x1.length ≤ 1048576 := by omega
      have hsn1 : ¬ (1048576 - N0 - N1 < 0) := by omega
      have HN1 := Lib.hid hN1
      clear hN1
      have CT0 : Hid (∀ W, Ext w W → Calls Try.prog 14 #[.agg #[.slice a0 x0.1.length cap0, .slice a0e x0.2.length cap0e]] W fun e w' => ∃ v, e = .returned v ∧ OwnNet w' W.heap.size w'.heap.size v x0 ∧ Ext W w') :=
        fun W hX => c_toNet _ 0 w.heap.size x0 W (H0.out.ext hX (Nat.le_refl _)) hX.size hz0
      have CT1 : Hid (∀ W, Ext w W → Calls Try.prog 15 #[.slice a1 x1.length cap1] W fun e w' => ∃ v, e = .returned v ∧ OwnG encFog 3 65 w' W.heap.size w'.heap.size v x1 ∧ Ext W w') :=
        fun W hX => c_toFogs _ 0 w.heap.size x1 W (H1.out.ext hX (Nat.le_refl _)) hz1
      go_enter Try.func10, Try.ntmps10
      have X := Lib.hid (Ext.refl w)
      go_wp2_with fail
      obtain ⟨W1, hW⟩ : ∃ W, W = w.alloc (.cells #[.slice a0 x0.1.length cap0, .slice a0e x0.2.length cap0e] 25) := ⟨_, rfl⟩
      rw [← hW]
      have Y : Ext w W1 := by rw [hW]; exact Ext.alloc _ _
      have hB : W1.heap[w.heap.size]? = some (.cells #[.slice a0 x0.1.length cap0, .slice a0e x0.2.length cap0e] 25) := by rw [hW]; exact blk_alloc _ _
      clear hW
      have sbA0 := (Array.getElem?_eq_some_iff.1 hB).1
      have s1 := Y.size
      have T__ := Lib.hid (X.out.trans Y)
      clear X
      have X := T__
      clear T__
      have BA0 := Lib.hid hB
      clear hB Y
      refine (CZ0.out W1 X.out).mono ?_
      rintro e W2 ⟨rfl, Y⟩
      have s2 := Y.size
      have T__ := Lib.hid (X.out.trans Y)
      clear X
      have X := T__
      clear T__
      have T__ := Lib.hid (Y.blk BA0.out)
      clear BA0
      have BA0 := T__
      clear T__
      clear Y
      have kA00 := blk_cell BA0.out (j := 0) rfl
      have kA01 := blk_cell BA0.out (j := 1) rfl
      go_wp2_with fail
      refine (CZ1.out W2 X.out).mono ?_
      rintro e w' ⟨rfl, rfl⟩
      clear kA00 kA01
      have kA00 := blk_cell BA0.out (j := 0) rfl
      have kA01 := blk_cell BA0.out (j := 1) rfl
      go_wp2_with fail
      refine (CT0.out W2 X.out).mono ?_
      rintro e W3 ⟨p0, rfl, hp0, Y⟩
      have s3 := Y.size
      clear kA00 kA01
      have T__ := Lib.hid (X.out.trans Y)
      clear X
      have X := T__
      clear T__
      have T__ := Lib.hid (Y.blk BA0.out)
      clear BA0
      have BA0 := T__
      clear T__
      have Op0 := Lib.hid hp0
      obtain ⟨adp0, cdp0, adp0e, cdp0e, rfl, ⟨_, _⟩, _, _⟩ := (Op0.out.form)
      clear hp0 Y
      have kA00 := blk_cell BA0.out (j := 0) rfl
      have kA01 := blk_cell BA0.out (j := 1) rfl
      go_wp2_with fail
      refine (CT1.out W3 X.out).mono ?_
      rintro e W4 ⟨p1, rfl, hp1, Y⟩
      have s4 := Y.size
      clear kA00 kA01
      have T__ := Lib.hid (X.out.trans Y)
      clear X
      have X := T__
      clear T__
      have T__ := Lib.hid (Y.blk BA0.out)
      clear BA0
      have BA0 := T__
      clear T__
      have T__ := Lib.hid (Op0.out.ext Y)
      clear Op0
      have Op0 := T__
      clear T__
      have Op1 := Lib.hid hp1
      obtain ⟨adp1, cdp1, rfl, _, _⟩ := (Op1.out.read encFog_len |>.form)
      clear hp1 Y
      have kA00 := blk_cell BA0.out (j := 0) rfl
      have kA01 := blk_cell BA0.out (j := 1) rfl
      go_wp2_with fail
      refine (CS.out W4 _ _ _ _ _ _ (Op0.out.read) (by omega) (Op1.out.read encFog_len) (by omega)).mono ?_
      rintro e W5 ⟨rfl, Y⟩
      have s5 := Y.size
      clear kA00 kA01
      have T__ := Lib.hid (X.out.trans Y)
      clear X
      have X := T__
      clear T__
      have T__ := Lib.hid (Y.blk BA0.out)
      clear BA0
      have BA0 := T__
      clear T__
      have T__ := Lib.hid (Op0.out.ext Y)
      clear Op0
      have Op0 := T__
      clear T__
      have T__ := Lib.hid (Op1.out.ext Y)
      clear Op1
      have Op1 := T__
      clear T__
      clear Y
      clear Op0 Op1
      have kA00 := blk_cell BA0.out (j := 0) rfl
      have kA01 := blk_cell BA0.out (j := 1) rfl
      go_wp2_with fail
      refine (CT0.out W5 X.out).mono ?_
      rintro e W6 ⟨q0, rfl, hq0, Y⟩
      have s6 := Y.size
      clear kA00 kA01
      have T__ := Lib.hid (X.out.trans Y)
      clear X
      have X := T__
      clear T__
      have T__ := Lib.hid (Y.blk BA0.out)
      clear BA0
      have BA0 := T__
      clear T__
      have Oq0 := Lib.hid hq0
      obtain ⟨adq0, cdq0, adq0e, cdq0e, rfl, ⟨_, _⟩, _, _⟩ := (Oq0.out.form)
      clear hq0 Y
      have kA00 := blk_cell BA0.out (j := 0) rfl
      have kA01 := blk_cell BA0.out (j := 1) rfl
      go_wp2_with fail
      obtain ⟨W7, hW⟩ : ∃ W, W = W6.alloc (.cells #[.slice adq0 x0.1.length cdq0, .slice adq0e x0.2.length cdq0e] 34) := ⟨_, rfl⟩
      rw [← hW]
      have Y : Ext W6 W7 := by rw [hW]; exact Ext.alloc _ _
      have hB : W7.heap[W6.heap.size]? = some (.cells #[.slice adq0 x0.1.length cdq0, .slice adq0e x0.2.length cdq0e] 34) := by rw [hW]; exact blk_alloc _ _
      clear hW
      have sbQ0 := (Array.getElem?_eq_some_iff.1 hB).1
      have s7 := Y.size
      clear kA00 kA01
      have T__ := Lib.hid (X.out.trans Y)
      clear X
      have X := T__
      clear T__
      have T__ := Lib.hid (Y.blk BA0.out)
      clear BA0
      have BA0 := T__
      clear T__
      have T__ := Lib.hid (Oq0.out.ext Y)
      clear Oq0
      have Oq0 := T__
      clear T__
      have BQ0 := Lib.hid hB
      clear hB Y
      refine (CT1.out W7 X.out).mono ?_
      rintro e W8 ⟨q1, rfl, hq1, Y⟩
      have s8 := Y.size
      have T__ := Lib.hid (X.out.trans Y)
      clear X
      have X := T__
      clear T__
      have T__ := Lib.hid (Y.blk BA0.out)
      clear BA0
      have BA0 := T__
      clear T__
      have T__ := Lib.hid (Oq0.out.ext Y)
      clear Oq0
      have Oq0 := T__
      clear T__
      have T__ := Lib.hid (Y.blk BQ0.out)
      clear BQ0
      have BQ0 := T__
      clear T__
      have Oq1 := Lib.hid hq1
      obtain ⟨adq1, cdq1, rfl, _, _⟩ := (Oq1.out.read encFog_len |>.form)
      clear hq1 Y
      have kA00 := blk_cell BA0.out (j := 0) rfl
      have kA01 := blk_cell BA0.out (j := 1) rfl
      have kQ00 := blk_cell BQ0.out (j := 0) rfl
      have kQ01 := blk_cell BQ0.out (j := 1) rfl
      go_wp2_with fail
      refine (CI.out W8 _ _ _ _ _ _ (Oq0.out.read) (by omega) (Oq1.out.read encFog_len) (by omega)).mono ?_
      rintro e W9 ⟨rfl, Y⟩
      have s9 := Y.size
      clear kA00 kA01 kQ00 kQ01
      have T__ := Lib.hid (X.out.trans Y)
      clear X
      have X := T__
      clear T__
      have T__ := Lib.hid (Y.blk BA0.out)
      clear BA0
      have BA0 := T__
      clear T__
      have T__ := Lib.hid (Oq0.out.ext Y)
      clear Oq0
      have Oq0 := T__
      clear T__
      have T__ := Lib.hid (Y.blk BQ0.out)
      clear BQ0
      have BQ0 := T__
      clear T__
      have T__ := Lib.hid (Oq1.out.ext Y)
      clear Oq1
      have Oq1 := T__
      clear T__
      clear Y
      have kA00 := blk_cell BA0.out (j := 0) rfl
      have kA01 := blk_cell BA0.out (j := 1) rfl
      have kQ00 := blk_cell BQ0.out (j := 0) rfl
      have kQ01 := blk_cell BQ0.out (j := 1) rfl
      go_wp2_with fail
      have TS : Hid (∀ W, Ext W9 W → Calls Try.prog 14 #[.agg #[.slice a0 x0.1.length cap0, .slice a0e x0.2.length cap0e]] W fun e w' => ∃ a3 c3 a3e c3e, e = .returned (.agg #[.slice a3 x0.1.length c3, .slice a3e x0.2.length c3e]) ∧ Nets w' W.heap.size w'.heap.size (.agg #[.slice a3 x0.1.length c3, .slice a3e x0.2.length c3e]) x0 ∧ Ext W9 w') := fun W hX =>
        (CT0.out W (X.out.trans hX)).mono fun e w' ⟨v, he, ho, hx⟩ => by
          obtain ⟨a3, c3, a3e, c3e, rfl, _⟩ := ho.form
          exact ⟨a3, c3, a3e, c3e, he, ho.read, hX.trans hx⟩
      have ES : Hid (∀ W a3 c3 a3e c3e lo, Ext W9 W → Nets W lo W.heap.size (.agg #[.slice a3 x0.1.length c3, .slice a3e x0.2.length c3e]) x0 → Calls Try.prog 17 #[.agg #[.slice adq0 x0.1.length cdq0, .slice adq0e x0.2.length cdq0e], .agg #[.slice a3 x0.1.length c3, .slice a3e x0.2.length c3e]] W fun e w' => e = .returned (.bool true) ∧ Ext W9 w') := fun W a3 c3 a3e c3e lo hX hg =>
        (c_eqNet _ _ _ _ _ _ x0 x0 W (Oq0.out.ext hX).read hg (by have := hX.size; omega) (Nat.le_refl _)).mono fun e w' ⟨he, hx⟩ => ⟨by rw [he, decide_eq_true rfl], hX.trans hx⟩
      go_region_held3 (fun w' => Ext W9 w' ∧ w'.cell? ⟨w.heap.size, 0, none⟩ = some (.slice a0 x0.1.length cap0) ∧ w'.cell? ⟨w.heap.size, 1, none⟩ = some (.slice a0e x0.2.length cap0e) ∧ w'.cell? ⟨W6.heap.size, 0, none⟩ = some (.slice adq0 x0.1.length cdq0) ∧ w'.cell? ⟨W6.heap.size, 1, none⟩ = some (.slice adq0e x0.2.length cdq0e))
        (first | exact ⟨Ext.drew _, kA00, kA01, kQ00, kQ01⟩ | exact ⟨hxs, hxs.cell kA00, hxs.cell kA01, hxs.cell kQ00, hxs.cell kQ01⟩)
        (first | (go_at_call 14; refine (TS.out _ (Ext.drew _)).mono ?_; rintro e w3 ⟨a3, c3, a3e, c3e, rfl, hg3, hxs⟩) | (go_at_call 17; refine (ES.out _ _ _ _ _ _ hxs hg3).mono ?_; rintro e w3 ⟨rfl, hxs⟩))
      obtain ⟨W10, hW⟩ : ∃ W, W = w3 := ⟨_, rfl⟩
      subst hW
      have Y : Ext W9 W10 := hxs
      have s10 := Y.size
      clear kA00 kA01 kQ00 kQ01
      have T__ := Lib.hid (X.out.trans Y)
      clear X
      have X := T__
      clear T__
      have T__ := Lib.hid (Y.blk BA0.out)
      clear BA0
      have BA0 := T__
      clear T__
      have T__ := Lib.hid (Oq0.out.ext Y)
      clear Oq0
      have Oq0 := T__
      clear T__
      have T__ := Lib.hid (Y.blk BQ0.out)
      clear BQ0
      have BQ0 := T__
      clear T__
      have T__ := Lib.hid (Oq1.out.ext Y)
      clear Oq1
      have Oq1 := T__
      clear T__
      clear Y hxs TS ES
      have kA00 := blk_cell BA0.out (j := 0) rfl
      have kA01 := blk_cell BA0.out (j := 1) rfl
      have kQ00 := blk_cell BQ0.out (j := 0) rfl
      have kQ01 := blk_cell BQ0.out (j := 1) rfl
      go_wp2_with fail
      refine (CT1.out W10 X.out).mono ?_
      rintro e W11 ⟨u1, rfl, hu1, Y⟩
      have s11 := Y.size
      clear kA00 kA01 kQ00 kQ01
      have T__ := Lib.hid (X.out.trans Y)
      clear X
      have X := T__
      clear T__
      have T__ := Lib.hid (Y.blk BA0.out)
      clear BA0
      have BA0 := T__
      clear T__
      have T__ := Lib.hid (Oq0.out.ext Y)
      clear Oq0
      have Oq0 := T__
      clear T__
      have T__ := Lib.hid (Y.blk BQ0.out)
      clear BQ0
      have BQ0 := T__
      clear T__
      have T__ := Lib.hid (Oq1.out.ext Y)
      clear Oq1
      have Oq1 := T__
      clear T__
      have Ou1 := Lib.hid hu1
      obtain ⟨adu1, cdu1, rfl, _, _⟩ := (Ou1.out.read encFog_len |>.form)
      clear hu1 Y
      have kA00 := blk_cell BA0.out (j := 0) rfl
      have kA01 := blk_cell BA0.out (j := 1) rfl
      have kQ00 := blk_cell BQ0.out (j := 0) rfl
      have kQ01 := blk_cell BQ0.out (j := 1) rfl
      go_wp2_with fail
      refine (c_eqFogS _ _ _ _ _ _ x1 x1 W11 (Oq1.out.read encFog_len) (Ou1.out.read encFog_len)).mono ?_
      rw [decide_eq_true rfl]
      rintro e W12 ⟨rfl, Y⟩
      have s12 := Y.size
      clear kA00 kA01 kQ00 kQ01
      have T__ := Lib.hid (X.out.trans Y)
      clear X
      have X := T__
      clear T__
      have T__ := Lib.hid (Y.blk BA0.out)
      clear BA0
      have BA0 := T__
      clear T__
      have T__ := Lib.hid (Oq0.out.ext Y)
      clear Oq0
      have Oq0 := T__
      clear T__
      have T__ := Lib.hid (Y.blk BQ0.out)
      clear BQ0
      have BQ0 := T__
      clear T__
      have T__ := Lib.hid (Oq1.out.ext Y)
      clear Oq1
      have Oq1 := T__
      clear T__
      have T__ := Lib.hid (Ou1.out.ext Y)
      clear Ou1
      have Ou1 := T__
      clear T__
      clear Y
      clear Ou1
      go_wp2
      go_ret
      exact ⟨rfl, X.out⟩
    · have CZ1 : Hid (∀ W, Ext w W → Calls Try.prog 12 #[.slice a1 x1.length cap1, .int .i64 (1048576 - N0)] W fun e w' => e = .returned (.int .i64 (-1)) ∧ W = w') := fun W hX => by
        have e := c_szFogS a1 x1.length cap1 (1048576 - N0) W (by omega) (by omega) (by omega)
        rw [← hN1, szL_neg (by omega)] at e
        exact e
      have HN1 := Lib.hid hN1
      clear hN1
      go_enter Try.func10, Try.ntmps10
      have X := Lib.hid (Ext.refl w)
      have s0 := Nat.le_refl w.heap.size
      go_wp2_with fail
      obtain ⟨W1, hW⟩ : ∃ W, W = w.alloc (.cells #[.slice a0 x0.1.length cap0, .slice a0e x0.2.length cap0e] 25) := ⟨_, rfl⟩
      rw [← hW]
      have Y : Ext w W1 := by rw [hW]; exact Ext.alloc _ _
      have hB : W1.heap[w.heap.size]? = some (.cells #[.slice a0 x0.1.length cap0, .slice a0e x0.2.length cap0e] 25) := by rw [hW]; exact blk_alloc _ _
      clear hW
      have sbA0 := (Array.getElem?_eq_some_iff.1 hB).1
      have s1 := Y.size
      have T__ := Lib.hid (X.out.trans Y)
      clear X
      have X := T__
      clear T__
      have BA0 := Lib.hid hB
      clear hB Y
      refine (CZ0.out W1 X.out).mono ?_
      rintro e W2 ⟨rfl, Y⟩
      have s2 := Y.size
      have T__ := Lib.hid (X.out.trans Y)
      clear X
      have X := T__
      clear T__
      have T__ := Lib.hid (Y.blk BA0.out)
      clear BA0
      have BA0 := T__
      clear T__
      clear Y
      have kA00 := blk_cell BA0.out (j := 0) rfl
      have kA01 := blk_cell BA0.out (j := 1) rfl
      go_wp2_with fail
      refine (CZ1.out W2 X.out).mono ?_
      rintro e w' ⟨rfl, rfl⟩
      clear kA00 kA01
      go_wp2
      go_ret
      exact ⟨rfl, X.out⟩
  · have CZ0 : Hid (∀ W, Ext w W → Calls Try.prog 11 #[.agg #[.slice a0 x0.1.length cap0, .slice a0e x0.2.length cap0e], .int .i64 (1048576)] W fun e w' => e = .returned (.int .i64 (-1)) ∧ Ext W w') := fun W hX => by
      have e := c_szNet _ _ _ x0 (1048576) W (H0.out.ext hX (Nat.le_refl _)) (by omega) (by omega)
      rw [← hN0, szL_neg (by omega)] at e
      exact e
    have HN0 := Lib.hid hN0
    clear hN0
    go_enter Try.func10, Try.ntmps10
    have X := Lib.hid (Ext.refl w)
    have s0 := Nat.le_refl w.heap.size
    go_wp2_with fail
    obtain ⟨W1, hW⟩ : ∃ W, W = w.alloc (.cells #[.slice a0 x0.1.length cap0, .slice a0e x0.2.length cap0e] 25) := ⟨_, rfl⟩
    rw [← hW]
    have Y : Ext w W1 := by rw [hW]; exact Ext.alloc _ _
    have hB : W1.heap[w.heap.size]? = some (.cells #[.slice a0 x0.1.length cap0, .slice a0e x0.2.length cap0e] 25) := by rw [hW]; exact blk_alloc _ _
    clear hW
    have sbA0 := (Array.getElem?_eq_some_iff.1 hB).1
    have s1 := Y.size
    have T__ := Lib.hid (X.out.trans Y)
    clear X
    have X := T__
    clear T__
    have BA0 := Lib.hid hB
    clear hB Y
    refine (CZ0.out W1 X.out).mono ?_
    rintro e W2 ⟨rfl, Y⟩
    have s2 := Y.size
    have T__ := Lib.hid (X.out.trans Y)
    clear X
    have X := T__
    clear T__
    have T__ := Lib.hid (Y.blk BA0.out)
    clear BA0
    have BA0 := T__
    clear T__
    clear Y
    go_wp2
    go_ret
    exact ⟨rfl, X.out⟩
set_option maxRecDepth 100000 in
theorem lifted_FnExactJoinedAt (os : Os) (started : os.Started) (H : Type) (enc : TypeId × Value → H) :
    ReturnsInHanded {} Try.checked os 10 .any (Rows.fnExactJoinedAtSpec.pre6 enc Try.prog Try.f10 Rows.fnExactJoinedAtRow.domain false) (Rows.fnExactJoinedAtSpec.post enc Try.prog Try.f10 false true false false) := by
  refine returnsInHanded_of_change (C := Try.checked) own_Ytngnagicgheenaa started (by kernel_rfl) Try.func10
    (ChangeSpec.witness6 (enc := enc) (C := Try.checked) false ⟨#[], #[.agg #[.slice none 0 0, .slice none 0 0], .slice none 0 0, .int .i64 0], []⟩ 8 (by kernel_rfl) (by kernel_rfl) (by kernel_rfl) (by kernel_rfl)) ?_
  intro W base args ds gs before hval0 hW hcnd _
  have hval : ∀ (j : Nat) t v, Try.f10.params[j]? = some t → args[j]? = some v → Value.okWide Try.prog W .any base t v := hval0
  have hW' := hW
  obtain ⟨p, q, hA0, hV, rfl, hfz, hnd⟩ := hW
  have hA : DataW.TrodAll enc Try.prog W 0 (fun _ => true) true Try.f10.params.toList args.toList ds p := hA0
  rw [Try.params10] at hA hval
  obtain ⟨v0, vs0, d0, ds0, p0, q0, hargs, rfl, rfl, h0, r0⟩ := trodAll_cons hA
  obtain ⟨v1, vs1, d1, ds1, p1, q1, rfl, rfl, rfl, h1, r1⟩ := trodAll_cons r0
  obtain ⟨v2, vs2, d2, ds2, p2, q2, rfl, rfl, rfl, h2, r2⟩ := trodAll_cons r1
  obtain ⟨rfl, rfl, rfl⟩ := trodAll_nil r2
  obtain rfl : args = #[v0, v1, v2] := by cases args; simp_all
  obtain ⟨rfl, rfl⟩ := trodVars_none hV
  have k0 := h0
  have lt0 : ∀ x ∈ p0, x.block < W.heap.size := by obtain ⟨m, hm⟩ := k0; exact DataW.trod_lt m _ _ _ hm
  obtain ⟨x0, w0⟩ := arg_net (hval 0 25 v0 rfl rfl) h0
  have k1 := h1
  have lt1 : ∀ x ∈ p1, x.block < W.heap.size := by obtain ⟨m, hm⟩ := k1; exact DataW.trod_lt m _ _ _ hm
  obtain ⟨x1, w1⟩ := arg_fogs (hval 1 26 v1 rfl rfl) h1
  obtain ⟨a2, rfl, rfl, rfl, w2⟩ := open_int Try.underlying3 (hval 2 3 v2 rfl rfl) h2
  clear hA0 hval0
  refine (law_JoinedAt v0 x0 v1 x1 a2 W w0 w1).mono fun e W' ⟨he, bel⟩ => ?_
  subst he
  exact ⟨_, rfl, _, _, _, [], _, [], hW', trodAll_mk1 (shut_bool Try.underlying4 _), (trodAll_cons_mk (Below.trod laidOut_Ytngnagicgheenaa (by kernel_rfl) (of_decide_eq_true (by kernel_rfl)) k0 bel lt0) (trodAll_cons_mk (Below.trod laidOut_Ytngnagicgheenaa (by kernel_rfl) (of_decide_eq_true (by kernel_rfl)) k1 bel lt1) (trodAll_cons_mk (shut_int Try.underlying3 w2) trodAll_mk0))), rfl, bel.frame _, fun h => by cases h⟩

theorem holds_FnExactJoinedAt : Rows.FnExactJoinedAtSaid :=
  OpenClaim.holds_of_wide 10 Try.f10 rfl rfl rfl rfl rfl rfl rfl ⟨rfl, rfl, rfl, rfl, rfl⟩ rfl rfl rfl rfl rfl (by kernel_rfl) Try.func10 (by kernel_rfl)
    (of_decide_eq_true (by kernel_rfl)) (by unfold Func.isWrapper; first | (rw [if_pos (by decide +kernel)]; kernel_rfl) | (rw [if_neg (by decide +kernel)]; exact ⟨rfl, rfl⟩))
    (fun os started H enc _ => lifted_FnExactJoinedAt os started H enc)
end Go.Proofs.Ytngnagicgheenaa
