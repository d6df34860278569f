
/- FnExactDropTower: for all arguments the call returns true. No condition. -/
import Derived.Test.YtiipjlcmekakaaaDrop2
import Derived.Test.YtiipjlcmekakaaaArgNet
import Derived.Test.YtiipjlcmekakaaaNetM
namespace Go.Proofs.Ytiipjlcmekakaaa
open Go.ChangeShapes Go.WideShapes Go.ChangeAt Go.RowKit
open Go.ChangeMaps (open_string shut_string)
set_option linter.unusedVariables false
set_option maxRecDepth 100000 in
set_option maxHeartbeats 4000000 in
theorem law_DropTower (v0 : Value) (x0 : NetT) (x1 : Int) (w : World) (h0 : ArgNet w v0 x0) :
    Calls Try.prog 4 #[v0, .int .i64 x1] w fun e w' => e = .returned (.bool true) ∧ Ext w w' := by
  obtain ⟨hG0, _⟩ := h0
  obtain ⟨a0, cap0, a0e, cap0e, rfl, ⟨m0, m0b⟩, m0c, m0d⟩ := hG0.form
  have H0 := Lib.hid hG0
  clear hG0
  obtain ⟨ys, hys⟩ : ∃ ys, ys = dtV x0 x1 := ⟨_, rfl⟩
  obtain ⟨ok, hok⟩ : ∃ ok, ok = dtOk x0 x1 := ⟨_, rfl⟩
  have hyl0 : Hid (x0.1.length + x0.2.length ≤ 1048576 → ys.1.length + ys.2.length ≤ 1048576) := fun hz0 => by rw [hys]; exact dtV_bound x0 x1
  have CS : Hid (∀ W v0 lo0 hi0, Nets W lo0 hi0 v0 x0 → hi0 ≤ W.heap.size → Calls Try.prog 17 #[v0, .int .i64 x1] W fun e w' => ∃ r, e = .returned (.tuple #[r, .bool ok]) ∧ OwnNet w' W.heap.size w'.heap.size r ys ∧ Ext W w') :=
    fun W v0 lo0 hi0 hr0 hh0 => by rw [hys, hok]; exact c_sDropTower v0 lo0 hi0 x0 x1 W hr0 hh0
  have CI : Hid (∀ W v0 lo0 hi0, Nets W lo0 hi0 v0 x0 → hi0 ≤ W.heap.size → Calls Try.prog 16 #[v0, .int .i64 x1] W fun e w' => ∃ r, e = .returned (.tuple #[r, .bool ok]) ∧ OwnNet w' W.heap.size w'.heap.size r ys ∧ Ext W w') :=
    fun W v0 lo0 hi0 hr0 hh0 => by rw [hys, hok]; exact c_iDropTower v0 lo0 hi0 x0 x1 W hr0 hh0
  clear hys hok
  obtain ⟨N0, hN0⟩ : ∃ N : Int, N = ((x0.1.length + x0.2.length : Nat) : Int) := ⟨_, rfl⟩
  have hN00 : 0 ≤ N0 := by omega
  by_cases hsz0 : N0 ≤ 1048576
  · have CZ0 : Hid (∀ W, Ext w W → Calls Try.prog 27 #[.agg #[.slice a0 x0.1.length cap0, .slice a0e x0.2.length cap0e], .int .i64 (1048576)] W fun e w' => e = .returned (.int .i64 (1048576 - N0)) ∧ Ext W w') := fun W hX => by
      have e := c_szNet _ _ _ x0 (1048576) W (H0.out.ext hX (Nat.le_refl _)) (by omega) (by omega)
      rw [← hN0, szL_pos hsz0] at e
      exact e
    have hz0 : x0.1.length + x0.2.length ≤ 1048576 := by omega
    have hsn0 : ¬ (1048576 - N0 < 0) := by omega
    have HN0 := Lib.hid hN0
    clear hN0
    have CT0 : Hid (∀ W, Ext w W → Calls Try.prog 28 #[.agg #[.slice a0 x0.1.length cap0, .slice a0e x0.2.length cap0e]] W fun e w' => ∃ v, e = .returned v ∧ OwnNet w' W.heap.size w'.heap.size v x0 ∧ Ext W w') :=
      fun W hX => c_toNet _ 0 w.heap.size x0 W (H0.out.ext hX (Nat.le_refl _)) hX.size hz0
    have hyl := hyl0.out hz0
    have hyI : (0 : Int) ≤ (ys.1.length : Int) := by omega
    have hyJ : (0 : Int) ≤ (ys.2.length : Int) := by omega
    have hyI2 : (ys.1.length : Int) + (ys.2.length : Int) ≤ 1048576 := by omega
    clear hyl0
    cases ok
    all_goals
      go_enter Try.func4, Try.ntmps4
      have X := Lib.hid (Ext.refl w)
      go_wp2_with fail
      obtain ⟨W1, hW⟩ : ∃ W, W = w.alloc (.cells #[.slice a0 x0.1.length cap0, .slice a0e x0.2.length cap0e] 52) := ⟨_, rfl⟩
      rw [← hW]
      have Y : Ext w W1 := by rw [hW]; exact Ext.alloc _ _
      have hB : W1.heap[w.heap.size]? = some (.cells #[.slice a0 x0.1.length cap0, .slice a0e x0.2.length cap0e] 52) := by rw [hW]; exact blk_alloc _ _
      clear hW
      have sbA0 := (Array.getElem?_eq_some_iff.1 hB).1
      have s1 := Y.size
      have T__ := Lib.hid (X.out.trans Y)
      clear X
      have X := T__
      clear T__
      have BA0 := Lib.hid hB
      clear hB Y
      refine (CZ0.out W1 X.out).mono ?_
      rintro e W2 ⟨rfl, Y⟩
      have s2 := Y.size
      have T__ := Lib.hid (X.out.trans Y)
      clear X
      have X := T__
      clear T__
      have T__ := Lib.hid (Y.blk BA0.out)
      clear BA0
      have BA0 := T__
      clear T__
      clear Y
      have kA00 := blk_cell BA0.out (j := 0) rfl
      have kA01 := blk_cell BA0.out (j := 1) rfl
      go_wp2_with fail
      refine (CT0.out W2 X.out).mono ?_
      rintro e W3 ⟨p0, rfl, hp0, Y⟩
      have s3 := Y.size
      clear kA00 kA01
      have T__ := Lib.hid (X.out.trans Y)
      clear X
      have X := T__
      clear T__
      have T__ := Lib.hid (Y.blk BA0.out)
      clear BA0
      have BA0 := T__
      clear T__
      have Op0 := Lib.hid hp0
      obtain ⟨adp0, cdp0, adp0e, cdp0e, rfl, ⟨_, _⟩, _, _⟩ := (Op0.out.form)
      clear hp0 Y
      have kA00 := blk_cell BA0.out (j := 0) rfl
      have kA01 := blk_cell BA0.out (j := 1) rfl
      go_wp2_with fail
      refine (CS.out W3 _ _ _ (Op0.out.read) (by omega)).mono ?_
      rintro e W4 ⟨s, rfl, hs, Y⟩
      have s4 := Y.size
      clear kA00 kA01
      have T__ := Lib.hid (X.out.trans Y)
      clear X
      have X := T__
      clear T__
      have T__ := Lib.hid (Y.blk BA0.out)
      clear BA0
      have BA0 := T__
      clear T__
      have T__ := Lib.hid (Op0.out.ext Y)
      clear Op0
      have Op0 := T__
      clear T__
      have Os := Lib.hid hs
      obtain ⟨ads, cds, adse, cdse, rfl, ⟨_, _⟩, _, _⟩ := (Os.out.form)
      clear hs Y
      clear Op0
      have kA00 := blk_cell BA0.out (j := 0) rfl
      have kA01 := blk_cell BA0.out (j := 1) rfl
      have kA00n := (Ext.alloc (W4) (.cells #[.slice ads ys.1.length cds, .slice adse ys.2.length cdse] 27)).cell kA00
      have kA01n := (Ext.alloc (W4) (.cells #[.slice ads ys.1.length cds, .slice adse ys.2.length cdse] 27)).cell kA01
      go_wp2_with fail
      obtain ⟨W5, hW⟩ : ∃ W, W = W4.alloc (.cells #[.slice ads ys.1.length cds, .slice adse ys.2.length cdse] 27) := ⟨_, rfl⟩
      rw [← hW]
      have Y : Ext W4 W5 := by rw [hW]; exact Ext.alloc _ _
      have hB : W5.heap[W4.heap.size]? = some (.cells #[.slice ads ys.1.length cds, .slice adse ys.2.length cdse] 27) := by rw [hW]; exact blk_alloc _ _
      clear hW
      have sbS9 := (Array.getElem?_eq_some_iff.1 hB).1
      have s5 := Y.size
      clear kA00 kA01 kA00n kA01n
      have T__ := Lib.hid (X.out.trans Y)
      clear X
      have X := T__
      clear T__
      have T__ := Lib.hid (Y.blk BA0.out)
      clear BA0
      have BA0 := T__
      clear T__
      have T__ := Lib.hid (Os.out.ext Y)
      clear Os
      have Os := T__
      clear T__
      have BS9 := Lib.hid hB
      clear hB Y
      refine (CT0.out W5 X.out).mono ?_
      rintro e W6 ⟨q0, rfl, hq0, Y⟩
      have s6 := Y.size
      have T__ := Lib.hid (X.out.trans Y)
      clear X
      have X := T__
      clear T__
      have T__ := Lib.hid (Y.blk BA0.out)
      clear BA0
      have BA0 := T__
      clear T__
      have T__ := Lib.hid (Os.out.ext Y)
      clear Os
      have Os := T__
      clear T__
      have T__ := Lib.hid (Y.blk BS9.out)
      clear BS9
      have BS9 := T__
      clear T__
      have Oq0 := Lib.hid hq0
      obtain ⟨adq0, cdq0, adq0e, cdq0e, rfl, ⟨_, _⟩, _, _⟩ := (Oq0.out.form)
      clear hq0 Y
      have kA00 := blk_cell BA0.out (j := 0) rfl
      have kA01 := blk_cell BA0.out (j := 1) rfl
      have kS90 := blk_cell BS9.out (j := 0) rfl
      have kS91 := blk_cell BS9.out (j := 1) rfl
      have kA00n := (Ext.alloc (W6) (.cells #[.slice adq0 x0.1.length cdq0, .slice adq0e x0.2.length cdq0e] 27)).cell kA00
      have kA01n := (Ext.alloc (W6) (.cells #[.slice adq0 x0.1.length cdq0, .slice adq0e x0.2.length cdq0e] 27)).cell kA01
      have kS90n := (Ext.alloc (W6) (.cells #[.slice adq0 x0.1.length cdq0, .slice adq0e x0.2.length cdq0e] 27)).cell kS90
      have kS91n := (Ext.alloc (W6) (.cells #[.slice adq0 x0.1.length cdq0, .slice adq0e x0.2.length cdq0e] 27)).cell kS91
      go_wp2_with fail
      obtain ⟨W7, hW⟩ : ∃ W, W = W6.alloc (.cells #[.slice adq0 x0.1.length cdq0, .slice adq0e x0.2.length cdq0e] 27) := ⟨_, rfl⟩
      rw [← hW]
      have Y : Ext W6 W7 := by rw [hW]; exact Ext.alloc _ _
      have hB : W7.heap[W6.heap.size]? = some (.cells #[.slice adq0 x0.1.length cdq0, .slice adq0e x0.2.length cdq0e] 27) := by rw [hW]; exact blk_alloc _ _
      clear hW
      have sbQ0 := (Array.getElem?_eq_some_iff.1 hB).1
      have s7 := Y.size
      clear kA00 kA01 kS90 kS91 kA00n kA01n kS90n kS91n
      have T__ := Lib.hid (X.out.trans Y)
      clear X
      have X := T__
      clear T__
      have T__ := Lib.hid (Y.blk BA0.out)
      clear BA0
      have BA0 := T__
      clear T__
      have T__ := Lib.hid (Os.out.ext Y)
      clear Os
      have Os := T__
      clear T__
      have T__ := Lib.hid (Y.blk BS9.out)
      clear BS9
      have BS9 := T__
      clear T__
      have T__ := Lib.hid (Oq0.out.ext Y)
      clear Oq0
      have Oq0 := T__
      clear T__
      have BQ0 := Lib.hid hB
      clear hB Y
      refine (CI.out W7 _ _ _ (Oq0.out.read) (by omega)).mono ?_
      rintro e W8 ⟨g, rfl, hg, Y⟩
      have s8 := Y.size
      have T__ := Lib.hid (X.out.trans Y)
      clear X
      have X := T__
      clear T__
      have T__ := Lib.hid (Y.blk BA0.out)
      clear BA0
      have BA0 := T__
      clear T__
      have T__ := Lib.hid (Os.out.ext Y)
      clear Os
      have Os := T__
      clear T__
      have T__ := Lib.hid (Y.blk BS9.out)
      clear BS9
      have BS9 := T__
      clear T__
      have T__ := Lib.hid (Oq0.out.ext Y)
      clear Oq0
      have Oq0 := T__
      clear T__
      have T__ := Lib.hid (Y.blk BQ0.out)
      clear BQ0
      have BQ0 := T__
      clear T__
      have Og := Lib.hid hg
      obtain ⟨adg, cdg, adge, cdge, rfl, ⟨_, _⟩, _, _⟩ := (Og.out.form)
      clear hg Y
      have kA00 := blk_cell BA0.out (j := 0) rfl
      have kA01 := blk_cell BA0.out (j := 1) rfl
      have kS90 := blk_cell BS9.out (j := 0) rfl
      have kS91 := blk_cell BS9.out (j := 1) rfl
      have kQ00 := blk_cell BQ0.out (j := 0) rfl
      have kQ01 := blk_cell BQ0.out (j := 1) rfl
      have kA00n := (Ext.alloc (W8) (.cells #[.slice adg ys.1.length cdg, .slice adge ys.2.length cdge] 27)).cell kA00
      have kA01n := (Ext.alloc (W8) (.cells #[.slice adg ys.1.length cdg, .slice adge ys.2.length cdge] 27)).cell kA01
      have kS90n := (Ext.alloc (W8) (.cells #[.slice adg ys.1.length cdg, .slice adge ys.2.length cdge] 27)).cell kS90
      have kS91n := (Ext.alloc (W8) (.cells #[.slice adg ys.1.length cdg, .slice adge ys.2.length cdge] 27)).cell kS91
      have kQ00n := (Ext.alloc (W8) (.cells #[.slice adg ys.1.length cdg, .slice adge ys.2.length cdge] 27)).cell kQ00
      have kQ01n := (Ext.alloc (W8) (.cells #[.slice adg ys.1.length cdg, .slice adge ys.2.length cdge] 27)).cell kQ01
      go_wp2_with fail
      obtain ⟨W9, hW⟩ : ∃ W, W = W8.alloc (.cells #[.slice adg ys.1.length cdg, .slice adge ys.2.length cdge] 27) := ⟨_, rfl⟩
      rw [← hW]
      have Y : Ext W8 W9 := by rw [hW]; exact Ext.alloc _ _
      have hB : W9.heap[W8.heap.size]? = some (.cells #[.slice adg ys.1.length cdg, .slice adge ys.2.length cdge] 27) := by rw [hW]; exact blk_alloc _ _
      clear hW
      have sbG9 := (Array.getElem?_eq_some_iff.1 hB).1
      have s9 := Y.size
      clear kA00 kA01 kS90 kS91 kQ00 kQ01 kA00n kA01n kS90n kS91n kQ00n kQ01n
      have T__ := Lib.hid (X.out.trans Y)
      clear X
      have X := T__
      clear T__
      have T__ := Lib.hid (Y.blk BA0.out)
      clear BA0
      have BA0 := T__
      clear T__
      have T__ := Lib.hid (Os.out.ext Y)
      clear Os
      have Os := T__
      clear T__
      have T__ := Lib.hid (Y.blk BS9.out)
      clear BS9
      have BS9 := T__
      clear T__
      have T__ := Lib.hid (Oq0.out.ext Y)
      clear Oq0
      have Oq0 := T__
      clear T__
      have T__ := Lib.hid (Y.blk BQ0.out)
      clear BQ0
      have BQ0 := T__
      clear T__
      have T__ := Lib.hid (Og.out.ext Y)
      clear Og
      have Og := T__
      clear T__
      have BG9 := Lib.hid hB
      clear hB Y
      refine (c_eqNet _ _ _ _ _ _ ys ys W9 Og.out.read Os.out.read (by omega) (by omega)).mono ?_
      rw [decide_eq_true rfl]
      rintro e W10 ⟨rfl, Y⟩
      have s10 := Y.size
      have T__ := Lib.hid (X.out.trans Y)
      clear X
      have X := T__
      clear T__
      have T__ := Lib.hid (Y.blk BA0.out)
      clear BA0
      have BA0 := T__
      clear T__
      have T__ := Lib.hid (Os.out.ext Y)
      clear Os
      have Os := T__
      clear T__
      have T__ := Lib.hid (Y.blk BS9.out)
      clear BS9
      have BS9 := T__
      clear T__
      have T__ := Lib.hid (Oq0.out.ext Y)
      clear Oq0
      have Oq0 := T__
      clear T__
      have T__ := Lib.hid (Y.blk BQ0.out)
      clear BQ0
      have BQ0 := T__
      clear T__
      have T__ := Lib.hid (Og.out.ext Y)
      clear Og
      have Og := T__
      clear T__
      have T__ := Lib.hid (Y.blk BG9.out)
      clear BG9
      have BG9 := T__
      clear T__
      clear Y
      have kA00 := blk_cell BA0.out (j := 0) rfl
      have kA01 := blk_cell BA0.out (j := 1) rfl
      have kS90 := blk_cell BS9.out (j := 0) rfl
      have kS91 := blk_cell BS9.out (j := 1) rfl
      have kQ00 := blk_cell BQ0.out (j := 0) rfl
      have kQ01 := blk_cell BQ0.out (j := 1) rfl
      have kG90 := blk_cell BG9.out (j := 0) rfl
      have kG91 := blk_cell BG9.out (j := 1) rfl
      go_wp2_with fail
      have TS : Hid (∀ W, Ext W10 W → Calls Try.prog 28 #[.agg #[.slice a0 x0.1.length cap0, .slice a0e x0.2.length cap0e]] W fun e w' => ∃ a3 c3 a3e c3e, e = .returned (.agg #[.slice a3 x0.1.length c3, .slice a3e x0.2.length c3e]) ∧ Nets w' W.heap.size w'.heap.size (.agg #[.slice a3 x0.1.length c3, .slice a3e x0.2.length c3e]) x0 ∧ Ext W10 w') := fun W hX =>
        (CT0.out W (X.out.trans hX)).mono fun e w' ⟨v, he, ho, hx⟩ => by
          obtain ⟨a3, c3, a3e, c3e, rfl, _⟩ := ho.form
          exact ⟨a3, c3, a3e, c3e, he, ho.read, hX.trans hx⟩
      have ES : Hid (∀ W a3 c3 a3e c3e lo, Ext W10 W → Nets W lo W.heap.size (.agg #[.slice a3 x0.1.length c3, .slice a3e x0.2.length c3e]) x0 → Calls Try.prog 29 #[.agg #[.slice adq0 x0.1.length cdq0, .slice adq0e x0.2.length cdq0e], .agg #[.slice a3 x0.1.length c3, .slice a3e x0.2.length c3e]] W fun e w' => e = .returned (.bool true) ∧ Ext W10 w') := fun W a3 c3 a3e c3e lo hX hg =>
        (c_eqNet _ _ _ _ _ _ x0 x0 W (Oq0.out.ext hX).read hg (by have := hX.size; omega) (Nat.le_refl _)).mono fun e w' ⟨he, hx⟩ => ⟨by rw [he, decide_eq_true rfl], hX.trans hx⟩
      go_region_held3 (fun w' => Ext W10 w' ∧ w'.cell? ⟨w.heap.size, 0, none⟩ = some (.slice a0 x0.1.length cap0) ∧ w'.cell? ⟨w.heap.size, 1, none⟩ = some (.slice a0e x0.2.length cap0e) ∧ w'.cell? ⟨W6.heap.size, 0, none⟩ = some (.slice adq0 x0.1.length cdq0) ∧ w'.cell? ⟨W6.heap.size, 1, none⟩ = some (.slice adq0e x0.2.length cdq0e))
        (first | exact ⟨Ext.drew _, kA00, kA01, kQ00, kQ01⟩ | exact ⟨hxs, hxs.cell kA00, hxs.cell kA01, hxs.cell kQ00, hxs.cell kQ01⟩)
        (first | (go_at_call 28; refine (TS.out _ (Ext.drew _)).mono ?_; rintro e w3 ⟨a3, c3, a3e, c3e, rfl, hg3, hxs⟩) | (go_at_call 29; refine (ES.out _ _ _ _ _ _ hxs hg3).mono ?_; rintro e w3 ⟨rfl, hxs⟩))
      obtain ⟨W11, hW⟩ : ∃ W, W = w3 := ⟨_, rfl⟩
      subst hW
      have Y : Ext W10 W11 := hxs
      have s11 := Y.size
      clear kA00 kA01 kS90 kS91 kQ00 kQ01 kG90 kG91
      have T__ := Lib.hid (X.out.trans Y)
      clear X
      have X := T__
      clear T__
      have T__ := Lib.hid (Y.blk BA0.out)
      clear BA0
      have BA0 := T__
      clear T__
      have T__ := Lib.hid (Os.out.ext Y)
      clear Os
      have Os := T__
      clear T__
      have T__ := Lib.hid (Y.blk BS9.out)
      clear BS9
      have BS9 := T__
      clear T__
      have T__ := Lib.hid (Oq0.out.ext Y)
      clear Oq0
      have Oq0 := T__
      clear T__
      have T__ := Lib.hid (Y.blk BQ0.out)
      clear BQ0
      have BQ0 := T__
      clear T__
      have T__ := Lib.hid (Og.out.ext Y)
      clear Og
      have Og := T__
      clear T__
      have T__ := Lib.hid (Y.blk BG9.out)
      clear BG9
      have BG9 := T__
      clear T__
      clear Y hxs TS ES
      have kA00 := blk_cell BA0.out (j := 0) rfl
      have kA01 := blk_cell BA0.out (j := 1) rfl
      have kS90 := blk_cell BS9.out (j := 0) rfl
      have kS91 := blk_cell BS9.out (j := 1) rfl
      have kQ00 := blk_cell BQ0.out (j := 0) rfl
      have kQ01 := blk_cell BQ0.out (j := 1) rfl
      have kG90 := blk_cell BG9.out (j := 0) rfl
      have kG91 := blk_cell BG9.out (j := 1) rfl
      go_wp2_with fail
      refine (c_markNet _ _ _ x0 1 W11 Oq0.out (by omega) (by omega) (by omega) (by omega)).mono ?_
      rintro e W12 ⟨rfl, Y⟩
      clear BQ0
      have s12 := Y.size
      clear kA00 kA01 kS90 kS91 kQ00 kQ01 kG90 kG91
      have T__ := Lib.hid (X.out.keep Y (by omega))
      clear X
      have X := T__
      clear T__
      have T__ := Lib.hid (Y.blk BA0.out (by omega))
      clear BA0
      have BA0 := T__
      clear T__
      have T__ := Lib.hid (Os.out.keepd Y (by omega))
      clear Os
      have Os := T__
      clear T__
      have T__ := Lib.hid (Y.blk BS9.out (by omega))
      clear BS9
      have BS9 := T__
      clear T__
      have T__ := Lib.hid (Og.out.keepd Y (by omega))
      clear Og
      have Og := T__
      clear T__
      have T__ := Lib.hid (Y.blk BG9.out (by omega))
      clear BG9
      have BG9 := T__
      clear T__
      clear Y Oq0
      have kA00 := blk_cell BA0.out (j := 0) rfl
      have kA01 := blk_cell BA0.out (j := 1) rfl
      have kS90 := blk_cell BS9.out (j := 0) rfl
      have kS91 := blk_cell BS9.out (j := 1) rfl
      have kG90 := blk_cell BG9.out (j := 0) rfl
      have kG91 := blk_cell BG9.out (j := 1) rfl
      go_wp2_with fail
      refine (c_eqNet _ _ _ _ _ _ ys ys W12 Og.out.read Os.out.read (by omega) (by omega)).mono ?_
      rw [decide_eq_true rfl]
      rintro e W13 ⟨rfl, Y⟩
      have s13 := Y.size
      clear kA00 kA01 kS90 kS91 kG90 kG91
      have T__ := Lib.hid (X.out.trans Y)
      clear X
      have X := T__
      clear T__
      have T__ := Lib.hid (Y.blk BA0.out)
      clear BA0
      have BA0 := T__
      clear T__
      have T__ := Lib.hid (Os.out.ext Y)
      clear Os
      have Os := T__
      clear T__
      have T__ := Lib.hid (Y.blk BS9.out)
      clear BS9
      have BS9 := T__
      clear T__
      have T__ := Lib.hid (Og.out.ext Y)
      clear Og
      have Og := T__
      clear T__
      have T__ := Lib.hid (Y.blk BG9.out)
      clear BG9
      have BG9 := T__
      clear T__
      clear Y
      have kA00 := blk_cell BA0.out (j := 0) rfl
      have kA01 := blk_cell BA0.out (j := 1) rfl
      have kS90 := blk_cell BS9.out (j := 0) rfl
      have kS91 := blk_cell BS9.out (j := 1) rfl
      have kG90 := blk_cell BG9.out (j := 0) rfl
      have kG91 := blk_cell BG9.out (j := 1) rfl
      go_wp2_with fail
      refine (c_markNetM _ _ _ ys W13 Og.out (by omega) hyl).mono ?_
      rintro e W14 ⟨rfl, Y, hm⟩
      have M : Hid (MarkNet W14 _ _ _ ys.1.length ys.2.length) := hm
      have s14 := Y.size
      clear kA00 kA01 kS90 kS91 kG90 kG91
      have T__ := Lib.hid (X.out.keep Y (by omega))
      clear X
      have X := T__
      clear T__
      have T__ := Lib.hid (Y.blk BA0.out (by omega))
      clear BA0
      have BA0 := T__
      clear T__
      have T__ := Lib.hid (Os.out.keepd Y (by omega))
      clear Os
      have Os := T__
      clear T__
      have T__ := Lib.hid (Y.blk BS9.out (by omega))
      clear BS9
      have BS9 := T__
      clear T__
      have T__ := Lib.hid (Y.blk BG9.out (by omega))
      clear BG9
      have BG9 := T__
      clear T__
      clear Y Og hm
      have kA00 := blk_cell BA0.out (j := 0) rfl
      have kA01 := blk_cell BA0.out (j := 1) rfl
      have kS90 := blk_cell BS9.out (j := 0) rfl
      have kS91 := blk_cell BS9.out (j := 1) rfl
      have kG90 := blk_cell BG9.out (j := 0) rfl
      have kG91 := blk_cell BG9.out (j := 1) rfl
      go_wp2_with fail
      refine (c_heldNet _ _ _ ys.1.length ys.2.length W14 M.out (by omega) hyl).mono ?_
      rintro e W15 ⟨rfl, Y⟩
      have s15 := Y.size
      clear kA00 kA01 kS90 kS91 kG90 kG91
      have T__ := Lib.hid (X.out.trans Y)
      clear X
      have X := T__
      clear T__
      have T__ := Lib.hid (Y.blk BA0.out)
      clear BA0
      have BA0 := T__
      clear T__
      have T__ := Lib.hid (Os.out.ext Y)
      clear Os
      have Os := T__
      clear T__
      have T__ := Lib.hid (Y.blk BS9.out)
      clear BS9
      have BS9 := T__
      clear T__
      have T__ := Lib.hid (Y.blk BG9.out)
      clear BG9
      have BG9 := T__
      clear T__
      have T__ := Lib.hid (M.out.ext Y)
      clear M
      have M := T__
      clear T__
      clear Y
      have kA00 := blk_cell BA0.out (j := 0) rfl
      have kA01 := blk_cell BA0.out (j := 1) rfl
      have kS90 := blk_cell BS9.out (j := 0) rfl
      have kS91 := blk_cell BS9.out (j := 1) rfl
      have kG90 := blk_cell BG9.out (j := 0) rfl
      have kG91 := blk_cell BG9.out (j := 1) rfl
      go_wp2_with fail
      refine (CT0.out W15 X.out).mono ?_
      rintro e W16 ⟨r0, rfl, hr0, Y⟩
      have s16 := Y.size
      clear kA00 kA01 kS90 kS91 kG90 kG91
      have T__ := Lib.hid (X.out.trans Y)
      clear X
      have X := T__
      clear T__
      have T__ := Lib.hid (Y.blk BA0.out)
      clear BA0
      have BA0 := T__
      clear T__
      have T__ := Lib.hid (Os.out.ext Y)
      clear Os
      have Os := T__
      clear T__
      have T__ := Lib.hid (Y.blk BS9.out)
      clear BS9
      have BS9 := T__
      clear T__
      have T__ := Lib.hid (Y.blk BG9.out)
      clear BG9
      have BG9 := T__
      clear T__
      have T__ := Lib.hid (M.out.ext Y)
      clear M
      have M := T__
      clear T__
      have Or0 := Lib.hid hr0
      obtain ⟨adr0, cdr0, adr0e, cdr0e, rfl, ⟨_, _⟩, _, _⟩ := (Or0.out.form)
      clear hr0 Y
      have kA00 := blk_cell BA0.out (j := 0) rfl
      have kA01 := blk_cell BA0.out (j := 1) rfl
      have kS90 := blk_cell BS9.out (j := 0) rfl
      have kS91 := blk_cell BS9.out (j := 1) rfl
      have kG90 := blk_cell BG9.out (j := 0) rfl
      have kG91 := blk_cell BG9.out (j := 1) rfl
      go_wp2_with fail
      refine (CI.out W16 _ _ _ (Or0.out.read) (by omega)).mono ?_
      rintro e W17 ⟨z, rfl, hz, Y⟩
      have s17 := Y.size
      clear kA00 kA01 kS90 kS91 kG90 kG91
      have T__ := Lib.hid (X.out.trans Y)
      clear X
      have X := T__
      clear T__
      have T__ := Lib.hid (Y.blk BA0.out)
      clear BA0
      have BA0 := T__
      clear T__
      have T__ := Lib.hid (Os.out.ext Y)
      clear Os
      have Os := T__
      clear T__
      have T__ := Lib.hid (Y.blk BS9.out)
      clear BS9
      have BS9 := T__
      clear T__
      have T__ := Lib.hid (Y.blk BG9.out)
      clear BG9
      have BG9 := T__
      clear T__
      have T__ := Lib.hid (M.out.ext Y)
      clear M
      have M := T__
      clear T__
      have T__ := Lib.hid (Or0.out.ext Y)
      clear Or0
      have Or0 := T__
      clear T__
      have Oz := Lib.hid hz
      obtain ⟨adz, cdz, adze, cdze, rfl, ⟨_, _⟩, _, _⟩ := (Oz.out.form)
      clear hz Y
      have kA00 := blk_cell BA0.out (j := 0) rfl
      have kA01 := blk_cell BA0.out (j := 1) rfl
      have kS90 := blk_cell BS9.out (j := 0) rfl
      have kS91 := blk_cell BS9.out (j := 1) rfl
      have kG90 := blk_cell BG9.out (j := 0) rfl
      have kG91 := blk_cell BG9.out (j := 1) rfl
      have kA00n := (Ext.alloc (W17) (.cells #[.slice adz ys.1.length cdz, .slice adze ys.2.length cdze] 27)).cell kA00
      have kA01n := (Ext.alloc (W17) (.cells #[.slice adz ys.1.length cdz, .slice adze ys.2.length cdze] 27)).cell kA01
      have kS90n := (Ext.alloc (W17) (.cells #[.slice adz ys.1.length cdz, .slice adze ys.2.length cdze] 27)).cell kS90
      have kS91n := (Ext.alloc (W17) (.cells #[.slice adz ys.1.length cdz, .slice adze ys.2.length cdze] 27)).cell kS91
      have kG90n := (Ext.alloc (W17) (.cells #[.slice adz ys.1.length cdz, .slice adze ys.2.length cdze] 27)).cell kG90
      have kG91n := (Ext.alloc (W17) (.cells #[.slice adz ys.1.length cdz, .slice adze ys.2.length cdze] 27)).cell kG91
      go_wp2_with fail
      obtain ⟨W18, hW⟩ : ∃ W, W = W17.alloc (.cells #[.slice adz ys.1.length cdz, .slice adze ys.2.length cdze] 27) := ⟨_, rfl⟩
      rw [← hW]
      have Y : Ext W17 W18 := by rw [hW]; exact Ext.alloc _ _
      have hB : W18.heap[W17.heap.size]? = some (.cells #[.slice adz ys.1.length cdz, .slice adze ys.2.length cdze] 27) := by rw [hW]; exact blk_alloc _ _
      clear hW
      have sbZ9 := (Array.getElem?_eq_some_iff.1 hB).1
      have s18 := Y.size
      clear kA00 kA01 kS90 kS91 kG90 kG91 kA00n kA01n kS90n kS91n kG90n kG91n
      have T__ := Lib.hid (X.out.trans Y)
      clear X
      have X := T__
      clear T__
      have T__ := Lib.hid (Y.blk BA0.out)
      clear BA0
      have BA0 := T__
      clear T__
      have T__ := Lib.hid (Os.out.ext Y)
      clear Os
      have Os := T__
      clear T__
      have T__ := Lib.hid (Y.blk BS9.out)
      clear BS9
      have BS9 := T__
      clear T__
      have T__ := Lib.hid (Y.blk BG9.out)
      clear BG9
      have BG9 := T__
      clear T__
      have T__ := Lib.hid (M.out.ext Y)
      clear M
      have M := T__
      clear T__
      have T__ := Lib.hid (Or0.out.ext Y)
      clear Or0
      have Or0 := T__
      clear T__
      have T__ := Lib.hid (Oz.out.ext Y)
      clear Oz
      have Oz := T__
      clear T__
      have BZ9 := Lib.hid hB
      clear hB Y
      refine (c_eqNet _ _ _ _ _ _ ys ys W18 Oz.out.read Os.out.read (by omega) (by omega)).mono ?_
      rw [decide_eq_true rfl]
      rintro e W19 ⟨rfl, Y⟩
      have s19 := Y.size
      have T__ := Lib.hid (X.out.trans Y)
      clear X
      have X := T__
      clear T__
      have T__ := Lib.hid (Y.blk BA0.out)
      clear BA0
      have BA0 := T__
      clear T__
      have T__ := Lib.hid (Os.out.ext Y)
      clear Os
      have Os := T__
      clear T__
      have T__ := Lib.hid (Y.blk BS9.out)
      clear BS9
      have BS9 := T__
      clear T__
      have T__ := Lib.hid (Y.blk BG9.out)
      clear BG9
      have BG9 := T__
      clear T__
      have T__ := Lib.hid (M.out.ext Y)
      clear M
      have M := T__
      clear T__
      have T__ := Lib.hid (Or0.out.ext Y)
      clear Or0
      have Or0 := T__
      clear T__
      have T__ := Lib.hid (Oz.out.ext Y)
      clear Oz
      have Oz := T__
      clear T__
      have T__ := Lib.hid (Y.blk BZ9.out)
      clear BZ9
      have BZ9 := T__
      clear T__
      clear Y
      have kA00 := blk_cell BA0.out (j := 0) rfl
      have kA01 := blk_cell BA0.out (j := 1) rfl
      have kS90 := blk_cell BS9.out (j := 0) rfl
      have kS91 := blk_cell BS9.out (j := 1) rfl
      have kG90 := blk_cell BG9.out (j := 0) rfl
      have kG91 := blk_cell BG9.out (j := 1) rfl
      have kZ90 := blk_cell BZ9.out (j := 0) rfl
      have kZ91 := blk_cell BZ9.out (j := 1) rfl
      go_wp2_with fail
      refine (c_heldNet _ _ _ ys.1.length ys.2.length W19 M.out (by omega) hyl).mono ?_
      rintro e W20 ⟨rfl, Y⟩
      have s20 := Y.size
      clear kA00 kA01 kS90 kS91 kG90 kG91 kZ90 kZ91
      have T__ := Lib.hid (X.out.trans Y)
      clear X
      have X := T__
      clear T__
      have T__ := Lib.hid (Y.blk BA0.out)
      clear BA0
      have BA0 := T__
      clear T__
      have T__ := Lib.hid (Os.out.ext Y)
      clear Os
      have Os := T__
      clear T__
      have T__ := Lib.hid (Y.blk BS9.out)
      clear BS9
      have BS9 := T__
      clear T__
      have T__ := Lib.hid (Y.blk BG9.out)
      clear BG9
      have BG9 := T__
      clear T__
      have T__ := Lib.hid (M.out.ext Y)
      clear M
      have M := T__
      clear T__
      have T__ := Lib.hid (Or0.out.ext Y)
      clear Or0
      have Or0 := T__
      clear T__
      have T__ := Lib.hid (Oz.out.ext Y)
      clear Oz
      have Oz := T__
      clear T__
      have T__ := Lib.hid (Y.blk BZ9.out)
      clear BZ9
      have BZ9 := T__
      clear T__
      clear Y
      go_wp2
      go_ret
      exact ⟨rfl, X.out⟩
  · have CZ0 : Hid (∀ W, Ext w W → Calls Try.prog 27 #[.agg #[.slice a0 x0.1.length cap0, .slice a0e x0.2.length cap0e], .int .i64 (1048576)] W fun e w' => e = .returned (.int .i64 (-1)) ∧ Ext W w') := fun W hX => by
      have e := c_szNet _ _ _ x0 (1048576) W (H0.out.ext hX (Nat.le_refl _)) (by omega) (by omega)
      rw [← hN0, szL_neg (by omega)] at e
      exact e
    have HN0 := Lib.hid hN0
    clear hN0
    go_enter Try.func4, Try.ntmps4
    have X := Lib.hid (Ext.refl w)
    have s0 := Nat.le_refl w.heap.size
    go_wp2_with fail
    obtain ⟨W1, hW⟩ : ∃ W, W = w.alloc (.cells #[.slice a0 x0.1.length cap0, .slice a0e x0.2.length cap0e] 52) := ⟨_, rfl⟩
    rw [← hW]
    have Y : Ext w W1 := by rw [hW]; exact Ext.alloc _ _
    have hB : W1.heap[w.heap.size]? = some (.cells #[.slice a0 x0.1.length cap0, .slice a0e x0.2.length cap0e] 52) := by rw [hW]; exact blk_alloc _ _
    clear hW
    have sbA0 := (Array.getElem?_eq_some_iff.1 hB).1
    have s1 := Y.size
    have T__ := Lib.hid (X.out.trans Y)
    clear X
    have X := T__
    clear T__
    have BA0 := Lib.hid hB
    clear hB Y
    refine (CZ0.out W1 X.out).mono ?_
    rintro e W2 ⟨rfl, Y⟩
    have s2 := Y.size
    have T__ := Lib.hid (X.out.trans Y)
    clear X
    have X := T__
    clear T__
    have T__ := Lib.hid (Y.blk BA0.out)
    clear BA0
    have BA0 := T__
    clear T__
    clear Y
    go_wp2
    go_ret
    exact ⟨rfl, X.out⟩
set_option maxRecDepth 100000 in
theorem lifted_FnExactDropTower (os : Os) (started : os.Started) (H : Type) (enc : TypeId × Value → H) :
    ReturnsInHanded {} Try.checked os 4 .any (Rows.fnExactDropTowerSpec.pre6 enc Try.prog Try.f4 Rows.fnExactDropTowerRow.domain false) (Rows.fnExactDropTowerSpec.post enc Try.prog Try.f4 false true false false) := by
  refine returnsInHanded_of_change (C := Try.checked) own_Ytiipjlcmekakaaa started (by kernel_rfl) Try.func4
    (ChangeSpec.witness6 (enc := enc) (C := Try.checked) false ⟨#[], #[.agg #[.slice none 0 0, .slice none 0 0], .int .i64 0], []⟩ 8 (by kernel_rfl) (by kernel_rfl) (by kernel_rfl) (by kernel_rfl)) ?_
  intro W base args ds gs before hval0 hW hcnd _
  have hval : ∀ (j : Nat) t v, Try.f4.params[j]? = some t → args[j]? = some v → Value.okWide Try.prog W .any base t v := hval0
  have hW' := hW
  obtain ⟨p, q, hA0, hV, rfl, hfz, hnd⟩ := hW
  have hA : DataW.TrodAll enc Try.prog W 0 (fun _ => true) true Try.f4.params.toList args.toList ds p := hA0
  rw [Try.params4] at hA hval
  obtain ⟨v0, vs0, d0, ds0, p0, q0, hargs, rfl, rfl, h0, r0⟩ := trodAll_cons hA
  obtain ⟨v1, vs1, d1, ds1, p1, q1, rfl, rfl, rfl, h1, r1⟩ := trodAll_cons r0
  obtain ⟨rfl, rfl, rfl⟩ := trodAll_nil r1
  obtain rfl : args = #[v0, v1] := by cases args; simp_all
  obtain ⟨rfl, rfl⟩ := trodVars_none hV
  have k0 := h0
  have lt0 : ∀ x ∈ p0, x.block < W.heap.size := by obtain ⟨m, hm⟩ := k0; exact DataW.trod_lt m _ _ _ hm
  obtain ⟨x0, w0⟩ := arg_net (hval 0 52 v0 rfl rfl) h0
  obtain ⟨a1, rfl, rfl, rfl, w1⟩ := open_int Try.underlying3 (hval 1 3 v1 rfl rfl) h1
  clear hA0 hval0
  refine (law_DropTower v0 x0 a1 W w0).mono fun e W' ⟨he, bel⟩ => ?_
  subst he
  exact ⟨_, rfl, _, _, _, [], _, [], hW', trodAll_mk1 (shut_bool Try.underlying4 _), (trodAll_cons_mk (Below.trod laidOut_Ytiipjlcmekakaaa (by kernel_rfl) (of_decide_eq_true (by kernel_rfl)) k0 bel lt0) (trodAll_cons_mk (shut_int Try.underlying3 w1) trodAll_mk0)), rfl, bel.frame _, fun h => by cases h⟩

theorem holds_FnExactDropTower : Rows.FnExactDropTowerSaid :=
  OpenClaim.holds_of_wide 4 Try.f4 rfl rfl rfl rfl rfl rfl rfl ⟨rfl, rfl, rfl, rfl, rfl⟩ rfl rfl rfl rfl rfl (by kernel_rfl) Try.func4 (by kernel_rfl)
    (of_decide_eq_true (by kernel_rfl)) (by unfold Func.isWrapper; first | (rw [if_pos (by decide +kernel)]; kernel_rfl) | (rw [if_neg (by decide +kernel)]; exact ⟨rfl, rfl⟩))
    (fun os started H enc _ => lifted_FnExactDropTower os started H enc)
end Go.Proofs.Ytiipjlcmekakaaa
