
/- FnExactReverseSight: for all arguments the call returns true. No condition. -/
import Derived.Test.YtnoagmjajhlmjaaRevI
import Derived.Test.YtnoagmjajhlmjaaSightM
import Derived.Test.YtnoagmjajhlmjaaArgSight
namespace Go.Proofs.Ytnoagmjajhlmjaa
open Go.ChangeShapes Go.WideShapes Go.ChangeAt Go.RowKit
open Go.ChangeMaps (open_string shut_string)
set_option linter.unusedVariables false
theorem rvV_bound {x : SiT} (h : x.2.2.2.length ≤ 1048576) : (rvV x.1 x.2.1 x.2.2.1 x.2.2.2).2.2.2.length ≤ 1048576 := by
  unfold rvV
  split
  · rw [rvG_len]; exact h
  · simp
theorem c_sRevX (v : Value) (lo hi : Nat) (x : SiT) (w : World) (h : SightR w lo hi v x) (hh : hi ≤ w.heap.size) :
    Calls Try.prog 7 #[v] w fun e w' => ∃ r, e = .returned (.tuple #[r, .bool (sightOk x.1 x.2.1 x.2.2.1 x.2.2.2)]) ∧ OwnSight w' w.heap.size w'.heap.size r (rvV x.1 x.2.1 x.2.2.1 x.2.2.2) ∧ Ext w w' := by
  obtain ⟨vg, rfl, hg⟩ := h
  exact c_sReverse _ _ _ vg lo hi _ w hg hh
theorem c_iRevX (v : Value) (lo hi : Nat) (x : SiT) (w : World) (h : SightR w lo hi v x) (hh : hi ≤ w.heap.size) :
    Calls Try.prog 9 #[v] w fun e w' => ∃ r, e = .returned (.tuple #[r, .bool (sightOk x.1 x.2.1 x.2.2.1 x.2.2.2)]) ∧ OwnSight w' w.heap.size w'.heap.size r (rvV x.1 x.2.1 x.2.2.1 x.2.2.2) ∧ Ext w w' := by
  obtain ⟨vg, rfl, hg⟩ := h
  exact c_iReverse _ _ _ vg lo hi _ w hg hh
set_option maxRecDepth 100000 in
set_option maxHeartbeats 4000000 in
theorem law_ReverseSight (v0 : Value) (x0 : SiT) (w : World) (h0 : ArgSightX w v0 x0) :
    Calls Try.prog 3 #[v0] w fun e w' => e = .returned (.bool true) ∧ Ext w w' := by
  obtain ⟨hG0, _⟩ := h0
  obtain ⟨a0, cap0, rfl, m0, m0b⟩ := hG0.form
  have H0 := Lib.hid hG0
  clear hG0
  obtain ⟨ys, hys⟩ : ∃ ys, ys = rvV x0.1 x0.2.1 x0.2.2.1 x0.2.2.2 := ⟨_, rfl⟩
  obtain ⟨ok, hok⟩ : ∃ ok, ok = sightOk x0.1 x0.2.1 x0.2.2.1 x0.2.2.2 := ⟨_, rfl⟩
  have hyl0 : Hid (x0.2.2.2.length ≤ 1048576 → ys.2.2.2.length ≤ 1048576) := fun hz0 => by rw [hys]; exact rvV_bound hz0
  have CS : Hid (∀ W v0 lo0 hi0, SightR W lo0 hi0 v0 x0 → hi0 ≤ W.heap.size → Calls Try.prog 7 #[v0] W fun e w' => ∃ r, e = .returned (.tuple #[r, .bool ok]) ∧ OwnSight w' W.heap.size w'.heap.size r ys ∧ Ext W w') :=
    fun W v0 lo0 hi0 hr0 hh0 => by rw [hys, hok]; exact c_sRevX v0 lo0 hi0 x0 W hr0 hh0
  have CI : Hid (∀ W v0 lo0 hi0, SightR W lo0 hi0 v0 x0 → hi0 ≤ W.heap.size → Calls Try.prog 9 #[v0] W fun e w' => ∃ r, e = .returned (.tuple #[r, .bool ok]) ∧ OwnSight w' W.heap.size w'.heap.size r ys ∧ Ext W w') :=
    fun W v0 lo0 hi0 hr0 hh0 => by rw [hys, hok]; exact c_iRevX v0 lo0 hi0 x0 W hr0 hh0
  clear hys hok
  obtain ⟨N0, hN0⟩ : ∃ N : Int, N = ((x0.2.2.2.length : Nat) : Int) := ⟨_, rfl⟩
  have hN00 : 0 ≤ N0 := by omega
  by_cases hsz0 : N0 ≤ 1048576
  · have CZ0 : Hid (∀ W, Ext w W → Calls Try.prog 6 #[.agg #[.int .i64 x0.1, .int .i64 x0.2.1, .int .i64 x0.2.2.1, .slice a0 x0.2.2.2.length cap0], .int .i64 (1048576)] W fun e w' => e = .returned (.int .i64 (1048576 - N0)) ∧ Ext W w') := fun W hX => by
      have e := c_szSightO _ _ _ x0 (1048576) W (H0.out.ext hX (Nat.le_refl _)) (by omega) (by omega)
      rw [← hN0, szL_pos hsz0] at e
      exact e
    have hz0 : x0.2.2.2.length ≤ 1048576 := by omega
    have hsn0 : ¬ (1048576 - N0 < 0) := by omega
    have HN0 := Lib.hid hN0
    clear hN0
    have CT0 : Hid (∀ W, Ext w W → Calls Try.prog 8 #[.agg #[.int .i64 x0.1, .int .i64 x0.2.1, .int .i64 x0.2.2.1, .slice a0 x0.2.2.2.length cap0]] W fun e w' => ∃ v, e = .returned v ∧ OwnSight w' W.heap.size w'.heap.size v x0 ∧ Ext W w') :=
      fun W hX => c_toSightO _ 0 w.heap.size x0 W (H0.out.ext hX (Nat.le_refl _)) hX.size hz0
    have hyl := hyl0.out hz0
    have hyI : (0 : Int) ≤ (ys.2.2.2.length : Int) := by omega
    have hyI2 : (ys.2.2.2.length : Int) ≤ 1048576 := by omega
    clear hyl0
    cases ok
    all_goals
      go_enter Try.func3, Try.ntmps3
      have X := Lib.hid (Ext.refl w)
      go_wp2_with fail
      obtain ⟨W1, hW⟩ : ∃ W, W = w.alloc (.cells #[.int .i64 x0.1, .int .i64 x0.2.1, .int .i64 x0.2.2.1, .slice a0 x0.2.2.2.length cap0] 24) := ⟨_, rfl⟩
      rw [← hW]
      have Y : Ext w W1 := by rw [hW]; exact Ext.alloc _ _
      have hB : W1.heap[w.heap.size]? = some (.cells #[.int .i64 x0.1, .int .i64 x0.2.1, .int .i64 x0.2.2.1, .slice a0 x0.2.2.2.length cap0] 24) := by rw [hW]; exact blk_alloc _ _
      clear hW
      have sbA0 := (Array.getElem?_eq_some_iff.1 hB).1
      have s1 := Y.size
      have T__ := Lib.hid (X.out.trans Y)
      clear X
      have X := T__
      clear T__
      have BA0 := Lib.hid hB
      clear hB Y
      refine (CZ0.out W1 X.out).mono ?_
      rintro e W2 ⟨rfl, Y⟩
      have s2 := Y.size
      have T__ := Lib.hid (X.out.trans Y)
      clear X
      have X := T__
      clear T__
      have T__ := Lib.hid (Y.blk BA0.out)
      clear BA0
      have BA0 := T__
      clear T__
      clear Y
      have kA00 := blk_cell BA0.out (j := 0) rfl
      have kA01 := blk_cell BA0.out (j := 1) rfl
      have kA02 := blk_cell BA0.out (j := 2) rfl
      have kA03 := blk_cell BA0.out (j := 3) rfl
      go_wp2_with fail
      refine (CT0.out W2 X.out).mono ?_
      rintro e W3 ⟨p0, rfl, hp0, Y⟩
      have s3 := Y.size
      clear kA00 kA01 kA02 kA03
      have T__ := Lib.hid (X.out.trans Y)
      clear X
      have X := T__
      clear T__
      have T__ := Lib.hid (Y.blk BA0.out)
      clear BA0
      have BA0 := T__
      clear T__
      have Op0 := Lib.hid hp0
      obtain ⟨adp0, cdp0, rfl, _, _⟩ := (Op0.out.form)
      clear hp0 Y
      have kA00 := blk_cell BA0.out (j := 0) rfl
      have kA01 := blk_cell BA0.out (j := 1) rfl
      have kA02 := blk_cell BA0.out (j := 2) rfl
      have kA03 := blk_cell BA0.out (j := 3) rfl
      go_wp2_with fail
      refine (CS.out W3 _ _ _ (Op0.out.read) (by omega)).mono ?_
      rintro e W4 ⟨s, rfl, hs, Y⟩
      have s4 := Y.size
      clear kA00 kA01 kA02 kA03
      have T__ := Lib.hid (X.out.trans Y)
      clear X
      have X := T__
      clear T__
      have T__ := Lib.hid (Y.blk BA0.out)
      clear BA0
      have BA0 := T__
      clear T__
      have T__ := Lib.hid (Op0.out.ext Y)
      clear Op0
      have Op0 := T__
      clear T__
      have Os := Lib.hid hs
      obtain ⟨ads, cds, rfl, _, _⟩ := (Os.out.form)
      clear hs Y
      clear Op0
      have kA00 := blk_cell BA0.out (j := 0) rfl
      have kA01 := blk_cell BA0.out (j := 1) rfl
      have kA02 := blk_cell BA0.out (j := 2) rfl
      have kA03 := blk_cell BA0.out (j := 3) rfl
      have kA00n := (Ext.alloc (W4) (.cells #[.int .i64 ys.1, .int .i64 ys.2.1, .int .i64 ys.2.2.1, .slice ads ys.2.2.2.length cds] 28)).cell kA00
      have kA01n := (Ext.alloc (W4) (.cells #[.int .i64 ys.1, .int .i64 ys.2.1, .int .i64 ys.2.2.1, .slice ads ys.2.2.2.length cds] 28)).cell kA01
      have kA02n := (Ext.alloc (W4) (.cells #[.int .i64 ys.1, .int .i64 ys.2.1, .int .i64 ys.2.2.1, .slice ads ys.2.2.2.length cds] 28)).cell kA02
      have kA03n := (Ext.alloc (W4) (.cells #[.int .i64 ys.1, .int .i64 ys.2.1, .int .i64 ys.2.2.1, .slice ads ys.2.2.2.length cds] 28)).cell kA03
      go_wp2_with fail
      obtain ⟨W5, hW⟩ : ∃ W, W = W4.alloc (.cells #[.int .i64 ys.1, .int .i64 ys.2.1, .int .i64 ys.2.2.1, .slice ads ys.2.2.2.length cds] 28) := ⟨_, rfl⟩
      rw [← hW]
      have Y : Ext W4 W5 := by rw [hW]; exact Ext.alloc _ _
      have hB : W5.heap[W4.heap.size]? = some (.cells #[.int .i64 ys.1, .int .i64 ys.2.1, .int .i64 ys.2.2.1, .slice ads ys.2.2.2.length cds] 28) := by rw [hW]; exact blk_alloc _ _
      clear hW
      have sbS9 := (Array.getElem?_eq_some_iff.1 hB).1
      have s5 := Y.size
      clear kA00 kA01 kA02 kA03 kA00n kA01n kA02n kA03n
      have T__ := Lib.hid (X.out.trans Y)
      clear X
      have X := T__
      clear T__
      have T__ := Lib.hid (Y.blk BA0.out)
      clear BA0
      have BA0 := T__
      clear T__
      have T__ := Lib.hid (Os.out.ext Y)
      clear Os
      have Os := T__
      clear T__
      have BS9 := Lib.hid hB
      clear hB Y
      refine (CT0.out W5 X.out).mono ?_
      rintro e W6 ⟨q0, rfl, hq0, Y⟩
      have s6 := Y.size
      have T__ := Lib.hid (X.out.trans Y)
      clear X
      have X := T__
      clear T__
      have T__ := Lib.hid (Y.blk BA0.out)
      clear BA0
      have BA0 := T__
      clear T__
      have T__ := Lib.hid (Os.out.ext Y)
      clear Os
      have Os := T__
      clear T__
      have T__ := Lib.hid (Y.blk BS9.out)
      clear BS9
      have BS9 := T__
      clear T__
      have Oq0 := Lib.hid hq0
      obtain ⟨adq0, cdq0, rfl, _, _⟩ := (Oq0.out.form)
      clear hq0 Y
      have kA00 := blk_cell BA0.out (j := 0) rfl
      have kA01 := blk_cell BA0.out (j := 1) rfl
      have kA02 := blk_cell BA0.out (j := 2) rfl
      have kA03 := blk_cell BA0.out (j := 3) rfl
      have kS90 := blk_cell BS9.out (j := 0) rfl
      have kS91 := blk_cell BS9.out (j := 1) rfl
      have kS92 := blk_cell BS9.out (j := 2) rfl
      have kS93 := blk_cell BS9.out (j := 3) rfl
      have kA00n := (Ext.alloc (W6) (.cells #[.int .i64 x0.1, .int .i64 x0.2.1, .int .i64 x0.2.2.1, .slice adq0 x0.2.2.2.length cdq0] 28)).cell kA00
      have kA01n := (Ext.alloc (W6) (.cells #[.int .i64 x0.1, .int .i64 x0.2.1, .int .i64 x0.2.2.1, .slice adq0 x0.2.2.2.length cdq0] 28)).cell kA01
      have kA02n := (Ext.alloc (W6) (.cells #[.int .i64 x0.1, .int .i64 x0.2.1, .int .i64 x0.2.2.1, .slice adq0 x0.2.2.2.length cdq0] 28)).cell kA02
      have kA03n := (Ext.alloc (W6) (.cells #[.int .i64 x0.1, .int .i64 x0.2.1, .int .i64 x0.2.2.1, .slice adq0 x0.2.2.2.length cdq0] 28)).cell kA03
      have kS90n := (Ext.alloc (W6) (.cells #[.int .i64 x0.1, .int .i64 x0.2.1, .int .i64 x0.2.2.1, .slice adq0 x0.2.2.2.length cdq0] 28)).cell kS90
      have kS91n := (Ext.alloc (W6) (.cells #[.int .i64 x0.1, .int .i64 x0.2.1, .int .i64 x0.2.2.1, .slice adq0 x0.2.2.2.length cdq0] 28)).cell kS91
      have kS92n := (Ext.alloc (W6) (.cells #[.int .i64 x0.1, .int .i64 x0.2.1, .int .i64 x0.2.2.1, .slice adq0 x0.2.2.2.length cdq0] 28)).cell kS92
      have kS93n := (Ext.alloc (W6) (.cells #[.int .i64 x0.1, .int .i64 x0.2.1, .int .i64 x0.2.2.1, .slice adq0 x0.2.2.2.length cdq0] 28)).cell kS93
      go_wp2_with fail
      obtain ⟨W7, hW⟩ : ∃ W, W = W6.alloc (.cells #[.int .i64 x0.1, .int .i64 x0.2.1, .int .i64 x0.2.2.1, .slice adq0 x0.2.2.2.length cdq0] 28) := ⟨_, rfl⟩
      rw [← hW]
      have Y : Ext W6 W7 := by rw [hW]; exact Ext.alloc _ _
      have hB : W7.heap[W6.heap.size]? = some (.cells #[.int .i64 x0.1, .int .i64 x0.2.1, .int .i64 x0.2.2.1, .slice adq0 x0.2.2.2.length cdq0] 28) := by rw [hW]; exact blk_alloc _ _
      clear hW
      have sbQ0 := (Array.getElem?_eq_some_iff.1 hB).1
      have s7 := Y.size
      clear kA00 kA01 kA02 kA03 kS90 kS91 kS92 kS93 kA00n kA01n kA02n kA03n kS90n kS91n kS92n kS93n
      have T__ := Lib.hid (X.out.trans Y)
      clear X
      have X := T__
      clear T__
      have T__ := Lib.hid (Y.blk BA0.out)
      clear BA0
      have BA0 := T__
      clear T__
      have T__ := Lib.hid (Os.out.ext Y)
      clear Os
      have Os := T__
      clear T__
      have T__ := Lib.hid (Y.blk BS9.out)
      clear BS9
      have BS9 := T__
      clear T__
      have T__ := Lib.hid (Oq0.out.ext Y)
      clear Oq0
      have Oq0 := T__
      clear T__
      have BQ0 := Lib.hid hB
      clear hB Y
      refine (CI.out W7 _ _ _ (Oq0.out.read) (by omega)).mono ?_
      rintro e W8 ⟨g, rfl, hg, Y⟩
      have s8 := Y.size
      have T__ := Lib.hid (X.out.trans Y)
      clear X
      have X := T__
      clear T__
      have T__ := Lib.hid (Y.blk BA0.out)
      clear BA0
      have BA0 := T__
      clear T__
      have T__ := Lib.hid (Os.out.ext Y)
      clear Os
      have Os := T__
      clear T__
      have T__ := Lib.hid (Y.blk BS9.out)
      clear BS9
      have BS9 := T__
      clear T__
      have T__ := Lib.hid (Oq0.out.ext Y)
      clear Oq0
      have Oq0 := T__
      clear T__
      have T__ := Lib.hid (Y.blk BQ0.out)
      clear BQ0
      have BQ0 := T__
      clear T__
      have Og := Lib.hid hg
      obtain ⟨adg, cdg, rfl, _, _⟩ := (Og.out.form)
      clear hg Y
      have kA00 := blk_cell BA0.out (j := 0) rfl
      have kA01 := blk_cell BA0.out (j := 1) rfl
      have kA02 := blk_cell BA0.out (j := 2) rfl
      have kA03 := blk_cell BA0.out (j := 3) rfl
      have kS90 := blk_cell BS9.out (j := 0) rfl
      have kS91 := blk_cell BS9.out (j := 1) rfl
      have kS92 := blk_cell BS9.out (j := 2) rfl
      have kS93 := blk_cell BS9.out (j := 3) rfl
      have kQ00 := blk_cell BQ0.out (j := 0) rfl
      have kQ01 := blk_cell BQ0.out (j := 1) rfl
      have kQ02 := blk_cell BQ0.out (j := 2) rfl
      have kQ03 := blk_cell BQ0.out (j := 3) rfl
      have kA00n := (Ext.alloc (W8) (.cells #[.int .i64 ys.1, .int .i64 ys.2.1, .int .i64 ys.2.2.1, .slice adg ys.2.2.2.length cdg] 28)).cell kA00
      have kA01n := (Ext.alloc (W8) (.cells #[.int .i64 ys.1, .int .i64 ys.2.1, .int .i64 ys.2.2.1, .slice adg ys.2.2.2.length cdg] 28)).cell kA01
      have kA02n := (Ext.alloc (W8) (.cells #[.int .i64 ys.1, .int .i64 ys.2.1, .int .i64 ys.2.2.1, .slice adg ys.2.2.2.length cdg] 28)).cell kA02
      have kA03n := (Ext.alloc (W8) (.cells #[.int .i64 ys.1, .int .i64 ys.2.1, .int .i64 ys.2.2.1, .slice adg ys.2.2.2.length cdg] 28)).cell kA03
      have kS90n := (Ext.alloc (W8) (.cells #[.int .i64 ys.1, .int .i64 ys.2.1, .int .i64 ys.2.2.1, .slice adg ys.2.2.2.length cdg] 28)).cell kS90
      have kS91n := (Ext.alloc (W8) (.cells #[.int .i64 ys.1, .int .i64 ys.2.1, .int .i64 ys.2.2.1, .slice adg ys.2.2.2.length cdg] 28)).cell kS91
      have kS92n := (Ext.alloc (W8) (.cells #[.int .i64 ys.1, .int .i64 ys.2.1, .int .i64 ys.2.2.1, .slice adg ys.2.2.2.length cdg] 28)).cell kS92
      have kS93n := (Ext.alloc (W8) (.cells #[.int .i64 ys.1, .int .i64 ys.2.1, .int .i64 ys.2.2.1, .slice adg ys.2.2.2.length cdg] 28)).cell kS93
      have kQ00n := (Ext.alloc (W8) (.cells #[.int .i64 ys.1, .int .i64 ys.2.1, .int .i64 ys.2.2.1, .slice adg ys.2.2.2.length cdg] 28)).cell kQ00
      have kQ01n := (Ext.alloc (W8) (.cells #[.int .i64 ys.1, .int .i64 ys.2.1, .int .i64 ys.2.2.1, .slice adg ys.2.2.2.length cdg] 28)).cell kQ01
      have kQ02n := (Ext.alloc (W8) (.cells #[.int .i64 ys.1, .int .i64 ys.2.1, .int .i64 ys.2.2.1, .slice adg ys.2.2.2.length cdg] 28)).cell kQ02
      have kQ03n := (Ext.alloc (W8) (.cells #[.int .i64 ys.1, .int .i64 ys.2.1, .int .i64 ys.2.2.1, .slice adg ys.2.2.2.length cdg] 28)).cell kQ03
      go_wp2_with fail
      obtain ⟨W9, hW⟩ : ∃ W, W = W8.alloc (.cells #[.int .i64 ys.1, .int .i64 ys.2.1, .int .i64 ys.2.2.1, .slice adg ys.2.2.2.length cdg] 28) := ⟨_, rfl⟩
      rw [← hW]
      have Y : Ext W8 W9 := by rw [hW]; exact Ext.alloc _ _
      have hB : W9.heap[W8.heap.size]? = some (.cells #[.int .i64 ys.1, .int .i64 ys.2.1, .int .i64 ys.2.2.1, .slice adg ys.2.2.2.length cdg] 28) := by rw [hW]; exact blk_alloc _ _
      clear hW
      have sbG9 := (Array.getElem?_eq_some_iff.1 hB).1
      have s9 := Y.size
      clear kA00 kA01 kA02 kA03 kS90 kS91 kS92 kS93 kQ00 kQ01 kQ02 kQ03 kA00n kA01n kA02n kA03n kS90n kS91n kS92n kS93n kQ00n kQ01n kQ02n kQ03n
      have T__ := Lib.hid (X.out.trans Y)
      clear X
      have X := T__
      clear T__
      have T__ := Lib.hid (Y.blk BA0.out)
      clear BA0
      have BA0 := T__
      clear T__
      have T__ := Lib.hid (Os.out.ext Y)
      clear Os
      have Os := T__
      clear T__
      have T__ := Lib.hid (Y.blk BS9.out)
      clear BS9
      have BS9 := T__
      clear T__
      have T__ := Lib.hid (Oq0.out.ext Y)
      clear Oq0
      have Oq0 := T__
      clear T__
      have T__ := Lib.hid (Y.blk BQ0.out)
      clear BQ0
      have BQ0 := T__
      clear T__
      have T__ := Lib.hid (Og.out.ext Y)
      clear Og
      have Og := T__
      clear T__
      have BG9 := Lib.hid hB
      clear hB Y
      refine (c_eqSightO _ _ _ _ _ _ ys ys W9 Og.out.read Os.out.read (by omega) (by omega)).mono ?_
      rw [decide_eq_true rfl]
      rintro e W10 ⟨rfl, Y⟩
      have s10 := Y.size
      have T__ := Lib.hid (X.out.trans Y)
      clear X
      have X := T__
      clear T__
      have T__ := Lib.hid (Y.blk BA0.out)
      clear BA0
      have BA0 := T__
      clear T__
      have T__ := Lib.hid (Os.out.ext Y)
      clear Os
      have Os := T__
      clear T__
      have T__ := Lib.hid (Y.blk BS9.out)
      clear BS9
      have BS9 := T__
      clear T__
      have T__ := Lib.hid (Oq0.out.ext Y)
      clear Oq0
      have Oq0 := T__
      clear T__
      have T__ := Lib.hid (Y.blk BQ0.out)
      clear BQ0
      have BQ0 := T__
      clear T__
      have T__ := Lib.hid (Og.out.ext Y)
      clear Og
      have Og := T__
      clear T__
      have T__ := Lib.hid (Y.blk BG9.out)
      clear BG9
      have BG9 := T__
      clear T__
      clear Y
      have kA00 := blk_cell BA0.out (j := 0) rfl
      have kA01 := blk_cell BA0.out (j := 1) rfl
      have kA02 := blk_cell BA0.out (j := 2) rfl
      have kA03 := blk_cell BA0.out (j := 3) rfl
      have kS90 := blk_cell BS9.out (j := 0) rfl
      have kS91 := blk_cell BS9.out (j := 1) rfl
      have kS92 := blk_cell BS9.out (j := 2) rfl
      have kS93 := blk_cell BS9.out (j := 3) rfl
      have kQ00 := blk_cell BQ0.out (j := 0) rfl
      have kQ01 := blk_cell BQ0.out (j := 1) rfl
      have kQ02 := blk_cell BQ0.out (j := 2) rfl
      have kQ03 := blk_cell BQ0.out (j := 3) rfl
      have kG90 := blk_cell BG9.out (j := 0) rfl
      have kG91 := blk_cell BG9.out (j := 1) rfl
      have kG92 := blk_cell BG9.out (j := 2) rfl
      have kG93 := blk_cell BG9.out (j := 3) rfl
      go_wp2_with fail
      have TS : Hid (∀ W, Ext W10 W → Calls Try.prog 8 #[.agg #[.int .i64 x0.1, .int .i64 x0.2.1, .int .i64 x0.2.2.1, .slice a0 x0.2.2.2.length cap0]] W fun e w' => ∃ a3 c3, e = .returned (.agg #[.int .i64 x0.1, .int .i64 x0.2.1, .int .i64 x0.2.2.1, .slice a3 x0.2.2.2.length c3]) ∧ SightR w' W.heap.size w'.heap.size (.agg #[.int .i64 x0.1, .int .i64 x0.2.1, .int .i64 x0.2.2.1, .slice a3 x0.2.2.2.length c3]) x0 ∧ Ext W10 w') := fun W hX =>
        (CT0.out W (X.out.trans hX)).mono fun e w' ⟨v, he, ho, hx⟩ => by
          obtain ⟨a3, c3, rfl, _⟩ := ho.form
          exact ⟨a3, c3, he, ho.read, hX.trans hx⟩
      have ES : Hid (∀ W a3 c3 lo, Ext W10 W → SightR W lo W.heap.size (.agg #[.int .i64 x0.1, .int .i64 x0.2.1, .int .i64 x0.2.2.1, .slice a3 x0.2.2.2.length c3]) x0 → Calls Try.prog 10 #[.agg #[.int .i64 x0.1, .int .i64 x0.2.1, .int .i64 x0.2.2.1, .slice adq0 x0.2.2.2.length cdq0], .agg #[.int .i64 x0.1, .int .i64 x0.2.1, .int .i64 x0.2.2.1, .slice a3 x0.2.2.2.length c3]] W fun e w' => e = .returned (.bool true) ∧ Ext W10 w') := fun W a3 c3 lo hX hg =>
        (c_eqSightO _ _ _ _ _ _ x0 x0 W (Oq0.out.ext hX).read hg (by have := hX.size; omega) (Nat.le_refl _)).mono fun e w' ⟨he, hx⟩ => ⟨by rw [he, decide_eq_true rfl], hX.trans hx⟩
      go_region_held3 (fun w' => Ext W10 w' ∧ w'.cell? ⟨w.heap.size, 0, none⟩ = some (.int .i64 x0.1) ∧ w'.cell? ⟨w.heap.size, 1, none⟩ = some (.int .i64 x0.2.1) ∧ w'.cell? ⟨w.heap.size, 2, none⟩ = some (.int .i64 x0.2.2.1) ∧ w'.cell? ⟨w.heap.size, 3, none⟩ = some (.slice a0 x0.2.2.2.length cap0) ∧ w'.cell? ⟨W6.heap.size, 0, none⟩ = some (.int .i64 x0.1) ∧ w'.cell? ⟨W6.heap.size, 1, none⟩ = some (.int .i64 x0.2.1) ∧ w'.cell? ⟨W6.heap.size, 2, none⟩ = some (.int .i64 x0.2.2.1) ∧ w'.cell? ⟨W6.heap.size, 3, none⟩ = some (.slice adq0 x0.2.2.2.length cdq0))
        (first | exact ⟨Ext.drew _, kA00, kA01, kA02, kA03, kQ00, kQ01, kQ02, kQ03⟩ | exact ⟨hxs, hxs.cell kA00, hxs.cell kA01, hxs.cell kA02, hxs.cell kA03, hxs.cell kQ00, hxs.cell kQ01, hxs.cell kQ02, hxs.cell kQ03⟩)
        (first | (go_at_call 8; refine (TS.out _ (Ext.drew _)).mono ?_; rintro e w3 ⟨a3, c3, rfl, hg3, hxs⟩) | (go_at_call 10; refine (ES.out _ _ _ _ hxs hg3).mono ?_; rintro e w3 ⟨rfl, hxs⟩))
      obtain ⟨W11, hW⟩ : ∃ W, W = w3 := ⟨_, rfl⟩
      subst hW
      have Y : Ext W10 W11 := hxs
      have s11 := Y.size
      clear kA00 kA01 kA02 kA03 kS90 kS91 kS92 kS93 kQ00 kQ01 kQ02 kQ03 kG90 kG91 kG92 kG93
      have T__ := Lib.hid (X.out.trans Y)
      clear X
      have X := T__
      clear T__
      have T__ := Lib.hid (Y.blk BA0.out)
      clear BA0
      have BA0 := T__
      clear T__
      have T__ := Lib.hid (Os.out.ext Y)
      clear Os
      have Os := T__
      clear T__
      have T__ := Lib.hid (Y.blk BS9.out)
      clear BS9
      have BS9 := T__
      clear T__
      have T__ := Lib.hid (Oq0.out.ext Y)
      clear Oq0
      have Oq0 := T__
      clear T__
      have T__ := Lib.hid (Y.blk BQ0.out)
      clear BQ0
      have BQ0 := T__
      clear T__
      have T__ := Lib.hid (Og.out.ext Y)
      clear Og
      have Og := T__
      clear T__
      have T__ := Lib.hid (Y.blk BG9.out)
      clear BG9
      have BG9 := T__
      clear T__
      clear Y hxs TS ES
      have kA00 := blk_cell BA0.out (j := 0) rfl
      have kA01 := blk_cell BA0.out (j := 1) rfl
      have kA02 := blk_cell BA0.out (j := 2) rfl
      have kA03 := blk_cell BA0.out (j := 3) rfl
      have kS90 := blk_cell BS9.out (j := 0) rfl
      have kS91 := blk_cell BS9.out (j := 1) rfl
      have kS92 := blk_cell BS9.out (j := 2) rfl
      have kS93 := blk_cell BS9.out (j := 3) rfl
      have kQ00 := blk_cell BQ0.out (j := 0) rfl
      have kQ01 := blk_cell BQ0.out (j := 1) rfl
      have kQ02 := blk_cell BQ0.out (j := 2) rfl
      have kQ03 := blk_cell BQ0.out (j := 3) rfl
      have kG90 := blk_cell BG9.out (j := 0) rfl
      have kG91 := blk_cell BG9.out (j := 1) rfl
      have kG92 := blk_cell BG9.out (j := 2) rfl
      have kG93 := blk_cell BG9.out (j := 3) rfl
      go_wp2_with fail
      refine (c_markSightO _ _ _ x0 1 W11 Oq0.out (by omega) (by omega) (by omega) (by omega)).mono ?_
      rintro e W12 ⟨rfl, Y⟩
      clear BQ0
      have s12 := Y.size
      clear kA00 kA01 kA02 kA03 kS90 kS91 kS92 kS93 kQ00 kQ01 kQ02 kQ03 kG90 kG91 kG92 kG93
      have T__ := Lib.hid (X.out.keep Y (by omega))
      clear X
      have X := T__
      clear T__
      have T__ := Lib.hid (Y.blk BA0.out (by omega))
      clear BA0
      have BA0 := T__
      clear T__
      have T__ := Lib.hid (Os.out.keepd Y (by omega))
      clear Os
      have Os := T__
      clear T__
      have T__ := Lib.hid (Y.blk BS9.out (by omega))
      clear BS9
      have BS9 := T__
      clear T__
      have T__ := Lib.hid (Og.out.keepd Y (by omega))
      clear Og
      have Og := T__
      clear T__
      have T__ := Lib.hid (Y.blk BG9.out (by omega))
      clear BG9
      have BG9 := T__
      clear T__
      clear Y Oq0
      have kA00 := blk_cell BA0.out (j := 0) rfl
      have kA01 := blk_cell BA0.out (j := 1) rfl
      have kA02 := blk_cell BA0.out (j := 2) rfl
      have kA03 := blk_cell BA0.out (j := 3) rfl
      have kS90 := blk_cell BS9.out (j := 0) rfl
      have kS91 := blk_cell BS9.out (j := 1) rfl
      have kS92 := blk_cell BS9.out (j := 2) rfl
      have kS93 := blk_cell BS9.out (j := 3) rfl
      have kG90 := blk_cell BG9.out (j := 0) rfl
      have kG91 := blk_cell BG9.out (j := 1) rfl
      have kG92 := blk_cell BG9.out (j := 2) rfl
      have kG93 := blk_cell BG9.out (j := 3) rfl
      go_wp2_with fail
      refine (c_eqSightO _ _ _ _ _ _ ys ys W12 Og.out.read Os.out.read (by omega) (by omega)).mono ?_
      rw [decide_eq_true rfl]
      rintro e W13 ⟨rfl, Y⟩
      have s13 := Y.size
      clear kA00 kA01 kA02 kA03 kS90 kS91 kS92 kS93 kG90 kG91 kG92 kG93
      have T__ := Lib.hid (X.out.trans Y)
      clear X
      have X := T__
      clear T__
      have T__ := Lib.hid (Y.blk BA0.out)
      clear BA0
      have BA0 := T__
      clear T__
      have T__ := Lib.hid (Os.out.ext Y)
      clear Os
      have Os := T__
      clear T__
      have T__ := Lib.hid (Y.blk BS9.out)
      clear BS9
      have BS9 := T__
      clear T__
      have T__ := Lib.hid (Og.out.ext Y)
      clear Og
      have Og := T__
      clear T__
      have T__ := Lib.hid (Y.blk BG9.out)
      clear BG9
      have BG9 := T__
      clear T__
      clear Y
      have kA00 := blk_cell BA0.out (j := 0) rfl
      have kA01 := blk_cell BA0.out (j := 1) rfl
      have kA02 := blk_cell BA0.out (j := 2) rfl
      have kA03 := blk_cell BA0.out (j := 3) rfl
      have kS90 := blk_cell BS9.out (j := 0) rfl
      have kS91 := blk_cell BS9.out (j := 1) rfl
      have kS92 := blk_cell BS9.out (j := 2) rfl
      have kS93 := blk_cell BS9.out (j := 3) rfl
      have kG90 := blk_cell BG9.out (j := 0) rfl
      have kG91 := blk_cell BG9.out (j := 1) rfl
      have kG92 := blk_cell BG9.out (j := 2) rfl
      have kG93 := blk_cell BG9.out (j := 3) rfl
      go_wp2_with fail
      refine (c_markSightM _ _ _ ys W13 Og.out (by omega) hyl).mono ?_
      rintro e W14 ⟨rfl, Y, hm⟩
      have M : Hid (MarkSight W14 _ _ _ ys) := hm
      have s14 := Y.size
      clear kA00 kA01 kA02 kA03 kS90 kS91 kS92 kS93 kG90 kG91 kG92 kG93
      have T__ := Lib.hid (X.out.keep Y (by omega))
      clear X
      have X := T__
      clear T__
      have T__ := Lib.hid (Y.blk BA0.out (by omega))
      clear BA0
      have BA0 := T__
      clear T__
      have T__ := Lib.hid (Os.out.keepd Y (by omega))
      clear Os
      have Os := T__
      clear T__
      have T__ := Lib.hid (Y.blk BS9.out (by omega))
      clear BS9
      have BS9 := T__
      clear T__
      have T__ := Lib.hid (Y.blk BG9.out (by omega))
      clear BG9
      have BG9 := T__
      clear T__
      clear Y Og hm
      have kA00 := blk_cell BA0.out (j := 0) rfl
      have kA01 := blk_cell BA0.out (j := 1) rfl
      have kA02 := blk_cell BA0.out (j := 2) rfl
      have kA03 := blk_cell BA0.out (j := 3) rfl
      have kS90 := blk_cell BS9.out (j := 0) rfl
      have kS91 := blk_cell BS9.out (j := 1) rfl
      have kS92 := blk_cell BS9.out (j := 2) rfl
      have kS93 := blk_cell BS9.out (j := 3) rfl
      have kG90 := blk_cell BG9.out (j := 0) rfl
      have kG91 := blk_cell BG9.out (j := 1) rfl
      have kG92 := blk_cell BG9.out (j := 2) rfl
      have kG93 := blk_cell BG9.out (j := 3) rfl
      go_wp2_with fail
      refine (c_heldSight _ _ _ ys W14 M.out (by omega) hyl).mono ?_
      rintro e W15 ⟨rfl, Y⟩
      have s15 := Y.size
      clear kA00 kA01 kA02 kA03 kS90 kS91 kS92 kS93 kG90 kG91 kG92 kG93
      have T__ := Lib.hid (X.out.trans Y)
      clear X
      have X := T__
      clear T__
      have T__ := Lib.hid (Y.blk BA0.out)
      clear BA0
      have BA0 := T__
      clear T__
      have T__ := Lib.hid (Os.out.ext Y)
      clear Os
      have Os := T__
      clear T__
      have T__ := Lib.hid (Y.blk BS9.out)
      clear BS9
      have BS9 := T__
      clear T__
      have T__ := Lib.hid (Y.blk BG9.out)
      clear BG9
      have BG9 := T__
      clear T__
      have T__ := Lib.hid (M.out.ext Y)
      clear M
      have M := T__
      clear T__
      clear Y
      have kA00 := blk_cell BA0.out (j := 0) rfl
      have kA01 := blk_cell BA0.out (j := 1) rfl
      have kA02 := blk_cell BA0.out (j := 2) rfl
      have kA03 := blk_cell BA0.out (j := 3) rfl
      have kS90 := blk_cell BS9.out (j := 0) rfl
      have kS91 := blk_cell BS9.out (j := 1) rfl
      have kS92 := blk_cell BS9.out (j := 2) rfl
      have kS93 := blk_cell BS9.out (j := 3) rfl
      have kG90 := blk_cell BG9.out (j := 0) rfl
      have kG91 := blk_cell BG9.out (j := 1) rfl
      have kG92 := blk_cell BG9.out (j := 2) rfl
      have kG93 := blk_cell BG9.out (j := 3) rfl
      go_wp2_with fail
      refine (CT0.out W15 X.out).mono ?_
      rintro e W16 ⟨r0, rfl, hr0, Y⟩
      have s16 := Y.size
      clear kA00 kA01 kA02 kA03 kS90 kS91 kS92 kS93 kG90 kG91 kG92 kG93
      have T__ := Lib.hid (X.out.trans Y)
      clear X
      have X := T__
      clear T__
      have T__ := Lib.hid (Y.blk BA0.out)
      clear BA0
      have BA0 := T__
      clear T__
      have T__ := Lib.hid (Os.out.ext Y)
      clear Os
      have Os := T__
      clear T__
      have T__ := Lib.hid (Y.blk BS9.out)
      clear BS9
      have BS9 := T__
      clear T__
      have T__ := Lib.hid (Y.blk BG9.out)
      clear BG9
      have BG9 := T__
      clear T__
      have T__ := Lib.hid (M.out.ext Y)
      clear M
      have M := T__
      clear T__
      have Or0 := Lib.hid hr0
      obtain ⟨adr0, cdr0, rfl, _, _⟩ := (Or0.out.form)
      clear hr0 Y
      have kA00 := blk_cell BA0.out (j := 0) rfl
      have kA01 := blk_cell BA0.out (j := 1) rfl
      have kA02 := blk_cell BA0.out (j := 2) rfl
      have kA03 := blk_cell BA0.out (j := 3) rfl
      have kS90 := blk_cell BS9.out (j := 0) rfl
      have kS91 := blk_cell BS9.out (j := 1) rfl
      have kS92 := blk_cell BS9.out (j := 2) rfl
      have kS93 := blk_cell BS9.out (j := 3) rfl
      have kG90 := blk_cell BG9.out (j := 0) rfl
      have kG91 := blk_cell BG9.out (j := 1) rfl
      have kG92 := blk_cell BG9.out (j := 2) rfl
      have kG93 := blk_cell BG9.out (j := 3) rfl
      go_wp2_with fail
      refine (CI.out W16 _ _ _ (Or0.out.read) (by omega)).mono ?_
      rintro e W17 ⟨z, rfl, hz, Y⟩
      have s17 := Y.size
      clear kA00 kA01 kA02 kA03 kS90 kS91 kS92 kS93 kG90 kG91 kG92 kG93
      have T__ := Lib.hid (X.out.trans Y)
      clear X
      have X := T__
      clear T__
      have T__ := Lib.hid (Y.blk BA0.out)
      clear BA0
      have BA0 := T__
      clear T__
      have T__ := Lib.hid (Os.out.ext Y)
      clear Os
      have Os := T__
      clear T__
      have T__ := Lib.hid (Y.blk BS9.out)
      clear BS9
      have BS9 := T__
      clear T__
      have T__ := Lib.hid (Y.blk BG9.out)
      clear BG9
      have BG9 := T__
      clear T__
      have T__ := Lib.hid (M.out.ext Y)
      clear M
      have M := T__
      clear T__
      have T__ := Lib.hid (Or0.out.ext Y)
      clear Or0
      have Or0 := T__
      clear T__
      have Oz := Lib.hid hz
      obtain ⟨adz, cdz, rfl, _, _⟩ := (Oz.out.form)
      clear hz Y
      have kA00 := blk_cell BA0.out (j := 0) rfl
      have kA01 := blk_cell BA0.out (j := 1) rfl
      have kA02 := blk_cell BA0.out (j := 2) rfl
      have kA03 := blk_cell BA0.out (j := 3) rfl
      have kS90 := blk_cell BS9.out (j := 0) rfl
      have kS91 := blk_cell BS9.out (j := 1) rfl
      have kS92 := blk_cell BS9.out (j := 2) rfl
      have kS93 := blk_cell BS9.out (j := 3) rfl
      have kG90 := blk_cell BG9.out (j := 0) rfl
      have kG91 := blk_cell BG9.out (j := 1) rfl
      have kG92 := blk_cell BG9.out (j := 2) rfl
      have kG93 := blk_cell BG9.out (j := 3) rfl
      have kA00n := (Ext.alloc (W17) (.cells #[.int .i64 ys.1, .int .i64 ys.2.1, .int .i64 ys.2.2.1, .slice adz ys.2.2.2.length cdz] 28)).cell kA00
      have kA01n := (Ext.alloc (W17) (.cells #[.int .i64 ys.1, .int .i64 ys.2.1, .int .i64 ys.2.2.1, .slice adz ys.2.2.2.length cdz] 28)).cell kA01
      have kA02n := (Ext.alloc (W17) (.cells #[.int .i64 ys.1, .int .i64 ys.2.1, .int .i64 ys.2.2.1, .slice adz ys.2.2.2.length cdz] 28)).cell kA02
      have kA03n := (Ext.alloc (W17) (.cells #[.int .i64 ys.1, .int .i64 ys.2.1, .int .i64 ys.2.2.1, .slice adz ys.2.2.2.length cdz] 28)).cell kA03
      have kS90n := (Ext.alloc (W17) (.cells #[.int .i64 ys.1, .int .i64 ys.2.1, .int .i64 ys.2.2.1, .slice adz ys.2.2.2.length cdz] 28)).cell kS90
      have kS91n := (Ext.alloc (W17) (.cells #[.int .i64 ys.1, .int .i64 ys.2.1, .int .i64 ys.2.2.1, .slice adz ys.2.2.2.length cdz] 28)).cell kS91
      have kS92n := (Ext.alloc (W17) (.cells #[.int .i64 ys.1, .int .i64 ys.2.1, .int .i64 ys.2.2.1, .slice adz ys.2.2.2.length cdz] 28)).cell kS92
      have kS93n := (Ext.alloc (W17) (.cells #[.int .i64 ys.1, .int .i64 ys.2.1, .int .i64 ys.2.2.1, .slice adz ys.2.2.2.length cdz] 28)).cell kS93
      have kG90n := (Ext.alloc (W17) (.cells #[.int .i64 ys.1, .int .i64 ys.2.1, .int .i64 ys.2.2.1, .slice adz ys.2.2.2.length cdz] 28)).cell kG90
      have kG91n := (Ext.alloc (W17) (.cells #[.int .i64 ys.1, .int .i64 ys.2.1, .int .i64 ys.2.2.1, .slice adz ys.2.2.2.length cdz] 28)).cell kG91
      have kG92n := (Ext.alloc (W17) (.cells #[.int .i64 ys.1, .int .i64 ys.2.1, .int .i64 ys.2.2.1, .slice adz ys.2.2.2.length cdz] 28)).cell kG92
      have kG93n := (Ext.alloc (W17) (.cells #[.int .i64 ys.1, .int .i64 ys.2.1, .int .i64 ys.2.2.1, .slice adz ys.2.2.2.length cdz] 28)).cell kG93
      go_wp2_with fail
      obtain ⟨W18, hW⟩ : ∃ W, W = W17.alloc (.cells #[.int .i64 ys.1, .int .i64 ys.2.1, .int .i64 ys.2.2.1, .slice adz ys.2.2.2.length cdz] 28) := ⟨_, rfl⟩
      rw [← hW]
      have Y : Ext W17 W18 := by rw [hW]; exact Ext.alloc _ _
      have hB : W18.heap[W17.heap.size]? = some (.cells #[.int .i64 ys.1, .int .i64 ys.2.1, .int .i64 ys.2.2.1, .slice adz ys.2.2.2.length cdz] 28) := by rw [hW]; exact blk_alloc _ _
      clear hW
      have sbZ9 := (Array.getElem?_eq_some_iff.1 hB).1
      have s18 := Y.size
      clear kA00 kA01 kA02 kA03 kS90 kS91 kS92 kS93 kG90 kG91 kG92 kG93 kA00n kA01n kA02n kA03n kS90n kS91n kS92n kS93n kG90n kG91n kG92n kG93n
      have T__ := Lib.hid (X.out.trans Y)
      clear X
      have X := T__
      clear T__
      have T__ := Lib.hid (Y.blk BA0.out)
      clear BA0
      have BA0 := T__
      clear T__
      have T__ := Lib.hid (Os.out.ext Y)
      clear Os
      have Os := T__
      clear T__
      have T__ := Lib.hid (Y.blk BS9.out)
      clear BS9
      have BS9 := T__
      clear T__
      have T__ := Lib.hid (Y.blk BG9.out)
      clear BG9
      have BG9 := T__
      clear T__
      have T__ := Lib.hid (M.out.ext Y)
      clear M
      have M := T__
      clear T__
      have T__ := Lib.hid (Or0.out.ext Y)
      clear Or0
      have Or0 := T__
      clear T__
      have T__ := Lib.hid (Oz.out.ext Y)
      clear Oz
      have Oz := T__
      clear T__
      have BZ9 := Lib.hid hB
      clear hB Y
      refine (c_eqSightO _ _ _ _ _ _ ys ys W18 Oz.out.read Os.out.read (by omega) (by omega)).mono ?_
      rw [decide_eq_true rfl]
      rintro e W19 ⟨rfl, Y⟩
      have s19 := Y.size
      have T__ := Lib.hid (X.out.trans Y)
      clear X
      have X := T__
      clear T__
      have T__ := Lib.hid (Y.blk BA0.out)
      clear BA0
      have BA0 := T__
      clear T__
      have T__ := Lib.hid (Os.out.ext Y)
      clear Os
      have Os := T__
      clear T__
      have T__ := Lib.hid (Y.blk BS9.out)
      clear BS9
      have BS9 := T__
      clear T__
      have T__ := Lib.hid (Y.blk BG9.out)
      clear BG9
      have BG9 := T__
      clear T__
      have T__ := Lib.hid (M.out.ext Y)
      clear M
      have M := T__
      clear T__
      have T__ := Lib.hid (Or0.out.ext Y)
      clear Or0
      have Or0 := T__
      clear T__
      have T__ := Lib.hid (Oz.out.ext Y)
      clear Oz
      have Oz := T__
      clear T__
      have T__ := Lib.hid (Y.blk BZ9.out)
      clear BZ9
      have BZ9 := T__
      clear T__
      clear Y
      have kA00 := blk_cell BA0.out (j := 0) rfl
      have kA01 := blk_cell BA0.out (j := 1) rfl
      have kA02 := blk_cell BA0.out (j := 2) rfl
      have kA03 := blk_cell BA0.out (j := 3) rfl
      have kS90 := blk_cell BS9.out (j := 0) rfl
      have kS91 := blk_cell BS9.out (j := 1) rfl
      have kS92 := blk_cell BS9.out (j := 2) rfl
      have kS93 := blk_cell BS9.out (j := 3) rfl
      have kG90 := blk_cell BG9.out (j := 0) rfl
      have kG91 := blk_cell BG9.out (j := 1) rfl
      have kG92 := blk_cell BG9.out (j := 2) rfl
      have kG93 := blk_cell BG9.out (j := 3) rfl
      have kZ90 := blk_cell BZ9.out (j := 0) rfl
      have kZ91 := blk_cell BZ9.out (j := 1) rfl
      have kZ92 := blk_cell BZ9.out (j := 2) rfl
      have kZ93 := blk_cell BZ9.out (j := 3) rfl
      go_wp2_with fail
      refine (c_heldSight _ _ _ ys W19 M.out (by omega) hyl).mono ?_
      rintro e W20 ⟨rfl, Y⟩
      have s20 := Y.size
      clear kA00 kA01 kA02 kA03 kS90 kS91 kS92 kS93 kG90 kG91 kG92 kG93 kZ90 kZ91 kZ92 kZ93
      have T__ := Lib.hid (X.out.trans Y)
      clear X
      have X := T__
      clear T__
      have T__ := Lib.hid (Y.blk BA0.out)
      clear BA0
      have BA0 := T__
      clear T__
      have T__ := Lib.hid (Os.out.ext Y)
      clear Os
      have Os := T__
      clear T__
      have T__ := Lib.hid (Y.blk BS9.out)
      clear BS9
      have BS9 := T__
      clear T__
      have T__ := Lib.hid (Y.blk BG9.out)
      clear BG9
      have BG9 := T__
      clear T__
      have T__ := Lib.hid (M.out.ext Y)
      clear M
      have M := T__
      clear T__
      have T__ := Lib.hid (Or0.out.ext Y)
      clear Or0
      have Or0 := T__
      clear T__
      have T__ := Lib.hid (Oz.out.ext Y)
      clear Oz
      have Oz := T__
      clear T__
      have T__ := Lib.hid (Y.blk BZ9.out)
      clear BZ9
      have BZ9 := T__
      clear T__
      clear Y
      go_wp2
      go_ret
      exact ⟨rfl, X.out⟩
  · have CZ0 : Hid (∀ W, Ext w W → Calls Try.prog 6 #[.agg #[.int .i64 x0.1, .int .i64 x0.2.1, .int .i64 x0.2.2.1, .slice a0 x0.2.2.2.length cap0], .int .i64 (1048576)] W fun e w' => e = .returned (.int .i64 (-1)) ∧ Ext W w') := fun W hX => by
      have e := c_szSightO _ _ _ x0 (1048576) W (H0.out.ext hX (Nat.le_refl _)) (by omega) (by omega)
      rw [← hN0, szL_neg (by omega)] at e
      exact e
    have HN0 := Lib.hid hN0
    clear hN0
    go_enter Try.func3, Try.ntmps3
    have X := Lib.hid (Ext.refl w)
    have s0 := Nat.le_refl w.heap.size
    go_wp2_with fail
    obtain ⟨W1, hW⟩ : ∃ W, W = w.alloc (.cells #[.int .i64 x0.1, .int .i64 x0.2.1, .int .i64 x0.2.2.1, .slice a0 x0.2.2.2.length cap0] 24) := ⟨_, rfl⟩
    rw [← hW]
    have Y : Ext w W1 := by rw [hW]; exact Ext.alloc _ _
    have hB : W1.heap[w.heap.size]? = some (.cells #[.int .i64 x0.1, .int .i64 x0.2.1, .int .i64 x0.2.2.1, .slice a0 x0.2.2.2.length cap0] 24) := by rw [hW]; exact blk_alloc _ _
    clear hW
    have sbA0 := (Array.getElem?_eq_some_iff.1 hB).1
    have s1 := Y.size
    have T__ := Lib.hid (X.out.trans Y)
    clear X
    have X := T__
    clear T__
    have BA0 := Lib.hid hB
    clear hB Y
    refine (CZ0.out W1 X.out).mono ?_
    rintro e W2 ⟨rfl, Y⟩
    have s2 := Y.size
    have T__ := Lib.hid (X.out.trans Y)
    clear X
    have X := T__
    clear T__
    have T__ := Lib.hid (Y.blk BA0.out)
    clear BA0
    have BA0 := T__
    clear T__
    clear Y
    go_wp2
    go_ret
    exact ⟨rfl, X.out⟩
theorem law_RevF (v : Value) (x : Int × Int × Int × List GroundT) (w : World) (h : ArgSight w v x) :
    Calls Try.prog 3 #[v] w fun e w' => e = .returned (.bool true) ∧ Ext w w' := by
  obtain ⟨vg, rfl, hG⟩ := h
  exact law_ReverseSight _ x w ⟨⟨vg, rfl, hG⟩, trivial⟩
set_option maxRecDepth 100000 in
theorem lifted_FnExactReverseSight (os : Os) (started : os.Started) (H : Type) (enc : TypeId × Value → H) :
    ReturnsInHanded {} Try.checked os 3 .any (Rows.fnExactReverseSightSpec.pre6 enc Try.prog Try.f3 Rows.fnExactReverseSightRow.domain false) (Rows.fnExactReverseSightSpec.post enc Try.prog Try.f3 false true false false) := by
  refine returnsInHanded_of_change (C := Try.checked) own_Ytnoagmjajhlmjaa started (by kernel_rfl) Try.func3
    (ChangeSpec.witness6 (enc := enc) (C := Try.checked) false ⟨#[], #[.agg #[.int .i64 0, .int .i64 0, .int .i64 0, .slice none 0 0]], []⟩ 8 (by kernel_rfl) (by kernel_rfl) (by kernel_rfl) (by kernel_rfl)) ?_
  intro W base args ds gs before hval0 hW hcnd _
  have hval : ∀ (j : Nat) t v, Try.f3.params[j]? = some t → args[j]? = some v → Value.okWide Try.prog W .any base t v := hval0
  have hW' := hW
  obtain ⟨p, q, hA0, hV, rfl, hfz, hnd⟩ := hW
  have hA : DataW.TrodAll enc Try.prog W 0 (fun _ => true) true Try.f3.params.toList args.toList ds p := hA0
  rw [Try.params3] at hA hval
  obtain ⟨v0, vs0, d0, ds0, p0, q0, hargs, rfl, rfl, h0, r0⟩ := trodAll_cons hA
  obtain ⟨rfl, rfl, rfl⟩ := trodAll_nil r0
  obtain rfl : args = #[v0] := by cases args; simp_all
  obtain ⟨rfl, rfl⟩ := trodVars_none hV
  have k0 := h0
  have lt0 : ∀ x ∈ p0, x.block < W.heap.size := by obtain ⟨m, hm⟩ := k0; exact DataW.trod_lt m _ _ _ hm
  obtain ⟨x0, w0⟩ := arg_sight (hval 0 24 v0 rfl rfl) h0
  clear hA0 hval0
  refine (law_RevF v0 x0 W w0).mono fun e W' ⟨he, bel⟩ => ?_
  subst he
  exact ⟨_, rfl, _, _, _, [], _, [], hW', trodAll_mk1 (shut_bool Try.underlying4 _), (trodAll_cons_mk (Below.trod laidOut_Ytnoagmjajhlmjaa (by kernel_rfl) (of_decide_eq_true (by kernel_rfl)) k0 bel lt0) trodAll_mk0), rfl, bel.frame _, fun h => by cases h⟩

theorem holds_FnExactReverseSight : Rows.FnExactReverseSightSaid :=
  OpenClaim.holds_of_wide 3 Try.f3 rfl rfl rfl rfl rfl rfl rfl ⟨rfl, rfl, rfl, rfl, rfl⟩ rfl rfl rfl rfl rfl (by kernel_rfl) Try.func3 (by kernel_rfl)
    (of_decide_eq_true (by kernel_rfl)) (by unfold Func.isWrapper; first | (rw [if_pos (by decide +kernel)]; kernel_rfl) | (rw [if_neg (by decide +kernel)]; exact ⟨rfl, rfl⟩))
    (fun os started H enc _ => lifted_FnExactReverseSight os started H enc)
end Go.Proofs.Ytnoagmjajhlmjaa
