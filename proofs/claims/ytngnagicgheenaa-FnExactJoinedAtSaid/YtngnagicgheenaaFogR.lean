


/- The questions about fogs: the program's and the reference's functions. -/
import Derived.Test.YtngnagicgheenaaFogQ
import Derived.Test.YtngnagicgheenaaFogC
namespace Go.Proofs.Ytngnagicgheenaa
open Go.RowKit
theorem askF_good {x : NetT} {F : List FogT} {i a b : Int} (h : askF x F i a b = true) : fogsB x.2.length F = true ∧ 0 ≤ a ∧ a ≤ b ∧ b ≤ 10000 := by
  simp only [askF, hasF, tmB, Bool.and_eq_true, decide_eq_true_eq] at h
  exact ⟨h.1.2.1, h.2.1, h.2.2.1, h.2.2.2⟩
/-! ### AreFogs -/
set_option maxRecDepth 100000 in
set_option maxHeartbeats 1000000 in
theorem c_iAreFogs (v : Value) (la ha : Nat) (x : NetT) (vf : Value) (lb hb : Nat) (F : List FogT) (w : World) (h : Nets w la ha v x) (hh : ha ≤ w.heap.size) (h2 : Fogs w lb hb vf F) (hh2 : hb ≤ w.heap.size) :
    Calls Try.prog 16 #[v, vf] w fun e w' => e = .returned (.tuple #[.bool (netB x && fogsB x.2.length F), .bool (netB x)]) ∧ Ext w w' := by
  obtain ⟨q1, hq1⟩ : ∃ q, q = netB x := ⟨_, rfl⟩
  obtain ⟨q2, hq2⟩ : ∃ q, q = fogsB x.2.length F := ⟨_, rfl⟩
  rw [← hq1, ← hq2]
  have C1 : Hid (∀ W, Ext w W → Calls Try.prog 45 #[v] W fun e w' => e = .returned (.bool q1) ∧ Ext W w') := fun W hX => by rw [hq1]; exact c_IsNet v la ha x W (h.ext hX hh) (Nat.le_trans hh hX.size)
  have C2 : Hid (∀ W, Ext w W → Calls Try.prog 46 #[v, vf] W fun e w' => e = .returned (.bool q2) ∧ Ext W w') := fun W hX => by rw [hq2]; exact c_areFogs v vf la ha lb hb x F W (h.ext hX hh) (Nat.le_trans hh hX.size) (h2.ext hX hh2) (Nat.le_trans hh2 hX.size)
  clear hq1 hq2
  obtain ⟨a, ca, b, cb, rfl, ⟨m1, m2⟩, m3, m4⟩ := h.form
  obtain ⟨a2, ca2, rfl, m5, m6⟩ := Row.form h2
  obtain ⟨T, L⟩ := x
  clear h h2
  dsimp only at *
  generalize T.length = m at *
  generalize L.length = l at *
  generalize F.length = n at *
  cases q1
  · go_enter Try.func16, Try.ntmps16
    go_wp2_with fail
    obtain ⟨W1, hW1⟩ : ∃ W, W = w.alloc (.cells #[.slice a m ca, .slice b l cb] 34) := ⟨_, rfl⟩
    rw [← hW1]
    have XX : Ext w W1 := by rw [hW1]; exact Ext.alloc _ _
    have k0 : W1.cell? ⟨w.heap.size, 0, none⟩ = some (.slice a m ca) := by rw [hW1]; exact box_cell _ _ _ 0 _ rfl
    have k1 : W1.cell? ⟨w.heap.size, 1, none⟩ = some (.slice b l cb) := by rw [hW1]; exact box_cell _ _ _ 1 _ rfl
    clear hW1
    refine ((C1).out _ XX).mono ?_
    rintro e wN ⟨rfl, hxN⟩
    replace k0 := hxN.cell k0
    replace k1 := hxN.cell k1
    replace XX := XX.trans hxN
    clear hxN
    go_wp2
    go_ret2
    exact ⟨rfl, XX⟩
  · go_enter Try.func16, Try.ntmps16
    go_wp2_with fail
    obtain ⟨W1, hW1⟩ : ∃ W, W = w.alloc (.cells #[.slice a m ca, .slice b l cb] 34) := ⟨_, rfl⟩
    rw [← hW1]
    have XX : Ext w W1 := by rw [hW1]; exact Ext.alloc _ _
    have k0 : W1.cell? ⟨w.heap.size, 0, none⟩ = some (.slice a m ca) := by rw [hW1]; exact box_cell _ _ _ 0 _ rfl
    have k1 : W1.cell? ⟨w.heap.size, 1, none⟩ = some (.slice b l cb) := by rw [hW1]; exact box_cell _ _ _ 1 _ rfl
    clear hW1
    refine ((C1).out _ XX).mono ?_
    rintro e wN ⟨rfl, hxN⟩
    replace k0 := hxN.cell k0
    replace k1 := hxN.cell k1
    replace XX := XX.trans hxN
    clear hxN
    go_wp2_with (go_at_call 46; refine ((C2).out _ XX).mono ?_; rintro e wN ⟨rfl, hxN⟩; replace XX := XX.trans hxN)
    go_ret2
    exact ⟨rfl, XX⟩
set_option maxRecDepth 100000 in
set_option maxHeartbeats 1000000 in
theorem c_sAreFogs (v : Value) (la ha : Nat) (x : NetT) (vf : Value) (lb hb : Nat) (F : List FogT) (w : World) (h : Nets w la ha v x) (hh : ha ≤ w.heap.size) (h2 : Fogs w lb hb vf F) (hh2 : hb ≤ w.heap.size) :
    Calls Try.prog 13 #[v, vf] w fun e w' => e = .returned (.tuple #[.bool (netB x && fogsB x.2.length F), .bool (netB x)]) ∧ Ext w w' := by
  obtain ⟨q1, hq1⟩ : ∃ q, q = netB x := ⟨_, rfl⟩
  obtain ⟨q2, hq2⟩ : ∃ q, q = fogsB x.2.length F := ⟨_, rfl⟩
  rw [← hq1, ← hq2]
  have C1 : Hid (∀ W, Ext w W → Calls Try.prog 40 #[v] W fun e w' => e = .returned (.bool q1) ∧ Ext W w') := fun W hX => by rw [hq1]; exact c_neGood v la ha x W (h.ext hX hh) (Nat.le_trans hh hX.size)
  have C2 : Hid (∀ W, Ext w W → Calls Try.prog 41 #[v, vf] W fun e w' => e = .returned (.bool q2) ∧ Ext W w') := fun W hX => by rw [hq2]; exact c_fgGood v vf la ha lb hb x F W (h.ext hX hh) (Nat.le_trans hh hX.size) (h2.ext hX hh2) (Nat.le_trans hh2 hX.size)
  clear hq1 hq2
  obtain ⟨a, ca, b, cb, rfl, ⟨m1, m2⟩, m3, m4⟩ := h.form
  obtain ⟨a2, ca2, rfl, m5, m6⟩ := Row.form h2
  obtain ⟨T, L⟩ := x
  clear h h2
  dsimp only at *
  generalize T.length = m at *
  generalize L.length = l at *
  generalize F.length = n at *
  cases q1
  · go_enter Try.func13, Try.ntmps13
    go_wp2_with fail
    obtain ⟨W1, hW1⟩ : ∃ W, W = w.alloc (.cells #[.slice a m ca, .slice b l cb] 34) := ⟨_, rfl⟩
    rw [← hW1]
    have XX : Ext w W1 := by rw [hW1]; exact Ext.alloc _ _
    have k0 : W1.cell? ⟨w.heap.size, 0, none⟩ = some (.slice a m ca) := by rw [hW1]; exact box_cell _ _ _ 0 _ rfl
    have k1 : W1.cell? ⟨w.heap.size, 1, none⟩ = some (.slice b l cb) := by rw [hW1]; exact box_cell _ _ _ 1 _ rfl
    clear hW1
    refine ((C1).out _ XX).mono ?_
    rintro e wN ⟨rfl, hxN⟩
    replace k0 := hxN.cell k0
    replace k1 := hxN.cell k1
    replace XX := XX.trans hxN
    clear hxN
    go_wp2
    go_ret2
    exact ⟨rfl, XX⟩
  · go_enter Try.func13, Try.ntmps13
    go_wp2_with fail
    obtain ⟨W1, hW1⟩ : ∃ W, W = w.alloc (.cells #[.slice a m ca, .slice b l cb] 34) := ⟨_, rfl⟩
    rw [← hW1]
    have XX : Ext w W1 := by rw [hW1]; exact Ext.alloc _ _
    have k0 : W1.cell? ⟨w.heap.size, 0, none⟩ = some (.slice a m ca) := by rw [hW1]; exact box_cell _ _ _ 0 _ rfl
    have k1 : W1.cell? ⟨w.heap.size, 1, none⟩ = some (.slice b l cb) := by rw [hW1]; exact box_cell _ _ _ 1 _ rfl
    clear hW1
    refine ((C1).out _ XX).mono ?_
    rintro e wN ⟨rfl, hxN⟩
    replace k0 := hxN.cell k0
    replace k1 := hxN.cell k1
    replace XX := XX.trans hxN
    clear hxN
    go_wp2_with (go_at_call 41; refine ((C2).out _ XX).mono ?_; rintro e wN ⟨rfl, hxN⟩; replace XX := XX.trans hxN)
    go_ret2
    exact ⟨rfl, XX⟩
/-! ### Questions that end in one call -/
theorem askF_tt {x : NetT} {F : List FogT} {i t : Int} : askF x F i t t = (hasF x F i && inB 0 10000 t) := by
  unfold askF tmB inB
  congr 1
  rw [Bool.eq_iff_iff]
  simp only [Bool.and_eq_true, decide_eq_true_eq]
  omega
set_option maxRecDepth 100000 in
set_option maxHeartbeats 1000000 in
theorem c_iIsClear (v : Value) (la ha : Nat) (x : NetT) (vf : Value) (lb hb : Nat) (F : List FogT) (i t : Int) (w : World) (h : Nets w la ha v x) (hh : ha ≤ w.heap.size) (h2 : Fogs w lb hb vf F) (hh2 : hb ≤ w.heap.size) :
    Calls Try.prog 24 #[v, vf, .int .i64 i, .int .i64 t] w fun e w' => e = .returned (.tuple #[.bool (if askF x F i t t then clB F i t else false), .bool (askF x F i t t)]) ∧ Ext w w' := by
  obtain ⟨q, hq⟩ : ∃ q, q = askF x F i t t := ⟨_, rfl⟩
  rw [← hq]
  obtain ⟨r, hr⟩ : ∃ r, r = clB F i t := ⟨_, rfl⟩
  rw [← hr]
  have C2 : Hid (q = true → ∀ W, Ext w W → Calls Try.prog 59 #[vf, .int .i64 i, .int .i64 t] W fun e w' => e = .returned (.bool r) ∧ Ext W w') := fun hqt W hX => by
    have h8 : askF x F i t t = true := hq ▸ hqt
    have h9 := c_isClear vf lb hb F i t W (h2.ext hX hh2) (Nat.le_trans hh2 hX.size)
    rw [hr]; exact h9
  obtain ⟨qa, hqa⟩ : ∃ q, q = askF x F i t t := ⟨_, rfl⟩
  have C1 : Hid (∀ W, Ext w W → Calls Try.prog 54 #[v, vf, .int .i64 i, .int .i64 t, .int .i64 t] W fun e w' => e = .returned (.bool qa) ∧ Ext W w') := fun W hX => by rw [hqa]; exact c_fogAsked v vf la ha lb hb x F i t t W (h.ext hX hh) (Nat.le_trans hh hX.size) (h2.ext hX hh2) (Nat.le_trans hh2 hX.size)
  replace hq : q = qa := hq.trans hqa.symm
  clear hqa hr
  obtain ⟨a, ca, b, cb, rfl, ⟨m1, m2⟩, m3, m4⟩ := h.form
  obtain ⟨a2, ca2, rfl, m5, m6⟩ := Row.form h2
  obtain ⟨T, L⟩ := x
  clear h h2
  dsimp only at *
  generalize T.length = m at *
  generalize L.length = l at *
  generalize F.length = n at *
  cases qa
  · subst hq
    clear C2
    go_enter Try.func24, Try.ntmps24
    go_wp2_with fail
    obtain ⟨W1, hW1⟩ : ∃ W, W = w.alloc (.cells #[.slice a m ca, .slice b l cb] 34) := ⟨_, rfl⟩
    rw [← hW1]
    have XX : Ext w W1 := by rw [hW1]; exact Ext.alloc _ _
    have k0 : W1.cell? ⟨w.heap.size, 0, none⟩ = some (.slice a m ca) := by rw [hW1]; exact box_cell _ _ _ 0 _ rfl
    have k1 : W1.cell? ⟨w.heap.size, 1, none⟩ = some (.slice b l cb) := by rw [hW1]; exact box_cell _ _ _ 1 _ rfl
    clear hW1
    refine ((C1).out _ XX).mono ?_
    rintro e wN ⟨rfl, hxN⟩
    replace k0 := hxN.cell k0
    replace k1 := hxN.cell k1
    replace XX := XX.trans hxN
    clear hxN
    go_wp2_with (fail)
    go_ret2
    exact ⟨rfl, XX⟩
  · subst hq
    have C3 := Lib.hid (C2.out rfl)
    clear C2
    go_enter Try.func24, Try.ntmps24
    go_wp2_with fail
    obtain ⟨W1, hW1⟩ : ∃ W, W = w.alloc (.cells #[.slice a m ca, .slice b l cb] 34) := ⟨_, rfl⟩
    rw [← hW1]
    have XX : Ext w W1 := by rw [hW1]; exact Ext.alloc _ _
    have k0 : W1.cell? ⟨w.heap.size, 0, none⟩ = some (.slice a m ca) := by rw [hW1]; exact box_cell _ _ _ 0 _ rfl
    have k1 : W1.cell? ⟨w.heap.size, 1, none⟩ = some (.slice b l cb) := by rw [hW1]; exact box_cell _ _ _ 1 _ rfl
    clear hW1
    refine ((C1).out _ XX).mono ?_
    rintro e wN ⟨rfl, hxN⟩
    replace k0 := hxN.cell k0
    replace k1 := hxN.cell k1
    replace XX := XX.trans hxN
    clear hxN
    go_wp2_with (first | (go_at_call 59; refine (C3.out _ XX).mono ?_; rintro e wN ⟨rfl, hxN⟩; replace XX := XX.trans hxN) | fail)
    go_ret2
    exact ⟨rfl, XX⟩
set_option maxRecDepth 100000 in
set_option maxHeartbeats 1000000 in
theorem c_iNextClear (v : Value) (la ha : Nat) (x : NetT) (vf : Value) (lb hb : Nat) (F : List FogT) (i t : Int) (w : World) (h : Nets w la ha v x) (hh : ha ≤ w.heap.size) (h2 : Fogs w lb hb vf F) (hh2 : hb ≤ w.heap.size) :
    Calls Try.prog 22 #[v, vf, .int .i64 i, .int .i64 t] w fun e w' => e = .returned (.tuple #[.int .i64 (if askF x F i t t then stF i 1 t F else 0), .bool (askF x F i t t)]) ∧ Ext w w' := by
  obtain ⟨q, hq⟩ : ∃ q, q = askF x F i t t := ⟨_, rfl⟩
  rw [← hq]
  obtain ⟨r, hr⟩ : ∃ r, r = stF i 1 t F := ⟨_, rfl⟩
  rw [← hr]
  have C2 : Hid (q = true → ∀ W, Ext w W → Calls Try.prog 56 #[vf, .int .i64 i, .int .i64 t, .int .i64 1] W fun e w' => e = .returned (.int .i64 r) ∧ Ext W w') := fun hqt W hX => by
    have h8 : askF x F i t t = true := hq ▸ hqt
    have h9 := c_startAfter vf lb hb x.2.length F i t 1 W (h2.ext hX hh2) (fogsB_mem (askF_good h8).1) (askF_good h8).2.1 (askF_good h8).2.2.2 (by omega) (by omega)
    rw [hr]; exact h9
  obtain ⟨qa, hqa⟩ : ∃ q, q = askF x F i t t := ⟨_, rfl⟩
  have C1 : Hid (∀ W, Ext w W → Calls Try.prog 54 #[v, vf, .int .i64 i, .int .i64 t, .int .i64 t] W fun e w' => e = .returned (.bool qa) ∧ Ext W w') := fun W hX => by rw [hqa]; exact c_fogAsked v vf la ha lb hb x F i t t W (h.ext hX hh) (Nat.le_trans hh hX.size) (h2.ext hX hh2) (Nat.le_trans hh2 hX.size)
  replace hq : q = qa := hq.trans hqa.symm
  clear hqa hr
  obtain ⟨a, ca, b, cb, rfl, ⟨m1, m2⟩, m3, m4⟩ := h.form
  obtain ⟨a2, ca2, rfl, m5, m6⟩ := Row.form h2
  obtain ⟨T, L⟩ := x
  clear h h2
  dsimp only at *
  generalize T.length = m at *
  generalize L.length = l at *
  generalize F.length = n at *
  cases qa
  · subst hq
    clear C2
    go_enter Try.func22, Try.ntmps22
    go_wp2_with fail
    obtain ⟨W1, hW1⟩ : ∃ W, W = w.alloc (.cells #[.slice a m ca, .slice b l cb] 34) := ⟨_, rfl⟩
    rw [← hW1]
    have XX : Ext w W1 := by rw [hW1]; exact Ext.alloc _ _
    have k0 : W1.cell? ⟨w.heap.size, 0, none⟩ = some (.slice a m ca) := by rw [hW1]; exact box_cell _ _ _ 0 _ rfl
    have k1 : W1.cell? ⟨w.heap.size, 1, none⟩ = some (.slice b l cb) := by rw [hW1]; exact box_cell _ _ _ 1 _ rfl
    clear hW1
    refine ((C1).out _ XX).mono ?_
    rintro e wN ⟨rfl, hxN⟩
    replace k0 := hxN.cell k0
    replace k1 := hxN.cell k1
    replace XX := XX.trans hxN
    clear hxN
    go_wp2_with (fail)
    go_ret2
    exact ⟨rfl, XX⟩
  · subst hq
    have C3 := Lib.hid (C2.out rfl)
    clear C2
    go_enter Try.func22, Try.ntmps22
    go_wp2_with fail
    obtain ⟨W1, hW1⟩ : ∃ W, W = w.alloc (.cells #[.slice a m ca, .slice b l cb] 34) := ⟨_, rfl⟩
    rw [← hW1]
    have XX : Ext w W1 := by rw [hW1]; exact Ext.alloc _ _
    have k0 : W1.cell? ⟨w.heap.size, 0, none⟩ = some (.slice a m ca) := by rw [hW1]; exact box_cell _ _ _ 0 _ rfl
    have k1 : W1.cell? ⟨w.heap.size, 1, none⟩ = some (.slice b l cb) := by rw [hW1]; exact box_cell _ _ _ 1 _ rfl
    clear hW1
    refine ((C1).out _ XX).mono ?_
    rintro e wN ⟨rfl, hxN⟩
    replace k0 := hxN.cell k0
    replace k1 := hxN.cell k1
    replace XX := XX.trans hxN
    clear hxN
    go_wp2_with (first | (go_at_call 56; refine (C3.out _ XX).mono ?_; rintro e wN ⟨rfl, hxN⟩; replace XX := XX.trans hxN) | fail)
    go_ret2
    exact ⟨rfl, XX⟩
theorem est_good {x : NetT} {F : List FogT} {i t s : Int} (h : (askF x F i t t && inB 1 1000 s) = true) : fogsB x.2.length F = true ∧ 0 ≤ t ∧ t ≤ 10000 ∧ 1 ≤ s ∧ s ≤ 1000 := by
  rw [Bool.and_eq_true] at h
  obtain ⟨h1, h2, _, h3⟩ := askF_good h.1
  obtain ⟨h4, h5⟩ := inB_t h.2
  exact ⟨h1, h2, h3, h4, h5⟩
set_option maxRecDepth 100000 in
set_option maxHeartbeats 1000000 in
theorem c_iEarliest (v : Value) (la ha : Nat) (x : NetT) (vf : Value) (lb hb : Nat) (F : List FogT) (i t s : Int) (w : World) (h : Nets w la ha v x) (hh : ha ≤ w.heap.size) (h2 : Fogs w lb hb vf F) (hh2 : hb ≤ w.heap.size) :
    Calls Try.prog 20 #[v, vf, .int .i64 i, .int .i64 t, .int .i64 s] w fun e w' => e = .returned (.tuple #[.int .i64 (if (askF x F i t t && inB 1 1000 s) then stF i s t F else 0), .bool ((askF x F i t t && inB 1 1000 s))]) ∧ Ext w w' := by
  obtain ⟨q, hq⟩ : ∃ q, q = (askF x F i t t && inB 1 1000 s) := ⟨_, rfl⟩
  rw [← hq]
  obtain ⟨r, hr⟩ : ∃ r, r = stF i s t F := ⟨_, rfl⟩
  rw [← hr]
  have C2 : Hid (q = true → ∀ W, Ext w W → Calls Try.prog 56 #[vf, .int .i64 i, .int .i64 t, .int .i64 s] W fun e w' => e = .returned (.int .i64 r) ∧ Ext W w') := fun hqt W hX => by
    have h8 : (askF x F i t t && inB 1 1000 s) = true := hq ▸ hqt
    have h9 := c_startAfter vf lb hb x.2.length F i t s W (h2.ext hX hh2) (fogsB_mem (est_good h8).1) (est_good h8).2.1 (est_good h8).2.2.1 (est_good h8).2.2.2.1 (est_good h8).2.2.2.2
    rw [hr]; exact h9
  obtain ⟨qa, hqa⟩ : ∃ q, q = askF x F i t t := ⟨_, rfl⟩
  have C1 : Hid (∀ W, Ext w W → Calls Try.prog 54 #[v, vf, .int .i64 i, .int .i64 t, .int .i64 t] W fun e w' => e = .returned (.bool qa) ∧ Ext W w') := fun W hX => by rw [hqa]; exact c_fogAsked v vf la ha lb hb x F i t t W (h.ext hX hh) (Nat.le_trans hh hX.size) (h2.ext hX hh2) (Nat.le_trans hh2 hX.size)
  rw [← hqa] at hq
  clear hqa hr
  obtain ⟨a, ca, b, cb, rfl, ⟨m1, m2⟩, m3, m4⟩ := h.form
  obtain ⟨a2, ca2, rfl, m5, m6⟩ := Row.form h2
  obtain ⟨T, L⟩ := x
  clear h h2
  dsimp only at *
  generalize T.length = m at *
  generalize L.length = l at *
  generalize F.length = n at *
  cases qa
  · subst hq
    clear C2
    go_enter Try.func20, Try.ntmps20
    go_wp2_with fail
    obtain ⟨W1, hW1⟩ : ∃ W, W = w.alloc (.cells #[.slice a m ca, .slice b l cb] 34) := ⟨_, rfl⟩
    rw [← hW1]
    have XX : Ext w W1 := by rw [hW1]; exact Ext.alloc _ _
    have k0 : W1.cell? ⟨w.heap.size, 0, none⟩ = some (.slice a m ca) := by rw [hW1]; exact box_cell _ _ _ 0 _ rfl
    have k1 : W1.cell? ⟨w.heap.size, 1, none⟩ = some (.slice b l cb) := by rw [hW1]; exact box_cell _ _ _ 1 _ rfl
    clear hW1
    refine ((C1).out _ XX).mono ?_
    rintro e wN ⟨rfl, hxN⟩
    replace k0 := hxN.cell k0
    replace k1 := hxN.cell k1
    replace XX := XX.trans hxN
    clear hxN
    go_wp2_with (fail)
    go_ret2
    exact ⟨rfl, XX⟩
  cases e1 : inB 1 1000 s
  · rw [e1] at hq
    subst hq
    clear C2
    go_enter Try.func20, Try.ntmps20
    go_wp2_with fail
    obtain ⟨W1, hW1⟩ : ∃ W, W = w.alloc (.cells #[.slice a m ca, .slice b l cb] 34) := ⟨_, rfl⟩
    rw [← hW1]
    have XX : Ext w W1 := by rw [hW1]; exact Ext.alloc _ _
    have k0 : W1.cell? ⟨w.heap.size, 0, none⟩ = some (.slice a m ca) := by rw [hW1]; exact box_cell _ _ _ 0 _ rfl
    have k1 : W1.cell? ⟨w.heap.size, 1, none⟩ = some (.slice b l cb) := by rw [hW1]; exact box_cell _ _ _ 1 _ rfl
    clear hW1
    refine ((C1).out _ XX).mono ?_
    rintro e wN ⟨rfl, hxN⟩
    replace k0 := hxN.cell k0
    replace k1 := hxN.cell k1
    replace XX := XX.trans hxN
    clear hxN
    go_wp2_with ((go_at_call 55; refine (within_c _ _ _ _).mono ?_; rintro e w' ⟨rfl, rfl⟩))
    go_ret2
    exact ⟨rfl, XX⟩
  · rw [e1] at hq
    subst hq
    have C3 := Lib.hid (C2.out rfl)
    clear C2
    go_enter Try.func20, Try.ntmps20
    go_wp2_with fail
    obtain ⟨W1, hW1⟩ : ∃ W, W = w.alloc (.cells #[.slice a m ca, .slice b l cb] 34) := ⟨_, rfl⟩
    rw [← hW1]
    have XX : Ext w W1 := by rw [hW1]; exact Ext.alloc _ _
    have k0 : W1.cell? ⟨w.heap.size, 0, none⟩ = some (.slice a m ca) := by rw [hW1]; exact box_cell _ _ _ 0 _ rfl
    have k1 : W1.cell? ⟨w.heap.size, 1, none⟩ = some (.slice b l cb) := by rw [hW1]; exact box_cell _ _ _ 1 _ rfl
    clear hW1
    refine ((C1).out _ XX).mono ?_
    rintro e wN ⟨rfl, hxN⟩
    replace k0 := hxN.cell k0
    replace k1 := hxN.cell k1
    replace XX := XX.trans hxN
    clear hxN
    go_wp2_with (first | (go_at_call 56; refine (C3.out _ XX).mono ?_; rintro e wN ⟨rfl, hxN⟩; replace XX := XX.trans hxN) | (go_at_call 55; refine (within_c _ _ _ _).mono ?_; rintro e w' ⟨rfl, rfl⟩))
    go_ret2
    exact ⟨rfl, XX⟩
/-! the reference's -/
set_option maxRecDepth 100000 in
set_option maxHeartbeats 1000000 in
theorem c_sIsClear (v : Value) (la ha : Nat) (x : NetT) (vf : Value) (lb hb : Nat) (F : List FogT) (i t : Int) (w : World) (h : Nets w la ha v x) (hh : ha ≤ w.heap.size) (h2 : Fogs w lb hb vf F) (hh2 : hb ≤ w.heap.size) :
    Calls Try.prog 23 #[v, vf, .int .i64 i, .int .i64 t] w fun e w' => e = .returned (.tuple #[.bool (if askF x F i t t then clB F i t else false), .bool (askF x F i t t)]) ∧ Ext w w' := by
  obtain ⟨q, hq⟩ : ∃ q, q = askF x F i t t := ⟨_, rfl⟩
  rw [← hq]
  obtain ⟨r, hr⟩ : ∃ r, r = clB F i t := ⟨_, rfl⟩
  rw [← hr]
  have C2 : Hid (q = true → ∀ W, Ext w W → Calls Try.prog 58 #[vf, .int .i64 i, .int .i64 t] W fun e w' => e = .returned (.bool r) ∧ Ext W w') := fun hqt W hX => by
    have h8 : askF x F i t t = true := hq ▸ hqt
    have h9 := c_fgClear vf lb hb x.2.length F i t W (h2.ext hX hh2) (fogsB_mem (askF_good h8).1)
    rw [hr]; exact h9
  obtain ⟨qa, hqa⟩ : ∃ q, q = hasF x F i := ⟨_, rfl⟩
  have C1 : Hid (∀ W, Ext w W → Calls Try.prog 50 #[v, vf, .int .i64 i] W fun e w' => e = .returned (.bool qa) ∧ Ext W w') := fun W hX => by rw [hqa]; exact c_fgHas v vf la ha lb hb x F i W (h.ext hX hh) (Nat.le_trans hh hX.size) (h2.ext hX hh2) (Nat.le_trans hh2 hX.size)
  rw [askF_tt, ← hqa] at hq
  clear hqa hr
  obtain ⟨a, ca, b, cb, rfl, ⟨m1, m2⟩, m3, m4⟩ := h.form
  obtain ⟨a2, ca2, rfl, m5, m6⟩ := Row.form h2
  obtain ⟨T, L⟩ := x
  clear h h2
  dsimp only at *
  generalize T.length = m at *
  generalize L.length = l at *
  generalize F.length = n at *
  cases qa
  · subst hq
    clear C2
    go_enter Try.func23, Try.ntmps23
    go_wp2_with fail
    obtain ⟨W1, hW1⟩ : ∃ W, W = w.alloc (.cells #[.slice a m ca, .slice b l cb] 34) := ⟨_, rfl⟩
    rw [← hW1]
    have XX : Ext w W1 := by rw [hW1]; exact Ext.alloc _ _
    have k0 : W1.cell? ⟨w.heap.size, 0, none⟩ = some (.slice a m ca) := by rw [hW1]; exact box_cell _ _ _ 0 _ rfl
    have k1 : W1.cell? ⟨w.heap.size, 1, none⟩ = some (.slice b l cb) := by rw [hW1]; exact box_cell _ _ _ 1 _ rfl
    clear hW1
    refine ((C1).out _ XX).mono ?_
    rintro e wN ⟨rfl, hxN⟩
    replace k0 := hxN.cell k0
    replace k1 := hxN.cell k1
    replace XX := XX.trans hxN
    clear hxN
    go_wp2_with (fail)
    go_ret2
    exact ⟨rfl, XX⟩
  cases e1 : inB 0 10000 t
  · rw [e1] at hq
    subst hq
    clear C2
    go_enter Try.func23, Try.ntmps23
    go_wp2_with fail
    obtain ⟨W1, hW1⟩ : ∃ W, W = w.alloc (.cells #[.slice a m ca, .slice b l cb] 34) := ⟨_, rfl⟩
    rw [← hW1]
    have XX : Ext w W1 := by rw [hW1]; exact Ext.alloc _ _
    have k0 : W1.cell? ⟨w.heap.size, 0, none⟩ = some (.slice a m ca) := by rw [hW1]; exact box_cell _ _ _ 0 _ rfl
    have k1 : W1.cell? ⟨w.heap.size, 1, none⟩ = some (.slice b l cb) := by rw [hW1]; exact box_cell _ _ _ 1 _ rfl
    clear hW1
    refine ((C1).out _ XX).mono ?_
    rintro e wN ⟨rfl, hxN⟩
    replace k0 := hxN.cell k0
    replace k1 := hxN.cell k1
    replace XX := XX.trans hxN
    clear hxN
    go_wp2_with ((go_at_call 51; refine (c_fgTime _ _).mono ?_; rintro e w' ⟨rfl, rfl⟩))
    go_ret2
    exact ⟨rfl, XX⟩
  · rw [e1] at hq
    subst hq
    have C3 := Lib.hid (C2.out rfl)
    clear C2
    go_enter Try.func23, Try.ntmps23
    go_wp2_with fail
    obtain ⟨W1, hW1⟩ : ∃ W, W = w.alloc (.cells #[.slice a m ca, .slice b l cb] 34) := ⟨_, rfl⟩
    rw [← hW1]
    have XX : Ext w W1 := by rw [hW1]; exact Ext.alloc _ _
    have k0 : W1.cell? ⟨w.heap.size, 0, none⟩ = some (.slice a m ca) := by rw [hW1]; exact box_cell _ _ _ 0 _ rfl
    have k1 : W1.cell? ⟨w.heap.size, 1, none⟩ = some (.slice b l cb) := by rw [hW1]; exact box_cell _ _ _ 1 _ rfl
    clear hW1
    refine ((C1).out _ XX).mono ?_
    rintro e wN ⟨rfl, hxN⟩
    replace k0 := hxN.cell k0
    replace k1 := hxN.cell k1
    replace XX := XX.trans hxN
    clear hxN
    go_wp2_with (first | (go_at_call 58; refine (C3.out _ XX).mono ?_; rintro e wN ⟨rfl, hxN⟩; replace XX := XX.trans hxN) | (go_at_call 51; refine (c_fgTime _ _).mono ?_; rintro e w' ⟨rfl, rfl⟩))
    go_ret2
    exact ⟨rfl, XX⟩
set_option maxRecDepth 100000 in
set_option maxHeartbeats 1000000 in
theorem c_sNextClear (v : Value) (la ha : Nat) (x : NetT) (vf : Value) (lb hb : Nat) (F : List FogT) (i t : Int) (w : World) (h : Nets w la ha v x) (hh : ha ≤ w.heap.size) (h2 : Fogs w lb hb vf F) (hh2 : hb ≤ w.heap.size) :
    Calls Try.prog 21 #[v, vf, .int .i64 i, .int .i64 t] w fun e w' => e = .returned (.tuple #[.int .i64 (if askF x F i t t then stF i 1 t F else 0), .bool (askF x F i t t)]) ∧ Ext w w' := by
  obtain ⟨q, hq⟩ : ∃ q, q = askF x F i t t := ⟨_, rfl⟩
  rw [← hq]
  obtain ⟨r, hr⟩ : ∃ r, r = stF i 1 t F := ⟨_, rfl⟩
  rw [← hr]
  have C2 : Hid (q = true → ∀ W, Ext w W → Calls Try.prog 57 #[vf, .int .i64 i, .int .i64 t] W fun e w' => e = .returned (.int .i64 r) ∧ Ext W w') := fun hqt W hX => by
    have h8 : askF x F i t t = true := hq ▸ hqt
    have h9 := c_fgNext vf lb hb x.2.length F i t W (h2.ext hX hh2) (fogsB_mem (askF_good h8).1) (askF_good h8).2.1 (askF_good h8).2.2.2
    rw [hr]; exact h9
  obtain ⟨qa, hqa⟩ : ∃ q, q = hasF x F i := ⟨_, rfl⟩
  have C1 : Hid (∀ W, Ext w W → Calls Try.prog 50 #[v, vf, .int .i64 i] W fun e w' => e = .returned (.bool qa) ∧ Ext W w') := fun W hX => by rw [hqa]; exact c_fgHas v vf la ha lb hb x F i W (h.ext hX hh) (Nat.le_trans hh hX.size) (h2.ext hX hh2) (Nat.le_trans hh2 hX.size)
  rw [askF_tt, ← hqa] at hq
  clear hqa hr
  obtain ⟨a, ca, b, cb, rfl, ⟨m1, m2⟩, m3, m4⟩ := h.form
  obtain ⟨a2, ca2, rfl, m5, m6⟩ := Row.form h2
  obtain ⟨T, L⟩ := x
  clear h h2
  dsimp only at *
  generalize T.length = m at *
  generalize L.length = l at *
  generalize F.length = n at *
  cases qa
  · subst hq
    clear C2
    go_enter Try.func21, Try.ntmps21
    go_wp2_with fail
    obtain ⟨W1, hW1⟩ : ∃ W, W = w.alloc (.cells #[.slice a m ca, .slice b l cb] 34) := ⟨_, rfl⟩
    rw [← hW1]
    have XX : Ext w W1 := by rw [hW1]; exact Ext.alloc _ _
    have k0 : W1.cell? ⟨w.heap.size, 0, none⟩ = some (.slice a m ca) := by rw [hW1]; exact box_cell _ _ _ 0 _ rfl
    have k1 : W1.cell? ⟨w.heap.size, 1, none⟩ = some (.slice b l cb) := by rw [hW1]; exact box_cell _ _ _ 1 _ rfl
    clear hW1
    refine ((C1).out _ XX).mono ?_
    rintro e wN ⟨rfl, hxN⟩
    replace k0 := hxN.cell k0
    replace k1 := hxN.cell k1
    replace XX := XX.trans hxN
    clear hxN
    go_wp2_with (fail)
    go_ret2
    exact ⟨rfl, XX⟩
  cases e1 : inB 0 10000 t
  · rw [e1] at hq
    subst hq
    clear C2
    go_enter Try.func21, Try.ntmps21
    go_wp2_with fail
    obtain ⟨W1, hW1⟩ : ∃ W, W = w.alloc (.cells #[.slice a m ca, .slice b l cb] 34) := ⟨_, rfl⟩
    rw [← hW1]
    have XX : Ext w W1 := by rw [hW1]; exact Ext.alloc _ _
    have k0 : W1.cell? ⟨w.heap.size, 0, none⟩ = some (.slice a m ca) := by rw [hW1]; exact box_cell _ _ _ 0 _ rfl
    have k1 : W1.cell? ⟨w.heap.size, 1, none⟩ = some (.slice b l cb) := by rw [hW1]; exact box_cell _ _ _ 1 _ rfl
    clear hW1
    refine ((C1).out _ XX).mono ?_
    rintro e wN ⟨rfl, hxN⟩
    replace k0 := hxN.cell k0
    replace k1 := hxN.cell k1
    replace XX := XX.trans hxN
    clear hxN
    go_wp2_with ((go_at_call 51; refine (c_fgTime _ _).mono ?_; rintro e w' ⟨rfl, rfl⟩))
    go_ret2
    exact ⟨rfl, XX⟩
  · rw [e1] at hq
    subst hq
    have C3 := Lib.hid (C2.out rfl)
    clear C2
    go_enter Try.func21, Try.ntmps21
    go_wp2_with fail
    obtain ⟨W1, hW1⟩ : ∃ W, W = w.alloc (.cells #[.slice a m ca, .slice b l cb] 34) := ⟨_, rfl⟩
    rw [← hW1]
    have XX : Ext w W1 := by rw [hW1]; exact Ext.alloc _ _
    have k0 : W1.cell? ⟨w.heap.size, 0, none⟩ = some (.slice a m ca) := by rw [hW1]; exact box_cell _ _ _ 0 _ rfl
    have k1 : W1.cell? ⟨w.heap.size, 1, none⟩ = some (.slice b l cb) := by rw [hW1]; exact box_cell _ _ _ 1 _ rfl
    clear hW1
    refine ((C1).out _ XX).mono ?_
    rintro e wN ⟨rfl, hxN⟩
    replace k0 := hxN.cell k0
    replace k1 := hxN.cell k1
    replace XX := XX.trans hxN
    clear hxN
    go_wp2_with (first | (go_at_call 57; refine (C3.out _ XX).mono ?_; rintro e wN ⟨rfl, hxN⟩; replace XX := XX.trans hxN) | (go_at_call 51; refine (c_fgTime _ _).mono ?_; rintro e w' ⟨rfl, rfl⟩))
    go_ret2
    exact ⟨rfl, XX⟩
set_option maxRecDepth 100000 in
set_option maxHeartbeats 1000000 in
theorem c_sEarliest (v : Value) (la ha : Nat) (x : NetT) (vf : Value) (lb hb : Nat) (F : List FogT) (i t s : Int) (w : World) (h : Nets w la ha v x) (hh : ha ≤ w.heap.size) (h2 : Fogs w lb hb vf F) (hh2 : hb ≤ w.heap.size) :
    Calls Try.prog 19 #[v, vf, .int .i64 i, .int .i64 t, .int .i64 s] w fun e w' => e = .returned (.tuple #[.int .i64 (if (askF x F i t t && inB 1 1000 s) then stF i s t F else 0), .bool ((askF x F i t t && inB 1 1000 s))]) ∧ Ext w w' := by
  obtain ⟨q, hq⟩ : ∃ q, q = (askF x F i t t && inB 1 1000 s) := ⟨_, rfl⟩
  rw [← hq]
  obtain ⟨r, hr⟩ : ∃ r, r = stF i s t F := ⟨_, rfl⟩
  rw [← hr]
  have C2 : Hid (q = true → ∀ W, Ext w W → Calls Try.prog 53 #[vf, .int .i64 i, .int .i64 t, .int .i64 s] W fun e w' => e = .returned (.int .i64 r) ∧ Ext W w') := fun hqt W hX => by
    have h8 : (askF x F i t t && inB 1 1000 s) = true := hq ▸ hqt
    have h9 := c_fgStart vf lb hb x.2.length F i t s W (h2.ext hX hh2) (fogsB_mem (est_good h8).1) (est_good h8).2.1 (est_good h8).2.2.1 (est_good h8).2.2.2.1 (est_good h8).2.2.2.2
    rw [hr]; exact h9
  obtain ⟨qa, hqa⟩ : ∃ q, q = hasF x F i := ⟨_, rfl⟩
  have C1 : Hid (∀ W, Ext w W → Calls Try.prog 50 #[v, vf, .int .i64 i] W fun e w' => e = .returned (.bool qa) ∧ Ext W w') := fun W hX => by rw [hqa]; exact c_fgHas v vf la ha lb hb x F i W (h.ext hX hh) (Nat.le_trans hh hX.size) (h2.ext hX hh2) (Nat.le_trans hh2 hX.size)
  rw [askF_tt, ← hqa] at hq
  clear hqa hr
  obtain ⟨a, ca, b, cb, rfl, ⟨m1, m2⟩, m3, m4⟩ := h.form
  obtain ⟨a2, ca2, rfl, m5, m6⟩ := Row.form h2
  obtain ⟨T, L⟩ := x
  clear h h2
  dsimp only at *
  generalize T.length = m at *
  generalize L.length = l at *
  generalize F.length = n at *
  cases qa
  · subst hq
    clear C2
    go_enter Try.func19, Try.ntmps19
    go_wp2_with fail
    obtain ⟨W1, hW1⟩ : ∃ W, W = w.alloc (.cells #[.slice a m ca, .slice b l cb] 34) := ⟨_, rfl⟩
    rw [← hW1]
    have XX : Ext w W1 := by rw [hW1]; exact Ext.alloc _ _
    have k0 : W1.cell? ⟨w.heap.size, 0, none⟩ = some (.slice a m ca) := by rw [hW1]; exact box_cell _ _ _ 0 _ rfl
    have k1 : W1.cell? ⟨w.heap.size, 1, none⟩ = some (.slice b l cb) := by rw [hW1]; exact box_cell _ _ _ 1 _ rfl
    clear hW1
    refine ((C1).out _ XX).mono ?_
    rintro e wN ⟨rfl, hxN⟩
    replace k0 := hxN.cell k0
    replace k1 := hxN.cell k1
    replace XX := XX.trans hxN
    clear hxN
    go_wp2_with (fail)
    go_ret2
    exact ⟨rfl, XX⟩
  cases e1 : inB 0 10000 t
  · rw [e1] at hq
    subst hq
    clear C2
    go_enter Try.func19, Try.ntmps19
    go_wp2_with fail
    obtain ⟨W1, hW1⟩ : ∃ W, W = w.alloc (.cells #[.slice a m ca, .slice b l cb] 34) := ⟨_, rfl⟩
    rw [← hW1]
    have XX : Ext w W1 := by rw [hW1]; exact Ext.alloc _ _
    have k0 : W1.cell? ⟨w.heap.size, 0, none⟩ = some (.slice a m ca) := by rw [hW1]; exact box_cell _ _ _ 0 _ rfl
    have k1 : W1.cell? ⟨w.heap.size, 1, none⟩ = some (.slice b l cb) := by rw [hW1]; exact box_cell _ _ _ 1 _ rfl
    clear hW1
    refine ((C1).out _ XX).mono ?_
    rintro e wN ⟨rfl, hxN⟩
    replace k0 := hxN.cell k0
    replace k1 := hxN.cell k1
    replace XX := XX.trans hxN
    clear hxN
    go_wp2_with ((go_at_call 51; refine (c_fgTime _ _).mono ?_; rintro e w' ⟨rfl, rfl⟩))
    go_ret2
    exact ⟨rfl, XX⟩
  cases e2 : inB 1 1000 s
  · rw [e1, e2] at hq
    subst hq
    clear C2
    go_enter Try.func19, Try.ntmps19
    go_wp2_with fail
    obtain ⟨W1, hW1⟩ : ∃ W, W = w.alloc (.cells #[.slice a m ca, .slice b l cb] 34) := ⟨_, rfl⟩
    rw [← hW1]
    have XX : Ext w W1 := by rw [hW1]; exact Ext.alloc _ _
    have k0 : W1.cell? ⟨w.heap.size, 0, none⟩ = some (.slice a m ca) := by rw [hW1]; exact box_cell _ _ _ 0 _ rfl
    have k1 : W1.cell? ⟨w.heap.size, 1, none⟩ = some (.slice b l cb) := by rw [hW1]; exact box_cell _ _ _ 1 _ rfl
    clear hW1
    refine ((C1).out _ XX).mono ?_
    rintro e wN ⟨rfl, hxN⟩
    replace k0 := hxN.cell k0
    replace k1 := hxN.cell k1
    replace XX := XX.trans hxN
    clear hxN
    go_wp2_with (first | (go_at_call 51; refine (c_fgTime _ _).mono ?_; rintro e w' ⟨rfl, rfl⟩) | (go_at_call 52; refine (l1In_c _ _ _ _).mono ?_; rintro e w' ⟨rfl, rfl⟩))
    go_ret2
    exact ⟨rfl, XX⟩
  · rw [e1, e2] at hq
    subst hq
    have C3 := Lib.hid (C2.out rfl)
    clear C2
    go_enter Try.func19, Try.ntmps19
    go_wp2_with fail
    obtain ⟨W1, hW1⟩ : ∃ W, W = w.alloc (.cells #[.slice a m ca, .slice b l cb] 34) := ⟨_, rfl⟩
    rw [← hW1]
    have XX : Ext w W1 := by rw [hW1]; exact Ext.alloc _ _
    have k0 : W1.cell? ⟨w.heap.size, 0, none⟩ = some (.slice a m ca) := by rw [hW1]; exact box_cell _ _ _ 0 _ rfl
    have k1 : W1.cell? ⟨w.heap.size, 1, none⟩ = some (.slice b l cb) := by rw [hW1]; exact box_cell _ _ _ 1 _ rfl
    clear hW1
    refine ((C1).out _ XX).mono ?_
    rintro e wN ⟨rfl, hxN⟩
    replace k0 := hxN.cell k0
    replace k1 := hxN.cell k1
    replace XX := XX.trans hxN
    clear hxN
    go_wp2_with (first | (go_at_call 53; refine (C3.out _ XX).mono ?_; rintro e wN ⟨rfl, hxN⟩; replace XX := XX.trans hxN) | (go_at_call 51; refine (c_fgTime _ _).mono ?_; rintro e w' ⟨rfl, rfl⟩) | (go_at_call 52; refine (l1In_c _ _ _ _).mono ?_; rintro e w' ⟨rfl, rfl⟩))
    go_ret2
    exact ⟨rfl, XX⟩
set_option maxRecDepth 100000 in
set_option maxHeartbeats 1000000 in
theorem c_sFogSeconds (v : Value) (la ha : Nat) (x : NetT) (vf : Value) (lb hb : Nat) (F : List FogT) (i a0 b0 : Int) (w : World) (h : Nets w la ha v x) (hh : ha ≤ w.heap.size) (h2 : Fogs w lb hb vf F) (hh2 : hb ≤ w.heap.size) :
    Calls Try.prog 25 #[v, vf, .int .i64 i, .int .i64 a0, .int .i64 b0] w fun e w' => e = .returned (.tuple #[.int .i64 (if askF x F i a0 b0 then secF i a0 b0 F else 0), .bool (askF x F i a0 b0)]) ∧ Ext w w' := by
  obtain ⟨q, hq⟩ : ∃ q, q = askF x F i a0 b0 := ⟨_, rfl⟩
  rw [← hq]
  obtain ⟨r, hr⟩ : ∃ r, r = secF i a0 b0 F := ⟨_, rfl⟩
  rw [← hr]
  have C2 : Hid (q = true → ∀ W, Ext w W → Calls Try.prog 61 #[vf, .int .i64 i, .int .i64 a0, .int .i64 b0] W fun e w' => e = .returned (.int .i64 r) ∧ Ext W w') := fun hqt W hX => by
    have h8 : askF x F i a0 b0 = true := hq ▸ hqt
    have h9 := c_fgSeconds vf lb hb x.2.length F i a0 b0 W (h2.ext hX hh2) (fogsB_mem (askF_good h8).1) (fogsB_len (askF_good h8).1) (askF_good h8).2.1 (by have := askF_good h8; omega) (by have := askF_good h8; omega) (askF_good h8).2.2.2
    rw [hr]; exact h9
  obtain ⟨qa, hqa⟩ : ∃ q, q = askF x F i a0 b0 := ⟨_, rfl⟩
  have C1 : Hid (∀ W, Ext w W → Calls Try.prog 60 #[v, vf, .int .i64 i, .int .i64 a0, .int .i64 b0] W fun e w' => e = .returned (.bool qa) ∧ Ext W w') := fun W hX => by rw [hqa]; exact c_fgSpan v vf la ha lb hb x F i a0 b0 W (h.ext hX hh) (Nat.le_trans hh hX.size) (h2.ext hX hh2) (Nat.le_trans hh2 hX.size)
  replace hq : q = qa := hq.trans hqa.symm
  clear hqa hr
  obtain ⟨a, ca, b, cb, rfl, ⟨m1, m2⟩, m3, m4⟩ := h.form
  obtain ⟨a2, ca2, rfl, m5, m6⟩ := Row.form h2
  obtain ⟨T, L⟩ := x
  clear h h2
  dsimp only at *
  generalize T.length = m at *
  generalize L.length = l at *
  generalize F.length = n at *
  cases qa
  · subst hq
    clear C2
    go_enter Try.func25, Try.ntmps25
    go_wp2_with fail
    obtain ⟨W1, hW1⟩ : ∃ W, W = w.alloc (.cells #[.slice a m ca, .slice b l cb] 34) := ⟨_, rfl⟩
    rw [← hW1]
    have XX : Ext w W1 := by rw [hW1]; exact Ext.alloc _ _
    have k0 : W1.cell? ⟨w.heap.size, 0, none⟩ = some (.slice a m ca) := by rw [hW1]; exact box_cell _ _ _ 0 _ rfl
    have k1 : W1.cell? ⟨w.heap.size, 1, none⟩ = some (.slice b l cb) := by rw [hW1]; exact box_cell _ _ _ 1 _ rfl
    clear hW1
    refine ((C1).out _ XX).mono ?_
    rintro e wN ⟨rfl, hxN⟩
    replace k0 := hxN.cell k0
    replace k1 := hxN.cell k1
    replace XX := XX.trans hxN
    clear hxN
    go_wp2_with (fail)
    go_ret2
    exact ⟨rfl, XX⟩
  · subst hq
    have C3 := Lib.hid (C2.out rfl)
    clear C2
    go_enter Try.func25, Try.ntmps25
    go_wp2_with fail
    obtain ⟨W1, hW1⟩ : ∃ W, W = w.alloc (.cells #[.slice a m ca, .slice b l cb] 34) := ⟨_, rfl⟩
    rw [← hW1]
    have XX : Ext w W1 := by rw [hW1]; exact Ext.alloc _ _
    have k0 : W1.cell? ⟨w.heap.size, 0, none⟩ = some (.slice a m ca) := by rw [hW1]; exact box_cell _ _ _ 0 _ rfl
    have k1 : W1.cell? ⟨w.heap.size, 1, none⟩ = some (.slice b l cb) := by rw [hW1]; exact box_cell _ _ _ 1 _ rfl
    clear hW1
    refine ((C1).out _ XX).mono ?_
    rintro e wN ⟨rfl, hxN⟩
    replace k0 := hxN.cell k0
    replace k1 := hxN.cell k1
    replace XX := XX.trans hxN
    clear hxN
    go_wp2_with (first | (go_at_call 61; refine (C3.out _ XX).mono ?_; rintro e wN ⟨rfl, hxN⟩; replace XX := XX.trans hxN) | fail)
    go_ret2
    exact ⟨rfl, XX⟩
end Go.Proofs.Ytngnagicgheenaa
