


/- What the questions about fogs ask first: the program's and the reference's. -/
import Derived.Test.YtngnagicgheenaaFogG
namespace Go.Proofs.Ytngnagicgheenaa
open Go.RowKit
def hasL (x : NetT) (i : Int) : Bool := netB x && inB 0 ((x.2.length : Int) - 1) i
def hasF (x : NetT) (F : List FogT) (i : Int) : Bool := netB x && (fogsB x.2.length F && inB 0 ((x.2.length : Int) - 1) i)
def tmB (a b : Int) : Bool := decide (0 ≤ a) && (decide (a ≤ b) && decide (b ≤ 10000))
def askF (x : NetT) (F : List FogT) (i a b : Int) : Bool := hasF x F i && tmB a b
set_option maxRecDepth 100000 in
theorem c_isLink (v : Value) (la ha : Nat) (x : NetT) (i : Int) (w : World) (h : Nets w la ha v x) (hh : ha ≤ w.heap.size) :
    Calls Try.prog 78 #[v, .int .i64 i] w fun e w' => e = .returned (.bool (hasL x i)) ∧ Ext w w' := by
  obtain ⟨r, hr⟩ : ∃ r, r = hasL x i := ⟨_, rfl⟩
  rw [← hr]
  unfold hasL at hr
  obtain ⟨q, hq⟩ : ∃ q, q = netB x := ⟨_, rfl⟩
  rw [← hq] at hr
  have CG : Hid (∀ W, Ext w W → Calls Try.prog 45 #[v] W fun e w' => e = .returned (.bool q) ∧ Ext W w') := fun W hX => by rw [hq]; exact c_IsNet v la ha x W (h.ext hX hh) (Nat.le_trans hh hX.size)
  clear hq
  obtain ⟨a, ca, b, cb, rfl, ⟨m1, m2⟩, m3, m4⟩ := h.form
  obtain ⟨T, L⟩ := x
  clear h
  dsimp only at *
  generalize T.length = m at *
  generalize L.length = l at *
  cases q
  · have HR := Lib.hid (hr.trans (Bool.false_and _))
    clear hr
    go_enter Try.func78, Try.ntmps78
    go_wp2_with fail
    obtain ⟨W1, hW1⟩ : ∃ W, W = w.alloc (.cells #[.slice a m ca, .slice b l cb] 34) := ⟨_, rfl⟩
    rw [← hW1]
    have XX : Ext w W1 := by rw [hW1]; exact Ext.alloc _ _
    have k0 : W1.cell? ⟨w.heap.size, 0, none⟩ = some (.slice a m ca) := by rw [hW1]; exact box_cell _ _ _ 0 _ rfl
    have k1 : W1.cell? ⟨w.heap.size, 1, none⟩ = some (.slice b l cb) := by rw [hW1]; exact box_cell _ _ _ 1 _ rfl
    clear hW1
    refine ((CG).out _ XX).mono ?_
    rintro e wN ⟨rfl, hxN⟩
    replace k0 := hxN.cell k0
    replace k1 := hxN.cell k1
    replace XX := XX.trans hxN
    clear hxN
    go_wp2
    go_ret
    exact ⟨by rw [HR.out]; rfl, XX⟩
  · have HR := Lib.hid (hr.trans (Bool.true_and _))
    clear hr
    go_enter Try.func78, Try.ntmps78
    go_wp2_with fail
    obtain ⟨W1, hW1⟩ : ∃ W, W = w.alloc (.cells #[.slice a m ca, .slice b l cb] 34) := ⟨_, rfl⟩
    rw [← hW1]
    have XX : Ext w W1 := by rw [hW1]; exact Ext.alloc _ _
    have k0 : W1.cell? ⟨w.heap.size, 0, none⟩ = some (.slice a m ca) := by rw [hW1]; exact box_cell _ _ _ 0 _ rfl
    have k1 : W1.cell? ⟨w.heap.size, 1, none⟩ = some (.slice b l cb) := by rw [hW1]; exact box_cell _ _ _ 1 _ rfl
    clear hW1
    refine ((CG).out _ XX).mono ?_
    rintro e wN ⟨rfl, hxN⟩
    replace k0 := hxN.cell k0
    replace k1 := hxN.cell k1
    replace XX := XX.trans hxN
    clear hxN
    go_wp2_with (go_at_call 55; refine (within_c _ _ _ _).mono ?_; rintro e w' ⟨rfl, rfl⟩)
    go_ret
    exact ⟨by rw [HR.out]; rfl, XX⟩
set_option maxRecDepth 100000 in
set_option maxHeartbeats 1000000 in
theorem c_fgHas (v vf : Value) (la ha lb hb : Nat) (x : NetT) (F : List FogT) (i : Int) (w : World) (h : Nets w la ha v x) (hh : ha ≤ w.heap.size) (h2 : Fogs w lb hb vf F) (hh2 : hb ≤ w.heap.size) :
    Calls Try.prog 50 #[v, vf, .int .i64 i] w fun e w' => e = .returned (.bool (hasF x F i)) ∧ Ext w w' := by
  obtain ⟨r, hr⟩ : ∃ r, r = hasF x F i := ⟨_, rfl⟩
  rw [← hr]
  unfold hasF at hr
  obtain ⟨q1, hq1⟩ : ∃ q, q = netB x := ⟨_, rfl⟩
  obtain ⟨q2, hq2⟩ : ∃ q, q = fogsB x.2.length F := ⟨_, rfl⟩
  rw [← hq1, ← hq2] at hr
  have C1 : Hid (∀ W, Ext w W → Calls Try.prog 40 #[v] W fun e w' => e = .returned (.bool q1) ∧ Ext W w') := fun W hX => by rw [hq1]; exact c_neGood v la ha x W (h.ext hX hh) (Nat.le_trans hh hX.size)
  have C2 : Hid (∀ W, Ext w W → Calls Try.prog 41 #[v, vf] W fun e w' => e = .returned (.bool q2) ∧ Ext W w') := fun W hX => by rw [hq2]; exact c_fgGood v vf la ha lb hb x F W (h.ext hX hh) (Nat.le_trans hh hX.size) (h2.ext hX hh2) (Nat.le_trans hh2 hX.size)
  clear hq1 hq2
  obtain ⟨a, ca, b, cb, rfl, ⟨m1, m2⟩, m3, m4⟩ := h.form
  obtain ⟨a2, ca2, rfl, m5, m6⟩ := Row.form h2
  obtain ⟨T, L⟩ := x
  clear h h2
  dsimp only at *
  generalize T.length = m at *
  generalize L.length = l at *
  generalize F.length = n at *
  cases q1
  · have HR : Hid (r = false) := by unfold Hid; rw [hr]; rfl
    clear hr
    go_enter Try.func50, Try.ntmps50
    go_wp2_with fail
    obtain ⟨W1, hW1⟩ : ∃ W, W = w.alloc (.cells #[.slice a m ca, .slice b l cb] 34) := ⟨_, rfl⟩
    rw [← hW1]
    have XX : Ext w W1 := by rw [hW1]; exact Ext.alloc _ _
    have k0 : W1.cell? ⟨w.heap.size, 0, none⟩ = some (.slice a m ca) := by rw [hW1]; exact box_cell _ _ _ 0 _ rfl
    have k1 : W1.cell? ⟨w.heap.size, 1, none⟩ = some (.slice b l cb) := by rw [hW1]; exact box_cell _ _ _ 1 _ rfl
    clear hW1
    refine ((C1).out _ XX).mono ?_
    rintro e wN ⟨rfl, hxN⟩
    replace k0 := hxN.cell k0
    replace k1 := hxN.cell k1
    replace XX := XX.trans hxN
    clear hxN
    go_wp2_with (fail)
    go_ret
    exact ⟨by rw [HR.out]; rfl, XX⟩
  cases q2
  · have HR : Hid (r = false) := by unfold Hid; rw [hr]; rfl
    clear hr
    go_enter Try.func50, Try.ntmps50
    go_wp2_with fail
    obtain ⟨W1, hW1⟩ : ∃ W, W = w.alloc (.cells #[.slice a m ca, .slice b l cb] 34) := ⟨_, rfl⟩
    rw [← hW1]
    have XX : Ext w W1 := by rw [hW1]; exact Ext.alloc _ _
    have k0 : W1.cell? ⟨w.heap.size, 0, none⟩ = some (.slice a m ca) := by rw [hW1]; exact box_cell _ _ _ 0 _ rfl
    have k1 : W1.cell? ⟨w.heap.size, 1, none⟩ = some (.slice b l cb) := by rw [hW1]; exact box_cell _ _ _ 1 _ rfl
    clear hW1
    refine ((C1).out _ XX).mono ?_
    rintro e wN ⟨rfl, hxN⟩
    replace k0 := hxN.cell k0
    replace k1 := hxN.cell k1
    replace XX := XX.trans hxN
    clear hxN
    go_wp2_with ((go_at_call 41; refine ((C2).out _ XX).mono ?_; rintro e wN ⟨rfl, hxN⟩; replace k0 := hxN.cell k0; replace k1 := hxN.cell k1; replace XX := XX.trans hxN; clear hxN))
    go_ret
    exact ⟨by rw [HR.out]; rfl, XX⟩
  · have HR : Hid (r = inB 0 ((l : Int) - 1) i) := by unfold Hid; rw [hr]; rfl
    clear hr
    go_enter Try.func50, Try.ntmps50
    go_wp2_with fail
    obtain ⟨W1, hW1⟩ : ∃ W, W = w.alloc (.cells #[.slice a m ca, .slice b l cb] 34) := ⟨_, rfl⟩
    rw [← hW1]
    have XX : Ext w W1 := by rw [hW1]; exact Ext.alloc _ _
    have k0 : W1.cell? ⟨w.heap.size, 0, none⟩ = some (.slice a m ca) := by rw [hW1]; exact box_cell _ _ _ 0 _ rfl
    have k1 : W1.cell? ⟨w.heap.size, 1, none⟩ = some (.slice b l cb) := by rw [hW1]; exact box_cell _ _ _ 1 _ rfl
    clear hW1
    refine ((C1).out _ XX).mono ?_
    rintro e wN ⟨rfl, hxN⟩
    replace k0 := hxN.cell k0
    replace k1 := hxN.cell k1
    replace XX := XX.trans hxN
    clear hxN
    go_wp2_with (first | (go_at_call 41; refine ((C2).out _ XX).mono ?_; rintro e wN ⟨rfl, hxN⟩; replace k0 := hxN.cell k0; replace k1 := hxN.cell k1; replace XX := XX.trans hxN; clear hxN) | (go_at_call 52; refine (l1In_c _ _ _ _).mono ?_; rintro e w' ⟨rfl, rfl⟩))
    go_ret
    exact ⟨by rw [HR.out]; rfl, XX⟩
set_option maxRecDepth 100000 in
set_option maxHeartbeats 1000000 in
theorem c_fogAsked (v vf : Value) (la ha lb hb : Nat) (x : NetT) (F : List FogT) (i a0 b0 : Int) (w : World) (h : Nets w la ha v x) (hh : ha ≤ w.heap.size) (h2 : Fogs w lb hb vf F) (hh2 : hb ≤ w.heap.size) :
    Calls Try.prog 54 #[v, vf, .int .i64 i, .int .i64 a0, .int .i64 b0] w fun e w' => e = .returned (.bool (askF x F i a0 b0)) ∧ Ext w w' := by
  obtain ⟨r, hr⟩ : ∃ r, r = askF x F i a0 b0 := ⟨_, rfl⟩
  rw [← hr]
  obtain ⟨q1, hq1⟩ : ∃ q, q = hasL x i := ⟨_, rfl⟩
  obtain ⟨q2, hq2⟩ : ∃ q, q = fogsB x.2.length F := ⟨_, rfl⟩
  replace hr : r = (q1 && (q2 && tmB a0 b0)) := by
    rw [hr, hq1, hq2]; unfold askF hasF hasL
    cases netB x <;> cases fogsB x.2.length F <;> cases inB 0 ((x.2.length : Int) - 1) i <;> rfl
  have C1 : Hid (∀ W, Ext w W → Calls Try.prog 78 #[v, .int .i64 i] W fun e w' => e = .returned (.bool q1) ∧ Ext W w') := fun W hX => by rw [hq1]; exact c_isLink v la ha x i W (h.ext hX hh) (Nat.le_trans hh hX.size)
  have C2 : Hid (∀ W, Ext w W → Calls Try.prog 46 #[v, vf] W fun e w' => e = .returned (.bool q2) ∧ Ext W w') := fun W hX => by rw [hq2]; exact c_areFogs v vf la ha lb hb x F W (h.ext hX hh) (Nat.le_trans hh hX.size) (h2.ext hX hh2) (Nat.le_trans hh2 hX.size)
  clear hq1 hq2
  obtain ⟨a, ca, b, cb, rfl, ⟨m1, m2⟩, m3, m4⟩ := h.form
  obtain ⟨a2, ca2, rfl, m5, m6⟩ := Row.form h2
  obtain ⟨T, L⟩ := x
  clear h h2
  dsimp only at *
  generalize T.length = m at *
  generalize L.length = l at *
  generalize F.length = n at *
  unfold tmB at hr
  cases q1
  · have HR : Hid (r = false) := by unfold Hid; rw [hr]; rfl
    clear hr
    go_enter Try.func54, Try.ntmps54
    go_wp2_with fail
    obtain ⟨W1, hW1⟩ : ∃ W, W = w.alloc (.cells #[.slice a m ca, .slice b l cb] 34) := ⟨_, rfl⟩
    rw [← hW1]
    have XX : Ext w W1 := by rw [hW1]; exact Ext.alloc _ _
    have k0 : W1.cell? ⟨w.heap.size, 0, none⟩ = some (.slice a m ca) := by rw [hW1]; exact box_cell _ _ _ 0 _ rfl
    have k1 : W1.cell? ⟨w.heap.size, 1, none⟩ = some (.slice b l cb) := by rw [hW1]; exact box_cell _ _ _ 1 _ rfl
    clear hW1
    refine ((C1).out _ XX).mono ?_
    rintro e wN ⟨rfl, hxN⟩
    replace k0 := hxN.cell k0
    replace k1 := hxN.cell k1
    replace XX := XX.trans hxN
    clear hxN
    go_wp2_with (fail)
    go_ret
    exact ⟨by rw [HR.out]; rfl, XX⟩
  cases q2
  · have HR : Hid (r = false) := by unfold Hid; rw [hr]; rfl
    clear hr
    go_enter Try.func54, Try.ntmps54
    go_wp2_with fail
    obtain ⟨W1, hW1⟩ : ∃ W, W = w.alloc (.cells #[.slice a m ca, .slice b l cb] 34) := ⟨_, rfl⟩
    rw [← hW1]
    have XX : Ext w W1 := by rw [hW1]; exact Ext.alloc _ _
    have k0 : W1.cell? ⟨w.heap.size, 0, none⟩ = some (.slice a m ca) := by rw [hW1]; exact box_cell _ _ _ 0 _ rfl
    have k1 : W1.cell? ⟨w.heap.size, 1, none⟩ = some (.slice b l cb) := by rw [hW1]; exact box_cell _ _ _ 1 _ rfl
    clear hW1
    refine ((C1).out _ XX).mono ?_
    rintro e wN ⟨rfl, hxN⟩
    replace k0 := hxN.cell k0
    replace k1 := hxN.cell k1
    replace XX := XX.trans hxN
    clear hxN
    go_wp2_with ((go_at_call 46; refine ((C2).out _ XX).mono ?_; rintro e wN ⟨rfl, hxN⟩; replace k0 := hxN.cell k0; replace k1 := hxN.cell k1; replace XX := XX.trans hxN; clear hxN))
    go_ret
    exact ⟨by rw [HR.out]; rfl, XX⟩
  by_cases e1 : 0 ≤ a0
  · by_cases e2 : a0 ≤ b0
    · have e2b : ¬ b0 < a0 := by omega
      have HR : Hid (r = decide (b0 ≤ 10000)) := by unfold Hid; rw [hr]; (rw [decide_eq_true e1, decide_eq_true e2]; rfl)
      clear hr
      go_enter Try.func54, Try.ntmps54
      go_wp2_with fail
      obtain ⟨W1, hW1⟩ : ∃ W, W = w.alloc (.cells #[.slice a m ca, .slice b l cb] 34) := ⟨_, rfl⟩
      rw [← hW1]
      have XX : Ext w W1 := by rw [hW1]; exact Ext.alloc _ _
      have k0 : W1.cell? ⟨w.heap.size, 0, none⟩ = some (.slice a m ca) := by rw [hW1]; exact box_cell _ _ _ 0 _ rfl
      have k1 : W1.cell? ⟨w.heap.size, 1, none⟩ = some (.slice b l cb) := by rw [hW1]; exact box_cell _ _ _ 1 _ rfl
      clear hW1
      refine ((C1).out _ XX).mono ?_
      rintro e wN ⟨rfl, hxN⟩
      replace k0 := hxN.cell k0
      replace k1 := hxN.cell k1
      replace XX := XX.trans hxN
      clear hxN
      go_wp2_with ((go_at_call 46; refine ((C2).out _ XX).mono ?_; rintro e wN ⟨rfl, hxN⟩; replace k0 := hxN.cell k0; replace k1 := hxN.cell k1; replace XX := XX.trans hxN; clear hxN))
      go_ret
      exact ⟨by rw [HR.out]; rfl, XX⟩
    · have e2b : b0 < a0 := by omega
      have HR : Hid (r = false) := by unfold Hid; rw [hr]; (rw [decide_eq_true e1, decide_eq_false e2]; rfl)
      clear hr
      go_enter Try.func54, Try.ntmps54
      go_wp2_with fail
      obtain ⟨W1, hW1⟩ : ∃ W, W = w.alloc (.cells #[.slice a m ca, .slice b l cb] 34) := ⟨_, rfl⟩
      rw [← hW1]
      have XX : Ext w W1 := by rw [hW1]; exact Ext.alloc _ _
      have k0 : W1.cell? ⟨w.heap.size, 0, none⟩ = some (.slice a m ca) := by rw [hW1]; exact box_cell _ _ _ 0 _ rfl
      have k1 : W1.cell? ⟨w.heap.size, 1, none⟩ = some (.slice b l cb) := by rw [hW1]; exact box_cell _ _ _ 1 _ rfl
      clear hW1
      refine ((C1).out _ XX).mono ?_
      rintro e wN ⟨rfl, hxN⟩
      replace k0 := hxN.cell k0
      replace k1 := hxN.cell k1
      replace XX := XX.trans hxN
      clear hxN
      go_wp2_with ((go_at_call 46; refine ((C2).out _ XX).mono ?_; rintro e wN ⟨rfl, hxN⟩; replace k0 := hxN.cell k0; replace k1 := hxN.cell k1; replace XX := XX.trans hxN; clear hxN))
      go_ret
      exact ⟨by rw [HR.out]; rfl, XX⟩
  · have e1b : a0 < 0 := by omega
    have HR : Hid (r = false) := by unfold Hid; rw [hr]; (rw [decide_eq_false e1]; rfl)
    clear hr
    go_enter Try.func54, Try.ntmps54
    go_wp2_with fail
    obtain ⟨W1, hW1⟩ : ∃ W, W = w.alloc (.cells #[.slice a m ca, .slice b l cb] 34) := ⟨_, rfl⟩
    rw [← hW1]
    have XX : Ext w W1 := by rw [hW1]; exact Ext.alloc _ _
    have k0 : W1.cell? ⟨w.heap.size, 0, none⟩ = some (.slice a m ca) := by rw [hW1]; exact box_cell _ _ _ 0 _ rfl
    have k1 : W1.cell? ⟨w.heap.size, 1, none⟩ = some (.slice b l cb) := by rw [hW1]; exact box_cell _ _ _ 1 _ rfl
    clear hW1
    refine ((C1).out _ XX).mono ?_
    rintro e wN ⟨rfl, hxN⟩
    replace k0 := hxN.cell k0
    replace k1 := hxN.cell k1
    replace XX := XX.trans hxN
    clear hxN
    go_wp2_with ((go_at_call 46; refine ((C2).out _ XX).mono ?_; rintro e wN ⟨rfl, hxN⟩; replace k0 := hxN.cell k0; replace k1 := hxN.cell k1; replace XX := XX.trans hxN; clear hxN))
    go_ret
    exact ⟨by rw [HR.out]; rfl, XX⟩
set_option maxRecDepth 100000 in
theorem c_fgTime (t : Int) (w : World) : Calls Try.prog 51 #[.int .i64 t] w fun e w' => e = .returned (.bool (inB 0 10000 t)) ∧ w = w' := by
  go_enter Try.func51, Try.ntmps51
  go_wp2_with (go_at_call 52; refine (l1In_c _ _ _ _).mono ?_; rintro e w' ⟨rfl, rfl⟩)
  go_ret
  exact ⟨rfl, rfl⟩
set_option maxRecDepth 100000 in
set_option maxHeartbeats 1000000 in
theorem c_fgSpan (v vf : Value) (la ha lb hb : Nat) (x : NetT) (F : List FogT) (i a0 b0 : Int) (w : World) (h : Nets w la ha v x) (hh : ha ≤ w.heap.size) (h2 : Fogs w lb hb vf F) (hh2 : hb ≤ w.heap.size) :
    Calls Try.prog 60 #[v, vf, .int .i64 i, .int .i64 a0, .int .i64 b0] w fun e w' => e = .returned (.bool (askF x F i a0 b0)) ∧ Ext w w' := by
  obtain ⟨r, hr⟩ : ∃ r, r = askF x F i a0 b0 := ⟨_, rfl⟩
  rw [← hr]
  obtain ⟨q1, hq1⟩ : ∃ q, q = hasF x F i := ⟨_, rfl⟩
  replace hr : r = (q1 && (inB 0 10000 a0 && (inB 0 10000 b0 && decide (a0 ≤ b0)))) := by
    rw [hr, hq1]; unfold askF tmB inB
    congr 1
    rw [Bool.eq_iff_iff]
    simp only [Bool.and_eq_true, decide_eq_true_eq]
    omega
  have C1 : Hid (∀ W, Ext w W → Calls Try.prog 50 #[v, vf, .int .i64 i] W fun e w' => e = .returned (.bool q1) ∧ Ext W w') := fun W hX => by rw [hq1]; exact c_fgHas v vf la ha lb hb x F i W (h.ext hX hh) (Nat.le_trans hh hX.size) (h2.ext hX hh2) (Nat.le_trans hh2 hX.size)
  clear hq1
  obtain ⟨a, ca, b, cb, rfl, ⟨m1, m2⟩, m3, m4⟩ := h.form
  obtain ⟨a2, ca2, rfl, m5, m6⟩ := Row.form h2
  obtain ⟨T, L⟩ := x
  clear h h2
  dsimp only at *
  generalize T.length = m at *
  generalize L.length = l at *
  generalize F.length = n at *
  cases q1
  · have HR : Hid (r = false) := by unfold Hid; rw [hr]; rfl
    clear hr
    go_enter Try.func60, Try.ntmps60
    go_wp2_with fail
    obtain ⟨W1, hW1⟩ : ∃ W, W = w.alloc (.cells #[.slice a m ca, .slice b l cb] 34) := ⟨_, rfl⟩
    rw [← hW1]
    have XX : Ext w W1 := by rw [hW1]; exact Ext.alloc _ _
    have k0 : W1.cell? ⟨w.heap.size, 0, none⟩ = some (.slice a m ca) := by rw [hW1]; exact box_cell _ _ _ 0 _ rfl
    have k1 : W1.cell? ⟨w.heap.size, 1, none⟩ = some (.slice b l cb) := by rw [hW1]; exact box_cell _ _ _ 1 _ rfl
    clear hW1
    refine ((C1).out _ XX).mono ?_
    rintro e wN ⟨rfl, hxN⟩
    replace k0 := hxN.cell k0
    replace k1 := hxN.cell k1
    replace XX := XX.trans hxN
    clear hxN
    go_wp2_with (fail)
    go_ret
    exact ⟨by rw [HR.out]; rfl, XX⟩
  cases e1 : inB 0 10000 a0
  · have HR : Hid (r = false) := by unfold Hid; rw [hr]; (rw [e1]; rfl)
    clear hr
    go_enter Try.func60, Try.ntmps60
    go_wp2_with fail
    obtain ⟨W1, hW1⟩ : ∃ W, W = w.alloc (.cells #[.slice a m ca, .slice b l cb] 34) := ⟨_, rfl⟩
    rw [← hW1]
    have XX : Ext w W1 := by rw [hW1]; exact Ext.alloc _ _
    have k0 : W1.cell? ⟨w.heap.size, 0, none⟩ = some (.slice a m ca) := by rw [hW1]; exact box_cell _ _ _ 0 _ rfl
    have k1 : W1.cell? ⟨w.heap.size, 1, none⟩ = some (.slice b l cb) := by rw [hW1]; exact box_cell _ _ _ 1 _ rfl
    clear hW1
    refine ((C1).out _ XX).mono ?_
    rintro e wN ⟨rfl, hxN⟩
    replace k0 := hxN.cell k0
    replace k1 := hxN.cell k1
    replace XX := XX.trans hxN
    clear hxN
    go_wp2_with ((go_at_call 51; refine (c_fgTime _ _).mono ?_; rintro e w' ⟨rfl, rfl⟩))
    go_ret
    exact ⟨by rw [HR.out]; rfl, XX⟩
  cases e2 : inB 0 10000 b0
  · have HR : Hid (r = false) := by unfold Hid; rw [hr]; (rw [e1, e2]; rfl)
    clear hr
    go_enter Try.func60, Try.ntmps60
    go_wp2_with fail
    obtain ⟨W1, hW1⟩ : ∃ W, W = w.alloc (.cells #[.slice a m ca, .slice b l cb] 34) := ⟨_, rfl⟩
    rw [← hW1]
    have XX : Ext w W1 := by rw [hW1]; exact Ext.alloc _ _
    have k0 : W1.cell? ⟨w.heap.size, 0, none⟩ = some (.slice a m ca) := by rw [hW1]; exact box_cell _ _ _ 0 _ rfl
    have k1 : W1.cell? ⟨w.heap.size, 1, none⟩ = some (.slice b l cb) := by rw [hW1]; exact box_cell _ _ _ 1 _ rfl
    clear hW1
    refine ((C1).out _ XX).mono ?_
    rintro e wN ⟨rfl, hxN⟩
    replace k0 := hxN.cell k0
    replace k1 := hxN.cell k1
    replace XX := XX.trans hxN
    clear hxN
    go_wp2_with ((go_at_call 51; refine (c_fgTime _ _).mono ?_; rintro e w' ⟨rfl, rfl⟩))
    go_ret
    exact ⟨by rw [HR.out]; rfl, XX⟩
  · have HR : Hid (r = decide (a0 ≤ b0)) := by unfold Hid; rw [hr]; (rw [e1, e2]; rfl)
    clear hr
    go_enter Try.func60, Try.ntmps60
    go_wp2_with fail
    obtain ⟨W1, hW1⟩ : ∃ W, W = w.alloc (.cells #[.slice a m ca, .slice b l cb] 34) := ⟨_, rfl⟩
    rw [← hW1]
    have XX : Ext w W1 := by rw [hW1]; exact Ext.alloc _ _
    have k0 : W1.cell? ⟨w.heap.size, 0, none⟩ = some (.slice a m ca) := by rw [hW1]; exact box_cell _ _ _ 0 _ rfl
    have k1 : W1.cell? ⟨w.heap.size, 1, none⟩ = some (.slice b l cb) := by rw [hW1]; exact box_cell _ _ _ 1 _ rfl
    clear hW1
    refine ((C1).out _ XX).mono ?_
    rintro e wN ⟨rfl, hxN⟩
    replace k0 := hxN.cell k0
    replace k1 := hxN.cell k1
    replace XX := XX.trans hxN
    clear hxN
    go_wp2_with ((go_at_call 51; refine (c_fgTime _ _).mono ?_; rintro e w' ⟨rfl, rfl⟩))
    go_ret
    exact ⟨by rw [HR.out]; rfl, XX⟩
end Go.Proofs.Ytngnagicgheenaa
