
/- SeesAt of the program and of the reference. -/
import Derived.Test.YtnoagmjajhlmjaaSees
import Derived.Test.YtnoagmjajhlmjaaIsSight
namespace Go.Proofs.Ytnoagmjajhlmjaa
open Go.RowKit

def askedB (D A B n : Int) (gs : List GroundT) : Bool := sightOk D A B gs && inB 0 3 n
set_option maxRecDepth 100000 in
theorem c_siAsked (D A B n : Int) (vg : Value) (lo hi : Nat) (gs : List GroundT) (w : World) (h : Grounds w lo hi vg gs) (hh : hi ≤ w.heap.size) :
    Calls Try.prog 47 #[.agg #[.int .i64 D, .int .i64 A, .int .i64 B, vg], .int .i64 n] w fun e w' => e = .returned (.bool (askedB D A B n gs)) ∧ Ext w w' := by
  have h0 := h
  obtain ⟨a, cap, rfl, m1, m2, _⟩ := h0
  have H := Lib.hid h
  clear h
  obtain ⟨r, hr⟩ : ∃ r, r = askedB D A B n gs := ⟨_, rfl⟩
  rw [← hr]
  unfold askedB at hr
  obtain ⟨s, hs⟩ : ∃ s, s = sightOk D A B gs := ⟨_, rfl⟩
  have CS : Hid (∀ W, Ext w W → Calls Try.prog 39 #[.agg #[.int .i64 D, .int .i64 A, .int .i64 B, .slice a gs.length cap]] W fun e w' => e = .returned (.bool s) ∧ Ext W w') :=
    fun W hX => by rw [hs]; exact c_siGood D A B _ lo hi gs W (H.out.ext hX hh)
  rw [← hs] at hr
  clear hs
  cases s
  all_goals
    simp at hr
    have HR := Lib.hid hr
    clear hr
    go_enter Try.func47, Try.ntmps47
    go_wp2_with fail
    have B1 : (w.alloc (.cells #[.int .i64 D, .int .i64 A, .int .i64 B, .slice a gs.length cap] 28)).heap[w.heap.size]? = some (.cells #[.int .i64 D, .int .i64 A, .int .i64 B, .slice a gs.length cap] 28) := blk_alloc _ _
    have X1 := Ext.alloc w (.cells #[.int .i64 D, .int .i64 A, .int .i64 B, .slice a gs.length cap] 28)
    generalize w.alloc (.cells #[.int .i64 D, .int .i64 A, .int .i64 B, .slice a gs.length cap] 28) = w1 at *
    refine (CS.out _ X1).mono ?_
    rintro e w2 ⟨rfl, hx2⟩
    go_wp2_with (go_at_call 53; refine (c_siBend _ _).mono ?_; rintro e w' ⟨rfl, rfl⟩)
    go_ret
    exact ⟨by rw [HR.out]; rfl, X1.trans hx2⟩

def seesV (D A B n : Int) (gs : List GroundT) : Bool := askedB D A B n gs && seesB D A B n gs
set_option maxRecDepth 100000 in
theorem c_iSeesAt (D A B n : Int) (vg : Value) (lo hi : Nat) (gs : List GroundT) (w : World) (h : Grounds w lo hi vg gs) (hh : hi ≤ w.heap.size) :
    Calls Try.prog 22 #[.agg #[.int .i64 D, .int .i64 A, .int .i64 B, vg], .int .i64 n] w fun e w' => e = .returned (.tuple #[.bool (seesV D A B n gs), .bool (askedB D A B n gs)]) ∧ Ext w w' := by
  have h0 := h
  obtain ⟨a, cap, rfl, m1, m2, _⟩ := h0
  have H := Lib.hid h
  clear h
  obtain ⟨r, hr⟩ : ∃ r, r = seesV D A B n gs := ⟨_, rfl⟩
  obtain ⟨y, hy⟩ : ∃ y, y = askedB D A B n gs := ⟨_, rfl⟩
  rw [← hr, ← hy]
  unfold seesV at hr
  rw [← hy] at hr
  have hy0 := hy
  unfold askedB at hy
  obtain ⟨s, hs⟩ : ∃ s, s = sightOk D A B gs := ⟨_, rfl⟩
  have CS : Hid (∀ W, Ext w W → Calls Try.prog 37 #[.agg #[.int .i64 D, .int .i64 A, .int .i64 B, .slice a gs.length cap]] W fun e w' => e = .returned (.bool s) ∧ Ext W w') :=
    fun W hX => by rw [hs]; exact c_IsSight D A B _ lo hi gs W (H.out.ext hX hh)
  rw [← hs] at hy
  cases s
  · simp at hy; subst hy; simp at hr; subst hr
    clear hy0 hs
    go_enter Try.func22, Try.ntmps22
    go_wp2_with fail
    have B1 : (w.alloc (.cells #[.int .i64 D, .int .i64 A, .int .i64 B, .slice a gs.length cap] 28)).heap[w.heap.size]? = some (.cells #[.int .i64 D, .int .i64 A, .int .i64 B, .slice a gs.length cap] 28) := blk_alloc _ _
    have X1 := Ext.alloc w (.cells #[.int .i64 D, .int .i64 A, .int .i64 B, .slice a gs.length cap] 28)
    generalize w.alloc (.cells #[.int .i64 D, .int .i64 A, .int .i64 B, .slice a gs.length cap] 28) = w1 at *
    refine (CS.out _ X1).mono ?_
    rintro e w2 ⟨rfl, hx2⟩
    go_wp2
    go_ret2
    exact ⟨rfl, X1.trans hx2⟩
  cases hn : inB 0 3 n
  · rw [hn] at hy; simp at hy; subst hy; simp at hr; subst hr
    clear hy0 hs
    go_enter Try.func22, Try.ntmps22
    go_wp2_with fail
    have B1 : (w.alloc (.cells #[.int .i64 D, .int .i64 A, .int .i64 B, .slice a gs.length cap] 28)).heap[w.heap.size]? = some (.cells #[.int .i64 D, .int .i64 A, .int .i64 B, .slice a gs.length cap] 28) := blk_alloc _ _
    have X1 := Ext.alloc w (.cells #[.int .i64 D, .int .i64 A, .int .i64 B, .slice a gs.length cap] 28)
    generalize w.alloc (.cells #[.int .i64 D, .int .i64 A, .int .i64 B, .slice a gs.length cap] 28) = w1 at *
    refine (CS.out _ X1).mono ?_
    rintro e w2 ⟨rfl, hx2⟩
    go_wp2_with (go_at_call 45; refine (within_c _ _ _ _).mono ?_; rintro e w' ⟨rfl, rfl⟩)
    go_ret2
    exact ⟨rfl, X1.trans hx2⟩
  · rw [hn] at hy; simp at hy; subst hy; simp at hr
    obtain ⟨ok1, ok2, ok3, _, _⟩ := ok_of_sight hs.symm hn
    have CE : Hid (∀ W, Ext w W → Calls Try.prog 46 #[.agg #[.int .i64 D, .int .i64 A, .int .i64 B, .slice a gs.length cap], .int .i64 n] W fun e w' => e = .returned (.bool r) ∧ Ext W w') :=
      fun W hX => by rw [hr]; exact c_sees D A B n _ lo hi gs W (H.out.ext hX hh) (Nat.le_trans hh hX.size) ok1 ok2
    clear hy0 hs hr ok1 ok2 ok3
    go_enter Try.func22, Try.ntmps22
    go_wp2_with fail
    have B1 : (w.alloc (.cells #[.int .i64 D, .int .i64 A, .int .i64 B, .slice a gs.length cap] 28)).heap[w.heap.size]? = some (.cells #[.int .i64 D, .int .i64 A, .int .i64 B, .slice a gs.length cap] 28) := blk_alloc _ _
    have X1 := Ext.alloc w (.cells #[.int .i64 D, .int .i64 A, .int .i64 B, .slice a gs.length cap] 28)
    generalize w.alloc (.cells #[.int .i64 D, .int .i64 A, .int .i64 B, .slice a gs.length cap] 28) = w1 at *
    refine (CS.out _ X1).mono ?_
    rintro e w2 ⟨rfl, hx2⟩
    have B2 := hx2.blk B1
    have k0 := blk_cell B2 (j := 0) rfl
    have k1 := blk_cell B2 (j := 1) rfl
    have k2 := blk_cell B2 (j := 2) rfl
    have k3 := blk_cell B2 (j := 3) rfl
    go_wp2_with (first | (go_at_call 45; refine (within_c _ _ _ _).mono ?_; rintro e w' ⟨rfl, rfl⟩) | (go_at_call 46; refine (CE.out _ (X1.trans hx2)).mono ?_; rintro e w3 ⟨rfl, hx3⟩))
    go_ret2
    exact ⟨rfl, (X1.trans hx2).trans hx3⟩
set_option maxRecDepth 100000 in
theorem c_sSeesAt (D A B n : Int) (vg : Value) (lo hi : Nat) (gs : List GroundT) (w : World) (h : Grounds w lo hi vg gs) (hh : hi ≤ w.heap.size) :
    Calls Try.prog 24 #[.agg #[.int .i64 D, .int .i64 A, .int .i64 B, vg], .int .i64 n] w fun e w' => e = .returned (.tuple #[.bool (seesV D A B n gs), .bool (askedB D A B n gs)]) ∧ Ext w w' := by
  have h0 := h
  obtain ⟨a, cap, rfl, m1, m2, _⟩ := h0
  have H := Lib.hid h
  clear h
  obtain ⟨r, hr⟩ : ∃ r, r = seesV D A B n gs := ⟨_, rfl⟩
  obtain ⟨y, hy⟩ : ∃ y, y = askedB D A B n gs := ⟨_, rfl⟩
  rw [← hr, ← hy]
  unfold seesV at hr
  rw [← hy] at hr
  have CS : Hid (∀ W, Ext w W → Calls Try.prog 47 #[.agg #[.int .i64 D, .int .i64 A, .int .i64 B, .slice a gs.length cap], .int .i64 n] W fun e w' => e = .returned (.bool y) ∧ Ext W w') :=
    fun W hX => by rw [hy]; exact c_siAsked D A B n _ lo hi gs W (H.out.ext hX hh) (Nat.le_trans hh hX.size)
  cases y
  · simp at hr; subst hr
    clear hy
    go_enter Try.func24, Try.ntmps24
    go_wp2_with fail
    have B1 : (w.alloc (.cells #[.int .i64 D, .int .i64 A, .int .i64 B, .slice a gs.length cap] 28)).heap[w.heap.size]? = some (.cells #[.int .i64 D, .int .i64 A, .int .i64 B, .slice a gs.length cap] 28) := blk_alloc _ _
    have X1 := Ext.alloc w (.cells #[.int .i64 D, .int .i64 A, .int .i64 B, .slice a gs.length cap] 28)
    generalize w.alloc (.cells #[.int .i64 D, .int .i64 A, .int .i64 B, .slice a gs.length cap] 28) = w1 at *
    refine (CS.out _ X1).mono ?_
    rintro e w2 ⟨rfl, hx2⟩
    go_wp2
    go_ret2
    exact ⟨rfl, X1.trans hx2⟩
  · simp at hr
    unfold askedB at hy
    have hy2 := hy.symm
    simp only [Bool.and_eq_true] at hy2
    obtain ⟨ok1, ok2, ok3, _, _⟩ := ok_of_sight hy2.1 hy2.2
    have CE : Hid (∀ W, Ext w W → Calls Try.prog 48 #[.agg #[.int .i64 D, .int .i64 A, .int .i64 B, .slice a gs.length cap], .int .i64 n] W fun e w' => e = .returned (.bool r) ∧ Ext W w') :=
      fun W hX => by rw [hr]; exact c_siSees D A B n _ lo hi gs W (H.out.ext hX hh) (Nat.le_trans hh hX.size) ok1 ok2 ok3
    clear hy hy2 hr ok1 ok2 ok3
    go_enter Try.func24, Try.ntmps24
    go_wp2_with fail
    have B1 : (w.alloc (.cells #[.int .i64 D, .int .i64 A, .int .i64 B, .slice a gs.length cap] 28)).heap[w.heap.size]? = some (.cells #[.int .i64 D, .int .i64 A, .int .i64 B, .slice a gs.length cap] 28) := blk_alloc _ _
    have X1 := Ext.alloc w (.cells #[.int .i64 D, .int .i64 A, .int .i64 B, .slice a gs.length cap] 28)
    generalize w.alloc (.cells #[.int .i64 D, .int .i64 A, .int .i64 B, .slice a gs.length cap] 28) = w1 at *
    refine (CS.out _ X1).mono ?_
    rintro e w2 ⟨rfl, hx2⟩
    have B2 := hx2.blk B1
    have k0 := blk_cell B2 (j := 0) rfl
    have k1 := blk_cell B2 (j := 1) rfl
    have k2 := blk_cell B2 (j := 2) rfl
    have k3 := blk_cell B2 (j := 3) rfl
    go_wp2_with (go_at_call 48; refine (CE.out _ (X1.trans hx2)).mono ?_; rintro e w3 ⟨rfl, hx3⟩)
    go_ret2
    exact ⟨rfl, (X1.trans hx2).trans hx3⟩
end Go.Proofs.Ytnoagmjajhlmjaa
