
/- LeastHeight and LeastRaise of the program and of the reference: their contracts. -/
import Derived.Test.YtnoagmjajhlmjaaSeesAt
namespace Go.Proofs.Ytnoagmjajhlmjaa
open Go.RowKit

/-- The first number from k on, of f numbers, for which p holds. -/
def srch (p : Nat → Bool) : Nat → Nat → Option Nat
  | 0, _ => none
  | f + 1, k => if p k then some k else srch p f (k + 1)
theorem blk_set {w : World} {b j : Nat} {C : Array Value} {t : TypeId} (h : w.heap[b]? = some (.cells C t (0, 0))) (v : Value) : (w.setCell ⟨b, j, none⟩ v).heap[b]? = some (.cells (C.setIfInBounds j v) t (0, 0)) :=
  heap_setCell_same w b j C t v h
def lhP (D A n : Int) (gs : List GroundT) (k : Nat) : Bool := seesB D A k n gs
def lrP (D A B n : Int) (gs : List GroundT) (k : Nat) : Bool := seesB D (A + k) (B + k) n gs
def lhR (D A B n : Int) (gs : List GroundT) : Option Nat := if askedB D A B n gs then srch (lhP D A n gs) 3001 0 else none
def lrR (D A B n : Int) (gs : List GroundT) : Option Nat := if askedB D A B n gs then srch (lrP D A B n gs) 3001 0 else none
abbrev optV (o : Option Nat) : Value := Value.tuple #[Value.int .i64 ((Option.getD o 0 : Nat) : Int), Value.bool (Option.isSome o)]

set_option maxRecDepth 100000 in
set_option maxHeartbeats 1000000 in
theorem c_iLeastHeight (D A B n : Int) (vg : Value) (lo hi : Nat) (gs : List GroundT) (w : World) (h : Grounds w lo hi vg gs) (hh : hi ≤ w.heap.size) :
    Calls Try.prog 14 #[.agg #[.int .i64 D, .int .i64 A, .int .i64 B, vg], .int .i64 n] w fun e w' => e = .returned (optV (lhR D A B n gs)) ∧ Ext w w' := by
  have h0 := h
  obtain ⟨a, cap, rfl, m1, m2, _⟩ := h0
  have H := Lib.hid h
  clear h
  obtain ⟨r, hr⟩ : ∃ r, r = lhR D A B n gs := ⟨_, rfl⟩
  rw [← hr]
  unfold lhR at hr
  obtain ⟨s, hs⟩ : ∃ s, s = sightOk D A B gs := ⟨_, rfl⟩
  obtain ⟨y, hy⟩ : ∃ y, y = askedB D A B n gs := ⟨_, rfl⟩
  rw [← hy] at hr
  have CS : Hid (∀ W, Ext w W → Calls Try.prog 37 #[.agg #[.int .i64 D, .int .i64 A, .int .i64 B, .slice a gs.length cap]] W fun e w' => e = .returned (.bool s) ∧ Ext W w') :=
    fun W hX => by rw [hs]; exact c_IsSight D A B _ lo hi gs W (H.out.ext hX hh)
  have CA : Hid (∀ W, Ext w W → Calls Try.prog 47 #[.agg #[.int .i64 D, .int .i64 A, .int .i64 B, .slice a gs.length cap], .int .i64 n] W fun e w' => e = .returned (.bool y) ∧ Ext W w') :=
    fun W hX => by rw [hy]; exact c_siAsked D A B n _ lo hi gs W (H.out.ext hX hh) (Nat.le_trans hh hX.size)
  unfold askedB at hy
  rw [← hs] at hy
  cases s
  · simp at hy; subst hy; simp at hr
    have HR := Lib.hid hr
    clear hr hs
    go_enter Try.func14, Try.ntmps14
    go_wp2_with (first | (go_at_call 37; refine (CS.out _ (Ext.alloc _ _)).mono ?_; rintro e w2 ⟨rfl, hx2⟩) | (go_at_call 45; refine (within_c _ _ _ _).mono ?_; rintro e w' ⟨rfl, rfl⟩))
    go_ret2
    refine ⟨?_, (Ext.alloc _ _).trans hx2⟩
    rw [HR.out]; rfl
  cases hn2 : inB 0 3 n
  · rw [hn2] at hy; simp at hy; subst hy; simp at hr
    have HR := Lib.hid hr
    clear hr hs
    go_enter Try.func14, Try.ntmps14
    go_wp2_with (first | (go_at_call 37; refine (CS.out _ (Ext.alloc _ _)).mono ?_; rintro e w2 ⟨rfl, hx2⟩) | (go_at_call 45; refine (within_c _ _ _ _).mono ?_; rintro e w' ⟨rfl, rfl⟩))
    go_ret2
    refine ⟨?_, (Ext.alloc _ _).trans hx2⟩
    rw [HR.out]; rfl
  rw [hn2] at hy; simp at hy; subst hy; simp at hr
  obtain ⟨ok1, ok2, ok3, ok4, ok5⟩ := ok_of_sight hs.symm hn2
  have CE : Hid (∀ (k : Nat) W, k ≤ 3000 → Ext w W → Calls Try.prog 46 #[.agg #[.int .i64 D, .int .i64 A, .int .i64 k, .slice a gs.length cap], .int .i64 n] W fun e w' => e = .returned (.bool (lhP D A n gs k)) ∧ Ext W w') :=
    fun k W hk hX => c_sees D A k n _ lo hi gs W (H.out.ext hX hh) (Nat.le_trans hh hX.size) ⟨ok1.d1, ok1.d2, ok1.a1, ok1.a2, by omega, by omega, ok1.n1, ok1.n2⟩ ok2
  have HR := Lib.hid hr
  clear hr hs ok1 ok2 ok3
  have B1 : (w.alloc (.cells #[.int .i64 D, .int .i64 A, .int .i64 B, .slice a gs.length cap] 28)).heap[w.heap.size]? = some (.cells #[.int .i64 D, .int .i64 A, .int .i64 B, .slice a gs.length cap] 28) := blk_alloc _ _
  have HB1 := Lib.hid B1
  clear B1
  go_enter Try.func14, Try.ntmps14
  go_wp2_with (first | (go_at_call 37; refine (CS.out _ (Ext.alloc _ _)).mono ?_; rintro e w2 ⟨rfl, hx2⟩) | (go_at_call 45; refine (within_c _ _ _ _).mono ?_; rintro e w' ⟨rfl, rfl⟩))
  go_loopw [6] (fun t wr => ∃ (k : Nat) (b : Int), k ≤ 3001 ∧ t = .int .i64 k ∧ wr.heap[w.heap.size]? = some (.cells #[.int .i64 D, .int .i64 A, .int .i64 b, .slice a gs.length cap] 28) ∧ Ext w wr ∧ Hid (r = srch (lhP D A n gs) (3001 - k) k)) (fun t _ => 3001 - (intOf t).toNat)
  case atStart => exact ⟨0, B, by omega, rfl, hx2.blk HB1.out, (Ext.alloc _ _).trans hx2, HR.out⟩
  case round =>
    obtain ⟨k, b, hk, rfl, hb, hx, hT⟩ := hrel
    have k0 := blk_cell hb (j := 0) rfl
    have k1 := blk_cell hb (j := 1) rfl
    have k2 := blk_cell hb (j := 2) rfl
    have k3 := blk_cell hb (j := 3) rfl
    have f0 := fun j => blk_free hb j
    by_cases hlt : k ≤ 3000
    · have hltI : (k : Int) ≤ 3000 := by omega
      obtain ⟨t, ht⟩ : ∃ t, t = lhP D A n gs k := ⟨_, rfl⟩
      have hT2 := hT.out
      rw [show 3001 - k = (3001 - (k + 1)) + 1 by omega, srch, ← ht] at hT2
      have HT2 := Lib.hid hT2
      have HBS := Lib.hid (blk_set (j := 2) hb (.int .i64 (k : Int)))
      have HXS := Lib.hid (hx.st (p := ⟨w.heap.size, 2, none⟩) (Nat.le_refl _) (.int .i64 (k : Int)))
      have CEk := CE.out k (wr.setCell ⟨w.heap.size, 2, none⟩ (.int .i64 (k : Int))) hlt HXS.out
      rw [← ht] at CEk
      have HCE := Lib.hid CEk
      clear hT2 ht hT hb CEk
      cases t
      · go_wp2_with (go_at_call 46; refine HCE.out.mono ?_; rintro e w3 ⟨rfl, hx3⟩)
        go_roundw
        case rel => exact ⟨k + 1, k, by omega, by go_num, hx3.blk HBS.out, HXS.out.trans hx3, HT2.out⟩
        case measure => simp [intOf]; omega
      · go_wp2_with (go_at_call 46; refine HCE.out.mono ?_; rintro e w3 ⟨rfl, hx3⟩)
        go_ret2
        exact ⟨by rw [HT2.out]; rfl, HXS.out.trans hx3⟩
    · have hT2 : Hid (r = none) := by
        have := hT.out
        rwa [show 3001 - k = 0 by omega] at this
      clear hT hb
      have hltI : ¬ ((k : Int) ≤ 3000) := by omega
      go_wp2
      go_ret2
      exact ⟨by rw [hT2.out]; rfl, hx⟩
set_option maxRecDepth 100000 in
set_option maxHeartbeats 1000000 in
theorem c_sLeastHeight (D A B n : Int) (vg : Value) (lo hi : Nat) (gs : List GroundT) (w : World) (h : Grounds w lo hi vg gs) (hh : hi ≤ w.heap.size) :
    Calls Try.prog 15 #[.agg #[.int .i64 D, .int .i64 A, .int .i64 B, vg], .int .i64 n] w fun e w' => e = .returned (optV (lhR D A B n gs)) ∧ Ext w w' := by
  have h0 := h
  obtain ⟨a, cap, rfl, m1, m2, _⟩ := h0
  have H := Lib.hid h
  clear h
  obtain ⟨r, hr⟩ : ∃ r, r = lhR D A B n gs := ⟨_, rfl⟩
  rw [← hr]
  unfold lhR at hr
  obtain ⟨s, hs⟩ : ∃ s, s = sightOk D A B gs := ⟨_, rfl⟩
  obtain ⟨y, hy⟩ : ∃ y, y = askedB D A B n gs := ⟨_, rfl⟩
  rw [← hy] at hr
  have CS : Hid (∀ W, Ext w W → Calls Try.prog 37 #[.agg #[.int .i64 D, .int .i64 A, .int .i64 B, .slice a gs.length cap]] W fun e w' => e = .returned (.bool s) ∧ Ext W w') :=
    fun W hX => by rw [hs]; exact c_IsSight D A B _ lo hi gs W (H.out.ext hX hh)
  have CA : Hid (∀ W, Ext w W → Calls Try.prog 47 #[.agg #[.int .i64 D, .int .i64 A, .int .i64 B, .slice a gs.length cap], .int .i64 n] W fun e w' => e = .returned (.bool y) ∧ Ext W w') :=
    fun W hX => by rw [hy]; exact c_siAsked D A B n _ lo hi gs W (H.out.ext hX hh) (Nat.le_trans hh hX.size)
  unfold askedB at hy
  rw [← hs] at hy
  cases s
  · simp at hy; subst hy; simp at hr
    have HR := Lib.hid hr
    clear hr hs
    go_enter Try.func15, Try.ntmps15
    go_wp2_with ((go_at_call 47; refine (CA.out _ (Ext.alloc _ _)).mono ?_; rintro e w2 ⟨rfl, hx2⟩))
    go_ret2
    refine ⟨?_, (Ext.alloc _ _).trans hx2⟩
    rw [HR.out]; rfl
  cases hn2 : inB 0 3 n
  · rw [hn2] at hy; simp at hy; subst hy; simp at hr
    have HR := Lib.hid hr
    clear hr hs
    go_enter Try.func15, Try.ntmps15
    go_wp2_with ((go_at_call 47; refine (CA.out _ (Ext.alloc _ _)).mono ?_; rintro e w2 ⟨rfl, hx2⟩))
    go_ret2
    refine ⟨?_, (Ext.alloc _ _).trans hx2⟩
    rw [HR.out]; rfl
  rw [hn2] at hy; simp at hy; subst hy; simp at hr
  obtain ⟨ok1, ok2, ok3, ok4, ok5⟩ := ok_of_sight hs.symm hn2
  have CE : Hid (∀ (k : Nat) W, k ≤ 3000 → Ext w W → Calls Try.prog 48 #[.agg #[.int .i64 D, .int .i64 A, .int .i64 k, .slice a gs.length cap], .int .i64 n] W fun e w' => e = .returned (.bool (lhP D A n gs k)) ∧ Ext W w') :=
    fun k W hk hX => c_siSees D A k n _ lo hi gs W (H.out.ext hX hh) (Nat.le_trans hh hX.size) ⟨ok1.d1, ok1.d2, ok1.a1, ok1.a2, by omega, by omega, ok1.n1, ok1.n2⟩ ok2 ok3
  have HR := Lib.hid hr
  clear hr hs ok1 ok2 ok3
  have B1 : (w.alloc (.cells #[.int .i64 D, .int .i64 A, .int .i64 B, .slice a gs.length cap] 28)).heap[w.heap.size]? = some (.cells #[.int .i64 D, .int .i64 A, .int .i64 B, .slice a gs.length cap] 28) := blk_alloc _ _
  have HB1 := Lib.hid B1
  clear B1
  go_enter Try.func15, Try.ntmps15
  go_wp2_with ((go_at_call 47; refine (CA.out _ (Ext.alloc _ _)).mono ?_; rintro e w2 ⟨rfl, hx2⟩))
  go_loopw [6] (fun t wr => ∃ (k : Nat) (b : Int), k ≤ 3001 ∧ t = .int .i64 k ∧ wr.heap[w.heap.size]? = some (.cells #[.int .i64 D, .int .i64 A, .int .i64 b, .slice a gs.length cap] 28) ∧ Ext w wr ∧ Hid (r = srch (lhP D A n gs) (3001 - k) k)) (fun t _ => 3001 - (intOf t).toNat)
  case atStart => exact ⟨0, B, by omega, rfl, hx2.blk HB1.out, (Ext.alloc _ _).trans hx2, HR.out⟩
  case round =>
    obtain ⟨k, b, hk, rfl, hb, hx, hT⟩ := hrel
    have k0 := blk_cell hb (j := 0) rfl
    have k1 := blk_cell hb (j := 1) rfl
    have k2 := blk_cell hb (j := 2) rfl
    have k3 := blk_cell hb (j := 3) rfl
    have f0 := fun j => blk_free hb j
    by_cases hlt : k ≤ 3000
    · have hltI : (k : Int) ≤ 3000 := by omega
      obtain ⟨t, ht⟩ : ∃ t, t = lhP D A n gs k := ⟨_, rfl⟩
      have hT2 := hT.out
      rw [show 3001 - k = (3001 - (k + 1)) + 1 by omega, srch, ← ht] at hT2
      have HT2 := Lib.hid hT2
      have HBS := Lib.hid (blk_set (j := 2) hb (.int .i64 (k : Int)))
      have HXS := Lib.hid (hx.st (p := ⟨w.heap.size, 2, none⟩) (Nat.le_refl _) (.int .i64 (k : Int)))
      have CEk := CE.out k (wr.setCell ⟨w.heap.size, 2, none⟩ (.int .i64 (k : Int))) hlt HXS.out
      rw [← ht] at CEk
      have HCE := Lib.hid CEk
      clear hT2 ht hT hb CEk
      cases t
      · go_wp2_with (go_at_call 48; refine HCE.out.mono ?_; rintro e w3 ⟨rfl, hx3⟩)
        go_roundw
        case rel => exact ⟨k + 1, k, by omega, by go_num, hx3.blk HBS.out, HXS.out.trans hx3, HT2.out⟩
        case measure => simp [intOf]; omega
      · go_wp2_with (go_at_call 48; refine HCE.out.mono ?_; rintro e w3 ⟨rfl, hx3⟩)
        go_ret2
        exact ⟨by rw [HT2.out]; rfl, HXS.out.trans hx3⟩
    · have hT2 : Hid (r = none) := by
        have := hT.out
        rwa [show 3001 - k = 0 by omega] at this
      clear hT hb
      have hltI : ¬ ((k : Int) ≤ 3000) := by omega
      go_wp2
      go_ret2
      exact ⟨by rw [hT2.out]; rfl, hx⟩
set_option maxRecDepth 100000 in
set_option maxHeartbeats 1000000 in
theorem c_iLeastRaise (D A B n : Int) (vg : Value) (lo hi : Nat) (gs : List GroundT) (w : World) (h : Grounds w lo hi vg gs) (hh : hi ≤ w.heap.size) :
    Calls Try.prog 17 #[.agg #[.int .i64 D, .int .i64 A, .int .i64 B, vg], .int .i64 n] w fun e w' => e = .returned (optV (lrR D A B n gs)) ∧ Ext w w' := by
  have h0 := h
  obtain ⟨a, cap, rfl, m1, m2, _⟩ := h0
  have H := Lib.hid h
  clear h
  obtain ⟨r, hr⟩ : ∃ r, r = lrR D A B n gs := ⟨_, rfl⟩
  rw [← hr]
  unfold lrR at hr
  obtain ⟨s, hs⟩ : ∃ s, s = sightOk D A B gs := ⟨_, rfl⟩
  obtain ⟨y, hy⟩ : ∃ y, y = askedB D A B n gs := ⟨_, rfl⟩
  rw [← hy] at hr
  have CS : Hid (∀ W, Ext w W → Calls Try.prog 37 #[.agg #[.int .i64 D, .int .i64 A, .int .i64 B, .slice a gs.length cap]] W fun e w' => e = .returned (.bool s) ∧ Ext W w') :=
    fun W hX => by rw [hs]; exact c_IsSight D A B _ lo hi gs W (H.out.ext hX hh)
  have CA : Hid (∀ W, Ext w W → Calls Try.prog 47 #[.agg #[.int .i64 D, .int .i64 A, .int .i64 B, .slice a gs.length cap], .int .i64 n] W fun e w' => e = .returned (.bool y) ∧ Ext W w') :=
    fun W hX => by rw [hy]; exact c_siAsked D A B n _ lo hi gs W (H.out.ext hX hh) (Nat.le_trans hh hX.size)
  unfold askedB at hy
  rw [← hs] at hy
  cases s
  · simp at hy; subst hy; simp at hr
    have HR := Lib.hid hr
    clear hr hs
    go_enter Try.func17, Try.ntmps17
    go_wp2_with (first | (go_at_call 37; refine (CS.out _ (Ext.alloc _ _)).mono ?_; rintro e w2 ⟨rfl, hx2⟩) | (go_at_call 45; refine (within_c _ _ _ _).mono ?_; rintro e w' ⟨rfl, rfl⟩))
    go_ret2
    refine ⟨?_, (Ext.alloc _ _).trans hx2⟩
    rw [HR.out]; rfl
  cases hn2 : inB 0 3 n
  · rw [hn2] at hy; simp at hy; subst hy; simp at hr
    have HR := Lib.hid hr
    clear hr hs
    go_enter Try.func17, Try.ntmps17
    go_wp2_with (first | (go_at_call 37; refine (CS.out _ (Ext.alloc _ _)).mono ?_; rintro e w2 ⟨rfl, hx2⟩) | (go_at_call 45; refine (within_c _ _ _ _).mono ?_; rintro e w' ⟨rfl, rfl⟩))
    go_ret2
    refine ⟨?_, (Ext.alloc _ _).trans hx2⟩
    rw [HR.out]; rfl
  rw [hn2] at hy; simp at hy; subst hy; simp at hr
  obtain ⟨ok1, ok2, ok3, ok4, ok5⟩ := ok_of_sight hs.symm hn2
  have CE : Hid (∀ (k : Nat) W, k ≤ 3000 → Ext w W → Calls Try.prog 46 #[.agg #[.int .i64 D, .int .i64 (A + k), .int .i64 (B + k), .slice a gs.length cap], .int .i64 n] W fun e w' => e = .returned (.bool (lrP D A B n gs k)) ∧ Ext W w') :=
    fun k W hk hX => c_sees D (A + k) (B + k) n _ lo hi gs W (H.out.ext hX hh) (Nat.le_trans hh hX.size) ⟨ok1.d1, ok1.d2, by have := ok1.a1; omega, by have := ok1.a2; omega, by have := ok1.b1; omega, by have := ok1.b2; omega, ok1.n1, ok1.n2⟩ ok2
  have HR := Lib.hid hr
  have pa1 := ok1.a1
  have pb1 := ok1.b1
  clear hr hs ok1 ok2 ok3
  have B1 : (w.alloc (.cells #[.int .i64 D, .int .i64 A, .int .i64 B, .slice a gs.length cap] 28)).heap[w.heap.size]? = some (.cells #[.int .i64 D, .int .i64 A, .int .i64 B, .slice a gs.length cap] 28) := blk_alloc _ _
  have HB1 := Lib.hid B1
  clear B1
  go_enter Try.func17, Try.ntmps17
  go_wp2_with (first | (go_at_call 37; refine (CS.out _ (Ext.alloc _ _)).mono ?_; rintro e w2 ⟨rfl, hx2⟩) | (go_at_call 45; refine (within_c _ _ _ _).mono ?_; rintro e w' ⟨rfl, rfl⟩))
  go_loopw [6] (fun t wr => ∃ (k : Nat), k ≤ 3001 ∧ t = .int .i64 k ∧ wr.heap[w.heap.size]? = some (.cells #[.int .i64 D, .int .i64 (A + k), .int .i64 (B + k), .slice a gs.length cap] 28) ∧ Ext w wr ∧ Hid (r = srch (lrP D A B n gs) (3001 - k) k)) (fun t _ => 3001 - (intOf t).toNat)
  case atStart => exact ⟨0, by omega, rfl, (by simpa using hx2.blk HB1.out), (Ext.alloc _ _).trans hx2, HR.out⟩
  case round =>
    obtain ⟨k, hk, rfl, hb, hx, hT⟩ := hrel
    have k0 := blk_cell hb (j := 0) rfl
    have k1 := blk_cell hb (j := 1) rfl
    have k2 := blk_cell hb (j := 2) rfl
    have k3 := blk_cell hb (j := 3) rfl
    have f0 := fun j => blk_free hb j
    by_cases hlt : k ≤ 3000
    · have hltI : (k : Int) ≤ 3000 := by omega
      obtain ⟨t, ht⟩ : ∃ t, t = lrP D A B n gs k := ⟨_, rfl⟩
      have hT2 := hT.out
      rw [show 3001 - k = (3001 - (k + 1)) + 1 by omega, srch, ← ht] at hT2
      have HT2 := Lib.hid hT2
      have CEk := Lib.hid (CE.out k wr hlt hx)
      rw [← ht] at CEk
      have oa1 : -(9223372036854775808 : Int) ≤ A + k + 1 := by omega
      have oa2 : A + k + 1 < (9223372036854775808 : Int) := by omega
      have ob1 : -(9223372036854775808 : Int) ≤ B + k + 1 := by omega
      have ob2 : B + k + 1 < (9223372036854775808 : Int) := by omega
      have HB := Lib.hid hb
      have HX := Lib.hid hx
      have hsz := hx.size
      clear hT2 ht hT hb hx
      cases t
      · go_wp2_with (go_at_call 46; refine CEk.out.mono ?_; rintro e w3 ⟨rfl, hx3⟩; have g1 := blk_cell (hx3.blk HB.out) (j := 1) rfl; have g2 := blk_cell (hx3.blk HB.out) (j := 2) rfl; have fz1 := fun j => blk_free (hx3.blk HB.out) j; have fz2 := fun j => blk_free (blk_set (j := 1) (hx3.blk HB.out) (.int .i64 (A + k + 1))) j)
        · go_roundw
          case rel =>
            have e1 : A + ((k + 1 : Nat) : Int) = A + k + 1 := by omega
            have e2 : B + ((k + 1 : Nat) : Int) = B + k + 1 := by omega
            refine ⟨k + 1, by omega, by go_num, ?_, ?_, HT2.out⟩
            · rw [e1, e2]
              exact blk_set (j := 2) (blk_set (j := 1) (hx3.blk HB.out) (.int .i64 (A + k + 1))) (.int .i64 (B + k + 1))
            · exact ((HX.out.trans hx3).st (p := ⟨w.heap.size, 1, none⟩) (Nat.le_refl _) _).st (p := ⟨w.heap.size, 2, none⟩) (Nat.le_refl _) _
          case measure => simp [intOf]; omega
      · go_wp2_with (go_at_call 46; refine CEk.out.mono ?_; rintro e w3 ⟨rfl, hx3⟩)
        go_ret2
        exact ⟨by rw [HT2.out]; rfl, HX.out.trans hx3⟩
    · have hT2 : Hid (r = none) := by
        have := hT.out
        rwa [show 3001 - k = 0 by omega] at this
      clear hT hb
      have hltI : ¬ ((k : Int) ≤ 3000) := by omega
      go_wp2
      go_ret2
      exact ⟨by rw [hT2.out]; rfl, hx⟩
set_option maxRecDepth 100000 in
set_option maxHeartbeats 1000000 in
theorem c_sLeastRaise (D A B n : Int) (vg : Value) (lo hi : Nat) (gs : List GroundT) (w : World) (h : Grounds w lo hi vg gs) (hh : hi ≤ w.heap.size) :
    Calls Try.prog 18 #[.agg #[.int .i64 D, .int .i64 A, .int .i64 B, vg], .int .i64 n] w fun e w' => e = .returned (optV (lrR D A B n gs)) ∧ Ext w w' := by
  have h0 := h
  obtain ⟨a, cap, rfl, m1, m2, _⟩ := h0
  have H := Lib.hid h
  clear h
  obtain ⟨r, hr⟩ : ∃ r, r = lrR D A B n gs := ⟨_, rfl⟩
  rw [← hr]
  unfold lrR at hr
  obtain ⟨s, hs⟩ : ∃ s, s = sightOk D A B gs := ⟨_, rfl⟩
  obtain ⟨y, hy⟩ : ∃ y, y = askedB D A B n gs := ⟨_, rfl⟩
  rw [← hy] at hr
  have CS : Hid (∀ W, Ext w W → Calls Try.prog 37 #[.agg #[.int .i64 D, .int .i64 A, .int .i64 B, .slice a gs.length cap]] W fun e w' => e = .returned (.bool s) ∧ Ext W w') :=
    fun W hX => by rw [hs]; exact c_IsSight D A B _ lo hi gs W (H.out.ext hX hh)
  have CA : Hid (∀ W, Ext w W → Calls Try.prog 47 #[.agg #[.int .i64 D, .int .i64 A, .int .i64 B, .slice a gs.length cap], .int .i64 n] W fun e w' => e = .returned (.bool y) ∧ Ext W w') :=
    fun W hX => by rw [hy]; exact c_siAsked D A B n _ lo hi gs W (H.out.ext hX hh) (Nat.le_trans hh hX.size)
  unfold askedB at hy
  rw [← hs] at hy
  cases s
  · simp at hy; subst hy; simp at hr
    have HR := Lib.hid hr
    clear hr hs
    go_enter Try.func18, Try.ntmps18
    go_wp2_with ((go_at_call 47; refine (CA.out _ (Ext.alloc _ _)).mono ?_; rintro e w2 ⟨rfl, hx2⟩))
    go_ret2
    refine ⟨?_, (Ext.alloc _ _).trans hx2⟩
    rw [HR.out]; rfl
  cases hn2 : inB 0 3 n
  · rw [hn2] at hy; simp at hy; subst hy; simp at hr
    have HR := Lib.hid hr
    clear hr hs
    go_enter Try.func18, Try.ntmps18
    go_wp2_with ((go_at_call 47; refine (CA.out _ (Ext.alloc _ _)).mono ?_; rintro e w2 ⟨rfl, hx2⟩))
    go_ret2
    refine ⟨?_, (Ext.alloc _ _).trans hx2⟩
    rw [HR.out]; rfl
  rw [hn2] at hy; simp at hy; subst hy; simp at hr
  obtain ⟨ok1, ok2, ok3, ok4, ok5⟩ := ok_of_sight hs.symm hn2
  have CE : Hid (∀ (k : Nat) W, k ≤ 3000 → Ext w W → Calls Try.prog 48 #[.agg #[.int .i64 D, .int .i64 (A + k), .int .i64 (B + k), .slice a gs.length cap], .int .i64 n] W fun e w' => e = .returned (.bool (lrP D A B n gs k)) ∧ Ext W w') :=
    fun k W hk hX => c_siSees D (A + k) (B + k) n _ lo hi gs W (H.out.ext hX hh) (Nat.le_trans hh hX.size) ⟨ok1.d1, ok1.d2, by have := ok1.a1; omega, by have := ok1.a2; omega, by have := ok1.b1; omega, by have := ok1.b2; omega, ok1.n1, ok1.n2⟩ ok2 ok3
  have HR := Lib.hid hr
  have pa1 := ok1.a1
  have pb1 := ok1.b1
  clear hr hs ok1 ok2 ok3
  have B1 : (w.alloc (.cells #[.int .i64 D, .int .i64 A, .int .i64 B, .slice a gs.length cap] 28)).heap[w.heap.size]? = some (.cells #[.int .i64 D, .int .i64 A, .int .i64 B, .slice a gs.length cap] 28) := blk_alloc _ _
  have HB1 := Lib.hid B1
  clear B1
  go_enter Try.func18, Try.ntmps18
  go_wp2_with ((go_at_call 47; refine (CA.out _ (Ext.alloc _ _)).mono ?_; rintro e w2 ⟨rfl, hx2⟩))
  go_loopw [6] (fun t wr => ∃ (k : Nat), k ≤ 3001 ∧ t = .int .i64 k ∧ wr.heap[w.heap.size]? = some (.cells #[.int .i64 D, .int .i64 (A + k), .int .i64 (B + k), .slice a gs.length cap] 28) ∧ Ext w wr ∧ Hid (r = srch (lrP D A B n gs) (3001 - k) k)) (fun t _ => 3001 - (intOf t).toNat)
  case atStart => exact ⟨0, by omega, rfl, (by simpa using hx2.blk HB1.out), (Ext.alloc _ _).trans hx2, HR.out⟩
  case round =>
    obtain ⟨k, hk, rfl, hb, hx, hT⟩ := hrel
    have k0 := blk_cell hb (j := 0) rfl
    have k1 := blk_cell hb (j := 1) rfl
    have k2 := blk_cell hb (j := 2) rfl
    have k3 := blk_cell hb (j := 3) rfl
    have f0 := fun j => blk_free hb j
    by_cases hlt : k ≤ 3000
    · have hltI : (k : Int) ≤ 3000 := by omega
      obtain ⟨t, ht⟩ : ∃ t, t = lrP D A B n gs k := ⟨_, rfl⟩
      have hT2 := hT.out
      rw [show 3001 - k = (3001 - (k + 1)) + 1 by omega, srch, ← ht] at hT2
      have HT2 := Lib.hid hT2
      have CEk := Lib.hid (CE.out k wr hlt hx)
      rw [← ht] at CEk
      have oa1 : -(9223372036854775808 : Int) ≤ A + k + 1 := by omega
      have oa2 : A + k + 1 < (9223372036854775808 : Int) := by omega
      have ob1 : -(9223372036854775808 : Int) ≤ B + k + 1 := by omega
      have ob2 : B + k + 1 < (9223372036854775808 : Int) := by omega
      have HB := Lib.hid hb
      have HX := Lib.hid hx
      have hsz := hx.size
      clear hT2 ht hT hb hx
      cases t
      · go_wp2_with (go_at_call 48; refine CEk.out.mono ?_; rintro e w3 ⟨rfl, hx3⟩; have g1 := blk_cell (hx3.blk HB.out) (j := 1) rfl; have g2 := blk_cell (hx3.blk HB.out) (j := 2) rfl; have fz1 := fun j => blk_free (hx3.blk HB.out) j; have fz2 := fun j => blk_free (blk_set (j := 1) (hx3.blk HB.out) (.int .i64 (A + k + 1))) j)
        · go_roundw
          case rel =>
            have e1 : A + ((k + 1 : Nat) : Int) = A + k + 1 := by omega
            have e2 : B + ((k + 1 : Nat) : Int) = B + k + 1 := by omega
            refine ⟨k + 1, by omega, by go_num, ?_, ?_, HT2.out⟩
            · rw [e1, e2]
              exact blk_set (j := 2) (blk_set (j := 1) (hx3.blk HB.out) (.int .i64 (A + k + 1))) (.int .i64 (B + k + 1))
            · exact ((HX.out.trans hx3).st (p := ⟨w.heap.size, 1, none⟩) (Nat.le_refl _) _).st (p := ⟨w.heap.size, 2, none⟩) (Nat.le_refl _) _
          case measure => simp [intOf]; omega
      · go_wp2_with (go_at_call 48; refine CEk.out.mono ?_; rintro e w3 ⟨rfl, hx3⟩)
        go_ret2
        exact ⟨by rw [HT2.out]; rfl, HX.out.trans hx3⟩
    · have hT2 : Hid (r = none) := by
        have := hT.out
        rwa [show 3001 - k = 0 by omega] at this
      clear hT hb
      have hltI : ¬ ((k : Int) ≤ 3000) := by omega
      go_wp2
      go_ret2
      exact ⟨by rw [hT2.out]; rfl, hx⟩
end Go.Proofs.Ytnoagmjajhlmjaa
