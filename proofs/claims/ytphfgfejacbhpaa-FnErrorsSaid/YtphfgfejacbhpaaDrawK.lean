

/- Drawn words: the reference's draw functions. -/
import Derived.Test.YtphfgfejacbhpaaDrawC
import Derived.Test.YtphfgfejacbhpaaSS
namespace Go.Proofs.Ytphfgfejacbhpaa
open Go.RowKit
def GiveL (len : Nat) (w : World) (e : Ending) (w' : World) : Prop := ∃ (v : Value) (xs : List Int), e = .returned v ∧ OwnI w' w.heap.size w'.heap.size v xs ∧ xs.length ≤ len ∧ Ext w w'
def GiveLI (len : Nat) (w : World) (e : Ending) (w' : World) : Prop := ∃ (v : Value) (xs : List Int) (i : Int), e = .returned (.tuple #[v, .int .i64 i]) ∧ OwnI w' w.heap.size w'.heap.size v xs ∧ xs.length ≤ len ∧ -1 ≤ i ∧ i ≤ 1000 ∧ Ext w w'
def GiveLII (len : Nat) (w : World) (e : Ending) (w' : World) : Prop := ∃ (v : Value) (xs : List Int) (i k : Int), e = .returned (.tuple #[v, .int .i64 i, .int .i64 k]) ∧ OwnI w' w.heap.size w'.heap.size v xs ∧ xs.length ≤ len ∧ (-1 ≤ i ∧ i ≤ 1000) ∧ (-1 ≤ k ∧ k ≤ 1000) ∧ Ext w w'
/-- The bytes of an argument. -/
def Bytes (w : World) (lo hi : Nat) (v : Value) (bs : List Int) : Prop := Row encY 1 w lo hi v bs ∧ ∀ x ∈ bs, 0 ≤ x ∧ x ≤ 255
set_option maxRecDepth 100000 in
theorem c_DrawSumCheck (v : Value) (la ha : Nat) (bs : List Int) (w : World) (h : Bytes w la ha v bs) (hh : ha ≤ w.heap.size) : Calls Try.prog 15 #[v] w (GiveL 60 w) := by
  obtain ⟨a, cap, rfl, _⟩ := h.1.formY
  have HY := Lib.hid h
  clear h
  go_enter Try.func15, Try.ntmps15
  go_wp2_with fail
  obtain ⟨w1, hw1⟩ : ∃ W, W = w.alloc (.cells #[.slice a bs.length cap, .int .i64 0, .int .u64 0] 57) := ⟨_, rfl⟩
  rw [← hw1]
  have hC : Cur w1 w.heap.size 0 := by rw [hw1]; exact cur_new w _ la ha bs HY.out.1 hh HY.out.2
  have X1 : Ext w w1 := by rw [hw1]; exact Ext.alloc _ _
  have s1 : w.heap.size < w1.heap.size := by rw [hw1, size_alloc]; omega
  clear hw1
  refine (c_checkWord w.heap.size 0 49 w1 hC (by omega) (by omega) (by omega)).mono ?_
  rintro e w2 ⟨v2, xs, rfl, ho, hl, hc, hk⟩
  obtain ⟨a2, c2, rfl, _, _, _⟩ := own_form ho
  have HO := Lib.hid ho
  have HK := Lib.hid (X1.keep hk (Nat.le_refl _))
  clear ho hk hc hC
  go_wp2
  go_ret
  exact ⟨_, xs, rfl, OwnI.of (own_mono HO.out (Nat.le_of_lt s1)), by omega, HK.out⟩
set_option maxRecDepth 100000 in
theorem c_DrawPairChecks (v : Value) (la ha : Nat) (bs : List Int) (w : World) (h : Bytes w la ha v bs) (hh : ha ≤ w.heap.size) : Calls Try.prog 38 #[v] w (GiveL 60 w) := by
  obtain ⟨a, cap, rfl, _⟩ := h.1.formY
  have HY := Lib.hid h
  clear h
  go_enter Try.func38, Try.ntmps38
  go_wp2_with fail
  obtain ⟨w1, hw1⟩ : ∃ W, W = w.alloc (.cells #[.slice a bs.length cap, .int .i64 0, .int .u64 0] 57) := ⟨_, rfl⟩
  rw [← hw1]
  have hC : Cur w1 w.heap.size 0 := by rw [hw1]; exact cur_new w _ la ha bs HY.out.1 hh HY.out.2
  have X1 : Ext w w1 := by rw [hw1]; exact Ext.alloc _ _
  have s1 : w.heap.size < w1.heap.size := by rw [hw1, size_alloc]; omega
  clear hw1
  refine (c_checkWord w.heap.size 0 48 w1 hC (by omega) (by omega) (by omega)).mono ?_
  rintro e w2 ⟨v2, xs, rfl, ho, hl, hc, hk⟩
  obtain ⟨a2, c2, rfl, _, _, _⟩ := own_form ho
  have HO := Lib.hid ho
  have HK := Lib.hid (X1.keep hk (Nat.le_refl _))
  clear ho hk hc hC
  go_wp2
  go_ret
  exact ⟨_, xs, rfl, OwnI.of (own_mono HO.out (Nat.le_of_lt s1)), by omega, HK.out⟩
set_option maxRecDepth 100000 in
theorem c_DrawWithPair (v : Value) (la ha : Nat) (bs : List Int) (w : World) (h : Bytes w la ha v bs) (hh : ha ≤ w.heap.size) : Calls Try.prog 6 #[v] w (GiveL 60 w) := by
  have C := Lib.hid (c_DrawPairChecks v la ha bs w h hh)
  obtain ⟨a, cap, rfl, _⟩ := h.1.formY
  clear h
  go_enter Try.func6, Try.ntmps6
  go_wp2_with fail
  refine C.out.mono ?_
  rintro e w2 ⟨v2, xs, rfl, ho, hl, hx⟩
  obtain ⟨a2, c2, rfl, _, _⟩ := ho.form
  have HO := Lib.hid ho
  clear ho
  go_wp2
  go_ret
  exact ⟨_, xs, rfl, HO.out, hl, hx⟩
set_option maxRecDepth 100000 in
set_option maxHeartbeats 1000000 in
theorem c_DrawSumHolds (v : Value) (la ha : Nat) (bs : List Int) (w : World) (h : Bytes w la ha v bs) (hh : ha ≤ w.heap.size) : Calls Try.prog 19 #[v] w (GiveL 60 w) := by
  obtain ⟨a, cap, rfl, _⟩ := h.1.formY
  have HY := Lib.hid h
  clear h
  go_enter Try.func19, Try.ntmps19
  go_wp2_with fail
  obtain ⟨w1, hw1⟩ : ∃ W, W = w.alloc (.cells #[.slice a bs.length cap, .int .i64 0, .int .u64 0] 57) := ⟨_, rfl⟩
  rw [← hw1]
  have hC : Cur w1 w.heap.size 0 := by rw [hw1]; exact cur_new w _ la ha bs HY.out.1 hh HY.out.2
  have X1 : Ext w w1 := by rw [hw1]; exact Ext.alloc _ _
  have s1 : w.heap.size < w1.heap.size := by rw [hw1, size_alloc]; omega
  clear hw1
  refine (c_one w.heap.size 0 4 w1 hC (by omega) (by omega)).mono ?_
  rintro e w2 ⟨t, rfl, hc, hk⟩
  have HC := Lib.hid hc
  have HK := Lib.hid (X1.keep hk (Nat.le_refl _))
  have hs := hk.size
  clear hc hk hC
  cases t
  all_goals
    go_wp2_with fail
    first
      | refine (c_checkWord w.heap.size _ 50 w2 HC.out (by omega) (by omega) (by omega)).mono ?_
      | refine (c_pairWord w.heap.size _ 2 w2 HC.out (by omega) (by omega)).mono ?_
    rintro e w3 ⟨v2, xs, rfl, ho, hl, hc3, hk3⟩
    obtain ⟨a2, c2, rfl, _, _, _⟩ := own_form ho
    have HO := Lib.hid ho
    have HK3 := Lib.hid (HK.out.keep hk3 (Nat.le_refl _))
    clear ho hk3 hc3
    go_wp2
    go_ret
    exact ⟨_, xs, rfl, OwnI.of (own_mono HO.out (by omega)), by omega, HK3.out⟩
set_option maxRecDepth 100000 in
theorem c_DrawSyndromesOf (v : Value) (la ha : Nat) (bs : List Int) (w : World) (h : Bytes w la ha v bs) (hh : ha ≤ w.heap.size) : Calls Try.prog 32 #[v] w (GiveL 60 w) := by
  have C := Lib.hid (c_DrawSumHolds v la ha bs w h hh)
  obtain ⟨a, cap, rfl, _⟩ := h.1.formY
  clear h
  go_enter Try.func32, Try.ntmps32
  go_wp2_with fail
  refine C.out.mono ?_
  rintro e w2 ⟨v2, xs, rfl, ho, hl, hx⟩
  obtain ⟨a2, c2, rfl, _, _⟩ := ho.form
  have HO := Lib.hid ho
  clear ho
  go_wp2
  go_ret
  exact ⟨_, xs, rfl, HO.out, hl, hx⟩
set_option maxRecDepth 100000 in
set_option maxHeartbeats 1000000 in
theorem c_DrawFillErased (v : Value) (la ha : Nat) (bs : List Int) (w : World) (h : Bytes w la ha v bs) (hh : ha ≤ w.heap.size) : Calls Try.prog 21 #[v] w (GiveLI 60 w) := by
  obtain ⟨a, cap, rfl, _⟩ := h.1.formY
  have HY := Lib.hid h
  clear h
  go_enter Try.func21, Try.ntmps21
  go_wp2_with fail
  obtain ⟨w1, hw1⟩ : ∃ W, W = w.alloc (.cells #[.slice a bs.length cap, .int .i64 0, .int .u64 0] 57) := ⟨_, rfl⟩
  rw [← hw1]
  have hC : Cur w1 w.heap.size 0 := by rw [hw1]; exact cur_new w _ la ha bs HY.out.1 hh HY.out.2
  have X1 : Ext w w1 := by rw [hw1]; exact Ext.alloc _ _
  have s1 : w.heap.size < w1.heap.size := by rw [hw1, size_alloc]; omega
  clear hw1
  refine (c_pairWord w.heap.size 0 2 w1 hC (by omega) (by omega)).mono ?_
  rintro e w2 ⟨v2, xs, rfl, ho, hl, hc, hk⟩
  obtain ⟨a2, c2, rfl, _, q1, q2⟩ := own_form ho
  have HO := Lib.hid ho
  have HC := Lib.hid hc
  have HK := Lib.hid (X1.keep hk (Nat.le_refl _))
  have hs := hk.size
  clear ho hk hc hC
  go_wp2_with fail
  refine (c_wordIndex w.heap.size _ a2 xs.length c2 w2 HC.out (by omega) (by omega) q1 q2).mono ?_
  rintro e w3 ⟨r, rfl, r0, r1, hc3, hk3⟩
  have HO3 := Lib.hid (own_kc HO.out hk3 s1)
  have HK3 := Lib.hid (HK.out.keep hk3 (Nat.le_refl _))
  clear hk3 hc3
  go_wp2
  go_ret2
  exact ⟨_, xs, _, rfl, OwnI.of (own_mono HO3.out (Nat.le_of_lt s1)), by omega, r0, r1, HK3.out⟩
set_option maxRecDepth 100000 in
theorem c_DrawWrong (v : Value) (la ha : Nat) (bs : List Int) (w : World) (h : Bytes w la ha v bs) (hh : ha ≤ w.heap.size) : Calls Try.prog 25 #[v] w (GiveLI 60 w) := by
  have C := Lib.hid (c_DrawFillErased v la ha bs w h hh)
  obtain ⟨a, cap, rfl, _⟩ := h.1.formY
  clear h
  go_enter Try.func25, Try.ntmps25
  go_wp2_with fail
  refine C.out.mono ?_
  rintro e w2 ⟨v2, xs, i, rfl, ho, hl, i0, i1, hx⟩
  obtain ⟨a2, c2, rfl, _, _⟩ := ho.form
  have HO := Lib.hid ho
  clear ho
  go_wp2
  go_ret2
  exact ⟨_, xs, i, rfl, HO.out, hl, i0, i1, hx⟩
set_option maxRecDepth 100000 in
set_option maxHeartbeats 1000000 in
theorem c_DrawSees (v : Value) (la ha : Nat) (bs : List Int) (w : World) (h : Bytes w la ha v bs) (hh : ha ≤ w.heap.size) : Calls Try.prog 29 #[v] w (GiveLII 60 w) := by
  obtain ⟨a, cap, rfl, _⟩ := h.1.formY
  have HY := Lib.hid h
  clear h
  go_enter Try.func29, Try.ntmps29
  go_wp2_with fail
  obtain ⟨w1, hw1⟩ : ∃ W, W = w.alloc (.cells #[.slice a bs.length cap, .int .i64 0, .int .u64 0] 57) := ⟨_, rfl⟩
  rw [← hw1]
  have hC : Cur w1 w.heap.size 0 := by rw [hw1]; exact cur_new w _ la ha bs HY.out.1 hh HY.out.2
  have X1 : Ext w w1 := by rw [hw1]; exact Ext.alloc _ _
  have s1 : w.heap.size < w1.heap.size := by rw [hw1, size_alloc]; omega
  clear hw1
  refine (c_pairWord w.heap.size 0 8 w1 hC (by omega) (by omega)).mono ?_
  rintro e w2 ⟨v2, xs, rfl, ho, hl, hc, hk⟩
  obtain ⟨a2, c2, rfl, _, q1, q2⟩ := own_form ho
  have HO := Lib.hid ho
  have HC := Lib.hid hc
  have HK := Lib.hid (X1.keep hk (Nat.le_refl _))
  have hs := hk.size
  clear ho hk hc hC
  go_wp2_with fail
  refine (c_wordIndex w.heap.size _ a2 xs.length c2 w2 HC.out (by omega) (by omega) q1 q2).mono ?_
  rintro e w3 ⟨r, rfl, r0, r1, hc3, hk3⟩
  have HO3 := Lib.hid (own_kc HO.out hk3 s1)
  have HC3 := Lib.hid hc3
  have HK3 := Lib.hid (HK.out.keep hk3 (Nat.le_refl _))
  clear hk3 hc3
  go_wp2_with fail
  refine (c_wordIndex w.heap.size _ a2 xs.length c2 w3 HC3.out (by omega) (by omega) q1 q2).mono ?_
  rintro e w4 ⟨r', rfl, r0', r1', hc4, hk4⟩
  have HO4 := Lib.hid (own_kc HO3.out hk4 s1)
  have HK4 := Lib.hid (HK3.out.keep hk4 (Nat.le_refl _))
  clear hk4 hc4
  go_wp2
  go_ret3
  exact ⟨_, xs, _, _, rfl, OwnI.of (own_mono HO4.out (Nat.le_of_lt s1)), by omega, ⟨r0, r1⟩, ⟨r0', r1'⟩, HK4.out⟩
set_option maxRecDepth 100000 in
set_option maxHeartbeats 1000000 in
theorem c_DrawCorrect (v : Value) (la ha : Nat) (bs : List Int) (w : World) (h : Bytes w la ha v bs) (hh : ha ≤ w.heap.size) : Calls Try.prog 23 #[v] w (GiveL 60 w) := by
  obtain ⟨a, cap, rfl, _⟩ := h.1.formY
  have HY := Lib.hid h
  clear h
  go_enter Try.func23, Try.ntmps23
  go_wp2_with fail
  obtain ⟨w1, hw1⟩ : ∃ W, W = w.alloc (.cells #[.slice a bs.length cap, .int .i64 0, .int .u64 0] 57) := ⟨_, rfl⟩
  rw [← hw1]
  have hC : Cur w1 w.heap.size 0 := by rw [hw1]; exact cur_new w _ la ha bs HY.out.1 hh HY.out.2
  have X1 : Ext w w1 := by rw [hw1]; exact Ext.alloc _ _
  have s1 : w.heap.size < w1.heap.size := by rw [hw1, size_alloc]; omega
  clear hw1
  refine (c_pairWord w.heap.size 0 2 w1 hC (by omega) (by omega)).mono ?_
  rintro e w2 ⟨v2, xs, rfl, ho, hl, hc, hk⟩
  obtain ⟨a2, c2, rfl, _, q1, q2⟩ := own_form ho
  have HO := Lib.hid ho
  have HC := Lib.hid hc
  have HK := Lib.hid (X1.keep hk (Nat.le_refl _))
  have hs := hk.size
  clear ho hk hc hC
  by_cases hl0 : 0 < xs.length
  · have hl0I : (0 : Int) < (xs.length : Int) := by omega
    go_wp2_with fail
    refine (c_one w.heap.size _ 4 w2 HC.out (by omega) (by omega)).mono ?_
    rintro e w3 ⟨t, rfl, hc3, hk3⟩
    have HO3 := Lib.hid (own_kc HO.out hk3 s1)
    have HC3 := Lib.hid hc3
    have HK3 := Lib.hid (HK.out.keep hk3 (Nat.le_refl _))
    clear hk3 hc3
    cases t
    · go_wp2
      go_ret
      exact ⟨_, xs, rfl, OwnI.of (own_mono HO3.out (Nat.le_of_lt s1)), by omega, HK3.out⟩
    · go_wp2_with fail
      refine (c_pick w.heap.size _ _ _ HC3.out (by omega) (by omega)).mono ?_
      rintro e w4 ⟨r4, rfl, r40, r41, hc4, hk4⟩
      have HC4 := Lib.hid hc4
      have HK4 := Lib.hid (HK3.out.keep hk4 (Nat.le_refl _))
      have HO4 := Lib.hid (own_kc HO3.out hk4 s1)
      obtain ⟨q4, rfl⟩ := Int.eq_ofNat_of_zero_le r40
      clear hc4 hk4
      go_wp2_with fail
      refine (c_pick w.heap.size _ 61 _ HC4.out (by omega) (by omega)).mono ?_
      rintro e w5 ⟨r5, rfl, r50, r51, hc5, hk5⟩
      have HK5 := Lib.hid (HK4.out.keep hk5 (Nat.le_refl _))
      have ho5 := own_kc HO4.out hk5 s1
      obtain ⟨g5, cp5, e5, hg5, _⟩ := own_at0 ho5 hl0
      simp only [Value.slice.injEq, true_and] at e5
      obtain ⟨rfl, rfl⟩ := e5
      have hq4 : q4 < xs.length := by omega
      have hq4I : (q4 : Int) < (xs.length : Int) := by omega
      have e50 := own_cellv ho5 (List.getElem?_eq_getElem hq4) hq4
      have f50 := ho5.frozenAt q4
      have HO5 := Lib.hid ho5
      clear hc5 hk5 ho5
      go_wp2
      go_ret
      refine ⟨_, xs.set q4 (1 + r5), rfl, OwnI.of (own_mono (base := w1.heap.size) ?_ (Nat.le_of_lt s1)), by rw [List.length_set]; omega, HK5.out.st (by dsimp only; omega) _⟩
      rw [List.length_set]
      exact own_setw HO5.out q4 (1 + r5)
  · have hl0I : ¬ ((0 : Int) < (xs.length : Int)) := by omega
    go_wp2
    go_ret
    exact ⟨_, xs, rfl, OwnI.of (own_mono HO.out (Nat.le_of_lt s1)), by omega, HK.out⟩
end Go.Proofs.Ytphfgfejacbhpaa
