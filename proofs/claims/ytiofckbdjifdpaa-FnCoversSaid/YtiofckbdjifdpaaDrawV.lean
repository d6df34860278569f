

/- Drawn sites, spots and numbers: the reference's draw functions. -/
import Derived.Test.YtiofckbdjifdpaaDrawU
namespace Go.Proofs.Ytiofckbdjifdpaa
open Go.RowKit
set_option linter.unusedSimpArgs false
set_option linter.unusedVariables false
/-- The bytes of an argument. -/
def Bytes (w : World) (lo hi : Nat) (v : Value) (bs : List Int) : Prop := Row encY 1 w lo hi v bs ∧ ∀ x ∈ bs, 0 ≤ x ∧ x ≤ 255
theorem Bytes.ext {w w' : World} {lo hi : Nat} {v : Value} {bs : List Int} (h : Bytes w lo hi v bs) (hx : Ext w w') (hh : hi ≤ w.heap.size) : Bytes w' lo hi v bs := ⟨h.1.ext hx hh, h.2⟩
def GiveN (w : World) (e : Ending) (w' : World) : Prop := ∃ (v : Value) (xss : List (List Int)) (n : Int), e = .returned (.tuple #[v, .int .i64 n]) ∧ Intss w' w.heap.size w'.heap.size v xss ∧ xss.length ≤ 13 ∧ 0 ≤ n ∧ n ≤ 17 ∧ Ext w w'
def GiveNI (w : World) (e : Ending) (w' : World) : Prop := ∃ (v : Value) (xss : List (List Int)) (n k : Int), e = .returned (.tuple #[v, .int .i64 n, .int .i64 k]) ∧ Intss w' w.heap.size w'.heap.size v xss ∧ xss.length ≤ 13 ∧ 0 ≤ n ∧ n ≤ 17 ∧ -1 ≤ k ∧ k ≤ 13 ∧ Ext w w'
def GiveNL (w : World) (e : Ending) (w' : World) : Prop := ∃ (v : Value) (xss : List (List Int)) (n : Int) (u : Value) (xs : List Int), e = .returned (.tuple #[v, .int .i64 n, u]) ∧ Intss w' w.heap.size w'.heap.size v xss ∧ xss.length ≤ 13 ∧ 0 ≤ n ∧ n ≤ 17 ∧
  Ints w' w.heap.size w'.heap.size u xs ∧ Ext w w'
def GiveNLI (w : World) (e : Ending) (w' : World) : Prop := ∃ (v : Value) (xss : List (List Int)) (n : Int) (u : Value) (xs : List Int) (k : Int), e = .returned (.tuple #[v, .int .i64 n, u, .int .i64 k]) ∧ Intss w' w.heap.size w'.heap.size v xss ∧ xss.length ≤ 13 ∧ 0 ≤ n ∧ n ≤ 17 ∧
  Ints w' w.heap.size w'.heap.size u xs ∧ xs.length ≤ 40 ∧ -1 ≤ k ∧ k ≤ 13 ∧ Ext w w'
theorem Intss.kb {w w' : World} {b lo hi : Nat} {v : Value} {xss : List (List Int)} (h : Intss w lo hi v xss) (hk : Keep b (b + 1) w w') (hb : b < lo) (hh : hi ≤ w.heap.size) : Intss w' lo hi v xss :=
  h.keep fun k h1 h2 => hk.block k (by omega) (by omega)
theorem Intss.wide {w : World} {lo hi lo' hi' : Nat} {v : Value} {xss : List (List Int)} (h : Intss w lo hi v xss) (h1 : lo' ≤ lo) (h2 : hi ≤ hi') : Intss w lo' hi' v xss := by
  obtain ⟨vs, a, b, c⟩ := h
  exact ⟨vs, a, b.mono h1 h2, fun i u xs hu hx => (c i u xs hu hx).mono h1 h2⟩
def DrawL (b k len : Nat) (w : World) (e : Ending) (w' : World) : Prop := ∃ (u : Value) (xs : List Int), e = .returned u ∧ w'.ownsRow w.heap.size 3 1 u xs.length (xs.flatMap encI) ∧ xs.length ≤ len ∧ Cur w' b k ∧ Keep b (b + 1) w w'
set_option maxRecDepth 100000 in
set_option maxHeartbeats 2000000 in
theorem c_chosen (b k : Nat) (v : Value) (la ha : Nat) (xss : List (List Int)) (w : World) (h : Cur w b k) (hk : k ≤ 800000) (hI : Intss w la ha v xss) (hl : xss.length ≤ 13) :
    Calls Try.prog 75 #[.pointer (some ⟨b, 0, none⟩), v] w (DrawL b (k + 40) 20 w) := by
  obtain ⟨i0, hi0, hz0, hz1, hz2⟩ := info_parts Try.info_intC
  have hbs := h.lt
  obtain ⟨a, cap, rfl, m1, m2⟩ := hI.form
  obtain ⟨n, hn⟩ : ∃ n, n = xss.length := ⟨_, rfl⟩
  rw [← hn] at m1 hl ⊢
  have HC := Lib.hid h
  clear hI h hn
  go_enter Try.func75, Try.ntmps75
  go_wp2_with fail
  go_loopg [5, 6, 9] 14 (fun gg v5 v6 v9 wr => ∃ (L : List Int) (t : Nat), v9 = .int .i64 t ∧ t ≤ n ∧ n ≤ t + gg ∧ L.length ≤ t ∧ Hid (wr.ownsRow w.heap.size 3 1 v5 L.length (L.flatMap encI)) ∧ Hid (Cur wr b (k + 2 * t)) ∧ Hid (Keep b (b + 1) w wr))
  case atStart => exact ⟨[], 0, rfl, by omega, by omega, by simp, World.ownsRow_nil _ _ _ _, HC.out, Keep.refl _ _ _⟩
  case round =>
    clear HC
    obtain ⟨L, t, rfl, ht, htg, hLt, HO, hC, hK⟩ := hrel
    obtain ⟨a6, c6, rfl, _, q3, q4⟩ := own_form HO.out
    by_cases htn : (t : Int) < (n : Int)
    · go_wp2_with fail
      refine (c_one b _ 3 _ hC.out (by omega) (by omega)).mono ?_
      rintro e w6 ⟨z, rfl, hc, hk1⟩
      have HC6 := Lib.hid hc
      have HK6 := Lib.hid (hK.out.trans hk1)
      have HO6 := Lib.hid (own_kc HO.out hk1 (by omega))
      have hs6 := HK6.out.size
      clear hc hk1
      cases z
      · go_wp2_with (at_builtin; refine wpList_append_own _ rfl _ _ 24 rfl w.heap.size 3 i0 (.int .i64 0) 1 8 Try.underlying24 hi0 hz0 hz1 hz2 rfl (by decide) _ _ _ rfl (HO6.out.alloc _) ⟨w6.heap.size, 0, none⟩ 1 1 [.int .i64 (t : Int)] rfl rfl (new_cells1 _ _ _) (by intro u hu; simp at hu; subst hu; rfl) (by unfold maxLen; omega) (by omega) (by simp; omega) ?_; intro v7 w7 hown7 hgrow7 _)
        go_roundg (n - (t + 1))
        case measure => omega
        case rel => exact ⟨L ++ [(t : Int)], t + 1, by go_num, by omega, by omega, by simp; omega, own_push hown7, (HC6.out.grown hgrow7 (fun q hq => by have := (HO6.out.lt q hq).1; omega)).mono (by omega), keep_grown HK6.out hgrow7 (fun q hq => (HO6.out.lt q hq).1)⟩
      · go_wp2
        go_roundg (n - (t + 1))
        case measure => omega
        case rel => exact ⟨L, t + 1, by go_num, by omega, by omega, by omega, HO6.out, HC6.out.mono (by omega), HK6.out⟩
    · go_wp2_with fail
      refine (c_one b _ 20 _ hC.out (by omega) (by omega)).mono ?_
      rintro e w6 ⟨z, rfl, hc, hk1⟩
      have HC6 := Lib.hid hc
      have HK6 := Lib.hid (hK.out.trans hk1)
      have HO6 := Lib.hid (own_kc HO.out hk1 (by omega))
      have hs6 := HK6.out.size
      clear hc hk1
      cases z
      · go_wp2
        go_ret
        exact ⟨_, L, rfl, HO6.out, by omega, HC6.out.mono (by omega), HK6.out⟩
      · go_wp2_with fail
        refine (c_amongL b _ [-1, 0, (n : Int)] (-1) 20 w6 HC6.out (by omega) (by simp) (by simp) (by intro x hx; simp at hx; omega)).mono ?_
        rintro e w7 ⟨r, rfl, r0, r1, hc, hk1⟩
        have HC7 := Lib.hid hc
        have HK7 := Lib.hid (HK6.out.trans hk1)
        have HO7 := Lib.hid (own_kc HO6.out hk1 (by omega))
        have hs7 := HK7.out.size
        clear hc hk1
        go_wp2_with (at_builtin; refine wpList_append_own _ rfl _ _ 24 rfl w.heap.size 3 i0 (.int .i64 0) 1 8 Try.underlying24 hi0 hz0 hz1 hz2 rfl (by decide) _ _ _ rfl (HO7.out.alloc _) ⟨w7.heap.size, 0, none⟩ 1 1 [.int .i64 r] rfl rfl (new_cells1 _ _ _) (by intro u hu; simp at hu; subst hu; rfl) (by unfold maxLen; omega) (by omega) (by simp; omega) ?_; intro v8 w8 hown8 hgrow8 _)
        go_ret
        exact ⟨_, L ++ [r], rfl, own_push hown8, by simp; omega, (HC7.out.grown hgrow8 (fun q hq => by have := (HO7.out.lt q hq).1; omega)).mono (by omega), keep_grown HK7.out hgrow8 (fun q hq => (HO7.out.lt q hq).1)⟩
set_option maxRecDepth 100000 in
theorem c_DrawAreSites (v : Value) (la ha : Nat) (bs : List Int) (w : World) (h : Bytes w la ha v bs) (hh : ha ≤ w.heap.size) : Calls Try.prog 48 #[v] w (GiveN w) := by
  obtain ⟨a, cap, rfl, _⟩ := h.1.formY
  have HY := Lib.hid h
  clear h
  go_enter Try.func48, Try.ntmps48
  go_wp2_with fail
  obtain ⟨w1, hw1⟩ : ∃ W, W = w.alloc (.cells #[.slice a bs.length cap, .int .i64 0, .int .u64 0] 57) := ⟨_, rfl⟩
  rw [← hw1]
  have hC : Cur w1 w.heap.size 0 := by rw [hw1]; exact cur_new w _ la ha bs HY.out.1 hh HY.out.2
  have X1 : Ext w w1 := by rw [hw1]; exact Ext.alloc _ _
  have s1 : w.heap.size < w1.heap.size := by rw [hw1, size_alloc]; omega
  clear hw1
  refine (c_sites w.heap.size 0 w1 hC (by omega)).mono ?_
  rintro e w2 ⟨v2, xss, n, rfl, hI, hl, n0, n1, hc, hk⟩
  obtain ⟨a2, c2, rfl, _, _⟩ := hI.form
  have HI := Lib.hid hI
  have HC := Lib.hid hc
  have HX := Lib.hid (X1.keep hk (Nat.le_refl _))
  clear hI hc hk hC
  go_wp2
  go_ret2
  exact ⟨_, xss, n, rfl, HI.out.wide (Nat.le_of_lt s1) (Nat.le_refl _), hl, n0, n1, HX.out⟩
set_option maxRecDepth 100000 in
theorem c_DrawMostApart (v : Value) (la ha : Nat) (bs : List Int) (w : World) (h : Bytes w la ha v bs) (hh : ha ≤ w.heap.size) : Calls Try.prog 15 #[v] w (GiveN w) := by
  have C := Lib.hid (c_DrawAreSites v la ha bs w h hh)
  obtain ⟨a, cap, rfl, _⟩ := h.1.formY
  clear h
  go_enter Try.func15, Try.ntmps15
  go_wp2_with fail
  refine C.out.mono ?_
  rintro e w2 ⟨v2, xss, n, rfl, hI, hl, n0, n1, hx⟩
  obtain ⟨a2, c2, rfl, _, _⟩ := hI.form
  have HI := Lib.hid hI
  clear hI
  go_wp2
  go_ret2
  exact ⟨_, xss, n, rfl, HI.out, hl, n0, n1, hx⟩
set_option maxRecDepth 100000 in
theorem c_DrawGreedyCover (v : Value) (la ha : Nat) (bs : List Int) (w : World) (h : Bytes w la ha v bs) (hh : ha ≤ w.heap.size) : Calls Try.prog 26 #[v] w (GiveN w) := by
  have C := Lib.hid (c_DrawAreSites v la ha bs w h hh)
  obtain ⟨a, cap, rfl, _⟩ := h.1.formY
  clear h
  go_enter Try.func26, Try.ntmps26
  go_wp2_with fail
  refine C.out.mono ?_
  rintro e w2 ⟨v2, xss, n, rfl, hI, hl, n0, n1, hx⟩
  obtain ⟨a2, c2, rfl, _, _⟩ := hI.form
  have HI := Lib.hid hI
  clear hI
  go_wp2
  go_ret2
  exact ⟨_, xss, n, rfl, HI.out, hl, n0, n1, hx⟩
set_option maxRecDepth 100000 in
set_option maxHeartbeats 1000000 in
theorem c_DrawCountCovers (v : Value) (la ha : Nat) (bs : List Int) (w : World) (h : Bytes w la ha v bs) (hh : ha ≤ w.heap.size) : Calls Try.prog 19 #[v] w (GiveNI w) := by
  obtain ⟨a, cap, rfl, _⟩ := h.1.formY
  have HY := Lib.hid h
  clear h
  go_enter Try.func19, Try.ntmps19
  go_wp2_with fail
  obtain ⟨w1, hw1⟩ : ∃ W, W = w.alloc (.cells #[.slice a bs.length cap, .int .i64 0, .int .u64 0] 57) := ⟨_, rfl⟩
  rw [← hw1]
  have hC : Cur w1 w.heap.size 0 := by rw [hw1]; exact cur_new w _ la ha bs HY.out.1 hh HY.out.2
  have X1 : Ext w w1 := by rw [hw1]; exact Ext.alloc _ _
  have s1 : w.heap.size < w1.heap.size := by rw [hw1, size_alloc]; omega
  clear hw1
  refine (c_sites w.heap.size 0 w1 hC (by omega)).mono ?_
  rintro e w2 ⟨v2, xss, n, rfl, hI, hl, n0, n1, hc, hk⟩
  obtain ⟨a2, c2, rfl, _, _⟩ := hI.form
  have HI := Lib.hid hI
  have HC := Lib.hid hc
  have HX := Lib.hid (X1.keep hk (Nat.le_refl _))
  clear hI hc hk hC
  go_wp2_with fail
  refine (c_amongL w.heap.size _ [13, -1] (-1) 13 w2 HC.out (by omega) (by simp) (by simp) (by intro x hx; simp at hx; omega)).mono ?_
  rintro e w3 ⟨r, rfl, r0, r1, hc, hk⟩
  have T1__ := Lib.hid hc
  have T2__ := Lib.hid (HX.out.keep hk (Nat.le_refl _))
  have T3__ := Lib.hid (HI.out.kb hk s1 (Nat.le_refl _))
  have T4__ := Lib.hid hk.size
  clear HC HX HI hc hk
  have HC := T1__
  have HX := T2__
  have HI : Hid (Intss w3 w1.heap.size w3.heap.size _ xss) := T3__.out.wide (Nat.le_refl _) T4__.out
  clear T1__ T2__ T3__ T4__
  go_wp2_with fail
  refine (c_amongL w.heap.size _ [0, 1, 2, 3, 4, 12, r] (-1) 13 w3 HC.out (by omega) (by simp) (by simp) (by intro x hx; simp at hx; omega)).mono ?_
  rintro e w4 ⟨r2, rfl, r20, r21, hc, hk⟩
  have T1__ := Lib.hid hc
  have T2__ := Lib.hid (HX.out.keep hk (Nat.le_refl _))
  have T3__ := Lib.hid (HI.out.kb hk s1 (Nat.le_refl _))
  have T4__ := Lib.hid hk.size
  clear HC HX HI hc hk
  have HC := T1__
  have HX := T2__
  have HI : Hid (Intss w4 w1.heap.size w4.heap.size _ xss) := T3__.out.wide (Nat.le_refl _) T4__.out
  clear T1__ T2__ T3__ T4__
  go_wp2
  go_ret3
  exact ⟨_, xss, n, r2, rfl, HI.out.wide (Nat.le_of_lt s1) (Nat.le_refl _), hl, n0, n1, r20, r21, HX.out⟩
set_option maxRecDepth 100000 in
set_option maxHeartbeats 1000000 in
theorem c_DrawLeastCover (v : Value) (la ha : Nat) (bs : List Int) (w : World) (h : Bytes w la ha v bs) (hh : ha ≤ w.heap.size) : Calls Try.prog 25 #[v] w (GiveNI w) := by
  obtain ⟨a, cap, rfl, _⟩ := h.1.formY
  have HY := Lib.hid h
  clear h
  go_enter Try.func25, Try.ntmps25
  go_wp2_with fail
  obtain ⟨w1, hw1⟩ : ∃ W, W = w.alloc (.cells #[.slice a bs.length cap, .int .i64 0, .int .u64 0] 57) := ⟨_, rfl⟩
  rw [← hw1]
  have hC : Cur w1 w.heap.size 0 := by rw [hw1]; exact cur_new w _ la ha bs HY.out.1 hh HY.out.2
  have X1 : Ext w w1 := by rw [hw1]; exact Ext.alloc _ _
  have s1 : w.heap.size < w1.heap.size := by rw [hw1, size_alloc]; omega
  clear hw1
  refine (c_sites w.heap.size 0 w1 hC (by omega)).mono ?_
  rintro e w2 ⟨v2, xss, n, rfl, hI, hl, n0, n1, hc, hk⟩
  obtain ⟨a2, c2, rfl, _, _⟩ := hI.form
  have HI := Lib.hid hI
  have HC := Lib.hid hc
  have HX := Lib.hid (X1.keep hk (Nat.le_refl _))
  clear hI hc hk hC
  go_wp2_with fail
  refine (c_amongL w.heap.size _ [0, 3] (-1) 13 w2 HC.out (by omega) (by simp) (by simp) (by intro x hx; simp at hx; omega)).mono ?_
  rintro e w3 ⟨r, rfl, r0, r1, hc, hk⟩
  have T1__ := Lib.hid hc
  have T2__ := Lib.hid (HX.out.keep hk (Nat.le_refl _))
  have T3__ := Lib.hid (HI.out.kb hk s1 (Nat.le_refl _))
  have T4__ := Lib.hid hk.size
  clear HC HX HI hc hk
  have HC := T1__
  have HX := T2__
  have HI : Hid (Intss w3 w1.heap.size w3.heap.size _ xss) := T3__.out.wide (Nat.le_refl _) T4__.out
  clear T1__ T2__ T3__ T4__
  go_wp2_with fail
  refine (c_amongL w.heap.size _ [1, 1, 2, r] (-1) 13 w3 HC.out (by omega) (by simp) (by simp) (by intro x hx; simp at hx; omega)).mono ?_
  rintro e w4 ⟨r2, rfl, r20, r21, hc, hk⟩
  have T1__ := Lib.hid hc
  have T2__ := Lib.hid (HX.out.keep hk (Nat.le_refl _))
  have T3__ := Lib.hid (HI.out.kb hk s1 (Nat.le_refl _))
  have T4__ := Lib.hid hk.size
  clear HC HX HI hc hk
  have HC := T1__
  have HX := T2__
  have HI : Hid (Intss w4 w1.heap.size w4.heap.size _ xss) := T3__.out.wide (Nat.le_refl _) T4__.out
  clear T1__ T2__ T3__ T4__
  go_wp2
  go_ret3
  exact ⟨_, xss, n, r2, rfl, HI.out.wide (Nat.le_of_lt s1) (Nat.le_refl _), hl, n0, n1, r20, r21, HX.out⟩
set_option maxRecDepth 100000 in
set_option maxHeartbeats 1000000 in
theorem c_DrawSeenFrom (v : Value) (la ha : Nat) (bs : List Int) (w : World) (h : Bytes w la ha v bs) (hh : ha ≤ w.heap.size) : Calls Try.prog 70 #[v] w (GiveNL w) := by
  obtain ⟨a, cap, rfl, _⟩ := h.1.formY
  have HY := Lib.hid h
  clear h
  go_enter Try.func70, Try.ntmps70
  go_wp2_with fail
  obtain ⟨w1, hw1⟩ : ∃ W, W = w.alloc (.cells #[.slice a bs.length cap, .int .i64 0, .int .u64 0] 57) := ⟨_, rfl⟩
  rw [← hw1]
  have hC : Cur w1 w.heap.size 0 := by rw [hw1]; exact cur_new w _ la ha bs HY.out.1 hh HY.out.2
  have X1 : Ext w w1 := by rw [hw1]; exact Ext.alloc _ _
  have s1 : w.heap.size < w1.heap.size := by rw [hw1, size_alloc]; omega
  clear hw1
  refine (c_sites w.heap.size 0 w1 hC (by omega)).mono ?_
  rintro e w2 ⟨v2, xss, n, rfl, hI, hl, n0, n1, hc, hk⟩
  obtain ⟨a2, c2, rfl, _, _⟩ := hI.form
  have HI := Lib.hid hI
  have HC := Lib.hid hc
  have HX := Lib.hid (X1.keep hk (Nat.le_refl _))
  have hs12 := hk.size
  clear hI hc hk hC
  go_wp2_with fail
  refine (c_chosen w.heap.size _ _ _ _ xss w2 HC.out (by omega) HI.out hl).mono ?_
  rintro e w3 ⟨u3, xs, rfl, ho, hxl, hc, hk⟩
  obtain ⟨a3, c3, rfl, _, _, _⟩ := own_form ho
  have HO : Hid (Ints w3 w2.heap.size w3.heap.size (.slice a3 xs.length c3) xs) := Row.of_own encI_len ho
  have T1__ := Lib.hid hc
  have T2__ := Lib.hid (HX.out.keep hk (Nat.le_refl _))
  have T3__ := Lib.hid (HI.out.kb hk s1 (Nat.le_refl _))
  have hs3 := hk.size
  have hs2 := HX.out.size
  have hs2w : w1.heap.size ≤ w2.heap.size := hs12
  clear HC HX HI hc hk ho
  have HC := T1__
  have HX := T2__
  have HI : Hid (Intss w3 w1.heap.size w3.heap.size _ xss) := T3__.out.wide (Nat.le_refl _) hs3
  clear T1__ T2__ T3__
  go_wp2
  go_ret3
  exact ⟨_, xss, n, _, xs, rfl, HI.out.wide (Nat.le_of_lt s1) (Nat.le_refl _), hl, n0, n1, HO.out.mono (by omega) (Nat.le_refl _), HX.out⟩
set_option maxRecDepth 100000 in
theorem c_DrawThinCover (v : Value) (la ha : Nat) (bs : List Int) (w : World) (h : Bytes w la ha v bs) (hh : ha ≤ w.heap.size) : Calls Try.prog 31 #[v] w (GiveNL w) := by
  have C := Lib.hid (c_DrawSeenFrom v la ha bs w h hh)
  obtain ⟨a, cap, rfl, _⟩ := h.1.formY
  clear h
  go_enter Try.func31, Try.ntmps31
  go_wp2_with fail
  refine C.out.mono ?_
  rintro e w2 ⟨v2, xss, n, u2, xs, rfl, hI, hl, n0, n1, ho, hx⟩
  obtain ⟨a2, c2, rfl, _, _⟩ := hI.form
  obtain ⟨a3, c3, rfl, _, _⟩ := ho.form
  have HI := Lib.hid hI
  have HO := Lib.hid ho
  clear hI ho
  go_wp2
  go_ret3
  exact ⟨_, xss, n, _, xs, rfl, HI.out, hl, n0, n1, HO.out, hx⟩
set_option maxRecDepth 100000 in
set_option maxHeartbeats 1000000 in
theorem c_DrawIsCover (v : Value) (la ha : Nat) (bs : List Int) (w : World) (h : Bytes w la ha v bs) (hh : ha ≤ w.heap.size) : Calls Try.prog 36 #[v] w (GiveNLI w) := by
  obtain ⟨a, cap, rfl, _⟩ := h.1.formY
  have HY := Lib.hid h
  clear h
  go_enter Try.func36, Try.ntmps36
  go_wp2_with fail
  obtain ⟨w1, hw1⟩ : ∃ W, W = w.alloc (.cells #[.slice a bs.length cap, .int .i64 0, .int .u64 0] 57) := ⟨_, rfl⟩
  rw [← hw1]
  have hC : Cur w1 w.heap.size 0 := by rw [hw1]; exact cur_new w _ la ha bs HY.out.1 hh HY.out.2
  have X1 : Ext w w1 := by rw [hw1]; exact Ext.alloc _ _
  have s1 : w.heap.size < w1.heap.size := by rw [hw1, size_alloc]; omega
  clear hw1
  refine (c_sites w.heap.size 0 w1 hC (by omega)).mono ?_
  rintro e w2 ⟨v2, xss, n, rfl, hI, hl, n0, n1, hc, hk⟩
  obtain ⟨a2, c2, rfl, _, _⟩ := hI.form
  have HI := Lib.hid hI
  have HC := Lib.hid hc
  have HX := Lib.hid (X1.keep hk (Nat.le_refl _))
  have hs12 := hk.size
  clear hI hc hk hC
  go_wp2_with fail
  refine (c_chosen w.heap.size _ _ _ _ xss w2 HC.out (by omega) HI.out hl).mono ?_
  rintro e w3 ⟨u3, xs, rfl, ho, hxl, hc, hk⟩
  obtain ⟨a3, c3, rfl, _, _, _⟩ := own_form ho
  have HO : Hid (Ints w3 w2.heap.size w3.heap.size (.slice a3 xs.length c3) xs) := Row.of_own encI_len ho
  have T1__ := Lib.hid hc
  have T2__ := Lib.hid (HX.out.keep hk (Nat.le_refl _))
  have T3__ := Lib.hid (HI.out.kb hk s1 (Nat.le_refl _))
  have hs3 := hk.size
  have hs2 := HX.out.size
  have hs2w : w1.heap.size ≤ w2.heap.size := hs12
  clear HC HX HI hc hk ho
  have HC := T1__
  have HX := T2__
  have HI : Hid (Intss w3 w1.heap.size w3.heap.size _ xss) := T3__.out.wide (Nat.le_refl _) hs3
  clear T1__ T2__ T3__
  go_wp2_with fail
  refine (c_amongL w.heap.size _ [0, 3] (-1) 13 w3 HC.out (by omega) (by simp) (by simp) (by intro x hx; simp at hx; omega)).mono ?_
  rintro e w4 ⟨r, rfl, r0, r1, hc, hk⟩
  have HI4 : Hid (Intss w4 w1.heap.size w4.heap.size _ xss) := (HI.out.kb hk s1 (Nat.le_refl _)).wide (Nat.le_refl _) hk.size
  have HO4 : Hid (Ints w4 w2.heap.size w4.heap.size _ xs) := (HO.out.keep fun q h1 h2 => hk.block q (by omega) (by omega)).mono (Nat.le_refl _) hk.size
  have HX4 := Lib.hid (HX.out.keep hk (Nat.le_refl _))
  have HC4 := Lib.hid hc
  clear hc hk HC HI HO HX
  go_wp2_with fail
  refine (c_amongL w.heap.size _ [1, 1, 2, 2, r] (-1) 13 w4 HC4.out (by omega) (by simp) (by simp) (by intro x hx; simp at hx; omega)).mono ?_
  rintro e w5 ⟨r2, rfl, r20, r21, hc, hk⟩
  have HI5 : Hid (Intss w5 w1.heap.size w5.heap.size _ xss) := (HI4.out.kb hk s1 (Nat.le_refl _)).wide (Nat.le_refl _) hk.size
  have HO5 : Hid (Ints w5 w2.heap.size w5.heap.size _ xs) := (HO4.out.keep fun q h1 h2 => hk.block q (by omega) (by omega)).mono (Nat.le_refl _) hk.size
  have HX5 := Lib.hid (HX4.out.keep hk (Nat.le_refl _))
  clear hc hk HC4 HI4 HO4 HX4
  go_wp2
  refine bodyPost_ret (v := .tuple #[.slice a2 xss.length c2, .int .i64 n, .slice a3 xs.length c3, .int .i64 r2]) (by simp [results, Try.results36, go_sem]) rfl ?_
  exact ⟨_, xss, n, _, xs, r2, rfl, HI5.out.wide (Nat.le_of_lt s1) (Nat.le_refl _), hl, n0, n1, HO5.out.mono (by omega) (Nat.le_refl _), by omega, r20, r21, HX5.out⟩
end Go.Proofs.Ytiofckbdjifdpaa
