
/- The laws' own helpers on sights: size, copy, equality, marks. -/
import Derived.Test.YtnoagmjajhlmjaaGround
import Derived.Deep.RegionHeld3
namespace Go.Proofs.Ytnoagmjajhlmjaa
open Go.RowKit

/-- What is left of a bound behind n elements. -/
def szI (left n : Int) : Int := if n ≤ left then left - n else -1
set_option maxRecDepth 100000 in
theorem c_szGroundS (a : Option Addr) (n cap : Nat) (left : Int) (w : World) (h0 : 0 ≤ left) (h1 : left ≤ 1048576) (hn : n ≤ 9223372036854775807) :
    Calls Try.prog 38 #[.slice a n cap, .int .i64 left] w fun e w' => e = .returned (.int .i64 (szI left n)) ∧ w = w' := by
  obtain ⟨r, hr⟩ : ∃ r, r = szI left n := ⟨_, rfl⟩
  rw [← hr]
  unfold szI at hr
  have HR := Lib.hid hr
  clear hr
  by_cases h : (n : Int) ≤ left
  all_goals
    go_enter Try.func38, Try.ntmps38
    go_wp2
    go_ret
    refine ⟨?_, rfl⟩
    rw [HR.out]
    first | (rw [if_pos h]; rfl) | (rw [if_neg (by omega)]; rfl)
set_option maxRecDepth 100000 in
theorem c_szSight (D A B : Int) (a : Option Addr) (n cap : Nat) (left : Int) (w : World) (h0 : 0 ≤ left) (h1 : left ≤ 1048576) (hn : n ≤ 9223372036854775807) :
    Calls Try.prog 6 #[.agg #[.int .i64 D, .int .i64 A, .int .i64 B, .slice a n cap], .int .i64 left] w fun e w' => e = .returned (.int .i64 (szI left n)) ∧ Ext w w' := by
  obtain ⟨r, hr⟩ : ∃ r, r = szI left n := ⟨_, rfl⟩
  have cz := fun W => c_szGroundS a n cap left W h0 h1 hn
  rw [← hr] at cz ⊢
  have CZ := Lib.hid cz
  have HR := Lib.hid hr
  clear cz hr
  by_cases h : r < 0
  · have hm : r = -1 := by have := HR.out; unfold szI at this; split at this <;> omega
    have HM := Lib.hid hm
    clear hm
    go_enter Try.func6, Try.ntmps6
    go_wp2_with (go_at_call 38; refine (CZ.out _).mono ?_; rintro e w' ⟨rfl, rfl⟩)
    go_ret
    exact ⟨by rw [HM.out]; rfl, Ext.alloc _ _⟩
  · go_enter Try.func6, Try.ntmps6
    go_wp2_with (go_at_call 38; refine (CZ.out _).mono ?_; rintro e w' ⟨rfl, rfl⟩)
    go_ret
    exact ⟨rfl, Ext.alloc _ _⟩

set_option maxRecDepth 100000 in
theorem c_toSight (D A B : Int) (vg : Value) (lo hi : Nat) (gs : List GroundT) (w : World) (h : Grounds w lo hi vg gs) (hh : hi ≤ w.heap.size) (hn : gs.length ≤ 1048576) :
    Calls Try.prog 8 #[.agg #[.int .i64 D, .int .i64 A, .int .i64 B, vg]] w fun e w' => ∃ v, e = .returned (.agg #[.int .i64 D, .int .i64 A, .int .i64 B, v]) ∧
      w'.ownsRow w.heap.size 61 2 v gs.length (gs.flatMap encGround) ∧ Ext w w' := by
  have h0 := h
  obtain ⟨a, cap, rfl, m1, m2, _⟩ := h0
  have H := Lib.hid h
  clear h
  go_enter Try.func8, Try.ntmps8
  go_wp2_with fail
  obtain ⟨W1, hW1⟩ : ∃ W, W = w.alloc (.cells #[.int .i64 D, .int .i64 A, .int .i64 B, .slice a gs.length cap] 24) := ⟨_, rfl⟩
  obtain ⟨W2, hW2⟩ : ∃ W, W = W1.alloc (.cells #[.int .i64 0, .int .i64 0, .int .i64 0, .slice none 0 0] 28) := ⟨_, rfl⟩
  obtain ⟨W3, hW3⟩ : ∃ W, W = W2.alloc (.cells #[.int .i64 D, .int .i64 A, .int .i64 B, .slice none 0 0] 28) := ⟨_, rfl⟩
  rw [← hW1, ← hW2, ← hW3]
  have s1 : W1.heap.size = w.heap.size + 1 := by rw [hW1, size_alloc]
  have s2 : W2.heap.size = w.heap.size + 2 := by rw [hW2, size_alloc, s1]
  have s3 : W3.heap.size = w.heap.size + 3 := by rw [hW3, size_alloc, s2]
  have X : Ext w W3 := by rw [hW3, hW2, hW1]; exact (((Ext.refl w).al _).al _).al _
  have B1 : W3.heap[w.heap.size + 1]? = some (.cells #[.int .i64 0, .int .i64 0, .int .i64 0, .slice none 0 0] 28) := by
    rw [hW3]; refine blk_old ?_; rw [hW2, ← s1]; exact blk_alloc _ _
  have B2 : W3.heap[w.heap.size + 2]? = some (.cells #[.int .i64 D, .int .i64 A, .int .i64 B, .slice none 0 0] 28) := by
    rw [hW3, ← s2]; exact blk_alloc _ _
  clear hW1 hW2 hW3 s1 s2
  refine (c_toGroundS _ lo hi gs W3 (H.out.ext X hh) hn).mono ?_
  rintro e w2 ⟨v, rfl, hown, hx⟩
  obtain ⟨a2, c2, rfl, _, _, _⟩ := own_form hown
  have b1 := hx.blk B1
  have b2 := hx.blk B2
  have k10 := blk_cell b1 (j := 0) rfl
  have k11 := blk_cell b1 (j := 1) rfl
  have k12 := blk_cell b1 (j := 2) rfl
  have k13 := blk_cell b1 (j := 3) rfl
  have k20 := blk_cell b2 (j := 0) rfl
  have k21 := blk_cell b2 (j := 1) rfl
  have k22 := blk_cell b2 (j := 2) rfl
  have k23 := blk_cell b2 (j := 3) rfl
  have f1 := fun j => blk_free b1 j
  have f2 := fun j => blk_free b2 j
  rw [s3] at hown
  have HO := Lib.hid hown
  have hxw := X.trans hx
  clear hown B1 B2 b1 b2 s3 hx X
  go_wp2
  refine bodyPost_ret (v := .agg #[.int .i64 D, .int .i64 A, .int .i64 B, .slice a2 gs.length c2]) (by simp [results, Try.results8, go_sem, *]) rfl ⟨_, rfl, ?_, ?_⟩
  · refine own_mono ?_ (show w.heap.size ≤ w.heap.size + 3 by omega)
    repeat (with_reducible refine ownsRow_setCell_below ?_ (by dsimp only; omega) _)
    exact HO.out
  · repeat (with_reducible refine Ext.st ?_ (by dsimp only; omega) _)
    exact hxw

set_option maxRecDepth 100000 in
theorem c_eqSight (D A B D2 A2 B2 : Int) (va vb : Value) (la ha lb hb : Nat) (xs ys : List GroundT) (w : World) (h1 : Grounds w la ha va xs) (h2 : Grounds w lb hb vb ys) (hh1 : ha ≤ w.heap.size) (hh2 : hb ≤ w.heap.size) :
    Calls Try.prog 10 #[.agg #[.int .i64 D, .int .i64 A, .int .i64 B, va], .agg #[.int .i64 D2, .int .i64 A2, .int .i64 B2, vb]] w fun e w' =>
      e = .returned (.bool (decide (D = D2 ∧ A = A2 ∧ B = B2 ∧ xs = ys))) ∧ Ext w w' := by
  obtain ⟨r, hr⟩ : ∃ r, r = decide (D = D2 ∧ A = A2 ∧ B = B2 ∧ xs = ys) := ⟨_, rfl⟩
  rw [← hr]
  have HR := Lib.hid hr
  clear hr
  have g1 := h1
  have g2 := h2
  obtain ⟨a, ca, rfl, m1, m2, _⟩ := g1
  obtain ⟨b, cb, rfl, m3, m4, _⟩ := g2
  have X : Hid (∀ o o', Ext w ((w.alloc o).alloc o')) := fun o o' => ((Ext.refl w).al o).al o'
  have CE : Hid (∀ W, Ext w W → Calls Try.prog 42 #[.slice a xs.length ca, .slice b ys.length cb] W fun e w' => e = .returned (.bool (decide (xs = ys))) ∧ Ext W w') :=
    fun W hX => c_eqGroundS _ _ la ha lb hb xs ys W (h1.ext hX hh1) (h2.ext hX hh2)
  clear h1 h2
  by_cases e1 : D = D2
  · by_cases e2 : A = A2
    · by_cases e3 : B = B2
      · obtain ⟨q, hq⟩ : ∃ q, q = decide (xs = ys) := ⟨_, rfl⟩
        rw [← hq] at CE
        have hrq : Hid (r = q) := by unfold Hid; rw [HR.out, hq]; simp [e1, e2, e3]
        subst e1 e2 e3
        clear hq
        cases q
        all_goals
          go_enter Try.func10, Try.ntmps10
          go_wp2_with (go_at_call 42; refine (CE.out _ (X.out _ _)).mono ?_; rintro e w2 ⟨rfl, hx⟩)
          go_ret
          refine ⟨by rw [hrq.out]; rfl, (X.out _ _).trans hx⟩
      · have hf : Hid (r = false) := by unfold Hid; rw [HR.out]; simp [e3]
        subst e1 e2
        have e3' : (B != B2) = true := by simp [e3]
        clear e3
        go_enter Try.func10, Try.ntmps10
        go_wp2
        go_ret
        refine ⟨by rw [hf.out]; rfl, X.out _ _⟩
    · have hf : Hid (r = false) := by unfold Hid; rw [HR.out]; simp [e2]
      subst e1
      have e2' : (A != A2) = true := by simp [e2]
      clear e2
      go_enter Try.func10, Try.ntmps10
      go_wp2
      go_ret
      refine ⟨by rw [hf.out]; rfl, X.out _ _⟩
  · have hf : Hid (r = false) := by unfold Hid; rw [HR.out]; simp [e1]
    have e1' : (D != D2) = true := by simp [e1]
    clear e1
    go_enter Try.func10, Try.ntmps10
    go_wp2
    go_ret
    refine ⟨by rw [hf.out]; rfl, X.out _ _⟩
end Go.Proofs.Ytnoagmjajhlmjaa
