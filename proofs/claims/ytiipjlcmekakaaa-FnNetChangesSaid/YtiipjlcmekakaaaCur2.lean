
/- The cursor of the drawn laws: pick, one, among; where a draw makes one. -/
import Derived.Test.YtiipjlcmekakaaaCur
namespace Go.Proofs.Ytiipjlcmekakaaa
open Go.RowKit
def DrawB (b k : Nat) (w : World) (e : Ending) (w' : World) : Prop := ∃ t, e = .returned (.bool t) ∧ Cur w' b k ∧ Keep b (b + 1) w w'
theorem DrawI.mk {b k k' : Nat} {lo hi r : Int} {w w' : World} (h1 : lo ≤ r) (h2 : r ≤ hi) (hc : Cur w' b k') (hk : Keep b (b + 1) w w') (hkk : k' ≤ k) : DrawI b k lo hi w (.returned (.int .i64 r)) w' :=
  ⟨r, rfl, h1, h2, hc.mono hkk, hk⟩
set_option maxRecDepth 100000 in
set_option maxHeartbeats 2000000 in
theorem c_pick (b k : Nat) (n : Int) (w : World) (h : Cur w b k) (hk : k ≤ 999000) (hn : n ≤ 1099511627776) : Calls Try.prog 76 #[.pointer (some ⟨b, 0, none⟩), .int .i64 n] w (DrawI b (k + 2) 0 (max 0 (n - 1)) w) := by
  by_cases h1 : n ≤ 1
  · have HC := Lib.hid h
    clear h
    go_enter Try.func76, Try.ntmps76
    go_wp2
    go_ret
    exact DrawI.mk (by omega) (by omega) HC.out (Keep.refl _ _ _) (by omega)
  · have C1 := Lib.hid (c_next b k w h (by omega))
    have hn0 : 0 < n := by omega
    clear h
    by_cases h2 : n ≤ 200
    · have h2b : ¬ (200 < n) := by omega
      go_enter Try.func76, Try.ntmps76
      go_wp2_with fail
      refine C1.out.mono ?_
      rintro e w1 ⟨r, rfl, r0, r1, hc, hk1⟩
      have HC := Lib.hid hc
      have HK := Lib.hid hk1
      have hm0 := Int.emod_nonneg r (show n ≠ 0 by omega)
      have hm1 := Int.emod_lt_of_pos r hn0
      clear hc hk1
      go_wp2
      go_ret
      exact DrawI.mk hm0 (by omega) HC.out HK.out (by omega)
    · have h2b : 200 < n := by omega
      go_enter Try.func76, Try.ntmps76
      go_wp2_with fail
      refine C1.out.mono ?_
      rintro e w1 ⟨r, rfl, r0, r1, hc, hk1⟩
      have C2 := Lib.hid (c_next b (k + 1) w1 hc (by omega))
      have HK := Lib.hid hk1
      clear hc hk1
      go_wp2_with fail
      refine C2.out.mono ?_
      rintro e w2 ⟨r2, rfl, s0, s1, hc, hk2⟩
      have HC := Lib.hid hc
      have HK2 := Lib.hid hk2
      have hm0 := Int.emod_nonneg (r * 256 + r2) (show n ≠ 0 by omega)
      have hm1 := Int.emod_lt_of_pos (r * 256 + r2) hn0
      clear hc hk2
      go_wp2
      go_ret
      exact DrawI.mk hm0 (by omega) HC.out (HK.out.trans HK2.out) (by omega)
set_option maxRecDepth 100000 in
theorem c_one (b k : Nat) (n : Int) (w : World) (h : Cur w b k) (hk : k ≤ 999000) (hn : n ≤ 1099511627776) : Calls Try.prog 90 #[.pointer (some ⟨b, 0, none⟩), .int .i64 n] w (DrawB b (k + 2) w) := by
  have C1 := Lib.hid (c_pick b k n w h hk hn)
  clear h
  go_enter Try.func90, Try.ntmps90
  go_wp2_with fail
  refine C1.out.mono ?_
  rintro e w1 ⟨r, rfl, r0, r1, hc, hk1⟩
  have HC := Lib.hid hc
  have HK := Lib.hid hk1
  clear hc hk1
  by_cases hr : r = 0
  · have hrb : (r == 0) = true := by simp [hr]
    clear hr
    go_wp2
    go_ret
    exact ⟨_, rfl, HC.out, HK.out⟩
  · have hrb : (r == 0) = false := by simp [hr]
    clear hr
    go_wp2
    go_ret
    exact ⟨_, rfl, HC.out, HK.out⟩
set_option maxRecDepth 100000 in
set_option maxHeartbeats 1000000 in
theorem c_among (b k : Nat) (v : Value) (la ha : Nat) (xs : List Int) (lo hi : Int) (w : World) (h : Cur w b k) (hk : k ≤ 999000) (hr : Ints w la ha v xs) (hd : b < la) (hh : ha ≤ w.heap.size) (h0 : 0 < xs.length) (hl : xs.length ≤ 1000) (hb : ∀ x ∈ xs, lo ≤ x ∧ x ≤ hi) :
    Calls Try.prog 40 #[.pointer (some ⟨b, 0, none⟩), v] w (DrawI b (k + 2) lo hi w) := by
  have C1 := Lib.hid (c_pick b k xs.length w h hk (by omega))
  obtain ⟨a, cap, rfl, m1, m2⟩ := hr.form
  have HR := Lib.hid hr
  have HB := Lib.hid hb
  obtain ⟨n, hn⟩ : ∃ n, n = xs.length := ⟨_, rfl⟩
  rw [← hn] at m1 HR C1 h0 hl ⊢
  clear h hr hb hn
  go_enter Try.func40, Try.ntmps40
  go_wp2_with fail
  refine C1.out.mono ?_
  rintro e w1 ⟨r, rfl, r0, r1, hc, hk1⟩
  obtain ⟨q, rfl⟩ := Int.eq_ofNat_of_zero_le r0
  have hqn : q < n := by omega
  have hrow : Ints w1 la ha (.slice a n cap) xs := HR.out.keep fun j hj1 hj2 => hk1.block j (by omega) (by omega)
  obtain ⟨b9, o9, g, rfl, hg, c0⟩ := Ints_at hrow hqn
  obtain ⟨g0, g1⟩ := HB.out g (List.mem_of_getElem? hg.out)
  have HC := Lib.hid hc
  have HK := Lib.hid hk1
  have hqI : (q : Int) < (n : Int) := by omega
  clear hc hk1 hrow
  go_wp2
  go_ret
  exact DrawI.mk g0 g1 HC.out HK.out (Nat.le_refl _)
/-- .. of a list that is written out. -/
theorem c_amongL (b k : Nat) (xs : List Int) (lo hi : Int) (w : World) (h : Cur w b k) (hk : k ≤ 999000) (h0 : 0 < xs.length) (hl : xs.length ≤ 1000) (hb : ∀ x ∈ xs, lo ≤ x ∧ x ≤ hi) :
    Calls Try.prog 40 #[.pointer (some ⟨b, 0, none⟩), .slice (some ⟨w.heap.size, 0, none⟩) xs.length xs.length] (w.alloc (.cells (xs.map (Value.int .i64)).toArray 3)) (DrawI b (k + 2) lo hi w) := by
  have hlt := h.lt
  have hrow : Ints (w.alloc (.cells (xs.map (Value.int .i64)).toArray 3)) w.heap.size (w.heap.size + 1) (.slice (some ⟨w.heap.size, 0, none⟩) xs.length xs.length) xs :=
    ⟨_, _, rfl, Nat.le_refl _, by omega, w.heap.size, 0, fun _ => ⟨rfl, Nat.le_refl _, by omega⟩, fun i x j c hx hc => by
      have e1 : j = 0 ∧ c = .int .i64 x := by
        cases j with
        | zero => simp [encI] at hc; exact ⟨rfl, hc.symm⟩
        | succ j => simp [encI] at hc
      obtain ⟨rfl, rfl⟩ := e1
      refine blk_cell (blk_alloc _ _) ?_
      simp [hx]⟩
  refine (c_among b k _ w.heap.size (w.heap.size + 1) xs lo hi _ (h.ext (Ext.alloc _ _)) hk hrow hlt (by simp) h0 hl hb).mono fun e w' ⟨r, he, h1, h2, hc, hk⟩ => ⟨r, he, h1, h2, hc, (Keep.of_ext (Ext.alloc _ _)).trans hk⟩
theorem Row.formY {w : World} {lo hi : Nat} {v : Value} {xs : List Int} (h : Row encY 1 w lo hi v xs) : ∃ a cap, v = .slice a xs.length cap ∧ xs.length ≤ cap := by
  obtain ⟨a, cap, rfl, h2, _⟩ := h
  exact ⟨a, cap, rfl, h2⟩
/-- A cursor that has just been made. -/
theorem cur_new (w : World) (v : Value) (lo hi : Nat) (xs : List Int) (h : Row encY 1 w lo hi v xs) (hh : hi ≤ w.heap.size) (hb : ∀ x ∈ xs, 0 ≤ x ∧ x ≤ 255) : Cur (w.alloc (.cells #[v, .int .i64 0, .int .u64 0] 66)) w.heap.size 0 := by
  have h2 := (h.ext (Ext.alloc w (.cells #[v, .int .i64 0, .int .u64 0] 66)) hh).mono (Nat.zero_le _) hh
  obtain ⟨a, cap, rfl, _⟩ := h2.formY
  exact ⟨_, _, _, 0, 0, xs, blk_alloc _ _, Nat.le_refl _, h2, hb⟩
end Go.Proofs.Ytiipjlcmekakaaa
