/- The cursor of the draws and its calls. -/
import Derived.Test.YtmaaeemhbccpcaaGreatDoorGA
import Derived.IntWalk
/- The cursor of the drawn laws: its cells; next, pick, one, among. -/
namespace Go.Proofs.YtmaaeemhbccpcaaGreatDoor
open Go.RowKit
def encY (n : Int) : List Value := [.int .u8 n]
/-- b is a cursor over some bytes that has taken k steps at most. -/
def Cur (w : World) (b k : Nat) : Prop := ∃ a n cap, ∃ (t : Nat) (s : Int) (xs : List Int), w.heap[b]? = some (.cells #[.slice a n cap, .int .i64 t, .int .u64 s] 79 (0, 0)) ∧ t ≤ k ∧
  Row encY 1 w 0 b (.slice a n cap) xs ∧ ∀ x ∈ xs, 0 ≤ x ∧ x ≤ 255
theorem Cur.mono {w : World} {b k k' : Nat} (h : Cur w b k) (hk : k ≤ k') : Cur w b k' := by
  obtain ⟨a, n, cap, t, s, xs, h1, h2, h3⟩ := h
  exact ⟨a, n, cap, t, s, xs, h1, Nat.le_trans h2 hk, h3⟩
theorem Cur.lt {w : World} {b k : Nat} (h : Cur w b k) : b < w.heap.size := by
  obtain ⟨a, n, cap, t, s, xs, h1, _⟩ := h
  exact (Array.getElem?_eq_some_iff.1 h1).1
theorem Cur.ext {w w' : World} {b k : Nat} (h : Cur w b k) (hx : Ext w w') : Cur w' b k := by
  have hb := h.lt
  obtain ⟨a, n, cap, t, s, xs, h1, h2, h3, h4⟩ := h
  exact ⟨a, n, cap, t, s, xs, hx.blk h1, h2, h3.ext hx (Nat.le_of_lt hb), h4⟩
/-- What a draw of a number gives. -/
def DrawI (b k : Nat) (lo hi : Int) (w : World) (e : Ending) (w' : World) : Prop := ∃ r, e = .returned (.int .i64 r) ∧ lo ≤ r ∧ r ≤ hi ∧ Cur w' b k ∧ Keep b (b + 1) w w'
theorem Bytes_at {w : World} {lo hi n : Nat} {a : Option Addr} {cap : Nat} {xs : List Int} (h : Row encY 1 w lo hi (.slice a n cap) xs) {k : Nat} (hk : k < n) :
    ∃ b off g, a = some ⟨b, off, none⟩ ∧ Hid (xs[k]? = some g) ∧ w.cell? ⟨b, off + k, none⟩ = some (.int .u8 g) := by
  obtain ⟨a', cap', hv, h1, h2, b, off, h3, h4⟩ := h
  simp only [Value.slice.injEq] at hv
  obtain ⟨rfl, rfl, rfl⟩ := hv
  obtain ⟨ha, _, _⟩ := h3 (by omega)
  have hg : xs[k]? = some xs[k] := List.getElem?_eq_getElem hk
  exact ⟨b, off, xs[k], ha, hg, by simpa using h4 k _ 0 _ hg rfl⟩
theorem and255 (n : Int) : bits .and .u64 n 255 = n % 256 := by
  have h1 : (BitVec.ofInt 64 255).toNat = 2 ^ 8 - 1 := by decide
  have key : (BitVec.ofInt 64 n &&& BitVec.ofInt 64 255).toNat = (n % ((2 ^ 64 : Nat) : Int)).toNat % 2 ^ 8 := by
    rw [BitVec.toNat_and, BitVec.toNat_ofInt, h1, Nat.and_two_pow_sub_one_eq_mod]
  show IntKind.u64.wrap ((BitVec.ofInt 64 n &&& BitVec.ofInt 64 255).toNat : Nat) = n % 256
  rw [key]
  show (((n % ((2 ^ 64 : Nat) : Int)).toNat % 2 ^ 8 : Nat) : Int) % ((2 ^ 64 : Nat) : Int) = n % 256
  omega
theorem and255_bd (n : Int) : 0 ≤ wrap64 (bits .and .u64 n 255) ∧ wrap64 (bits .and .u64 n 255) ≤ 255 := by
  rw [and255, IntWalk.wrap64_in _ ⟨by omega, by omega⟩]
  omega
theorem keep_setj (w : World) (b j : Nat) (v : Value) : Keep b (b + 1) w (w.setCell ⟨b, j, none⟩ v) :=
  ⟨rfl, rfl, rfl, by simp [World.setCell], fun k _ hk => heap_setCell_other _ _ _ _ (by show k ≠ b; omega)⟩
set_option maxRecDepth 100000 in
set_option maxHeartbeats 2000000 in
theorem c_next (b k : Nat) (w : World) (h : Cur w b k) (hk : k ≤ 1000000) : Calls Tryz.prog 84 #[.pointer (some ⟨b, 0, none⟩)] w (DrawI b (k + 1) 0 255 w) := by
  obtain ⟨a, n, cap, t, s, xs, h1, h2, h3, h4⟩ := h
  have k0 := XT.cell (blk_cell h1 (j := 0) rfl)
  have k1 := XT.cell (blk_cell h1 (j := 1) rfl)
  have HB := Lib.hid h1
  have HR := Lib.hid h3
  have H4 := Lib.hid h4
  obtain ⟨_, _, e9, m1, m2, _⟩ := h3
  simp only [Value.slice.injEq] at e9
  obtain ⟨rfl, rfl, rfl⟩ := e9
  obtain ⟨n, hn⟩ : ∃ n, n = xs.length := ⟨_, rfl⟩
  rw [← hn] at m1 k0 HB HR
  clear h1 h4 hn
  by_cases hlt : t < n
  · have hltI : (t : Int) < (n : Int) := by omega
    obtain ⟨b9, o9, g, rfl, hg, c0⟩ := Bytes_at HR.out hlt
    obtain ⟨g0, g255⟩ := H4.out g (List.mem_of_getElem? hg.out)
    have d0 := XT.cell c0
    go_enter Tryz.func84, Tryz.ntmps84
    go_wp2_with fail
    refine region_ext (by kernel_rfl) (by kernel_rfl) ?_
    repeat (go_big_quiet_step (fail))
    refine wpQuiet_nil ?_
    intro wq hxq
    have B1 := hxq.blk HB.out
    have X1 := hxq
    have k0 := XT.cell (blk_cell B1 (j := 0) rfl)
    have k1 := XT.cell (blk_cell B1 (j := 1) rfl)
    have d0 := XT.cell (hxq.cell c0)
    go_wp2_with fail
    refine region_ext (by kernel_rfl) (by kernel_rfl) ?_
    repeat (go_big_quiet_step (fail))
    refine wpQuiet_nil ?_
    intro wq hxq
    have B2 := hxq.blk B1
    have X2 := X1.trans hxq
    have k1 := blk_cell B2 (j := 1) rfl
    have k2 := blk_cell B2 (j := 2) rfl
    have f1 := blk_free B2 1
    have f2 := blk_free B2 2
    go_wp2_with fail
    obtain ⟨W3, hW3⟩ : ∃ W, W = (wq.setCell ⟨b, 1, none⟩ (.int .i64 ((t : Int) + 1))).setCell ⟨b, 2, none⟩ (.int .u64 (IntKind.u64.wrap (IntKind.u64.wrap (IntKind.u64.wrap (s * 6364136223846793005) + g) + 1442695040888963407))) := ⟨_, rfl⟩
    rw [← hW3]
    have g1 : (wq.setCell ⟨b, 1, none⟩ (.int .i64 ((t : Int) + 1))).heap[b]? = some (.cells #[.slice (some ⟨b9, o9, none⟩) n cap, .int .i64 ((t : Int) + 1), .int .u64 s] 79 (0, 0)) := by rw [heap_setCell_same _ _ _ _ _ _ B2]; rfl
    obtain ⟨s', hs'⟩ : ∃ s' : Int, W3.heap[b]? = some (.cells #[.slice (some ⟨b9, o9, none⟩) n cap, .int .i64 ((t : Int) + 1), .int .u64 s'] 79 (0, 0)) := ⟨_, by rw [hW3, heap_setCell_same _ _ _ _ _ _ g1]; rfl⟩
    have K3 : Hid (Keep b (b + 1) w W3) := by
      unfold Hid
      rw [hW3]
      exact (Keep.of_ext X2).trans ((keep_setj _ b 1 _).trans (keep_setj _ b 2 _))
    have HB3 := Lib.hid hs'
    have k0 := XT.cell (blk_cell hs' (j := 0) rfl)
    have k1 := XT.cell (blk_cell hs' (j := 1) rfl)
    clear hW3 g1 hs' f1 f2 k2 B2
    refine region_ext (by kernel_rfl) (by kernel_rfl) ?_
    repeat (go_big_quiet_step (fail))
    refine wpQuiet_nil ?_
    intro wq hxq
    have HC : Hid (Cur wq b (k + 1)) := by
      have hb := (Array.getElem?_eq_some_iff.1 HB.out).1
      have hr := HR.out.keep (w' := wq) fun q _ hq => by
        rw [hxq.block q (by have := K3.out.size; omega), K3.out.block q (by omega) (by omega)]
      exact ⟨_, _, _, t + 1, s', xs, by exact hxq.blk HB3.out, by omega, hr, H4.out⟩
    have HK : Hid (Keep b (b + 1) w wq) := K3.out.trans (Keep.of_ext hxq)
    have hle : (t : Int) + 1 ≤ (n : Int) := by omega
    go_wp2
    go_ret
    exact ⟨g, rfl, g0, g255, HC.out, HK.out⟩
  · have hltI : ¬ ((t : Int) < (n : Int)) := by omega
    go_enter Tryz.func84, Tryz.ntmps84
    go_wp2_with fail
    refine region_ext (by kernel_rfl) (by kernel_rfl) ?_
    repeat (go_big_quiet_step (fail))
    refine wpQuiet_nil ?_
    intro wq hxq
    have B1 := HB.out
    have X1 := Ext.refl w
    have B2 := hxq.blk B1
    have X2 := X1.trans hxq
    have k1 := blk_cell B2 (j := 1) rfl
    have k2 := blk_cell B2 (j := 2) rfl
    have f1 := blk_free B2 1
    have f2 := blk_free B2 2
    go_wp2_with fail
    obtain ⟨W3, hW3⟩ : ∃ W, W = (wq.setCell ⟨b, 1, none⟩ (.int .i64 ((t : Int) + 1))).setCell ⟨b, 2, none⟩ (.int .u64 (IntKind.u64.wrap (IntKind.u64.wrap (IntKind.u64.wrap (s * 6364136223846793005)) + 1442695040888963407))) := ⟨_, rfl⟩
    rw [← hW3]
    have g1 : (wq.setCell ⟨b, 1, none⟩ (.int .i64 ((t : Int) + 1))).heap[b]? = some (.cells #[.slice a n cap, .int .i64 ((t : Int) + 1), .int .u64 s] 79 (0, 0)) := by rw [heap_setCell_same _ _ _ _ _ _ B2]; rfl
    obtain ⟨s', hs'⟩ : ∃ s' : Int, W3.heap[b]? = some (.cells #[.slice a n cap, .int .i64 ((t : Int) + 1), .int .u64 s'] 79 (0, 0)) := ⟨_, by rw [hW3, heap_setCell_same _ _ _ _ _ _ g1]; rfl⟩
    have K3 : Hid (Keep b (b + 1) w W3) := by
      unfold Hid
      rw [hW3]
      exact (Keep.of_ext X2).trans ((keep_setj _ b 1 _).trans (keep_setj _ b 2 _))
    have HB3 := Lib.hid hs'
    have k0 := XT.cell (blk_cell hs' (j := 0) rfl)
    have k1 := XT.cell (blk_cell hs' (j := 1) rfl)
    clear hW3 g1 hs' f1 f2 k2 B2
    refine region_ext (by kernel_rfl) (by kernel_rfl) ?_
    repeat (go_big_quiet_step (fail))
    refine wpQuiet_nil ?_
    intro wq hxq
    have HC : Hid (Cur wq b (k + 1)) := by
      have hb := (Array.getElem?_eq_some_iff.1 HB.out).1
      have hr := HR.out.keep (w' := wq) fun q _ hq => by
        rw [hxq.block q (by have := K3.out.size; omega), K3.out.block q (by omega) (by omega)]
      exact ⟨_, _, _, t + 1, s', xs, by exact hxq.blk HB3.out, by omega, hr, H4.out⟩
    have HK : Hid (Keep b (b + 1) w wq) := K3.out.trans (Keep.of_ext hxq)
    have hle : ¬ ((t : Int) + 1 ≤ (n : Int)) := by omega
    have k2 := blk_cell (hxq.blk HB3.out) (j := 2) rfl
    go_wp2
    go_ret
    refine ⟨_, rfl, ?_, ?_, HC.out, HK.out⟩
    · exact (and255_bd _).1
    · exact (and255_bd _).2
end Go.Proofs.YtmaaeemhbccpcaaGreatDoor
/- The cursor of the drawn laws: pick, one, among; where a draw makes one. -/
namespace Go.Proofs.YtmaaeemhbccpcaaGreatDoor
open Go.RowKit
def DrawB (b k : Nat) (w : World) (e : Ending) (w' : World) : Prop := ∃ t, e = .returned (.bool t) ∧ Cur w' b k ∧ Keep b (b + 1) w w'
theorem DrawI.mk {b k k' : Nat} {lo hi r : Int} {w w' : World} (h1 : lo ≤ r) (h2 : r ≤ hi) (hc : Cur w' b k') (hk : Keep b (b + 1) w w') (hkk : k' ≤ k) : DrawI b k lo hi w (.returned (.int .i64 r)) w' :=
  ⟨r, rfl, h1, h2, hc.mono hkk, hk⟩
set_option maxRecDepth 100000 in
set_option maxHeartbeats 2000000 in
theorem c_pick (b k : Nat) (n : Int) (w : World) (h : Cur w b k) (hk : k ≤ 999000) (hn : n ≤ 1099511627776) : Calls Tryz.prog 73 #[.pointer (some ⟨b, 0, none⟩), .int .i64 n] w (DrawI b (k + 2) 0 (max 0 (n - 1)) w) := by
  by_cases h1 : n ≤ 1
  · have HC := Lib.hid h
    clear h
    go_enter Tryz.func73, Tryz.ntmps73
    go_wp2
    go_ret
    exact DrawI.mk (by omega) (by omega) HC.out (Keep.refl _ _ _) (by omega)
  · have C1 := Lib.hid (c_next b k w h (by omega))
    have hn0 : 0 < n := by omega
    clear h
    by_cases h2 : n ≤ 200
    · have h2b : ¬ (200 < n) := by omega
      go_enter Tryz.func73, Tryz.ntmps73
      go_wp2_with fail
      refine C1.out.mono ?_
      rintro e w1 ⟨r, rfl, r0, r1, hc, hk1⟩
      have HC := Lib.hid hc
      have HK := Lib.hid hk1
      have hm0 := Int.emod_nonneg r (show n ≠ 0 by omega)
      have hm1 := Int.emod_lt_of_pos r hn0
      clear hc hk1
      go_wp2
      go_ret
      exact DrawI.mk hm0 (by omega) HC.out HK.out (by omega)
    · have h2b : 200 < n := by omega
      go_enter Tryz.func73, Tryz.ntmps73
      go_wp2_with fail
      refine C1.out.mono ?_
      rintro e w1 ⟨r, rfl, r0, r1, hc, hk1⟩
      have C2 := Lib.hid (c_next b (k + 1) w1 hc (by omega))
      have HK := Lib.hid hk1
      clear hc hk1
      go_wp2_with fail
      refine C2.out.mono ?_
      rintro e w2 ⟨r2, rfl, s0, s1, hc, hk2⟩
      have HC := Lib.hid hc
      have HK2 := Lib.hid hk2
      have hm0 := Int.emod_nonneg (r * 256 + r2) (show n ≠ 0 by omega)
      have hm1 := Int.emod_lt_of_pos (r * 256 + r2) hn0
      clear hc hk2
      go_wp2
      go_ret
      exact DrawI.mk hm0 (by omega) HC.out (HK.out.trans HK2.out) (by omega)
set_option maxRecDepth 100000 in
theorem c_one (b k : Nat) (n : Int) (w : World) (h : Cur w b k) (hk : k ≤ 999000) (hn : n ≤ 1099511627776) : Calls Tryz.prog 50 #[.pointer (some ⟨b, 0, none⟩), .int .i64 n] w (DrawB b (k + 2) w) := by
  have C1 := Lib.hid (c_pick b k n w h hk hn)
  clear h
  go_enter Tryz.func50, Tryz.ntmps50
  go_wp2_with fail
  refine C1.out.mono ?_
  rintro e w1 ⟨r, rfl, r0, r1, hc, hk1⟩
  have HC := Lib.hid hc
  have HK := Lib.hid hk1
  clear hc hk1
  by_cases hr : r = 0
  · have hrb : (r == 0) = true := by simp [hr]
    clear hr
    go_wp2
    go_ret
    exact ⟨_, rfl, HC.out, HK.out⟩
  · have hrb : (r == 0) = false := by simp [hr]
    clear hr
    go_wp2
    go_ret
    exact ⟨_, rfl, HC.out, HK.out⟩
set_option maxRecDepth 100000 in
set_option maxHeartbeats 1000000 in
theorem c_among (b k : Nat) (v : Value) (la ha : Nat) (xs : List Int) (lo hi : Int) (w : World) (h : Cur w b k) (hk : k ≤ 999000) (hr : Ints w la ha v xs) (hd : b < la) (hh : ha ≤ w.heap.size) (h0 : 0 < xs.length) (hl : xs.length ≤ 1000) (hb : ∀ x ∈ xs, lo ≤ x ∧ x ≤ hi) :
    Calls Tryz.prog 74 #[.pointer (some ⟨b, 0, none⟩), v] w (DrawI b (k + 2) lo hi w) := by
  have C1 := Lib.hid (c_pick b k xs.length w h hk (by omega))
  obtain ⟨a, cap, rfl, m1, m2⟩ := hr.form
  have HR := Lib.hid hr
  have HB := Lib.hid hb
  obtain ⟨n, hn⟩ : ∃ n, n = xs.length := ⟨_, rfl⟩
  rw [← hn] at m1 HR C1 h0 hl ⊢
  clear h hr hb hn
  go_enter Tryz.func74, Tryz.ntmps74
  go_wp2_with fail
  refine C1.out.mono ?_
  rintro e w1 ⟨r, rfl, r0, r1, hc, hk1⟩
  obtain ⟨q, rfl⟩ := Int.eq_ofNat_of_zero_le r0
  have hqn : q < n := by omega
  have hrow : Ints w1 la ha (.slice a n cap) xs := HR.out.keep fun j hj1 hj2 => hk1.block j (by omega) (by omega)
  obtain ⟨b9, o9, g, rfl, hg, c0⟩ := Ints_at hrow hqn
  obtain ⟨g0, g1⟩ := HB.out g (List.mem_of_getElem? hg.out)
  have HC := Lib.hid hc
  have HK := Lib.hid hk1
  have hqI : (q : Int) < (n : Int) := by omega
  clear hc hk1 hrow
  go_wp2
  go_ret
  exact DrawI.mk g0 g1 HC.out HK.out (Nat.le_refl _)
/-- .. of a list that is written out. -/
theorem c_amongL (b k : Nat) (xs : List Int) (lo hi : Int) (w : World) (h : Cur w b k) (hk : k ≤ 999000) (h0 : 0 < xs.length) (hl : xs.length ≤ 1000) (hb : ∀ x ∈ xs, lo ≤ x ∧ x ≤ hi) :
    Calls Tryz.prog 74 #[.pointer (some ⟨b, 0, none⟩), .slice (some ⟨w.heap.size, 0, none⟩) xs.length xs.length] (w.alloc (.cells (xs.map (Value.int .i64)).toArray 3)) (DrawI b (k + 2) lo hi w) := by
  have hlt := h.lt
  have hrow : Ints (w.alloc (.cells (xs.map (Value.int .i64)).toArray 3)) w.heap.size (w.heap.size + 1) (.slice (some ⟨w.heap.size, 0, none⟩) xs.length xs.length) xs :=
    ⟨_, _, rfl, Nat.le_refl _, by omega, w.heap.size, 0, fun _ => ⟨rfl, Nat.le_refl _, by omega⟩, fun i x j c hx hc => by
      have e1 : j = 0 ∧ c = .int .i64 x := by
        cases j with
        | zero => simp [encI] at hc; exact ⟨rfl, hc.symm⟩
        | succ j => simp [encI] at hc
      obtain ⟨rfl, rfl⟩ := e1
      refine blk_cell (blk_alloc _ _) ?_
      simp [hx]⟩
  refine (c_among b k _ w.heap.size (w.heap.size + 1) xs lo hi _ (h.ext (Ext.alloc _ _)) hk hrow hlt (by simp) h0 hl hb).mono fun e w' ⟨r, he, h1, h2, hc, hk⟩ => ⟨r, he, h1, h2, hc, (Keep.of_ext (Ext.alloc _ _)).trans hk⟩
theorem Row.formY {w : World} {lo hi : Nat} {v : Value} {xs : List Int} (h : Row encY 1 w lo hi v xs) : ∃ a cap, v = .slice a xs.length cap ∧ xs.length ≤ cap := by
  obtain ⟨a, cap, rfl, h2, _⟩ := h
  exact ⟨a, cap, rfl, h2⟩
/-- A cursor that has just been made. -/
theorem cur_new (w : World) (v : Value) (lo hi : Nat) (xs : List Int) (h : Row encY 1 w lo hi v xs) (hh : hi ≤ w.heap.size) (hb : ∀ x ∈ xs, 0 ≤ x ∧ x ≤ 255) : Cur (w.alloc (.cells #[v, .int .i64 0, .int .u64 0] 79)) w.heap.size 0 := by
  have h2 := (h.ext (Ext.alloc w (.cells #[v, .int .i64 0, .int .u64 0] 79)) hh).mono (Nat.zero_le _) hh
  obtain ⟨a, cap, rfl, _⟩ := h2.formY
  exact ⟨_, _, _, 0, 0, xs, blk_alloc _ _, Nat.le_refl _, h2, hb⟩
end Go.Proofs.YtmaaeemhbccpcaaGreatDoor
/- Draws: what stays as it was. The least and the most of two ints. -/
namespace Go.Proofs.YtmaaeemhbccpcaaGreatDoor
open Go.RowKit
theorem own_kc {w w' : World} {b base sz n : Nat} {e : TypeId} {v : Value} {xs : List Value} (h : w.ownsRow base e sz v n xs) (hk : Keep b (b + 1) w w') (hb : b < base) : w'.ownsRow base e sz v n xs :=
  own_keep h hk (fun k e => by have := (h.lt k e).1; omega)
/-- A store into a list of the call's own that a draw has given. -/
theorem keep_own {w : World} {b g base : Nat} (j : Nat) (v : Value) (hg : base ≤ g) {w0 : World} (hk : Keep b (b + 1) w0 w) (hs : w0.heap.size ≤ base) : Keep b (b + 1) w0 (w.setCell ⟨g, j, none⟩ v) :=
  ⟨hk.os, hk.tape, hk.output, by have := hk.size; simp [World.setCell]; exact this, fun i hi ho => by
    rw [heap_setCell_other _ _ _ _ (by show i ≠ g; omega)]; exact hk.block i hi ho⟩
theorem Cur.keep {w w' : World} {b k : Nat} (h : Cur w b k) (hk : ∀ j, j ≤ b → w'.heap[j]? = w.heap[j]?) : Cur w' b k := by
  obtain ⟨a, n, cap, t, s, xs, h1, h2, h3, h4⟩ := h
  exact ⟨a, n, cap, t, s, xs, by rw [hk b (Nat.le_refl _)]; exact h1, h2, h3.keep fun q _ hq => hk q (by omega), h4⟩
theorem Cur.set {w : World} {b k g : Nat} (h : Cur w b k) (j : Nat) (v : Value) (hg : b < g) : Cur (w.setCell ⟨g, j, none⟩ v) b k :=
  h.keep fun i hi => heap_setCell_other _ _ _ _ (by show i ≠ g; omega)
theorem Cur.grown {w w' : World} {b k : Nat} {row : Option Nat} {o : Obj} (h : Cur w b k) (hg : (w.alloc o).grownBy w' row) (hr : ∀ q, row = some q → b < q) : Cur w' b k :=
  h.keep fun i hi => by
    have := h.lt
    rw [hg.block i (by simp; omega) (fun e => by have := hr i e.symm; omega)]
    exact heap_alloc_old _ _ (by omega)
theorem keep_grown {w0 w w' : World} {b : Nat} {row : Option Nat} {o : Obj} (hk : Keep b (b + 1) w0 w) (hg : (w.alloc o).grownBy w' row) (hr : ∀ q, row = some q → w0.heap.size ≤ q) : Keep b (b + 1) w0 w' :=
  ⟨by rw [hg.os]; exact hk.os, by rw [hg.tape]; exact hk.tape, by rw [hg.output]; exact hk.output, by have := hk.size; have := hg.size; simp at this; omega, fun i hi ho => by
    have h1 := hk.size
    rw [hg.block i (by simp; omega) (fun e => by have := hr i e.symm; omega), heap_alloc_old _ _ (by omega)]
    exact hk.block i hi ho⟩
end Go.Proofs.YtmaaeemhbccpcaaGreatDoor
