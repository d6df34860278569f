
/- The cursor of the drawn laws: its cells; next, pick, one, among. -/
import Derived.Test.YtiipjlcmekakaaaKeep
import Derived.IntWalk
namespace Go.Proofs.Ytiipjlcmekakaaa
open Go.RowKit
def encY (n : Int) : List Value := [.int .u8 n]
/-- b is a cursor over some bytes that has taken k steps at most. -/
def Cur (w : World) (b k : Nat) : Prop := ∃ a n cap, ∃ (t : Nat) (s : Int) (xs : List Int), w.heap[b]? = some (.cells #[.slice a n cap, .int .i64 t, .int .u64 s] 66 (0, 0)) ∧ t ≤ k ∧
  Row encY 1 w 0 b (.slice a n cap) xs ∧ ∀ x ∈ xs, 0 ≤ x ∧ x ≤ 255
theorem Cur.mono {w : World} {b k k' : Nat} (h : Cur w b k) (hk : k ≤ k') : Cur w b k' := by
  obtain ⟨a, n, cap, t, s, xs, h1, h2, h3⟩ := h
  exact ⟨a, n, cap, t, s, xs, h1, Nat.le_trans h2 hk, h3⟩
theorem Cur.lt {w : World} {b k : Nat} (h : Cur w b k) : b < w.heap.size := by
  obtain ⟨a, n, cap, t, s, xs, h1, _⟩ := h
  exact (Array.getElem?_eq_some_iff.1 h1).1
theorem Cur.ext {w w' : World} {b k : Nat} (h : Cur w b k) (hx : Ext w w') : Cur w' b k := by
  have hb := h.lt
  obtain ⟨a, n, cap, t, s, xs, h1, h2, h3, h4⟩ := h
  exact ⟨a, n, cap, t, s, xs, hx.blk h1, h2, h3.ext hx (Nat.le_of_lt hb), h4⟩
/-- What a draw of a number gives. -/
def DrawI (b k : Nat) (lo hi : Int) (w : World) (e : Ending) (w' : World) : Prop := ∃ r, e = .returned (.int .i64 r) ∧ lo ≤ r ∧ r ≤ hi ∧ Cur w' b k ∧ Keep b (b + 1) w w'
theorem Bytes_at {w : World} {lo hi n : Nat} {a : Option Addr} {cap : Nat} {xs : List Int} (h : Row encY 1 w lo hi (.slice a n cap) xs) {k : Nat} (hk : k < n) :
    ∃ b off g, a = some ⟨b, off, none⟩ ∧ Hid (xs[k]? = some g) ∧ w.cell? ⟨b, off + k, none⟩ = some (.int .u8 g) := by
  obtain ⟨a', cap', hv, h1, h2, b, off, h3, h4⟩ := h
  simp only [Value.slice.injEq] at hv
  obtain ⟨rfl, rfl, rfl⟩ := hv
  obtain ⟨ha, _, _⟩ := h3 (by omega)
  have hg : xs[k]? = some xs[k] := List.getElem?_eq_getElem hk
  exact ⟨b, off, xs[k], ha, hg, by simpa using h4 k _ 0 _ hg rfl⟩
theorem and255 (n : Int) : bits .and .u64 n 255 = n % 256 := by
  have h1 : (BitVec.ofInt 64 255).toNat = 2 ^ 8 - 1 := by decide
  have key : (BitVec.ofInt 64 n &&& BitVec.ofInt 64 255).toNat = (n % ((2 ^ 64 : Nat) : Int)).toNat % 2 ^ 8 := by
    rw [BitVec.toNat_and, BitVec.toNat_ofInt, h1, Nat.and_two_pow_sub_one_eq_mod]
  show IntKind.u64.wrap ((BitVec.ofInt 64 n &&& BitVec.ofInt 64 255).toNat : Nat) = n % 256
  rw [key]
  show (((n % ((2 ^ 64 : Nat) : Int)).toNat % 2 ^ 8 : Nat) : Int) % ((2 ^ 64 : Nat) : Int) = n % 256
  omega
theorem and255_bd (n : Int) : 0 ≤ wrap64 (bits .and .u64 n 255) ∧ wrap64 (bits .and .u64 n 255) ≤ 255 := by
  rw [and255, IntWalk.wrap64_in _ ⟨by omega, by omega⟩]
  omega
theorem keep_setj (w : World) (b j : Nat) (v : Value) : Keep b (b + 1) w (w.setCell ⟨b, j, none⟩ v) :=
  ⟨rfl, rfl, rfl, by simp [World.setCell], fun k _ hk => heap_setCell_other _ _ _ _ (by show k ≠ b; omega)⟩
set_option maxRecDepth 100000 in
set_option maxHeartbeats 2000000 in
theorem c_next (b k : Nat) (w : World) (h : Cur w b k) (hk : k ≤ 1000000) : Calls Try.prog 91 #[.pointer (some ⟨b, 0, none⟩)] w (DrawI b (k + 1) 0 255 w) := by
  obtain ⟨a, n, cap, t, s, xs, h1, h2, h3, h4⟩ := h
  have k0 := XT.cell (blk_cell h1 (j := 0) rfl)
  have k1 := XT.cell (blk_cell h1 (j := 1) rfl)
  have HB := Lib.hid h1
  have HR := Lib.hid h3
  have H4 := Lib.hid h4
  obtain ⟨_, _, e9, m1, m2, _⟩ := h3
  simp only [Value.slice.injEq] at e9
  obtain ⟨rfl, rfl, rfl⟩ := e9
  obtain ⟨n, hn⟩ : ∃ n, n = xs.length := ⟨_, rfl⟩
  rw [← hn] at m1 k0 HB HR
  clear h1 h4 hn
  by_cases hlt : t < n
  · have hltI : (t : Int) < (n : Int) := by omega
    obtain ⟨b9, o9, g, rfl, hg, c0⟩ := Bytes_at HR.out hlt
    obtain ⟨g0, g255⟩ := H4.out g (List.mem_of_getElem? hg.out)
    have d0 := XT.cell c0
    go_enter Try.func91, Try.ntmps91
    go_wp2_with fail
    refine region_ext (by kernel_rfl) (by kernel_rfl) ?_
    repeat (go_big_quiet_step (fail))
    refine wpQuiet_nil ?_
    intro wq hxq
    have B1 := hxq.blk HB.out
    have X1 := hxq
    have k0 := XT.cell (blk_cell B1 (j := 0) rfl)
    have k1 := XT.cell (blk_cell B1 (j := 1) rfl)
    have d0 := XT.cell (hxq.cell c0)
    go_wp2_with fail
    refine region_ext (by kernel_rfl) (by kernel_rfl) ?_
    repeat (go_big_quiet_step (fail))
    refine wpQuiet_nil ?_
    intro wq hxq
    have B2 := hxq.blk B1
    have X2 := X1.trans hxq
    have k1 := blk_cell B2 (j := 1) rfl
    have k2 := blk_cell B2 (j := 2) rfl
    have f1 := blk_free B2 1
    have f2 := blk_free B2 2
    go_wp2_with fail
    obtain ⟨W3, hW3⟩ : ∃ W, W = (wq.setCell ⟨b, 1, none⟩ (.int .i64 ((t : Int) + 1))).setCell ⟨b, 2, none⟩ (.int .u64 (IntKind.u64.wrap (IntKind.u64.wrap (IntKind.u64.wrap (s * 6364136223846793005) + g) + 1442695040888963407))) := ⟨_, rfl⟩
    rw [← hW3]
    have g1 : (wq.setCell ⟨b, 1, none⟩ (.int .i64 ((t : Int) + 1))).heap[b]? = some (.cells #[.slice (some ⟨b9, o9, none⟩) n cap, .int .i64 ((t : Int) + 1), .int .u64 s] 66 (0, 0)) := by rw [heap_setCell_same _ _ _ _ _ _ B2]; rfl
    obtain ⟨s', hs'⟩ : ∃ s' : Int, W3.heap[b]? = some (.cells #[.slice (some ⟨b9, o9, none⟩) n cap, .int .i64 ((t : Int) + 1), .int .u64 s'] 66 (0, 0)) := ⟨_, by rw [hW3, heap_setCell_same _ _ _ _ _ _ g1]; rfl⟩
    have K3 : Hid (Keep b (b + 1) w W3) := by
      unfold Hid
      rw [hW3]
      exact (Keep.of_ext X2).trans ((keep_setj _ b 1 _).trans (keep_setj _ b 2 _))
    have HB3 := Lib.hid hs'
    have k0 := XT.cell (blk_cell hs' (j := 0) rfl)
    have k1 := XT.cell (blk_cell hs' (j := 1) rfl)
    clear hW3 g1 hs' f1 f2 k2 B2
    refine region_ext (by kernel_rfl) (by kernel_rfl) ?_
    repeat (go_big_quiet_step (fail))
    refine wpQuiet_nil ?_
    intro wq hxq
    have HC : Hid (Cur wq b (k + 1)) := by
      have hb := (Array.getElem?_eq_some_iff.1 HB.out).1
      have hr := HR.out.keep (w' := wq) fun q _ hq => by
        rw [hxq.block q (by have := K3.out.size; omega), K3.out.block q (by omega) (by omega)]
      exact ⟨_, _, _, t + 1, s', xs, by exact hxq.blk HB3.out, by omega, hr, H4.out⟩
    have HK : Hid (Keep b (b + 1) w wq) := K3.out.trans (Keep.of_ext hxq)
    have hle : (t : Int) + 1 ≤ (n : Int) := by omega
    go_wp2
    go_ret
    exact ⟨g, rfl, g0, g255, HC.out, HK.out⟩
  · have hltI : ¬ ((t : Int) < (n : Int)) := by omega
    go_enter Try.func91, Try.ntmps91
    go_wp2_with fail
    refine region_ext (by kernel_rfl) (by kernel_rfl) ?_
    repeat (go_big_quiet_step (fail))
    refine wpQuiet_nil ?_
    intro wq hxq
    have B1 := HB.out
    have X1 := Ext.refl w
    have B2 := hxq.blk B1
    have X2 := X1.trans hxq
    have k1 := blk_cell B2 (j := 1) rfl
    have k2 := blk_cell B2 (j := 2) rfl
    have f1 := blk_free B2 1
    have f2 := blk_free B2 2
    go_wp2_with fail
    obtain ⟨W3, hW3⟩ : ∃ W, W = (wq.setCell ⟨b, 1, none⟩ (.int .i64 ((t : Int) + 1))).setCell ⟨b, 2, none⟩ (.int .u64 (IntKind.u64.wrap (IntKind.u64.wrap (IntKind.u64.wrap (s * 6364136223846793005)) + 1442695040888963407))) := ⟨_, rfl⟩
    rw [← hW3]
    have g1 : (wq.setCell ⟨b, 1, none⟩ (.int .i64 ((t : Int) + 1))).heap[b]? = some (.cells #[.slice a n cap, .int .i64 ((t : Int) + 1), .int .u64 s] 66 (0, 0)) := by rw [heap_setCell_same _ _ _ _ _ _ B2]; rfl
    obtain ⟨s', hs'⟩ : ∃ s' : Int, W3.heap[b]? = some (.cells #[.slice a n cap, .int .i64 ((t : Int) + 1), .int .u64 s'] 66 (0, 0)) := ⟨_, by rw [hW3, heap_setCell_same _ _ _ _ _ _ g1]; rfl⟩
    have K3 : Hid (Keep b (b + 1) w W3) := by
      unfold Hid
      rw [hW3]
      exact (Keep.of_ext X2).trans ((keep_setj _ b 1 _).trans (keep_setj _ b 2 _))
    have HB3 := Lib.hid hs'
    have k0 := XT.cell (blk_cell hs' (j := 0) rfl)
    have k1 := XT.cell (blk_cell hs' (j := 1) rfl)
    clear hW3 g1 hs' f1 f2 k2 B2
    refine region_ext (by kernel_rfl) (by kernel_rfl) ?_
    repeat (go_big_quiet_step (fail))
    refine wpQuiet_nil ?_
    intro wq hxq
    have HC : Hid (Cur wq b (k + 1)) := by
      have hb := (Array.getElem?_eq_some_iff.1 HB.out).1
      have hr := HR.out.keep (w' := wq) fun q _ hq => by
        rw [hxq.block q (by have := K3.out.size; omega), K3.out.block q (by omega) (by omega)]
      exact ⟨_, _, _, t + 1, s', xs, by exact hxq.blk HB3.out, by omega, hr, H4.out⟩
    have HK : Hid (Keep b (b + 1) w wq) := K3.out.trans (Keep.of_ext hxq)
    have hle : ¬ ((t : Int) + 1 ≤ (n : Int)) := by omega
    have k2 := blk_cell (hxq.blk HB3.out) (j := 2) rfl
    go_wp2
    go_ret
    refine ⟨_, rfl, ?_, ?_, HC.out, HK.out⟩
    · exact (and255_bd _).1
    · exact (and255_bd _).2
end Go.Proofs.Ytiipjlcmekakaaa
