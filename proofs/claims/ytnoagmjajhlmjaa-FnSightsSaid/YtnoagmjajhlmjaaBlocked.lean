
/- BlockedBy of the program and of the reference: their contracts; marks on a sight. -/
import Derived.Test.YtnoagmjajhlmjaaSeesAt
namespace Go.Proofs.Ytnoagmjajhlmjaa
open Go.RowKit

def bbV (D A B n : Int) (gs : List GroundT) : List Int := if askedB D A B n gs then blk (low D A B n) 0 gs else []
theorem bb_len (D A B n : Int) (gs : List GroundT) (h : gs.length ≤ 1048576) : (bbV D A B n gs).length ≤ 1099511627776 := by
  unfold bbV; split
  · have := blk_len (low D A B n) gs 0; omega
  · simp
theorem grown_ext {w w' w'' : World} {row : Option Nat} (hx : Ext w w') (hg : w'.grownBy w'' row) : w.grownBy w'' row :=
  grown_trans ⟨hx.os, hx.tape, hx.output, hx.size, fun k hk _ => hx.block k hk⟩ hg
set_option maxRecDepth 100000 in
theorem c_markSight (D A B : Int) (vg : Value) (n base : Nat) (L : List Value) (c : Int) (w : World) (hown : w.ownsRow base 61 2 vg n L) (hc0 : 0 ≤ c) (hc1 : c ≤ 1099511627776) (hn20 : n ≤ 1048576) :
    Calls Try.prog 11 #[.agg #[.int .i64 D, .int .i64 A, .int .i64 B, vg], .int .i64 c] w fun e w' => e = .returned (.int .i64 (c + n * 2)) ∧ w'.ownsRow base 61 2 vg n (marks c (n * 2)) ∧ w.grownBy w' vg.ownBlock := by
  obtain ⟨a, cap, rfl, _, _, _⟩ := own_form hown
  have CM := Lib.hid (c_markGroundS _ n base L c _ (own_ext hown (Ext.alloc w (.cells #[.int .i64 D, .int .i64 A, .int .i64 B, .slice a n cap] 28))) hc0 hc1 (by omega))
  clear hown
  go_enter Try.func11, Try.ntmps11
  go_wp2_with (go_at_call 43; refine CM.out.mono ?_; rintro e w2 ⟨rfl, ho, hg⟩)
  go_ret
  exact ⟨rfl, ho, grown_ext (Ext.alloc _ _) hg⟩
set_option maxRecDepth 100000 in
set_option maxHeartbeats 1000000 in
theorem c_sBlockedBy (D A B n : Int) (vg : Value) (lo hi : Nat) (gs : List GroundT) (w : World) (h : Grounds w lo hi vg gs) (hh : hi ≤ w.heap.size) :
    Calls Try.prog 26 #[.agg #[.int .i64 D, .int .i64 A, .int .i64 B, vg], .int .i64 n] w fun e w' => ∃ r, e = .returned (.tuple #[r, .bool (askedB D A B n gs)]) ∧
      w'.ownsRow w.heap.size 3 1 r (bbV D A B n gs).length ((bbV D A B n gs).flatMap encI) ∧ Ext w w' := by
  have h0 := h
  obtain ⟨a, cap, rfl, m1, m2, _⟩ := h0
  have H := Lib.hid h
  clear h
  obtain ⟨y, hy⟩ : ∃ y, y = askedB D A B n gs := ⟨_, rfl⟩
  obtain ⟨L, hL⟩ : ∃ L, L = bbV D A B n gs := ⟨_, rfl⟩
  rw [← hy, ← hL]
  unfold bbV at hL
  rw [← hy] at hL
  have CA : Hid (∀ W, Ext w W → Calls Try.prog 47 #[.agg #[.int .i64 D, .int .i64 A, .int .i64 B, .slice a gs.length cap], .int .i64 n] W fun e w' => e = .returned (.bool y) ∧ Ext W w') :=
    fun W hX => by rw [hy]; exact c_siAsked D A B n _ lo hi gs W (H.out.ext hX hh) (Nat.le_trans hh hX.size)
  have HB := Lib.hid (blk_alloc w (.cells #[.int .i64 D, .int .i64 A, .int .i64 B, .slice a gs.length cap] 28))
  cases y
  · simp at hL; subst hL
    clear hy
    go_enter Try.func26, Try.ntmps26
    go_wp2_with (go_at_call 47; refine (CA.out _ (Ext.alloc _ _)).mono ?_; rintro e w2 ⟨rfl, hx2⟩)
    go_ret2
    exact ⟨_, rfl, World.ownsRow_nil _ _ _ _, (Ext.alloc _ _).trans hx2⟩
  · simp at hL
    have hs : sightOk D A B gs = true ∧ inB 0 3 n = true := by
      unfold askedB at hy
      simpa using hy.symm
    obtain ⟨ok1, ok2, ok3, ok4, ok5⟩ := ok_of_sight hs.1 hs.2
    have CB : Hid (∀ W, Ext w W → Calls Try.prog 56 #[.agg #[.int .i64 D, .int .i64 A, .int .i64 B, .slice a gs.length cap], .int .i64 n] W fun e w' => ∃ v, e = .returned v ∧ w'.ownsRow W.heap.size 3 1 v L.length (L.flatMap encI) ∧ Ext W w') :=
      fun W hX => by rw [hL]; exact c_siBlocked D A B n _ lo hi gs W (H.out.ext hX hh) ok1 ok2 ok3
    clear hs ok1 ok2 ok3 ok4 ok5 hL hy
    go_enter Try.func26, Try.ntmps26
    go_wp2_with (first | (go_at_call 47; refine (CA.out _ (Ext.alloc _ _)).mono ?_; rintro e w2 ⟨rfl, hx2⟩; have X2 := (Ext.alloc _ _).trans hx2; have k0 := blk_cell (hx2.blk HB.out) (j := 0) rfl; have k1 := blk_cell (hx2.blk HB.out) (j := 1) rfl; have k2 := blk_cell (hx2.blk HB.out) (j := 2) rfl; have k3 := blk_cell (hx2.blk HB.out) (j := 3) rfl) | (go_at_call 56; refine (CB.out _ X2).mono ?_; rintro e w3 ⟨v, rfl, ho, hx3⟩; obtain ⟨a5, c5, rfl, _, _, _⟩ := own_form ho))
    go_ret2
    exact ⟨_, rfl, own_mono ho X2.size, X2.trans hx3⟩
set_option maxRecDepth 100000 in
set_option maxHeartbeats 1000000 in
theorem c_iBlockedBy (D A B n : Int) (vg : Value) (lo hi : Nat) (gs : List GroundT) (w : World) (h : Grounds w lo hi vg gs) (hh : hi ≤ w.heap.size) :
    Calls Try.prog 25 #[.agg #[.int .i64 D, .int .i64 A, .int .i64 B, vg], .int .i64 n] w fun e w' => ∃ r, e = .returned (.tuple #[r, .bool (askedB D A B n gs)]) ∧
      w'.ownsRow w.heap.size 3 1 r (bbV D A B n gs).length ((bbV D A B n gs).flatMap encI) ∧ Ext w w' := by
  obtain ⟨i0, hi0, hz0, hz1, hz2⟩ := info_parts Try.info_intS
  have h0 := h
  obtain ⟨a, cap, rfl, m1, m2, _⟩ := h0
  have H := Lib.hid h
  clear h
  obtain ⟨y, hy⟩ : ∃ y, y = askedB D A B n gs := ⟨_, rfl⟩
  obtain ⟨Z, hZ⟩ : ∃ L, L = bbV D A B n gs := ⟨_, rfl⟩
  rw [← hy, ← hZ]
  unfold bbV at hZ
  rw [← hy] at hZ
  obtain ⟨s, hs⟩ : ∃ s, s = sightOk D A B gs := ⟨_, rfl⟩
  obtain ⟨m, hm⟩ : ∃ m, m = gs.length := ⟨_, rfl⟩
  have CS : Hid (∀ W, Ext w W → Calls Try.prog 37 #[.agg #[.int .i64 D, .int .i64 A, .int .i64 B, .slice a m cap]] W fun e w' => e = .returned (.bool s) ∧ Ext W w') :=
    fun W hX => by rw [hs, hm]; exact c_IsSight D A B _ lo hi gs W (H.out.ext hX hh)
  unfold askedB at hy
  rw [← hs] at hy
  rw [← hm] at m1 H ⊢
  have HM := Lib.hid hm
  clear hm
  have HB := Lib.hid (blk_alloc w (.cells #[.int .i64 D, .int .i64 A, .int .i64 B, .slice a m cap] 28))
  cases s
  · simp at hy; subst hy; simp at hZ; subst hZ
    clear hs
    go_enter Try.func25, Try.ntmps25
    go_wp2_with (go_at_call 37; refine (CS.out _ (Ext.alloc _ _)).mono ?_; rintro e w2 ⟨rfl, hx2⟩)
    go_ret2
    exact ⟨_, rfl, World.ownsRow_nil _ _ _ _, (Ext.alloc _ _).trans hx2⟩
  cases hn2 : inB 0 3 n
  · rw [hn2] at hy; simp at hy; subst hy; simp at hZ; subst hZ
    clear hs
    go_enter Try.func25, Try.ntmps25
    go_wp2_with (first | (go_at_call 37; refine (CS.out _ (Ext.alloc _ _)).mono ?_; rintro e w2 ⟨rfl, hx2⟩) | (go_at_call 45; refine (within_c _ _ _ _).mono ?_; rintro e w' ⟨rfl, rfl⟩))
    go_ret2
    exact ⟨_, rfl, World.ownsRow_nil _ _ _ _, (Ext.alloc _ _).trans hx2⟩
  rw [hn2] at hy; simp at hy; subst hy; simp at hZ
  obtain ⟨ok1, ok2, h20, ok4, ok5⟩ := ok_of_sight hs.symm hn2
  rw [← HM.out] at h20
  have HG := Lib.hid ok2
  have HK := Lib.hid ok1
  have HZ := Lib.hid hZ
  clear hs ok1 ok2 ok4 ok5 hZ
  go_enter Try.func25, Try.ntmps25
  go_wp2_with (first | (go_at_call 37; refine (CS.out _ (Ext.alloc _ _)).mono ?_; rintro e w1 ⟨rfl, hx2⟩; have X0 := (Ext.alloc _ _).trans hx2; have B1 := hx2.blk HB.out; have k3 := blk_cell B1 (j := 3) rfl) | (go_at_call 45; refine (within_c _ _ _ _).mono ?_; rintro e w' ⟨rfl, rfl⟩))
  have HSZ := Lib.hid X0.size
  clear k3 hx2 HB
  go_loopw [6, 20] (fun v t wr => ∃ k : Nat, k ≤ m ∧ t = .int .i64 k ∧ wr.ownsRow w1.heap.size 3 1 v (blk (low D A B n) 0 (gs.take k)).length ((blk (low D A B n) 0 (gs.take k)).flatMap encI) ∧ Ext w1 wr) (fun _ t _ => m - (intOf t).toNat)
  case atStart => exact ⟨0, by omega, rfl, by simpa [blk] using World.ownsRow_nil w1 w1.heap.size 3 1, Ext.refl _⟩
  case round =>
    obtain ⟨k, hk, rfl, hown, hx⟩ := hrel
    by_cases hlt : k < m
    · obtain ⟨b, o, ⟨x, y⟩, rfl, hg, c0, c1⟩ := Grounds_at H.out hlt
      have d0 := hx.cell (X0.cell c0)
      have d1 := hx.cell (X0.cell c1)
      have hltI : (k : Int) < (m : Int) := by omega
      have hGX := Ext.alloc wr (.cells #[.int .i64 x, .int .i64 y] 61)
      have B2 := (hx.trans hGX).blk B1
      have k0 := blk_cell B2 (j := 0) rfl
      have k1 := blk_cell B2 (j := 1) rfl
      have k2 := blk_cell B2 (j := 2) rfl
      have k3 := blk_cell B2 (j := 3) rfl
      have HO : Hid (blk (low D A B n) 0 (gs.take (k + 1)) = blk (low D A B n) 0 (gs.take k) ++ (if low D A B n (x, y) then [(k : Int)] else [])) := by
        unfold Hid; rw [take_snoc' hg.out, blk_snoc, List.length_take_of_le (by rw [← HM.out]; exact hk)]; simp
      have hlen := blk_len (low D A B n) (gs.take k) 0
      have hlen2 := List.length_take_le k gs
      have hle : (blk (low D A B n) 0 (gs.take k)).length ≤ 20 := by omega
      obtain ⟨L, hL⟩ : ∃ L, L = blk (low D A B n) 0 (gs.take k) := ⟨_, rfl⟩
      rw [← hL] at HO hle hown
      obtain ⟨t, ht⟩ : ∃ t, t = low D A B n (x, y) := ⟨_, rfl⟩
      obtain ⟨q, hq⟩ : ∃ q, q = clr D A B n (x, y) := ⟨_, rfl⟩
      have hmem : (x, y) ∈ gs := List.mem_of_getElem? hg.out
      have CO : Hid (∀ W, Calls Try.prog 55 #[.agg #[.int .i64 D, .int .i64 A, .int .i64 B, .slice (some ⟨b, o, none⟩) m cap], .agg #[.int .i64 x, .int .i64 y], .int .i64 n] W fun e w' => e = .returned (.int .i64 q) ∧ Ext W w') :=
        fun W => by rw [hq]; exact c_clearanceAt D A B n x y _ W HK.out (HG.out _ hmem)
      rw [← ht] at HO
      unfold low at ht
      rw [← hq] at ht
      have HOWN := Lib.hid hown
      clear c0 c1 hlen hlen2 hL hq hmem hown B2
      by_cases hqn : q < 0
      · have HT : Hid (t = true) := by unfold Hid; rw [ht]; simp [hqn]
        clear ht
        go_wp2_with (first | (go_at_call 55; refine (CO.out _).mono ?_; rintro e w2 ⟨rfl, hx2⟩) | (at_builtin; refine wpList_append_own _ rfl _ _ 46 rfl w1.heap.size 3 i0 (.int .i64 0) 1 8 Try.underlying46 hi0 hz0 hz1 hz2 rfl (by decide) _ _ _ rfl ((own_ext HOWN.out (hGX.trans hx2)).alloc _) ⟨w2.heap.size, 0, none⟩ 1 1 [.int .i64 (k : Int)] rfl rfl (new_cells1 _ _ _) (by intro u hu; simp at hu; subst hu; rfl) (by unfold maxLen; omega) (by omega) (by have := hx.size; have := hGX.size; have := hx2.size; simp; omega) ?_; intro v3 w3 hown3 hgrow3 _))
        go_roundw
        case rel =>
          refine ⟨k + 1, by omega, by go_num, ?_, ((hx.trans hGX).trans hx2).push (own_ext HOWN.out (hGX.trans hx2)) hgrow3 (Nat.le_refl _)⟩
          rw [HO.out, HT.out]
          exact own_push hown3
        case measure => simp [intOf]; omega
      · have HT : Hid (t = false) := by unfold Hid; rw [ht]; simp [hqn]
        clear ht
        go_wp2_with (go_at_call 55; refine (CO.out _).mono ?_; rintro e w2 ⟨rfl, hx2⟩)
        go_roundw
        case rel =>
          refine ⟨k + 1, by omega, by go_num, ?_, (hx.trans hGX).trans hx2⟩
          rw [HO.out, HT.out]
          simpa using own_ext HOWN.out (hGX.trans hx2)
        case measure => simp [intOf]; omega
    · have e1 : gs.take k = gs := List.take_of_length_le (by rw [← HM.out]; omega)
      rw [e1] at hown
      rw [← HZ.out] at hown
      have HOWN := Lib.hid hown
      obtain ⟨a5, c5, rfl, _, _, _⟩ := own_form hown
      clear e1 hown
      go_wp2
      go_ret2
      exact ⟨_, rfl, own_mono HOWN.out HSZ.out, X0.trans hx⟩
end Go.Proofs.Ytnoagmjajhlmjaa
