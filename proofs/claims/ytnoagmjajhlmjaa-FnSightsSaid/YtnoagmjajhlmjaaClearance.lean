
/- Clearance of the program and of the reference: their contracts. -/
import Derived.Test.YtnoagmjajhlmjaaGcd
namespace Go.Proofs.Ytnoagmjajhlmjaa
open Go.RowKit

def mnOf (D A B n : Int) (m : Int) (gs : List GroundT) : Int := gs.foldl (fun m g => min m (clr D A B n g)) m
def clAsk (D A B n : Int) (gs : List GroundT) : Bool := askedB D A B n gs && !gs.isEmpty
def clM (D A B n : Int) (gs : List GroundT) : Int := mnOf D A B n (clr D A B n (gs.getD 0 (0, 0))) gs
def clG (D A B n : Int) (gs : List GroundT) : Nat := Nat.gcd (clM D A B n gs).natAbs (50968 * D).natAbs
def clX (D A B n : Int) (gs : List GroundT) : Int := if clAsk D A B n gs then (clM D A B n gs).tdiv (clG D A B n gs : Nat) else 0
def clY (D A B n : Int) (gs : List GroundT) : Int := if clAsk D A B n gs then (50968 * D).tdiv (clG D A B n gs : Nat) else 0
theorem clr_abs {D A B n x y : Int} (h : OkD D A B n) (hg : OkG D (x, y)) : -1000000000000 ≤ clr D A B n (x, y) ∧ clr D A B n (x, y) ≤ 1000000000000 := by
  have := clr_bd h hg
  unfold clr
  dsimp only
  omega
theorem mn_abs {D A B n : Int} (h : OkD D A B n) : ∀ (gs : List GroundT) (m : Int), OkGs D gs → -1000000000000 ≤ m → m ≤ 1000000000000 → -1000000000000 ≤ mnOf D A B n m gs ∧ mnOf D A B n m gs ≤ 1000000000000 := by
  intro gs
  induction gs with
  | nil => intro m _ h1 h2; exact ⟨h1, h2⟩
  | cons g r ih =>
    intro m hg h1 h2
    have hc := clr_abs (x := g.1) (y := g.2) h (hg g (by simp))
    exact ih _ (fun x hx => hg x (by simp [hx])) (show _ ≤ min m (clr D A B n (g.1, g.2)) by omega) (show min m (clr D A B n (g.1, g.2)) ≤ _ by omega)
set_option maxRecDepth 100000 in
set_option maxHeartbeats 1000000 in
theorem c_iClearance (D A B n : Int) (vg : Value) (lo hi : Nat) (gs : List GroundT) (w : World) (h : Grounds w lo hi vg gs) (hh : hi ≤ w.heap.size) :
    Calls Try.prog 27 #[.agg #[.int .i64 D, .int .i64 A, .int .i64 B, vg], .int .i64 n] w fun e w' => e = .returned (.tuple #[.int .i64 (clX D A B n gs), .int .i64 (clY D A B n gs), .bool (clAsk D A B n gs)]) ∧ Ext w w' := by
  have h0 := h
  obtain ⟨a, cap, rfl, m1, m2, _⟩ := h0
  have H := Lib.hid h
  clear h
  obtain ⟨X, hX⟩ : ∃ r, r = clX D A B n gs := ⟨_, rfl⟩
  obtain ⟨Y, hY⟩ : ∃ r, r = clY D A B n gs := ⟨_, rfl⟩
  obtain ⟨k, hk⟩ : ∃ r, r = clAsk D A B n gs := ⟨_, rfl⟩
  rw [← hX, ← hY, ← hk]
  unfold clX at hX
  unfold clY at hY
  rw [← hk] at hX hY
  unfold clAsk at hk
  obtain ⟨s, hs⟩ : ∃ s, s = sightOk D A B gs := ⟨_, rfl⟩
  obtain ⟨y, hy⟩ : ∃ y, y = askedB D A B n gs := ⟨_, rfl⟩
  rw [← hy] at hk
  have CS : Hid (∀ W, Ext w W → Calls Try.prog 37 #[.agg #[.int .i64 D, .int .i64 A, .int .i64 B, .slice a gs.length cap]] W fun e w' => e = .returned (.bool s) ∧ Ext W w') :=
    fun W hX => by rw [hs]; exact c_IsSight D A B _ lo hi gs W (H.out.ext hX hh)
  have CA : Hid (∀ W, Ext w W → Calls Try.prog 47 #[.agg #[.int .i64 D, .int .i64 A, .int .i64 B, .slice a gs.length cap], .int .i64 n] W fun e w' => e = .returned (.bool y) ∧ Ext W w') :=
    fun W hX => by rw [hy]; exact c_siAsked D A B n _ lo hi gs W (H.out.ext hX hh) (Nat.le_trans hh hX.size)
  unfold askedB at hy
  rw [← hs] at hy
  cases s
  · simp at hy; subst hy; simp at hk; subst hk; simp at hX hY
    have HX := Lib.hid hX
    have HY := Lib.hid hY
    clear hX hY hs
    go_enter Try.func27, Try.ntmps27
    go_wp2_with (first | (go_at_call 37; refine (CS.out _ (Ext.alloc _ _)).mono ?_; rintro e w2 ⟨rfl, hx2⟩) | (go_at_call 45; refine (within_c _ _ _ _).mono ?_; rintro e w' ⟨rfl, rfl⟩))
    go_ret3
    exact ⟨by rw [HX.out, HY.out]; rfl, (Ext.alloc _ _).trans hx2⟩
  cases hn2 : inB 0 3 n
  · rw [hn2] at hy; simp at hy; subst hy; simp at hk; subst hk; simp at hX hY
    have HX := Lib.hid hX
    have HY := Lib.hid hY
    clear hX hY hs
    go_enter Try.func27, Try.ntmps27
    go_wp2_with (first | (go_at_call 37; refine (CS.out _ (Ext.alloc _ _)).mono ?_; rintro e w2 ⟨rfl, hx2⟩) | (go_at_call 45; refine (within_c _ _ _ _).mono ?_; rintro e w' ⟨rfl, rfl⟩))
    go_ret3
    exact ⟨by rw [HX.out, HY.out]; rfl, (Ext.alloc _ _).trans hx2⟩
  rw [hn2] at hy; simp at hy; subst hy
  obtain ⟨ok1, ok2, ok3, ok4, ok5⟩ := ok_of_sight hs.symm hn2
  by_cases hg0 : gs.length = 0
  · have : gs = [] := List.eq_nil_of_length_eq_zero hg0
    subst this
    simp at hk; subst hk; simp at hX hY
    have HX := Lib.hid hX
    have HY := Lib.hid hY
    have HB := Lib.hid (blk_alloc w (.cells #[.int .i64 D, .int .i64 A, .int .i64 B, .slice a ([] : List GroundT).length cap] 28))
    clear hX hY hs ok1 ok2 ok3 ok4 ok5
    go_enter Try.func27, Try.ntmps27
    go_wp2_with (first | (go_at_call 37; refine (CS.out _ (Ext.alloc _ _)).mono ?_; rintro e w2 ⟨rfl, hx2⟩; have k3 := blk_cell (hx2.blk HB.out) (j := 3) rfl) | (go_at_call 47; refine (CA.out _ (Ext.alloc _ _)).mono ?_; rintro e w2 ⟨rfl, hx2⟩; have k3 := blk_cell (hx2.blk HB.out) (j := 3) rfl) | first | (go_at_call 37; refine (CS.out _ (Ext.alloc _ _)).mono ?_; rintro e w2 ⟨rfl, hx2⟩) | (go_at_call 45; refine (within_c _ _ _ _).mono ?_; rintro e w' ⟨rfl, rfl⟩))
    go_ret3
    exact ⟨by rw [HX.out, HY.out]; rfl, (Ext.alloc _ _).trans hx2⟩
  have hne : gs.isEmpty = false := by cases gs; simp at hg0; rfl
  rw [hne] at hk
  simp at hk; subst hk; simp at hX hY
  obtain ⟨m, hm⟩ : ∃ m, m = gs.length := ⟨_, rfl⟩
  rw [← hm] at m1 H CS CA hg0 ⊢
  have HM := Lib.hid hm
  have hm0 : (0 : Int) < (m : Int) := by omega
  have hmn : ¬ ((m : Int) = 0) := by omega
  have hmb : ((m : Int) == 0) = false := by simpa using hmn
  obtain ⟨b, o, ⟨gx, gy⟩, rfl, hg, c0, c1⟩ := Grounds_at H.out (k := 0) (by omega)
  have hge : gs.getD 0 (0, 0) = (gx, gy) := by rw [List.getD_eq_getElem?_getD, hg.out]; rfl
  have CV : Hid (∀ x y W, (x, y) ∈ gs → Calls Try.prog 55 #[.agg #[.int .i64 D, .int .i64 A, .int .i64 B, .slice (some ⟨b, o, none⟩) m cap], .agg #[.int .i64 x, .int .i64 y], .int .i64 n] W fun e w' => e = .returned (.int .i64 (clr D A B n (x, y))) ∧ Ext W w') :=
    fun x y W hmem => c_clearanceAt D A B n x y _ W ok1 (ok2 _ hmem)
  have HAB : Hid (∀ x y, (x, y) ∈ gs → -1000000000000 ≤ clr D A B n (x, y) ∧ clr D A B n (x, y) ≤ 1000000000000) := fun x y hmem => clr_abs ok1 (ok2 _ hmem)
  obtain ⟨M, hM⟩ : ∃ M, M = clM D A B n gs := ⟨_, rfl⟩
  unfold clG at hX hY
  rw [← hM] at hX hY
  unfold clM at hM
  rw [hge] at hM
  obtain ⟨q, hq⟩ : ∃ q, q = clr D A B n (gx, gy) := ⟨_, rfl⟩
  have hmem0 : (gx, gy) ∈ gs := List.mem_of_getElem? hg.out
  have CV0 : Hid (∀ W, Calls Try.prog 55 #[.agg #[.int .i64 D, .int .i64 A, .int .i64 B, .slice (some ⟨b, o, none⟩) m cap], .agg #[.int .i64 gx, .int .i64 gy], .int .i64 n] W fun e w' => e = .returned (.int .i64 q) ∧ Ext W w') := fun W => by rw [hq]; exact CV.out gx gy W hmem0
  obtain ⟨q1, q2⟩ := HAB.out gx gy hmem0
  rw [← hq] at hM q1 q2
  have HM2 := Lib.hid hM
  have hd1 := ok1.d1
  have hd2 := ok1.d2
  have HX := Lib.hid hX
  have HY := Lib.hid hY
  have HB := Lib.hid (blk_alloc w (.cells #[.int .i64 D, .int .i64 A, .int .i64 B, .slice (some ⟨b, o, none⟩) m cap] 28))
  have HG0 := Lib.hid hmem0
  clear hX hY hs ok1 ok2 ok3 ok4 ok5 hM hq hge hne hm hmem0
  go_enter Try.func27, Try.ntmps27
  go_wp2_with (first | (go_at_call 37; refine (CS.out _ (Ext.alloc _ _)).mono ?_; rintro e w2 ⟨rfl, hx2⟩; have k3 := blk_cell (hx2.blk HB.out) (j := 3) rfl) | (go_at_call 47; refine (CA.out _ (Ext.alloc _ _)).mono ?_; rintro e w2 ⟨rfl, hx2⟩; have k3 := blk_cell (hx2.blk HB.out) (j := 3) rfl) | first | (go_at_call 37; refine (CS.out _ (Ext.alloc _ _)).mono ?_; rintro e w2 ⟨rfl, hx2⟩) | (go_at_call 45; refine (within_c _ _ _ _).mono ?_; rintro e w' ⟨rfl, rfl⟩))
  have B2 := hx2.blk HB.out
  have X2 := (Ext.alloc _ _).trans hx2
  have j0 := XT.cell (blk_cell B2 (j := 0) rfl)
  have j1 := XT.cell (blk_cell B2 (j := 1) rfl)
  have j2 := XT.cell (blk_cell B2 (j := 2) rfl)
  have j3 := XT.cell (blk_cell B2 (j := 3) rfl)
  have e0 := XT.cell (X2.cell c0)
  have e1 := XT.cell (X2.cell c1)
  simp only [Nat.zero_mul, Nat.add_zero] at e0 e1
  have HX2 := Lib.hid X2
  have HB2 := Lib.hid B2
  clear B2 X2 k3 HB hx2 c0 c1
  refine region_ext (by kernel_rfl) (by kernel_rfl) ?_
  repeat (go_big_quiet_step ((go_at_call 55; refine Calls.ext_of (CV0.out _))))
  refine wpQuiet_nil ?_
  intro wq hxq
  have B3 := Lib.hid (hxq.blk HB2.out)
  have X3 := Lib.hid (HX2.out.trans hxq)
  have p3 := blk_cell B3.out (j := 3) rfl
  clear j0 j1 j2 j3 e0 e1 HX2 HB2 hxq
  go_wp2_with fail
  go_loopw [7, 36] (fun v t wr => ∃ (k : Nat) (cur : Int), k ≤ m ∧ t = .int .i64 k ∧ v = .int .i64 cur ∧ -1000000000000 ≤ cur ∧ cur ≤ 1000000000000 ∧ Hid (M = mnOf D A B n cur (gs.drop k)) ∧ Hid (Ext w wr) ∧ Hid (wr.heap[w.heap.size]? = some (.cells #[.int .i64 D, .int .i64 A, .int .i64 B, .slice (some ⟨b, o, none⟩) m cap] 28 (0, 0)))) (fun _ t _ => m - (intOf t).toNat)
  case atStart => exact ⟨0, q, by omega, rfl, rfl, q1, q2, HM2.out, X3.out, B3.out⟩
  case round =>
    obtain ⟨k, cur, hk, rfl, rfl, r1, r2, hT, hX, hB⟩ := hrel
    by_cases hlt : k < m
    · obtain ⟨b', o', ⟨x, y⟩, hbb, hg, c0, c1⟩ := Grounds_at H.out hlt
      simp only [Option.some.injEq, Addr.mk.injEq, and_true] at hbb
      obtain ⟨rfl, rfl⟩ := hbb
      have d0 := hX.out.cell c0
      have d1 := hX.out.cell c1
      have hltI : (k : Int) < (m : Int) := by omega
      have hGX := Lib.hid (Ext.alloc wr (.cells #[.int .i64 x, .int .i64 y] 61))
      have k0 := blk_cell (hGX.out.blk hB.out) (j := 0) rfl
      have k1 := blk_cell (hGX.out.blk hB.out) (j := 1) rfl
      have k2 := blk_cell (hGX.out.blk hB.out) (j := 2) rfl
      have k3 := blk_cell (hGX.out.blk hB.out) (j := 3) rfl
      have hmem : (x, y) ∈ gs := List.mem_of_getElem? hg.out
      obtain ⟨z1, z2⟩ := HAB.out x y hmem
      obtain ⟨z, hz⟩ : ∃ z, z = clr D A B n (x, y) := ⟨_, rfl⟩
      have CVk : Hid (∀ W, Calls Try.prog 55 #[.agg #[.int .i64 D, .int .i64 A, .int .i64 B, .slice (some ⟨b, o, none⟩) m cap], .agg #[.int .i64 x, .int .i64 y], .int .i64 n] W fun e w' => e = .returned (.int .i64 z) ∧ Ext W w') := fun W => by rw [hz]; exact CV.out x y W hmem
      have hT2 : M = mnOf D A B n (min cur z) (gs.drop (k + 1)) := by
        have h1 := hT.out
        have h2 : gs.drop k = (x, y) :: gs.drop (k + 1) := by
          have h3 := hg.out
          obtain ⟨h4, h5⟩ := List.getElem?_eq_some_iff.1 h3
          rw [List.drop_eq_getElem_cons h4, h5]
        rw [h2] at h1
        rw [hz]; exact h1
      rw [← hz] at z1 z2
      have HT2 := Lib.hid hT2
      clear hT hT2 hz hmem c0 c1
      have hmin : min cur z = if cur ≤ z then cur else z := by split <;> omega
      by_cases hcz : cur ≤ z
      · rw [if_pos hcz] at hmin
        rw [hmin] at HT2
        clear hmin
        go_wp2_with (first | (go_at_call 55; refine (CVk.out _).mono ?_; rintro e w3 ⟨rfl, hx3⟩) | fail)
        go_roundw
        case rel => exact ⟨k + 1, cur, by omega, by go_num, by go_num, r1, r2, HT2.out, (hX.out.trans hGX.out).trans hx3, (hGX.out.trans hx3).blk hB.out⟩
        case measure => simp [intOf]; omega
      · rw [if_neg hcz] at hmin
        rw [hmin] at HT2
        clear hmin
        go_wp2_with (first | (go_at_call 55; refine (CVk.out _).mono ?_; rintro e w3 ⟨rfl, hx3⟩) | fail)
        go_roundw
        case rel => exact ⟨k + 1, z, by omega, by go_num, by go_num, z1, z2, HT2.out, (hX.out.trans hGX.out).trans hx3, (hGX.out.trans hx3).blk hB.out⟩
        case measure => simp [intOf]; omega
    · have hT2 : M = cur := by
        have h1 := hT.out
        rwa [List.drop_of_length_le (by rw [← HM.out]; omega)] at h1
      subst hT2
      have hltI : ¬ ((k : Int) < (m : Int)) := by omega
      have p0 := blk_cell hB.out (j := 0) rfl
      clear hT
      obtain ⟨G, hG⟩ : ∃ G, G = Nat.gcd M.natAbs (50968 * D).natAbs := ⟨_, rfl⟩
      have hG0 : 0 < G := by rw [hG]; exact Nat.gcd_pos_of_pos_right _ (by omega)
      have hGI : (0 : Int) < (G : Int) := by omega
      have hGn : ¬ ((G : Int) = 0) := by omega
      have HXG := HX.out
      have HYG := HY.out
      rw [← hG] at HXG HYG
      have HXX := Lib.hid HXG
      have HYY := Lib.hid HYG
      have hd3 : 0 < 50968 * D := by omega
      have hd4 : 50968 * D ≤ 1000000000000 := by omega
      have CG : Hid (∀ W, Calls Try.prog 57 #[.int .i64 (max M (-M)), .int .i64 (D * 50968)] W fun e w' => e = .returned (.int .i64 (G : Nat)) ∧ Ext W w') := fun W => by
        rw [hG, ← show (max M (-M)).natAbs = M.natAbs by omega, Int.mul_comm 50968 D]
        exact c_gcdI (max M (-M)) (D * 50968) W (by omega) (by omega) (by omega) (by omega)
      clear HXG HYG hG
      by_cases hmm : M < -M
      · rw [show max M (-M) = -M by omega] at CG
        go_wp2_with (go_at_call 57; refine (CG.out _).mono ?_; rintro e w4 ⟨rfl, hx4⟩)
        have f1 : (50968 * D).tdiv (G : Int) = D * 50968 / (G : Int) := by rw [Int.mul_comm, Int.tdiv_eq_ediv_of_nonneg (by omega)]
        have f2 : D * 50968 / (G : Int) ≤ D * 50968 := Int.ediv_le_self _ (by omega)
        have f3 : 0 ≤ D * 50968 / (G : Int) := Int.ediv_nonneg (by omega) (by omega)
        have F1 := Lib.hid f1
        clear f1
        go_region
        go_wp2
        go_ret3
        refine ⟨?_, (hX.out.trans hx4).dr⟩
        rw [HXX.out, HYY.out, F1.out]
        rfl
      · rw [show max M (-M) = M by omega] at CG
        go_wp2_with (go_at_call 57; refine (CG.out _).mono ?_; rintro e w4 ⟨rfl, hx4⟩)
        have f1 : (50968 * D).tdiv (G : Int) = D * 50968 / (G : Int) := by rw [Int.mul_comm, Int.tdiv_eq_ediv_of_nonneg (by omega)]
        have f2 : D * 50968 / (G : Int) ≤ D * 50968 := Int.ediv_le_self _ (by omega)
        have f3 : 0 ≤ D * 50968 / (G : Int) := Int.ediv_nonneg (by omega) (by omega)
        have f4 : M.tdiv (G : Int) = M / (G : Int) := Int.tdiv_eq_ediv_of_nonneg (by omega)
        have f5 : M / (G : Int) ≤ M := Int.ediv_le_self _ (by omega)
        have f6 : 0 ≤ M / (G : Int) := Int.ediv_nonneg (by omega) (by omega)
        have F1 := Lib.hid f1
        have F4 := Lib.hid f4
        clear f1 f4
        go_region
        go_wp2
        go_ret3
        refine ⟨?_, (hX.out.trans hx4).dr⟩
        rw [HXX.out, HYY.out, F1.out, F4.out]
        rfl
set_option maxRecDepth 100000 in
set_option maxHeartbeats 1000000 in
theorem c_sClearance (D A B n : Int) (vg : Value) (lo hi : Nat) (gs : List GroundT) (w : World) (h : Grounds w lo hi vg gs) (hh : hi ≤ w.heap.size) :
    Calls Try.prog 28 #[.agg #[.int .i64 D, .int .i64 A, .int .i64 B, vg], .int .i64 n] w fun e w' => e = .returned (.tuple #[.int .i64 (clX D A B n gs), .int .i64 (clY D A B n gs), .bool (clAsk D A B n gs)]) ∧ Ext w w' := by
  have h0 := h
  obtain ⟨a, cap, rfl, m1, m2, _⟩ := h0
  have H := Lib.hid h
  clear h
  obtain ⟨X, hX⟩ : ∃ r, r = clX D A B n gs := ⟨_, rfl⟩
  obtain ⟨Y, hY⟩ : ∃ r, r = clY D A B n gs := ⟨_, rfl⟩
  obtain ⟨k, hk⟩ : ∃ r, r = clAsk D A B n gs := ⟨_, rfl⟩
  rw [← hX, ← hY, ← hk]
  unfold clX at hX
  unfold clY at hY
  rw [← hk] at hX hY
  unfold clAsk at hk
  obtain ⟨s, hs⟩ : ∃ s, s = sightOk D A B gs := ⟨_, rfl⟩
  obtain ⟨y, hy⟩ : ∃ y, y = askedB D A B n gs := ⟨_, rfl⟩
  rw [← hy] at hk
  have CS : Hid (∀ W, Ext w W → Calls Try.prog 37 #[.agg #[.int .i64 D, .int .i64 A, .int .i64 B, .slice a gs.length cap]] W fun e w' => e = .returned (.bool s) ∧ Ext W w') :=
    fun W hX => by rw [hs]; exact c_IsSight D A B _ lo hi gs W (H.out.ext hX hh)
  have CA : Hid (∀ W, Ext w W → Calls Try.prog 47 #[.agg #[.int .i64 D, .int .i64 A, .int .i64 B, .slice a gs.length cap], .int .i64 n] W fun e w' => e = .returned (.bool y) ∧ Ext W w') :=
    fun W hX => by rw [hy]; exact c_siAsked D A B n _ lo hi gs W (H.out.ext hX hh) (Nat.le_trans hh hX.size)
  unfold askedB at hy
  rw [← hs] at hy
  cases s
  · simp at hy; subst hy; simp at hk; subst hk; simp at hX hY
    have HX := Lib.hid hX
    have HY := Lib.hid hY
    clear hX hY hs
    go_enter Try.func28, Try.ntmps28
    go_wp2_with ((go_at_call 47; refine (CA.out _ (Ext.alloc _ _)).mono ?_; rintro e w2 ⟨rfl, hx2⟩))
    go_ret3
    exact ⟨by rw [HX.out, HY.out]; rfl, (Ext.alloc _ _).trans hx2⟩
  cases hn2 : inB 0 3 n
  · rw [hn2] at hy; simp at hy; subst hy; simp at hk; subst hk; simp at hX hY
    have HX := Lib.hid hX
    have HY := Lib.hid hY
    clear hX hY hs
    go_enter Try.func28, Try.ntmps28
    go_wp2_with ((go_at_call 47; refine (CA.out _ (Ext.alloc _ _)).mono ?_; rintro e w2 ⟨rfl, hx2⟩))
    go_ret3
    exact ⟨by rw [HX.out, HY.out]; rfl, (Ext.alloc _ _).trans hx2⟩
  rw [hn2] at hy; simp at hy; subst hy
  obtain ⟨ok1, ok2, ok3, ok4, ok5⟩ := ok_of_sight hs.symm hn2
  by_cases hg0 : gs.length = 0
  · have : gs = [] := List.eq_nil_of_length_eq_zero hg0
    subst this
    simp at hk; subst hk; simp at hX hY
    have HX := Lib.hid hX
    have HY := Lib.hid hY
    have HB := Lib.hid (blk_alloc w (.cells #[.int .i64 D, .int .i64 A, .int .i64 B, .slice a ([] : List GroundT).length cap] 28))
    clear hX hY hs ok1 ok2 ok3 ok4 ok5
    go_enter Try.func28, Try.ntmps28
    go_wp2_with (first | (go_at_call 37; refine (CS.out _ (Ext.alloc _ _)).mono ?_; rintro e w2 ⟨rfl, hx2⟩; have k3 := blk_cell (hx2.blk HB.out) (j := 3) rfl) | (go_at_call 47; refine (CA.out _ (Ext.alloc _ _)).mono ?_; rintro e w2 ⟨rfl, hx2⟩; have k3 := blk_cell (hx2.blk HB.out) (j := 3) rfl) | (go_at_call 47; refine (CA.out _ (Ext.alloc _ _)).mono ?_; rintro e w2 ⟨rfl, hx2⟩))
    go_ret3
    exact ⟨by rw [HX.out, HY.out]; rfl, (Ext.alloc _ _).trans hx2⟩
  have hne : gs.isEmpty = false := by cases gs; simp at hg0; rfl
  rw [hne] at hk
  simp at hk; subst hk; simp at hX hY
  obtain ⟨m, hm⟩ : ∃ m, m = gs.length := ⟨_, rfl⟩
  rw [← hm] at m1 H CS CA hg0 ⊢
  have HM := Lib.hid hm
  have hm0 : (0 : Int) < (m : Int) := by omega
  have hmn : ¬ ((m : Int) = 0) := by omega
  have hmb : ((m : Int) == 0) = false := by simpa using hmn
  obtain ⟨b, o, ⟨gx, gy⟩, rfl, hg, c0, c1⟩ := Grounds_at H.out (k := 0) (by omega)
  have hge : gs.getD 0 (0, 0) = (gx, gy) := by rw [List.getD_eq_getElem?_getD, hg.out]; rfl
  have CV : Hid (∀ x y W, (x, y) ∈ gs → Calls Try.prog 58 #[.agg #[.int .i64 D, .int .i64 A, .int .i64 B, .slice (some ⟨b, o, none⟩) m cap], .agg #[.int .i64 x, .int .i64 y], .int .i64 n] W fun e w' => e = .returned (.int .i64 (clr D A B n (x, y))) ∧ Ext W w') :=
    fun x y W hmem => c_siOver D A B n x y _ W ok1 (ok2 _ hmem)
  have HAB : Hid (∀ x y, (x, y) ∈ gs → -1000000000000 ≤ clr D A B n (x, y) ∧ clr D A B n (x, y) ≤ 1000000000000) := fun x y hmem => clr_abs ok1 (ok2 _ hmem)
  obtain ⟨M, hM⟩ : ∃ M, M = clM D A B n gs := ⟨_, rfl⟩
  unfold clG at hX hY
  rw [← hM] at hX hY
  unfold clM at hM
  rw [hge] at hM
  obtain ⟨q, hq⟩ : ∃ q, q = clr D A B n (gx, gy) := ⟨_, rfl⟩
  have hmem0 : (gx, gy) ∈ gs := List.mem_of_getElem? hg.out
  have CV0 : Hid (∀ W, Calls Try.prog 58 #[.agg #[.int .i64 D, .int .i64 A, .int .i64 B, .slice (some ⟨b, o, none⟩) m cap], .agg #[.int .i64 gx, .int .i64 gy], .int .i64 n] W fun e w' => e = .returned (.int .i64 q) ∧ Ext W w') := fun W => by rw [hq]; exact CV.out gx gy W hmem0
  obtain ⟨q1, q2⟩ := HAB.out gx gy hmem0
  rw [← hq] at hM q1 q2
  have HM2 := Lib.hid hM
  have hd1 := ok1.d1
  have hd2 := ok1.d2
  have HX := Lib.hid hX
  have HY := Lib.hid hY
  have HB := Lib.hid (blk_alloc w (.cells #[.int .i64 D, .int .i64 A, .int .i64 B, .slice (some ⟨b, o, none⟩) m cap] 28))
  have HG0 := Lib.hid hmem0
  clear hX hY hs ok1 ok2 ok3 ok4 ok5 hM hq hge hne hm hmem0
  go_enter Try.func28, Try.ntmps28
  go_wp2_with (first | (go_at_call 37; refine (CS.out _ (Ext.alloc _ _)).mono ?_; rintro e w2 ⟨rfl, hx2⟩; have k3 := blk_cell (hx2.blk HB.out) (j := 3) rfl) | (go_at_call 47; refine (CA.out _ (Ext.alloc _ _)).mono ?_; rintro e w2 ⟨rfl, hx2⟩; have k3 := blk_cell (hx2.blk HB.out) (j := 3) rfl) | (go_at_call 47; refine (CA.out _ (Ext.alloc _ _)).mono ?_; rintro e w2 ⟨rfl, hx2⟩))
  have B2 := hx2.blk HB.out
  have X2 := (Ext.alloc _ _).trans hx2
  have j0 := XT.cell (blk_cell B2 (j := 0) rfl)
  have j1 := XT.cell (blk_cell B2 (j := 1) rfl)
  have j2 := XT.cell (blk_cell B2 (j := 2) rfl)
  have j3 := XT.cell (blk_cell B2 (j := 3) rfl)
  have e0 := XT.cell (X2.cell c0)
  have e1 := XT.cell (X2.cell c1)
  simp only [Nat.zero_mul, Nat.add_zero] at e0 e1
  have HX2 := Lib.hid X2
  have HB2 := Lib.hid B2
  clear B2 X2 k3 HB hx2 c0 c1
  refine region_ext (by kernel_rfl) (by kernel_rfl) ?_
  repeat (go_big_quiet_step ((go_at_call 58; refine Calls.ext_of (CV0.out _))))
  refine wpQuiet_nil ?_
  intro wq hxq
  have B3 := Lib.hid (hxq.blk HB2.out)
  have X3 := Lib.hid (HX2.out.trans hxq)
  have p3 := blk_cell B3.out (j := 3) rfl
  clear j0 j1 j2 j3 e0 e1 HX2 HB2 hxq
  go_wp2_with fail
  go_loopw [7, 32] (fun v t wr => ∃ (k : Nat) (cur : Int), k ≤ m ∧ t = .int .i64 k ∧ v = .int .i64 cur ∧ -1000000000000 ≤ cur ∧ cur ≤ 1000000000000 ∧ Hid (M = mnOf D A B n cur (gs.drop k)) ∧ Hid (Ext w wr) ∧ Hid (wr.heap[w.heap.size]? = some (.cells #[.int .i64 D, .int .i64 A, .int .i64 B, .slice (some ⟨b, o, none⟩) m cap] 28 (0, 0)))) (fun _ t _ => m - (intOf t).toNat)
  case atStart => exact ⟨0, q, by omega, rfl, rfl, q1, q2, HM2.out, X3.out, B3.out⟩
  case round =>
    obtain ⟨k, cur, hk, rfl, rfl, r1, r2, hT, hX, hB⟩ := hrel
    by_cases hlt : k < m
    · obtain ⟨b', o', ⟨x, y⟩, hbb, hg, c0, c1⟩ := Grounds_at H.out hlt
      simp only [Option.some.injEq, Addr.mk.injEq, and_true] at hbb
      obtain ⟨rfl, rfl⟩ := hbb
      have d0 := hX.out.cell c0
      have d1 := hX.out.cell c1
      have hltI : (k : Int) < (m : Int) := by omega
      have hGX := Lib.hid (Ext.alloc wr (.cells #[.int .i64 x, .int .i64 y] 61))
      have k0 := blk_cell (hGX.out.blk hB.out) (j := 0) rfl
      have k1 := blk_cell (hGX.out.blk hB.out) (j := 1) rfl
      have k2 := blk_cell (hGX.out.blk hB.out) (j := 2) rfl
      have k3 := blk_cell (hGX.out.blk hB.out) (j := 3) rfl
      have hmem : (x, y) ∈ gs := List.mem_of_getElem? hg.out
      obtain ⟨z1, z2⟩ := HAB.out x y hmem
      obtain ⟨z, hz⟩ : ∃ z, z = clr D A B n (x, y) := ⟨_, rfl⟩
      have CVk : Hid (∀ W, Calls Try.prog 58 #[.agg #[.int .i64 D, .int .i64 A, .int .i64 B, .slice (some ⟨b, o, none⟩) m cap], .agg #[.int .i64 x, .int .i64 y], .int .i64 n] W fun e w' => e = .returned (.int .i64 z) ∧ Ext W w') := fun W => by rw [hz]; exact CV.out x y W hmem
      have hT2 : M = mnOf D A B n (min cur z) (gs.drop (k + 1)) := by
        have h1 := hT.out
        have h2 : gs.drop k = (x, y) :: gs.drop (k + 1) := by
          have h3 := hg.out
          obtain ⟨h4, h5⟩ := List.getElem?_eq_some_iff.1 h3
          rw [List.drop_eq_getElem_cons h4, h5]
        rw [h2] at h1
        rw [hz]; exact h1
      rw [← hz] at z1 z2
      have HT2 := Lib.hid hT2
      clear hT hT2 hz hmem c0 c1
      have hmin : min cur z = if cur < z then cur else z := by split <;> omega
      by_cases hcz : cur < z
      · rw [if_pos hcz] at hmin
        rw [hmin] at HT2
        clear hmin
        go_wp2_with (first | (go_at_call 58; refine (CVk.out _).mono ?_; rintro e w3 ⟨rfl, hx3⟩) | (go_at_call 59; refine (c_l1Least _ _ _).mono ?_; rintro e w' ⟨rfl, rfl⟩))
        go_roundw
        case rel => exact ⟨k + 1, cur, by omega, by go_num, by go_num, r1, r2, HT2.out, (hX.out.trans hGX.out).trans hx3, (hGX.out.trans hx3).blk hB.out⟩
        case measure => simp [intOf]; omega
      · rw [if_neg hcz] at hmin
        rw [hmin] at HT2
        clear hmin
        go_wp2_with (first | (go_at_call 58; refine (CVk.out _).mono ?_; rintro e w3 ⟨rfl, hx3⟩) | (go_at_call 59; refine (c_l1Least _ _ _).mono ?_; rintro e w' ⟨rfl, rfl⟩))
        go_roundw
        case rel => exact ⟨k + 1, z, by omega, by go_num, by go_num, z1, z2, HT2.out, (hX.out.trans hGX.out).trans hx3, (hGX.out.trans hx3).blk hB.out⟩
        case measure => simp [intOf]; omega
    · have hT2 : M = cur := by
        have h1 := hT.out
        rwa [List.drop_of_length_le (by rw [← HM.out]; omega)] at h1
      subst hT2
      have hltI : ¬ ((k : Int) < (m : Int)) := by omega
      have p0 := blk_cell hB.out (j := 0) rfl
      clear hT
      obtain ⟨G, hG⟩ : ∃ G, G = Nat.gcd M.natAbs (50968 * D).natAbs := ⟨_, rfl⟩
      have hG0 : 0 < G := by rw [hG]; exact Nat.gcd_pos_of_pos_right _ (by omega)
      have hGI : (0 : Int) < (G : Int) := by omega
      have hGn : ¬ ((G : Int) = 0) := by omega
      have HXG := HX.out
      have HYG := HY.out
      rw [← hG] at HXG HYG
      have HXX := Lib.hid HXG
      have HYY := Lib.hid HYG
      have hd3 : 0 < 50968 * D := by omega
      have hd4 : 50968 * D ≤ 1000000000000 := by omega
      have CG : Hid (∀ W, Calls Try.prog 60 #[.int .i64 M, .int .i64 (50968 * D)] W fun e w' => e = .returned (.tuple #[.int .i64 X, .int .i64 Y]) ∧ Ext W w') := fun W => by
        rw [HXG, HYG, hG]
        exact c_partI M (50968 * D) W (by omega) (by omega) (by omega) (by omega)
      clear HXG HYG hG
      go_wp2_with (go_at_call 60; refine (CG.out _).mono ?_; rintro e w4 ⟨rfl, hx4⟩)
      go_ret3
      exact ⟨rfl, hX.out.trans hx4⟩
end Go.Proofs.Ytnoagmjajhlmjaa
