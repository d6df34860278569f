
/- SightBounds of the program and of the reference. -/
import Derived.Test.YtnoagmjajhlmjaaSeesAt
namespace Go.Proofs.Ytnoagmjajhlmjaa
open Go.RowKit

theorem XT.ext {w : World} (u : XT w) : Ext w u.val := u.2
theorem low_mono {D A B n m : Int} {g : GroundT} (hg : OkG D g) (hD : 1 ≤ D) (h : n ≤ m) (hl : low D A B m g = true) : low D A B n g = true := by
  obtain ⟨x, y⟩ := g
  obtain ⟨g1, g2, g3, g4⟩ := hg
  dsimp only at g1 g2 g3 g4
  unfold low at *
  simp only [decide_eq_true_eq] at *
  unfold clr at *
  dsimp only at *
  have e1 : 0 ≤ x * (D - x) * D := Int.mul_nonneg (Int.mul_nonneg (by omega) (by omega)) (by omega)
  have e2 : (5 * (8 - m)) * (x * (D - x) * D) ≤ (5 * (8 - n)) * (x * (D - x) * D) := Int.mul_le_mul_of_nonneg_right (by omega) e1
  have r : ∀ c : Int, 5 * (8 - c) * x * (D - x) * D = 5 * (8 - c) * (x * (D - x) * D) := fun c => by simp only [Int.mul_assoc]
  rw [r] at hl ⊢
  omega
theorem sees_mono {D A B n m : Int} {gs : List GroundT} (hg : OkGs D gs) (hD : 1 ≤ D) (h : n ≤ m) (hs : seesB D A B n gs = true) : seesB D A B m gs = true := by
  unfold seesB at *
  simp only [Bool.not_eq_true', List.any_eq_false] at *
  intro g hgm hl
  exact hs g hgm (low_mono (hg g hgm) hD h hl)
def allU (D A B : Int) (gs : List GroundT) (k : Nat) : Bool := (List.range k).all fun n => seesB D A B n gs
def someU (D A B : Int) (gs : List GroundT) (k : Nat) : Bool := (List.range k).any fun n => seesB D A B n gs
theorem allU_succ (D A B : Int) (gs : List GroundT) (k : Nat) : allU D A B gs (k + 1) = (allU D A B gs k && seesB D A B k gs) := by
  unfold allU; rw [List.range_succ, List.all_append]; simp
theorem someU_succ (D A B : Int) (gs : List GroundT) (k : Nat) : someU D A B gs (k + 1) = (someU D A B gs k || seesB D A B k gs) := by
  unfold someU; rw [List.range_succ, List.any_append]; simp
theorem allU_4 {D A B : Int} {gs : List GroundT} (hg : OkGs D gs) (hD : 1 ≤ D) : allU D A B gs 4 = seesB D A B 0 gs := by
  rw [allU_succ, allU_succ, allU_succ, allU_succ]
  cases h : seesB D A B 0 gs
  · simp
  · have h1 := sees_mono (m := 1) hg hD (by omega) h
    have h2 := sees_mono (m := 2) hg hD (by omega) h
    have h3 := sees_mono (m := 3) hg hD (by omega) h
    simp [h1, h2, h3, allU]
theorem someU_4 {D A B : Int} {gs : List GroundT} (hg : OkGs D gs) (hD : 1 ≤ D) : someU D A B gs 4 = seesB D A B 3 gs := by
  rw [someU_succ, someU_succ, someU_succ, someU_succ]
  cases h : seesB D A B 3 gs
  · have h0 : seesB D A B 0 gs = false := by
      cases e : seesB D A B 0 gs
      · rfl
      · rw [sees_mono (m := 3) hg hD (by omega) e] at h; cases h
    have h1 : seesB D A B 1 gs = false := by
      cases e : seesB D A B 1 gs
      · rfl
      · rw [sees_mono (m := 3) hg hD (by omega) e] at h; cases h
    have h2 : seesB D A B 2 gs = false := by
      cases e : seesB D A B 2 gs
      · rfl
      · rw [sees_mono (m := 3) hg hD (by omega) e] at h; cases h
    simp [h0, h1, h2, someU]
  · simp

def bdA (D A B : Int) (gs : List GroundT) : Bool := sightOk D A B gs && seesB D A B 0 gs
def bdS (D A B : Int) (gs : List GroundT) : Bool := sightOk D A B gs && seesB D A B 3 gs
set_option maxRecDepth 100000 in
theorem c_sSightBounds (D A B : Int) (vg : Value) (lo hi : Nat) (gs : List GroundT) (w : World) (h : Grounds w lo hi vg gs) (hh : hi ≤ w.heap.size) :
    Calls Try.prog 31 #[.agg #[.int .i64 D, .int .i64 A, .int .i64 B, vg]] w fun e w' => e = .returned (.tuple #[.bool (bdA D A B gs), .bool (bdS D A B gs), .bool (sightOk D A B gs)]) ∧ Ext w w' := by
  have h0 := h
  obtain ⟨a, cap, rfl, m1, m2, _⟩ := h0
  have H := Lib.hid h
  clear h
  obtain ⟨r, hr⟩ : ∃ r, r = bdA D A B gs := ⟨_, rfl⟩
  obtain ⟨y, hy⟩ : ∃ y, y = bdS D A B gs := ⟨_, rfl⟩
  obtain ⟨s, hs⟩ : ∃ s, s = sightOk D A B gs := ⟨_, rfl⟩
  rw [← hr, ← hy, ← hs]
  unfold bdA at hr
  unfold bdS at hy
  rw [← hs] at hr hy
  have CS : Hid (∀ W, Ext w W → Calls Try.prog 39 #[.agg #[.int .i64 D, .int .i64 A, .int .i64 B, .slice a gs.length cap]] W fun e w' => e = .returned (.bool s) ∧ Ext W w') :=
    fun W hX => by rw [hs]; exact c_siGood D A B _ lo hi gs W (H.out.ext hX hh)
  cases s
  · simp at hr hy; subst hr hy
    clear hs
    go_enter Try.func31, Try.ntmps31
    go_wp2_with fail
    have B1 : (w.alloc (.cells #[.int .i64 D, .int .i64 A, .int .i64 B, .slice a gs.length cap] 28)).heap[w.heap.size]? = some (.cells #[.int .i64 D, .int .i64 A, .int .i64 B, .slice a gs.length cap] 28) := blk_alloc _ _
    have X1 := Ext.alloc w (.cells #[.int .i64 D, .int .i64 A, .int .i64 B, .slice a gs.length cap] 28)
    generalize w.alloc (.cells #[.int .i64 D, .int .i64 A, .int .i64 B, .slice a gs.length cap] 28) = w1 at *
    refine (CS.out _ X1).mono ?_
    rintro e w2 ⟨rfl, hx2⟩
    go_wp2
    go_ret3
    exact ⟨rfl, X1.trans hx2⟩
  · simp at hr hy
    obtain ⟨ok0, ok2, ok3, _, _⟩ := ok_of_sight (n := 0) hs.symm rfl
    obtain ⟨ok3', _, _, _, _⟩ := ok_of_sight (n := 3) hs.symm rfl
    have CE : Hid (∀ W, Ext w W → Calls Try.prog 48 #[.agg #[.int .i64 D, .int .i64 A, .int .i64 B, .slice a gs.length cap], .int .i64 0] W fun e w' => e = .returned (.bool r) ∧ Ext W w') :=
      fun W hX => by rw [hr]; exact c_siSees D A B 0 _ lo hi gs W (H.out.ext hX hh) (Nat.le_trans hh hX.size) ok0 ok2 ok3
    have CE3 : Hid (∀ W, Ext w W → Calls Try.prog 48 #[.agg #[.int .i64 D, .int .i64 A, .int .i64 B, .slice a gs.length cap], .int .i64 3] W fun e w' => e = .returned (.bool y) ∧ Ext W w') :=
      fun W hX => by rw [hy]; exact c_siSees D A B 3 _ lo hi gs W (H.out.ext hX hh) (Nat.le_trans hh hX.size) ok3' ok2 ok3
    clear hs hr hy ok0 ok2 ok3 ok3'
    go_enter Try.func31, Try.ntmps31
    go_wp2_with fail
    have B1 : (w.alloc (.cells #[.int .i64 D, .int .i64 A, .int .i64 B, .slice a gs.length cap] 28)).heap[w.heap.size]? = some (.cells #[.int .i64 D, .int .i64 A, .int .i64 B, .slice a gs.length cap] 28) := blk_alloc _ _
    have X1 := Ext.alloc w (.cells #[.int .i64 D, .int .i64 A, .int .i64 B, .slice a gs.length cap] 28)
    generalize w.alloc (.cells #[.int .i64 D, .int .i64 A, .int .i64 B, .slice a gs.length cap] 28) = w1 at *
    refine (CS.out _ X1).mono ?_
    rintro e w2 ⟨rfl, hx2⟩
    have B2 := hx2.blk B1
    have X2 := X1.trans hx2
    have k0 := XT.cell (blk_cell B2 (j := 0) rfl)
    have k1 := XT.cell (blk_cell B2 (j := 1) rfl)
    have k2 := XT.cell (blk_cell B2 (j := 2) rfl)
    have k3 := XT.cell (blk_cell B2 (j := 3) rfl)
    have XX := Lib.hid X2
    clear hx2 X1 X2 B1 B2
    go_wp2
    refine region_ext (by kernel_rfl) (by kernel_rfl) ?_
    repeat (go_big_quiet_step ((first | (go_at_call_of 48 (Value.int .i64 0); refine Calls.ext_of (CE.out _ (XX.out.trans (XT.ext _)))) | (go_at_call 48; refine Calls.ext_of (CE3.out _ (XX.out.trans (XT.ext _)))))))
    refine wpQuiet_nil ?_
    intro wq hxq
    go_wp2
    go_ret3
    exact ⟨rfl, XX.out.trans hxq⟩

set_option maxRecDepth 100000 in
set_option maxHeartbeats 1000000 in
theorem c_iSightBounds (D A B : Int) (vg : Value) (lo hi : Nat) (gs : List GroundT) (w : World) (h : Grounds w lo hi vg gs) (hh : hi ≤ w.heap.size) :
    Calls Try.prog 30 #[.agg #[.int .i64 D, .int .i64 A, .int .i64 B, vg]] w fun e w' => e = .returned (.tuple #[.bool (bdA D A B gs), .bool (bdS D A B gs), .bool (sightOk D A B gs)]) ∧ Ext w w' := by
  have h0 := h
  obtain ⟨a, cap, rfl, m1, m2, _⟩ := h0
  have H := Lib.hid h
  clear h
  obtain ⟨r, hr⟩ : ∃ r, r = bdA D A B gs := ⟨_, rfl⟩
  obtain ⟨y, hy⟩ : ∃ y, y = bdS D A B gs := ⟨_, rfl⟩
  obtain ⟨s, hs⟩ : ∃ s, s = sightOk D A B gs := ⟨_, rfl⟩
  rw [← hr, ← hy, ← hs]
  unfold bdA at hr
  unfold bdS at hy
  rw [← hs] at hr hy
  have CS : Hid (∀ W, Ext w W → Calls Try.prog 37 #[.agg #[.int .i64 D, .int .i64 A, .int .i64 B, .slice a gs.length cap]] W fun e w' => e = .returned (.bool s) ∧ Ext W w') :=
    fun W hX => by rw [hs]; exact c_IsSight D A B _ lo hi gs W (H.out.ext hX hh)
  cases s
  · simp at hr hy; subst hr hy
    clear hs
    go_enter Try.func30, Try.ntmps30
    go_wp2_with fail
    have B1 : (w.alloc (.cells #[.int .i64 D, .int .i64 A, .int .i64 B, .slice a gs.length cap] 28)).heap[w.heap.size]? = some (.cells #[.int .i64 D, .int .i64 A, .int .i64 B, .slice a gs.length cap] 28) := blk_alloc _ _
    have X1 := Ext.alloc w (.cells #[.int .i64 D, .int .i64 A, .int .i64 B, .slice a gs.length cap] 28)
    generalize w.alloc (.cells #[.int .i64 D, .int .i64 A, .int .i64 B, .slice a gs.length cap] 28) = w1 at *
    refine (CS.out _ X1).mono ?_
    rintro e w2 ⟨rfl, hx2⟩
    go_wp2
    go_ret3
    exact ⟨rfl, X1.trans hx2⟩
  · simp at hr hy
    have OK : Hid (∀ n : Int, 0 ≤ n → n ≤ 3 → OkD D A B n) := fun n h1 h2 => (ok_of_sight hs.symm (inB_iff.2 ⟨h1, h2⟩)).1
    obtain ⟨ok0, ok2, ok3, _, _⟩ := ok_of_sight (n := 0) hs.symm rfl
    rw [← allU_4 ok2 ok0.d1] at hr
    rw [← someU_4 ok2 ok0.d1] at hy
    have G2 := Lib.hid ok2
    have HR := Lib.hid hr
    have HY := Lib.hid hy
    clear hs hr hy ok0 ok2 ok3
    go_enter Try.func30, Try.ntmps30
    go_wp2_with fail
    have B1 : (w.alloc (.cells #[.int .i64 D, .int .i64 A, .int .i64 B, .slice a gs.length cap] 28)).heap[w.heap.size]? = some (.cells #[.int .i64 D, .int .i64 A, .int .i64 B, .slice a gs.length cap] 28) := blk_alloc _ _
    have X1 := Ext.alloc w (.cells #[.int .i64 D, .int .i64 A, .int .i64 B, .slice a gs.length cap] 28)
    generalize w.alloc (.cells #[.int .i64 D, .int .i64 A, .int .i64 B, .slice a gs.length cap] 28) = w1 at *
    refine (CS.out _ X1).mono ?_
    rintro e w2 ⟨rfl, hx2⟩
    go_wp2
    go_loopw [5, 6, 12] (fun p q t wr => ∃ (k : Nat) (al so : Bool), k ≤ 4 ∧ t = .int .i64 k ∧ p = .bool al ∧ q = .bool so ∧ Hid (al = allU D A B gs k ∧ so = someU D A B gs k) ∧ Ext w1 wr) (fun _ _ t _ => 4 - (intOf t).toNat)
    case atStart => exact ⟨0, true, false, by omega, rfl, rfl, rfl, ⟨rfl, rfl⟩, hx2⟩
    case round =>
      obtain ⟨k, al, so, hk, rfl, rfl, rfl, hT, hx⟩ := hrel
      have B2 := hx.blk B1
      have k0 := blk_cell B2 (j := 0) rfl
      have k1 := blk_cell B2 (j := 1) rfl
      have k2 := blk_cell B2 (j := 2) rfl
      have k3 := blk_cell B2 (j := 3) rfl
      by_cases hlt : k < 4
      · have hltI : (k : Int) < 4 := by omega
        obtain ⟨t, ht⟩ : ∃ t, t = seesB D A B k gs := ⟨_, rfl⟩
        have CE : Hid (∀ W, Ext w W → Calls Try.prog 46 #[.agg #[.int .i64 D, .int .i64 A, .int .i64 B, .slice a gs.length cap], .int .i64 k] W fun e w' => e = .returned (.bool t) ∧ Ext W w') :=
          fun W hX => by rw [ht]; exact c_sees D A B k _ lo hi gs W (H.out.ext hX hh) (Nat.le_trans hh hX.size) (OK.out k (by omega) (by omega)) G2.out
        have hT2 : Hid ((al && t) = allU D A B gs (k + 1) ∧ (so || t) = someU D A B gs (k + 1)) := by
          unfold Hid; rw [allU_succ, someU_succ, ← hT.out.1, ← hT.out.2, ht]; exact ⟨rfl, rfl⟩
        clear ht hT
        cases t <;> cases al <;> cases so
        all_goals
          go_wp2_with (go_at_call 46; refine (CE.out _ (X1.trans hx)).mono ?_; rintro e w3 ⟨rfl, hx3⟩)
          go_roundw
          case rel => exact ⟨k + 1, _, _, by omega, by go_num, rfl, rfl, hT2, hx.trans hx3⟩
          case measure => simp [intOf]; omega
      · have hT2 : Hid (r = al ∧ y = so) := by
          have e : k = 4 := by omega
          obtain ⟨e1, e2⟩ := hT.out
          unfold Hid; rw [HR.out, HY.out, e1, e2, e]; exact ⟨rfl, rfl⟩
        clear hT
        go_wp2
        go_ret3
        exact ⟨by rw [hT2.out.1, hT2.out.2]; rfl, X1.trans hx⟩
end Go.Proofs.Ytnoagmjajhlmjaa
