/- BulgeAt and HorizonOf of the program and of the reference return the same. -/
import Derived.Test.YtnoagmjajhlmjaaLib
namespace Go.Proofs.Ytnoagmjajhlmjaa
open Go.RowKit

def bulge (d a n : Int) : Int := 5 * (8 - n) * a * (d - a)
def bulgeOk (d a n : Int) : Bool := inB 1 999 d && (inB 0 d a && inB 0 3 n)
def bulgeV (d a n : Int) : Int := if bulgeOk d a n then 100 * bulge d a n / 50968 else 0
theorem bulge_bd {d a n : Int} (h2 : d ≤ 999) (h3 : 0 ≤ a) (h4 : a ≤ d) (h5 : 0 ≤ n) (h6 : n ≤ 3) :
    0 ≤ 5 * (8 - n) * a * (d - a) ∧ 5 * (8 - n) * a * (d - a) ≤ 40000000 ∧ 0 ≤ 5 * (8 - n) * a ∧ 5 * (8 - n) * a ≤ 40000 := by
  obtain ⟨e1, e2⟩ := mulBd (a := 5 * (8 - n)) (b := a) (A := 40) (B := 999) (by omega) (by omega) h3 (by omega)
  obtain ⟨e3, e4⟩ := mulBd (b := d - a) (B := 999) e1 e2 (by omega) (by omega)
  omega
theorem c_bulge (d a n : Int) (w : World) (h2 : d ≤ 999) (h3 : 0 ≤ a) (h4 : a ≤ d) (h5 : 0 ≤ n) (h6 : n ≤ 3) :
    Calls Try.prog 62 #[.int .i64 d, .int .i64 a, .int .i64 n] w fun e w' => e = .returned (.int .i64 (5 * (8 - n) * a * (d - a))) ∧ w = w' := by
  obtain ⟨hb1, hb2, hc1, hc2⟩ := bulge_bd h2 h3 h4 h5 h6
  go_enter Try.func62, Try.ntmps62
  go_wp2
  go_ret
  exact ⟨rfl, rfl⟩
theorem c_siBulge (d a n : Int) (w : World) (h2 : d ≤ 999) (h3 : 0 ≤ a) (h4 : a ≤ d) (h5 : 0 ≤ n) (h6 : n ≤ 3) :
    Calls Try.prog 63 #[.int .i64 d, .int .i64 a, .int .i64 n] w fun e w' => e = .returned (.int .i64 (5 * (8 - n) * a * (d - a))) ∧ w = w' := by
  obtain ⟨hb1, hb2, hc1, hc2⟩ := bulge_bd h2 h3 h4 h5 h6
  go_enter Try.func63, Try.ntmps63
  go_wp2
  go_ret
  exact ⟨rfl, rfl⟩
theorem c_siBend (n : Int) (w : World) :
    Calls Try.prog 53 #[.int .i64 n] w fun e w' => e = .returned (.bool (inB 0 3 n)) ∧ w = w' := by
  go_enter Try.func53, Try.ntmps53
  go_wp2_with (go_at_call 52; refine (l1In_c _ _ _ _).mono ?_; rintro e w' ⟨rfl, rfl⟩)
  go_ret
  exact ⟨rfl, rfl⟩

theorem c_iBulgeAt (d a n : Int) (w : World) :
    Calls Try.prog 33 #[.int .i64 d, .int .i64 a, .int .i64 n] w fun e w' => e = .returned (.tuple #[.int .i64 (bulgeV d a n), .bool (bulgeOk d a n)]) ∧ w = w' := by
  obtain ⟨x, hx⟩ : ∃ x, x = bulgeV d a n := ⟨_, rfl⟩
  obtain ⟨y, hy⟩ : ∃ y, y = bulgeOk d a n := ⟨_, rfl⟩
  rw [← hx, ← hy]
  unfold bulgeV bulge at hx
  unfold bulgeOk at hx hy
  cases h1 : inB 1 999 d
  · simp [h1] at hx hy; subst hx hy
    go_enter Try.func33, Try.ntmps33
    go_wp2_with (first | (go_at_call 45; refine (within_c _ _ _ _).mono ?_; rintro e w' ⟨rfl, rfl⟩) | (go_at_call 62; refine (c_bulge _ _ _ _ (by assumption) (by assumption) (by assumption) (by assumption) (by assumption)).mono ?_; rintro e w' ⟨rfl, rfl⟩))
    go_ret2
    exact ⟨rfl, rfl⟩
  cases h2 : inB 0 d a
  · simp [h1, h2] at hx hy; subst hx hy
    go_enter Try.func33, Try.ntmps33
    go_wp2_with (first | (go_at_call 45; refine (within_c _ _ _ _).mono ?_; rintro e w' ⟨rfl, rfl⟩) | (go_at_call 62; refine (c_bulge _ _ _ _ (by assumption) (by assumption) (by assumption) (by assumption) (by assumption)).mono ?_; rintro e w' ⟨rfl, rfl⟩))
    go_ret2
    exact ⟨rfl, rfl⟩
  cases h3 : inB 0 3 n
  · simp [h1, h2, h3] at hx hy; subst hx hy
    go_enter Try.func33, Try.ntmps33
    go_wp2_with (first | (go_at_call 45; refine (within_c _ _ _ _).mono ?_; rintro e w' ⟨rfl, rfl⟩) | (go_at_call 62; refine (c_bulge _ _ _ _ (by assumption) (by assumption) (by assumption) (by assumption) (by assumption)).mono ?_; rintro e w' ⟨rfl, rfl⟩))
    go_ret2
    exact ⟨rfl, rfl⟩
  · simp [h1, h2, h3] at hx hy; subst hx hy
    obtain ⟨b1, b2⟩ := inB_t h1
    obtain ⟨b3, b4⟩ := inB_t h2
    obtain ⟨b5, b6⟩ := inB_t h3
    obtain ⟨b7, b8, b9, b10⟩ := bulge_bd b2 b3 b4 b5 b6
    go_enter Try.func33, Try.ntmps33
    go_wp2_with (first | (go_at_call 45; refine (within_c _ _ _ _).mono ?_; rintro e w' ⟨rfl, rfl⟩) | (go_at_call 62; refine (c_bulge _ _ _ _ (by assumption) (by assumption) (by assumption) (by assumption) (by assumption)).mono ?_; rintro e w' ⟨rfl, rfl⟩))
    go_ret2
    exact ⟨rfl, rfl⟩
theorem c_sBulgeAt (d a n : Int) (w : World) :
    Calls Try.prog 34 #[.int .i64 d, .int .i64 a, .int .i64 n] w fun e w' => e = .returned (.tuple #[.int .i64 (bulgeV d a n), .bool (bulgeOk d a n)]) ∧ w = w' := by
  obtain ⟨x, hx⟩ : ∃ x, x = bulgeV d a n := ⟨_, rfl⟩
  obtain ⟨y, hy⟩ : ∃ y, y = bulgeOk d a n := ⟨_, rfl⟩
  rw [← hx, ← hy]
  unfold bulgeV bulge at hx
  unfold bulgeOk at hx hy
  cases h1 : inB 1 999 d
  · simp [h1] at hx hy; subst hx hy
    go_enter Try.func34, Try.ntmps34
    go_wp2_with (first | (go_at_call 52; refine (l1In_c _ _ _ _).mono ?_; rintro e w' ⟨rfl, rfl⟩) | (go_at_call 53; refine (c_siBend _ _).mono ?_; rintro e w' ⟨rfl, rfl⟩) | (go_at_call 63; refine (c_siBulge _ _ _ _ (by assumption) (by assumption) (by assumption) (by assumption) (by assumption)).mono ?_; rintro e w' ⟨rfl, rfl⟩))
    go_ret2
    exact ⟨rfl, rfl⟩
  cases h2 : inB 0 d a
  · simp [h1, h2] at hx hy; subst hx hy
    go_enter Try.func34, Try.ntmps34
    go_wp2_with (first | (go_at_call 52; refine (l1In_c _ _ _ _).mono ?_; rintro e w' ⟨rfl, rfl⟩) | (go_at_call 53; refine (c_siBend _ _).mono ?_; rintro e w' ⟨rfl, rfl⟩) | (go_at_call 63; refine (c_siBulge _ _ _ _ (by assumption) (by assumption) (by assumption) (by assumption) (by assumption)).mono ?_; rintro e w' ⟨rfl, rfl⟩))
    go_ret2
    exact ⟨rfl, rfl⟩
  cases h3 : inB 0 3 n
  · simp [h1, h2, h3] at hx hy; subst hx hy
    go_enter Try.func34, Try.ntmps34
    go_wp2_with (first | (go_at_call 52; refine (l1In_c _ _ _ _).mono ?_; rintro e w' ⟨rfl, rfl⟩) | (go_at_call 53; refine (c_siBend _ _).mono ?_; rintro e w' ⟨rfl, rfl⟩) | (go_at_call 63; refine (c_siBulge _ _ _ _ (by assumption) (by assumption) (by assumption) (by assumption) (by assumption)).mono ?_; rintro e w' ⟨rfl, rfl⟩))
    go_ret2
    exact ⟨rfl, rfl⟩
  · simp [h1, h2, h3] at hx hy; subst hx hy
    obtain ⟨b1, b2⟩ := inB_t h1
    obtain ⟨b3, b4⟩ := inB_t h2
    obtain ⟨b5, b6⟩ := inB_t h3
    obtain ⟨b7, b8, b9, b10⟩ := bulge_bd b2 b3 b4 b5 b6
    go_enter Try.func34, Try.ntmps34
    go_wp2_with (first | (go_at_call 52; refine (l1In_c _ _ _ _).mono ?_; rintro e w' ⟨rfl, rfl⟩) | (go_at_call 53; refine (c_siBend _ _).mono ?_; rintro e w' ⟨rfl, rfl⟩) | (go_at_call 63; refine (c_siBulge _ _ _ _ (by assumption) (by assumption) (by assumption) (by assumption) (by assumption)).mono ?_; rintro e w' ⟨rfl, rfl⟩))
    go_ret2
    exact ⟨rfl, rfl⟩


/-! ### HorizonOf -/
def hzC (h n : Int) (k : Nat) : Prop := 5 * (8 - n) * ((k : Int) + 1) * ((k : Int) + 1) ≤ 50968 * h
instance (h n : Int) (k : Nat) : Decidable (hzC h n k) := by unfold hzC; infer_instance
/-- The number reached from k on, in at most f steps. -/
def hzF (h n : Int) : Nat → Nat → Nat
  | 0, k => k
  | f + 1, k => if hzC h n k then hzF h n f (k + 1) else k
def hz (h n : Int) : Nat := hzF h n 999 0
def hzOk (h n : Int) : Bool := inB 0 3000 h && inB 0 3 n
def hzV (h n : Int) : Int := if hzOk h n then (hz h n : Nat) else 0
theorem hz_bd {n : Int} {k : Nat} (h5 : 0 ≤ n) (h6 : n ≤ 3) (hk : k < 999) :
    0 ≤ 5 * (8 - n) * ((k : Int) + 1) ∧ 5 * (8 - n) * ((k : Int) + 1) ≤ 40000 ∧ 0 ≤ 5 * (8 - n) * ((k : Int) + 1) * ((k : Int) + 1) ∧ 5 * (8 - n) * ((k : Int) + 1) * ((k : Int) + 1) ≤ 40000000 := by
  obtain ⟨e1, e2⟩ := mulBd (a := 5 * (8 - n)) (b := (k : Int) + 1) (A := 40) (B := 1000) (by omega) (by omega) (by omega) (by omega)
  obtain ⟨e3, e4⟩ := mulBd (b := (k : Int) + 1) (B := 1000) e1 e2 (by omega) (by omega)
  omega
set_option maxRecDepth 100000 in
set_option maxHeartbeats 400000 in
theorem c_iHorizonOf (h n : Int) (w : World) :
    Calls Try.prog 20 #[.int .i64 h, .int .i64 n] w fun e w' => e = .returned (.tuple #[.int .i64 (hzV h n), .bool (hzOk h n)]) ∧ w = w' := by
  obtain ⟨x, hx⟩ : ∃ x, x = hzV h n := ⟨_, rfl⟩
  obtain ⟨y, hy⟩ : ∃ y, y = hzOk h n := ⟨_, rfl⟩
  rw [← hx, ← hy]
  unfold hzV at hx
  unfold hzOk at hx hy
  cases h1 : inB 0 3000 h
  · simp [h1] at hx hy; subst hx hy
    go_enter Try.func20, Try.ntmps20
    go_wp2_with (first | (go_at_call 45; refine (within_c _ _ _ _).mono ?_; rintro e w' ⟨rfl, rfl⟩))
    go_ret2
    exact ⟨rfl, rfl⟩
  cases h2 : inB 0 3 n
  · simp [h1, h2] at hx hy; subst hx hy
    go_enter Try.func20, Try.ntmps20
    go_wp2_with (first | (go_at_call 45; refine (within_c _ _ _ _).mono ?_; rintro e w' ⟨rfl, rfl⟩))
    go_ret2
    exact ⟨rfl, rfl⟩
  · simp [h1, h2] at hx hy; subst hx hy
    obtain ⟨b1, b2⟩ := inB_t h1
    obtain ⟨b5, b6⟩ := inB_t h2
    go_enter Try.func20, Try.ntmps20
    go_wp2_with (first | (go_at_call 45; refine (within_c _ _ _ _).mono ?_; rintro e w' ⟨rfl, rfl⟩))
    go_loop [6] (fun t => ∃ k : Nat, k ≤ 999 ∧ t = .int .i64 k ∧ Hid (hzF h n (999 - k) k = hz h n)) (fun t => 999 - (intOf t).toNat)
    case atStart => exact ⟨0, by omega, rfl, rfl⟩
    case round =>
      obtain ⟨k, hk, rfl, hF⟩ := hrel
      by_cases hlt : k < 999
      · obtain ⟨b7, b8, b9, b10⟩ := hz_bd (k := k) b5 b6 hlt
        by_cases hc : hzC h n k
        · have hc' : 5 * (8 - n) * ((k : Int) + 1) * ((k : Int) + 1) ≤ 50968 * h := hc
          have hn : hzF h n (999 - (k + 1)) (k + 1) = hz h n := by
            rw [← hF.out, show 999 - k = (999 - (k + 1)) + 1 by omega, hzF, if_pos hc]
          have hF' := Lib.hid hn
          clear hn hc
          go_wp2
          go_round
          case rel => exact ⟨k + 1, by omega, by go_num, hF'⟩
          case measure => simp [intOf]; omega
        · have hc' : ¬ 5 * (8 - n) * ((k : Int) + 1) * ((k : Int) + 1) ≤ 50968 * h := hc
          have hn : hz h n = k := by
            rw [← hF.out, show 999 - k = (999 - (k + 1)) + 1 by omega, hzF, if_neg hc]
          have hF' := Lib.hid hn
          clear hn hc
          go_wp2
          go_ret2
          exact ⟨by rw [hF'.out]; rfl, rfl⟩
      · have hn : hz h n = k := by
          rw [← hF.out, show 999 - k = 0 by omega, hzF]
        have hF' := Lib.hid hn
        clear hn
        go_wp2
        go_ret2
        exact ⟨by rw [hF'.out]; rfl, rfl⟩
set_option maxRecDepth 100000 in
set_option maxHeartbeats 400000 in
theorem c_sHorizonOf (h n : Int) (w : World) :
    Calls Try.prog 21 #[.int .i64 h, .int .i64 n] w fun e w' => e = .returned (.tuple #[.int .i64 (hzV h n), .bool (hzOk h n)]) ∧ w = w' := by
  obtain ⟨x, hx⟩ : ∃ x, x = hzV h n := ⟨_, rfl⟩
  obtain ⟨y, hy⟩ : ∃ y, y = hzOk h n := ⟨_, rfl⟩
  rw [← hx, ← hy]
  unfold hzV at hx
  unfold hzOk at hx hy
  cases h1 : inB 0 3000 h
  · simp [h1] at hx hy; subst hx hy
    go_enter Try.func21, Try.ntmps21
    go_wp2_with (first | (go_at_call 52; refine (l1In_c _ _ _ _).mono ?_; rintro e w' ⟨rfl, rfl⟩) | (go_at_call 53; refine (c_siBend _ _).mono ?_; rintro e w' ⟨rfl, rfl⟩))
    go_ret2
    exact ⟨rfl, rfl⟩
  cases h2 : inB 0 3 n
  · simp [h1, h2] at hx hy; subst hx hy
    go_enter Try.func21, Try.ntmps21
    go_wp2_with (first | (go_at_call 52; refine (l1In_c _ _ _ _).mono ?_; rintro e w' ⟨rfl, rfl⟩) | (go_at_call 53; refine (c_siBend _ _).mono ?_; rintro e w' ⟨rfl, rfl⟩))
    go_ret2
    exact ⟨rfl, rfl⟩
  · simp [h1, h2] at hx hy; subst hx hy
    obtain ⟨b1, b2⟩ := inB_t h1
    obtain ⟨b5, b6⟩ := inB_t h2
    go_enter Try.func21, Try.ntmps21
    go_wp2_with (first | (go_at_call 52; refine (l1In_c _ _ _ _).mono ?_; rintro e w' ⟨rfl, rfl⟩) | (go_at_call 53; refine (c_siBend _ _).mono ?_; rintro e w' ⟨rfl, rfl⟩))
    go_loop [6] (fun t => ∃ k : Nat, k ≤ 999 ∧ t = .int .i64 k ∧ Hid (hzF h n (999 - k) k = hz h n)) (fun t => 999 - (intOf t).toNat)
    case atStart => exact ⟨0, by omega, rfl, rfl⟩
    case round =>
      obtain ⟨k, hk, rfl, hF⟩ := hrel
      by_cases hlt : k < 999
      · obtain ⟨b7, b8, b9, b10⟩ := hz_bd (k := k) b5 b6 hlt
        by_cases hc : hzC h n k
        · have hc' : 5 * (8 - n) * ((k : Int) + 1) * ((k : Int) + 1) ≤ 50968 * h := hc
          have hn : hzF h n (999 - (k + 1)) (k + 1) = hz h n := by
            rw [← hF.out, show 999 - k = (999 - (k + 1)) + 1 by omega, hzF, if_pos hc]
          have hF' := Lib.hid hn
          clear hn hc
          go_wp2
          go_round
          case rel => exact ⟨k + 1, by omega, by go_num, hF'⟩
          case measure => simp [intOf]; omega
        · have hc' : ¬ 5 * (8 - n) * ((k : Int) + 1) * ((k : Int) + 1) ≤ 50968 * h := hc
          have hn : hz h n = k := by
            rw [← hF.out, show 999 - k = (999 - (k + 1)) + 1 by omega, hzF, if_neg hc]
          have hF' := Lib.hid hn
          clear hn hc
          go_wp2
          go_ret2
          exact ⟨by rw [hF'.out]; rfl, rfl⟩
      · have hn : hz h n = k := by
          rw [← hF.out, show 999 - k = 0 by omega, hzF]
        have hF' := Lib.hid hn
        clear hn
        go_wp2
        go_ret2
        exact ⟨by rw [hF'.out]; rfl, rfl⟩
end Go.Proofs.Ytnoagmjajhlmjaa
