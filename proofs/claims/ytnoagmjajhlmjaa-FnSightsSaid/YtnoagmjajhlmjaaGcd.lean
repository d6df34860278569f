
/- Least, greatest, greatest common divisor: the parts of Clearance. -/
import Derived.Test.YtnoagmjajhlmjaaLeast
namespace Go.Proofs.Ytnoagmjajhlmjaa
open Go.RowKit

set_option maxRecDepth 100000 in
theorem c_l1Least (a b : Int) (w : World) : Calls Try.prog 59 #[.int .i64 a, .int .i64 b] w fun e w' => e = .returned (.int .i64 (min a b)) ∧ w = w' := by
  by_cases h : a < b
  · have hm : min a b = a := by omega
    rw [hm]
    go_enter Try.func59, Try.ntmps59
    go_wp2
    go_ret
    exact ⟨rfl, rfl⟩
  · have hm : min a b = b := by omega
    rw [hm]
    go_enter Try.func59, Try.ntmps59
    go_wp2
    go_ret
    exact ⟨rfl, rfl⟩
set_option maxRecDepth 100000 in
theorem c_l1Most (a b : Int) (w : World) : Calls Try.prog 71 #[.int .i64 a, .int .i64 b] w fun e w' => e = .returned (.int .i64 (max a b)) ∧ w = w' := by
  by_cases h : b < a
  · have hm : max a b = a := by omega
    rw [hm]
    go_enter Try.func71, Try.ntmps71
    go_wp2
    go_ret
    exact ⟨rfl, rfl⟩
  · have hm : max a b = b := by omega
    rw [hm]
    go_enter Try.func71, Try.ntmps71
    go_wp2
    go_ret
    exact ⟨rfl, rfl⟩
set_option maxRecDepth 100000 in
theorem c_l1Abs (a : Int) (w : World) (h1 : -1000000000000 ≤ a) (h2 : a ≤ 1000000000000) : Calls Try.prog 72 #[.int .i64 a] w fun e w' => e = .returned (.int .i64 (max a (-a))) ∧ w = w' := by
  go_enter Try.func72, Try.ntmps72
  go_wp2_with (go_at_call 71; refine (c_l1Most _ _ _).mono ?_; rintro e w' ⟨rfl, rfl⟩)
  go_ret
  exact ⟨rfl, rfl⟩
set_option maxRecDepth 100000 in
set_option maxHeartbeats 1000000 in
theorem c_gcdOf (a b : Nat) (w : World) (h1 : a ≤ 1000000000000) (h2 : b ≤ 1000000000000) :
    Calls Try.prog 57 #[.int .i64 a, .int .i64 b] w fun e w' => e = .returned (.int .i64 (Nat.gcd a b : Nat)) ∧ Ext w w' := by
  obtain ⟨g, hg⟩ : ∃ g, g = Nat.gcd a b := ⟨_, rfl⟩
  rw [← hg]
  have HG := Lib.hid hg
  clear hg
  go_enter Try.func57, Try.ntmps57
  go_wp2
  go_loopw [0, 1] (fun u v wr => ∃ x y : Nat, u = .int .i64 x ∧ v = .int .i64 y ∧ x ≤ 1000000000000 ∧ y ≤ 1000000000000 ∧ Hid (g = Nat.gcd x y) ∧ Ext w wr) (fun _ v _ => (intOf v).toNat)
  case atStart => exact ⟨a, b, rfl, rfl, h1, h2, HG.out, Ext.refl _⟩
  case round =>
    obtain ⟨x, y, rfl, rfl, hx, hy, hT, hX⟩ := hrel
    by_cases hy0 : 0 < y
    · have hyI : (0 : Int) < (y : Int) := by omega
      have hyn : ¬ ((y : Int) = 0) := by omega
      have hr : Int.tmod (x : Int) (y : Int) = ((x % y : Nat) : Int) := rfl
      have hlt := Nat.mod_lt x hy0
      go_wp2
      go_region
      all_goals
        go_wp2
        go_roundw
        case rel => exact ⟨y, x % y, rfl, rfl, hy, by omega, by unfold Hid; rw [hT.out, Nat.gcd_comm x y, Nat.gcd_rec, Nat.gcd_comm], hX.trans (Ext.drew _)⟩
        case measure => simp [intOf]; omega
    · have : y = 0 := by omega
      subst this
      have HT : Hid (g = x) := by have := hT.out; rwa [Nat.gcd_zero_right] at this
      clear hT
      go_wp2
      go_ret
      exact ⟨by rw [HT.out]; rfl, hX⟩
set_option maxRecDepth 100000 in
set_option maxHeartbeats 1000000 in
theorem c_siPart (a : Int) (b : Nat) (w : World) (h1 : -1000000000000 ≤ a) (h2 : a ≤ 1000000000000) (h3 : b ≤ 1000000000000) (h4 : 0 < b) :
    Calls Try.prog 60 #[.int .i64 a, .int .i64 b] w fun e w' => e = .returned (.tuple #[.int .i64 (a.tdiv (Nat.gcd a.natAbs b : Nat)), .int .i64 (Int.tdiv b (Nat.gcd a.natAbs b : Nat))]) ∧ Ext w w' := by
  obtain ⟨g, hg⟩ : ∃ g, g = Nat.gcd a.natAbs b := ⟨_, rfl⟩
  rw [← hg]
  have hgp : 0 < g := by rw [hg]; exact Nat.gcd_pos_of_pos_right _ h4
  have hma : max a (-a) = ((a.natAbs : Nat) : Int) := by omega
  have CA := Lib.hid (c_l1Abs a w h1 h2)
  rw [hma] at CA
  obtain ⟨m, hm⟩ : ∃ m, m = a.natAbs := ⟨_, rfl⟩
  have hm2 : m ≤ 1000000000000 := by omega
  rw [← hm] at CA hg
  have HG := Lib.hid hg
  clear hg hma hm
  go_enter Try.func60, Try.ntmps60
  go_wp2_with (go_at_call 72; refine CA.out.mono ?_; rintro e w' ⟨rfl, rfl⟩)
  go_loopw [6, 7] (fun u v wr => ∃ x y : Nat, u = .int .i64 x ∧ v = .int .i64 y ∧ x ≤ 1000000000000 ∧ y ≤ 1000000000000 ∧ Hid (g = Nat.gcd x y) ∧ Ext w wr) (fun _ v _ => (intOf v).toNat)
  case atStart => exact ⟨m, b, rfl, rfl, hm2, h3, HG.out, Ext.refl _⟩
  case round =>
    obtain ⟨x, y, rfl, rfl, hx, hy, hT, hX⟩ := hrel
    by_cases hy0 : 0 < y
    · have hyI : (0 : Int) < (y : Int) := by omega
      have hyn : ¬ ((y : Int) = 0) := by omega
      have hlt := Nat.mod_lt x hy0
      go_wp2
      go_roundw
      case rel => exact ⟨y, x % y, rfl, rfl, hy, by omega, by unfold Hid; rw [hT.out, Nat.gcd_comm x y, Nat.gcd_rec, Nat.gcd_comm], hX⟩
      case measure => simp [intOf]; omega
    · have : y = 0 := by omega
      subst this
      have HT : g = x := by have := hT.out; rwa [Nat.gcd_zero_right] at this
      subst HT
      have hgI : (0 : Int) < (g : Int) := by omega
      have hgn : ¬ ((g : Int) = 0) := by omega
      have h3I : (b : Int) ≤ 1000000000000 := by omega
      clear hT
      go_wp2
      go_region
      all_goals
        go_wp2
        go_ret2
        refine ⟨?_, hX.trans (Ext.drew _)⟩
        have e1 : Int.tdiv (b : Int) (g : Int) = (b : Int) / (g : Int) := Int.tdiv_eq_ediv_of_nonneg (by omega)
        have e2 : (b : Int) / (g : Int) ≤ (b : Int) := Int.ediv_le_self _ (by omega)
        have e3 : 0 ≤ (b : Int) / (g : Int) := Int.ediv_nonneg (by omega) (by omega)
        have e4 := IntWalk.wrap64_in ((b : Int) / (g : Int)) ⟨by omega, by omega⟩
        rw [e1, e4]
        rfl
theorem c_gcdI (a b : Int) (w : World) (h0 : 0 ≤ a) (h1 : a ≤ 1000000000000) (h2 : 0 ≤ b) (h3 : b ≤ 1000000000000) :
    Calls Try.prog 57 #[.int .i64 a, .int .i64 b] w fun e w' => e = .returned (.int .i64 (Nat.gcd a.natAbs b.natAbs : Nat)) ∧ Ext w w' := by
  obtain ⟨x, rfl⟩ := Int.eq_ofNat_of_zero_le h0
  obtain ⟨y, rfl⟩ := Int.eq_ofNat_of_zero_le h2
  exact c_gcdOf x y w (by omega) (by omega)
theorem c_partI (a b : Int) (w : World) (h1 : -1000000000000 ≤ a) (h2 : a ≤ 1000000000000) (h3 : 0 < b) (h4 : b ≤ 1000000000000) :
    Calls Try.prog 60 #[.int .i64 a, .int .i64 b] w fun e w' => e = .returned (.tuple #[.int .i64 (a.tdiv (Nat.gcd a.natAbs b.natAbs : Nat)), .int .i64 (b.tdiv (Nat.gcd a.natAbs b.natAbs : Nat))]) ∧ Ext w w' := by
  obtain ⟨y, rfl⟩ := Int.eq_ofNat_of_zero_le (Int.le_of_lt h3)
  exact c_siPart a y w h1 h2 (by omega) (by omega)
end Go.Proofs.Ytnoagmjajhlmjaa
