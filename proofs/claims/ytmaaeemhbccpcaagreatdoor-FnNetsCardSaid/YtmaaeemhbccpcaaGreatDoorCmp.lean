
/- Comparing links. -/
import Derived.Test.YtmaaeemhbccpcaaGreatDoorNet
namespace Go.Proofs.YtmaaeemhbccpcaaGreatDoor
open Go.RowKit

/-! ### Comparing -/
def cmpI (a b : Int) : Int := if a < b then -1 else if b < a then 1 else 0
def cmpL (a b : LinkT) : Int := if cmpI a.1 b.1 = 0 then cmpI a.2.1 b.2.1 else cmpI a.1 b.1
def befL (a b : LinkT) : Bool := decide (a.1 < b.1) || (decide (a.1 = b.1) && decide (a.2.1 < b.2.1))
theorem cmpL_bef (a b : LinkT) : decide (0 ≤ cmpL a b) = !befL a b := by
  unfold cmpL cmpI befL
  by_cases h1 : a.1 < b.1
  · simp [h1]
  · by_cases h2 : b.1 < a.1
    · have h3 : ¬ a.1 = b.1 := by omega
      simp [h1, h2, h3]
    · have h3 : a.1 = b.1 := by omega
      by_cases h4 : a.2.1 < b.2.1
      · simp [h3, h4]
      · by_cases h5 : b.2.1 < a.2.1 <;> simp [h3, h4, h5]
theorem c_isNaN (a : Int) (w : World) : Calls Tryz.prog 79 #[.int .i64 a] w fun e w' => e = .returned (.bool false) ∧ w = w' := by
  have h : ((a : Int) != a) = false := by simp
  go_enter Tryz.func79, Tryz.ntmps79
  go_wp2
  go_ret
  exact ⟨rfl, rfl⟩
set_option maxRecDepth 100000 in
theorem c_Compare (a b : Int) (w : World) : Calls Tryz.prog 65 #[.int .i64 a, .int .i64 b] w fun e w' => e = .returned (.int .i64 (cmpI a b)) ∧ w = w' := by
  obtain ⟨r, hr⟩ : ∃ r, r = cmpI a b := ⟨_, rfl⟩
  rw [← hr]
  unfold cmpI at hr
  by_cases h1 : a < b
  · rw [if_pos h1] at hr; subst hr
    go_enter Tryz.func65, Tryz.ntmps65
    go_wp2_with (go_at_call 79; refine (c_isNaN _ _).mono ?_; rintro e w' ⟨rfl, rfl⟩)
    go_ret
    exact ⟨rfl, rfl⟩
  · rw [if_neg h1] at hr
    by_cases h2 : b < a
    · rw [if_pos h2] at hr; subst hr
      go_enter Tryz.func65, Tryz.ntmps65
      go_wp2_with (go_at_call 79; refine (c_isNaN _ _).mono ?_; rintro e w' ⟨rfl, rfl⟩)
      go_ret
      exact ⟨rfl, rfl⟩
    · rw [if_neg h2] at hr; subst hr
      go_enter Tryz.func65, Tryz.ntmps65
      go_wp2_with (go_at_call 79; refine (c_isNaN _ _).mono ?_; rintro e w' ⟨rfl, rfl⟩)
      go_ret
      exact ⟨rfl, rfl⟩
set_option maxRecDepth 100000 in
theorem c_Or (b : Nat) (p q : Int) (w : World) (h0 : w.cell? ⟨b, 0, none⟩ = some (.int .i64 p)) (h1 : w.cell? ⟨b, 1, none⟩ = some (.int .i64 q)) :
    Calls Tryz.prog 64 #[.slice (some ⟨b, 0, none⟩) 2 2] w fun e w' => e = .returned (.int .i64 (if p = 0 then q else p)) ∧ w = w' := by
  obtain ⟨r, hr⟩ : ∃ r, r = (if p = 0 then q else p) := ⟨_, rfl⟩
  rw [← hr]
  have HR := Lib.hid hr
  clear hr
  go_enter Tryz.func64, Tryz.ntmps64
  go_wp2
  go_loop [8] (fun t => ∃ c : Int, t = .int .i64 c ∧ Hid (c = 0 ∨ (c = 1 ∧ p = 0) ∨ (c = 2 ∧ p = 0 ∧ q = 0))) (fun t => 2 - (intOf t).toNat)
  case atStart => exact ⟨0, rfl, .inl rfl⟩
  case round =>
    obtain ⟨c, rfl, hc⟩ := hrel
    rcases hc.out with h | h | h
    · subst h
      by_cases hp : p = 0
      · have hpb : ((p : Int) != 0) = false := by simp [hp]
        have HC : Hid ((1 : Int) = 0 ∨ ((1 : Int) = 1 ∧ p = 0) ∨ ((1 : Int) = 2 ∧ p = 0 ∧ q = 0)) := .inr (.inl ⟨rfl, hp⟩)
        clear hp hc
        go_wp2
        go_round
        case rel => exact ⟨1, rfl, HC.out⟩
        case measure => simp [intOf]
      · have hpb : ((p : Int) != 0) = true := by simp [hp]
        have HS : Hid (r = p) := by unfold Hid; rw [HR.out, if_neg hp]
        clear hp hc
        go_wp2
        go_ret
        exact ⟨by rw [HS.out]; rfl, rfl⟩
    · obtain ⟨h, hp⟩ := h
      subst h
      have HS : Hid (r = q) := by unfold Hid; rw [HR.out, if_pos hp]
      by_cases hq : q = 0
      · have hqb : ((q : Int) != 0) = false := by simp [hq]
        have HC : Hid ((2 : Int) = 0 ∨ ((2 : Int) = 1 ∧ p = 0) ∨ ((2 : Int) = 2 ∧ p = 0 ∧ q = 0)) := .inr (.inr ⟨rfl, hp, hq⟩)
        clear hp hc hq
        go_wp2
        go_round
        case rel => exact ⟨2, rfl, HC.out⟩
        case measure => simp [intOf]
      · have hqb : ((q : Int) != 0) = true := by simp [hq]
        clear hp hc hq
        go_wp2
        go_ret
        exact ⟨by rw [HS.out]; rfl, rfl⟩
    · obtain ⟨h, hp, hq⟩ := h
      subst h
      have HS : Hid (r = 0) := by unfold Hid; rw [HR.out, if_pos hp, hq]
      clear hp hc hq
      go_wp2
      go_ret
      exact ⟨by rw [HS.out]; rfl, rfl⟩
end Go.Proofs.YtmaaeemhbccpcaaGreatDoor
