/- BulgeAt and HorizonOf of the program and of the reference return the same. -/
import Derived.Test.YtickoloadgnenaaLib
namespace Go.Proofs.Ytickoloadgnenaa
open Go.RowKit

def bulge (d a n : Int) : Int := 5 * (8 - n) * a * (d - a)
def bulgeOk (d a n : Int) : Bool := inB 1 999 d && (inB 0 d a && inB 0 3 n)
def bulgeV (d a n : Int) : Int := if bulgeOk d a n then 100 * bulge d a n / 50968 else 0
theorem bulge_bd {d a n : Int} (h2 : d ≤ 999) (h3 : 0 ≤ a) (h4 : a ≤ d) (h5 : 0 ≤ n) (h6 : n ≤ 3) :
    0 ≤ 5 * (8 - n) * a * (d - a) ∧ 5 * (8 - n) * a * (d - a) ≤ 40000000 ∧ 0 ≤ 5 * (8 - n) * a ∧ 5 * (8 - n) * a ≤ 40000 := by
  obtain ⟨e1, e2⟩ := mulBd (a := 5 * (8 - n)) (b := a) (A := 40) (B := 999) (by omega) (by omega) h3 (by omega)
  obtain ⟨e3, e4⟩ := mulBd (b := d - a) (B := 999) e1 e2 (by omega) (by omega)
  omega
theorem c_bulge (d a n : Int) (w : World) (h2 : d ≤ 999) (h3 : 0 ≤ a) (h4 : a ≤ d) (h5 : 0 ≤ n) (h6 : n ≤ 3) :
    Calls Try.prog 37 #[.int .i64 d, .int .i64 a, .int .i64 n] w fun e w' => e = .returned (.int .i64 (5 * (8 - n) * a * (d - a))) ∧ w = w' := by
  obtain ⟨hb1, hb2, hc1, hc2⟩ := bulge_bd h2 h3 h4 h5 h6
  go_enter Try.func37, Try.ntmps37
  go_wp2
  go_ret
  exact ⟨rfl, rfl⟩
theorem c_siBulge (d a n : Int) (w : World) (h2 : d ≤ 999) (h3 : 0 ≤ a) (h4 : a ≤ d) (h5 : 0 ≤ n) (h6 : n ≤ 3) :
    Calls Try.prog 35 #[.int .i64 d, .int .i64 a, .int .i64 n] w fun e w' => e = .returned (.int .i64 (5 * (8 - n) * a * (d - a))) ∧ w = w' := by
  obtain ⟨hb1, hb2, hc1, hc2⟩ := bulge_bd h2 h3 h4 h5 h6
  go_enter Try.func35, Try.ntmps35
  go_wp2
  go_ret
  exact ⟨rfl, rfl⟩
theorem c_siBend (n : Int) (w : World) :
    Calls Try.prog 29 #[.int .i64 n] w fun e w' => e = .returned (.bool (inB 0 3 n)) ∧ w = w' := by
  go_enter Try.func29, Try.ntmps29
  go_wp2_with (go_at_call 38; refine (l1In_c _ _ _ _).mono ?_; rintro e w' ⟨rfl, rfl⟩)
  go_ret
  exact ⟨rfl, rfl⟩



/-! ### HorizonOf -/
def hzC (h n : Int) (k : Nat) : Prop := 5 * (8 - n) * ((k : Int) + 1) * ((k : Int) + 1) ≤ 50968 * h
instance (h n : Int) (k : Nat) : Decidable (hzC h n k) := by unfold hzC; infer_instance
/-- The number reached from k on, in at most f steps. -/
def hzF (h n : Int) : Nat → Nat → Nat
  | 0, k => k
  | f + 1, k => if hzC h n k then hzF h n f (k + 1) else k
def hz (h n : Int) : Nat := hzF h n 999 0
def hzOk (h n : Int) : Bool := inB 0 3000 h && inB 0 3 n
def hzV (h n : Int) : Int := if hzOk h n then (hz h n : Nat) else 0
theorem hz_bd {n : Int} {k : Nat} (h5 : 0 ≤ n) (h6 : n ≤ 3) (hk : k < 999) :
    0 ≤ 5 * (8 - n) * ((k : Int) + 1) ∧ 5 * (8 - n) * ((k : Int) + 1) ≤ 40000 ∧ 0 ≤ 5 * (8 - n) * ((k : Int) + 1) * ((k : Int) + 1) ∧ 5 * (8 - n) * ((k : Int) + 1) * ((k : Int) + 1) ≤ 40000000 := by
  obtain ⟨e1, e2⟩ := mulBd (a := 5 * (8 - n)) (b := (k : Int) + 1) (A := 40) (B := 1000) (by omega) (by omega) (by omega) (by omega)
  obtain ⟨e3, e4⟩ := mulBd (b := (k : Int) + 1) (B := 1000) e1 e2 (by omega) (by omega)
  omega
end Go.Proofs.Ytickoloadgnenaa
