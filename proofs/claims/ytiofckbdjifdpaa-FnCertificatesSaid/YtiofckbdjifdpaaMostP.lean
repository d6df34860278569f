/- The most spots that are apart: both searches, in plain Lean. -/
import Derived.Test.YtiofckbdjifdpaaStP
namespace Go.Proofs.Ytiofckbdjifdpaa
open Go.RowKit
def better (b l : List Int) : List Int := if b.length < l.length then l else b
theorem better_assoc (a b c : List Int) : better (better a b) c = better a (better b c) := by
  unfold better
  by_cases h1 : a.length < b.length
  · rw [if_pos h1]
    by_cases h2 : b.length < c.length
    · rw [if_pos h2, if_pos (by omega)]
    · rw [if_neg h2, if_pos h1]
  · rw [if_neg h1]
    by_cases h2 : b.length < c.length
    · rw [if_pos h2]
    · rw [if_neg h2, if_neg h1, if_neg (by omega)]
theorem better_long {b l : List Int} (h : l.length ≤ b.length) : better b l = b := by unfold better; rw [if_neg (by omega)]
/-- The search: d numbers are left, the last of them is n - 1; the best so far comes along. -/
def mF (Q : List Int → Bool) (n : Int) : Nat → List Int → List Int → List Int
  | 0, _, best => best
  | d + 1, hv, best => mF Q n d hv (if Q (hv ++ [n - ((d : Int) + 1)]) then better best (mF Q n d (hv ++ [n - ((d : Int) + 1)]) (hv ++ [n - ((d : Int) + 1)])) else best)
theorem mF_better (Q : List Int → Bool) (n : Int) : ∀ (d : Nat) (hv B C : List Int), mF Q n d hv (better B C) = better B (mF Q n d hv C)
  | 0, _, _, _ => rfl
  | d + 1, hv, B, C => by
    unfold mF
    cases Q (hv ++ [n - ((d : Int) + 1)])
    · exact mF_better Q n d hv B C
    · simp only [if_true]
      rw [better_assoc]
      exact mF_better Q n d hv B _
theorem mF_len (Q : List Int → Bool) (n : Int) : ∀ (d : Nat) (hv B : List Int), (mF Q n d hv B).length ≤ max B.length (hv.length + d)
  | 0, _, _ => by unfold mF; omega
  | d + 1, hv, B => by
    unfold mF
    have h2 := mF_len Q n d (hv ++ [n - ((d : Int) + 1)]) (hv ++ [n - ((d : Int) + 1)])
    simp only [List.length_append, List.length_cons, List.length_nil] at h2
    cases Q (hv ++ [n - ((d : Int) + 1)])
    · have := mF_len Q n d hv B
      simp only [Bool.false_eq_true, if_false]
      omega
    · have h1 := mF_len Q n d hv (better B (mF Q n d (hv ++ [n - ((d : Int) + 1)]) (hv ++ [n - ((d : Int) + 1)])))
      simp only [if_true]
      have h3 : (better B (mF Q n d (hv ++ [n - ((d : Int) + 1)]) (hv ++ [n - ((d : Int) + 1)]))).length ≤ max B.length (hv.length + (d + 1)) := by
        unfold better; split <;> omega
      omega
/-- What is left can't be longer: nothing turns any more. -/
theorem mF_stop (Q : List Int → Bool) (n : Int) : ∀ (d : Nat) (hv B : List Int), hv.length + d ≤ B.length → mF Q n d hv B = B
  | 0, _, _, _ => rfl
  | d + 1, hv, B, h => by
    unfold mF
    have h2 := mF_len Q n d (hv ++ [n - ((d : Int) + 1)]) (hv ++ [n - ((d : Int) + 1)])
    simp only [List.length_append, List.length_cons, List.length_nil] at h2
    rw [better_long (by omega)]
    simp only [ite_self]
    exact mF_stop Q n d hv B (by omega)
end Go.Proofs.Ytiofckbdjifdpaa
