


/- What can be reached by some of the links: the program's loop, walked. -/
import Derived.Test.YtiipjlcmekakaaaReachB
namespace Go.Proofs.Ytiipjlcmekakaaa
open Go.RowKit
theorem getD_keep {S : List Bool} {i p : Nat} (h : S.getD i false = true) : (S.set p true).getD i false = true := by
  rw [List.getD_eq_getElem?_getD] at h ⊢
  by_cases e : p = i
  · subst e
    cases hs : S[p]? with
    | none => rw [hs] at h; simp at h
    | some b => rw [List.getElem?_set_self (List.getElem?_eq_some_iff.1 hs).1]; rfl
  · rw [List.getElem?_set_ne e]; exact h
theorem getD_of {S : List Bool} {p : Nat} {s : Bool} (h : S[p]? = some s) : S.getD p false = s := by
  rw [List.getD_eq_getElem?_getD, h]; rfl
theorem nF_two {S : List Bool} {p q : Nat} {s1 s2 : Bool} (h1 : S[p]? = some s1) (h2 : S[q]? = some s2) (hpq : p ≠ q) (hne : s1 ≠ s2) : nF ((S.set p true).set q true) + 1 ≤ nF S := by
  cases s1
  · have := nF_set_lt S p h1
    have := nF_set (S.set p true) q
    omega
  · cases s2
    · have := nF_set S p
      have := nF_set_lt (S.set p true) q (by rw [List.getElem?_set_ne hpq]; exact h2)
      omega
    · exact absurd rfl hne
theorem SndB.two {L : List LinkT} {i : Int} {S : List Bool} {p q : Nat} {s1 s2 : Bool} {d : Int} (h : SndB L i S) (h1 : S[p]? = some s1) (h2 : S[q]? = some s2) (hne : s1 ≠ s2) (hy : (((p : Nat) : Int), ((q : Nat) : Int), d) ∈ L) : SndB L i ((S.set p true).set q true) := by
  have hst := ReachL.step (i := i) hy
  simp only at hst
  cases s1
  · cases s2
    · exact absurd rfl hne
    · have r := h q h2
      exact (h.set (hst.2 r)).set r
  · have r := h p h1
    exact (h.set r).set (hst.1 r)
end Go.Proofs.Ytiipjlcmekakaaa
