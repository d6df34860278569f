

/- What can be reached by some of the links: the program's loop, in plain Lean and in memory. -/
import Derived.Test.YtmaaeemhbccpcaaGreatDoorReachP
import Derived.Test.YtmaaeemhbccpcaaGreatDoorGB
namespace Go.Proofs.YtmaaeemhbccpcaaGreatDoor
open Go.RowKit
/-- How many are not yet seen. -/
def nF : List Bool → Nat
  | [] => 0
  | b :: r => (if b then 0 else 1) + nF r
theorem nF_le : ∀ S : List Bool, nF S ≤ S.length
  | [] => Nat.le_refl _
  | b :: r => by have := nF_le r; unfold nF; simp only [List.length_cons]; split <;> omega
theorem nF_set : ∀ (S : List Bool) (k : Nat), nF (S.set k true) ≤ nF S
  | [], _ => Nat.le_refl _
  | b :: r, 0 => by simp only [List.set_cons_zero, nF]; simp
  | b :: r, k + 1 => by have := nF_set r k; simp only [List.set_cons_succ, nF]; omega
theorem nF_set_lt : ∀ (S : List Bool) (k : Nat), S[k]? = some false → nF (S.set k true) < nF S
  | [], _, h => by simp at h
  | b :: r, 0, h => by simp at h; subst h; simp [nF]
  | b :: r, k + 1, h => by have := nF_set_lt r k (by simpa using h); simp only [List.set_cons_succ, nF]; omega
def SndB (L : List LinkT) (i : Int) (S : List Bool) : Prop := ∀ k : Nat, S[k]? = some true → ReachL L i k
theorem SndB.set {L : List LinkT} {i : Int} {S : List Bool} (h : SndB L i S) {k : Nat} (hk : ReachL L i k) : SndB L i (S.set k true) := by
  intro j hj
  by_cases e : k = j
  · subst e; exact hk
  · rw [List.getElem?_set_ne e] at hj; exact h j hj
theorem seen_closed {L : List LinkT} {i : Int} {S : List Bool} (hc : ∀ y ∈ L, S.getD y.1.toNat false = S.getD y.2.1.toNat false) : ClosedL L (fun j => S.getD j.toNat false = true) :=
  fun y hy => by show (S.getD y.1.toNat false = true) ↔ (S.getD y.2.1.toNat false = true); rw [hc y hy]
theorem seen_reach {m : Nat} {L : List LinkT} {i : Int} {V : List Int} {S : List Bool} (hv : IsReach m L i V) (hl : S.length = m) (hi : S.getD i.toNat false = true) (hs : SndB L i S)
    (hc : ∀ y ∈ L, S.getD y.1.toNat false = S.getD y.2.1.toNat false) : fupto (fun k => S.getD k false) m = V := by
  refine hv.eq fun k hk => ⟨fun h => ?_, fun h => ?_⟩
  · refine hs k ?_
    rw [List.getD_eq_getElem?_getD, List.getElem?_eq_getElem (by omega)] at h
    rw [List.getElem?_eq_getElem (by omega)]
    simpa using h
  · have := h.to (seen_closed (i := i) hc) hi
    simpa using this
end Go.Proofs.YtmaaeemhbccpcaaGreatDoor
