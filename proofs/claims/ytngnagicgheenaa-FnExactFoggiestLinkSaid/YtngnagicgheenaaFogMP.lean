/- The foggiest link in plain Lean: sums, the first of the greatest. -/
import Derived.Test.YtngnagicgheenaaFogA
import Derived.Test.YtngnagicgheenaaHas
import Derived.Lib.Slices
namespace Go.Proofs.Ytngnagicgheenaa
open Go.RowKit
def sumsL (F : List FogT) (l : Nat) : List Int := (List.range l).map fun i : Nat => secF (i : Int) 0 10000 F
theorem sumsL_len (F : List FogT) (l : Nat) : (sumsL F l).length = l := by simp [sumsL]
theorem sumsL_get {F : List FogT} {l i : Nat} (h : i < l) : (sumsL F l)[i]? = some (secF (i : Int) 0 10000 F) := by simp [sumsL, h]
theorem sumsL_nil (l : Nat) : sumsL [] l = List.replicate l 0 := by
  apply List.ext_getElem?
  intro i
  by_cases h : i < l
  · rw [sumsL_get h]; simp [secF, h]
  · simp [sumsL, h]
theorem sumsL_step {F : List FogT} {l k p : Nat} {a b : Int} {m : Int} (h : F[k]? = some (((p : Nat) : Int), a, b)) (hg : FgB m (((p : Nat) : Int), a, b)) :
    sumsL (F.take (k + 1)) l = (sumsL (F.take k) l).set p (secF (p : Int) 0 10000 (F.take k) + (b - a)) := by
  apply List.ext_getElem?
  intro i
  by_cases hi : i < l
  · rw [sumsL_get hi, secF_take h, secT_all hg]
    by_cases e : p = i
    · subst e
      rw [List.getElem?_set_self (by rw [sumsL_len]; exact hi), if_pos rfl]
    · rw [List.getElem?_set_ne e, sumsL_get hi, if_neg (by show ¬ ((p : Int) = (i : Int)); omega), Int.add_zero]
  · rw [List.getElem?_eq_none (by rw [sumsL_len]; omega), List.getElem?_eq_none (by rw [List.length_set, sumsL_len]; omega)]
theorem idxP_first (x : Int) : ∀ (xs : List Int) (k : Nat), x ∈ xs → ∃ j : Nat, idxP x k xs = ((k + j : Nat) : Int) ∧ xs[j]? = some x ∧ ∀ i y, i < j → xs[i]? = some y → y ≠ x
  | [], _, h => by simp at h
  | y :: r, k, h => by
    unfold idxP
    by_cases e : x = y
    · subst e
      exact ⟨0, by simp, by simp, fun i y hi => by omega⟩
    · rw [if_neg (by simpa using e)]
      have hm : x ∈ r := by
        rcases List.mem_cons.1 h with h | h
        · exact absurd h e
        · exact h
      obtain ⟨j, h1, h2, h3⟩ := idxP_first x r (k + 1) hm
      refine ⟨j + 1, by rw [h1]; congr 1; omega, by simpa using h2, fun i z hi hz => ?_⟩
      cases i with
      | zero => simp at hz; subst hz; exact fun h => e h.symm
      | succ i => exact h3 i z (by omega) (by simpa using hz)
theorem foldl_max_mem : ∀ (xs : List Int) (z : Int), xs.foldl max z = z ∨ xs.foldl max z ∈ xs
  | [], z => .inl rfl
  | x :: r, z => by
    rw [List.foldl_cons]
    rcases foldl_max_mem r (max z x) with h | h
    · rw [h]
      by_cases hzx : z ≤ x
      · exact .inr (by rw [show max z x = x by omega]; simp)
      · exact .inl (by omega)
    · exact .inr (by simp [h])
theorem foldl_max_le : ∀ (xs : List Int) (z : Int), z ≤ xs.foldl max z ∧ ∀ y ∈ xs, y ≤ xs.foldl max z
  | [], z => ⟨Int.le_refl _, by simp⟩
  | x :: r, z => by
    rw [List.foldl_cons]
    obtain ⟨h1, h2⟩ := foldl_max_le r (max z x)
    refine ⟨by omega, fun y hy => ?_⟩
    rcases List.mem_cons.1 hy with rfl | hy
    · omega
    · exact h2 y hy
theorem max_fst {S : List Int} (h : S ≠ []) : Fst S (idxP (Lib.maxOf S) 0 S, Lib.maxOf S) := by
  have hm : Lib.maxOf S ∈ S := by
    cases S with
    | nil => exact absurd rfl h
    | cons x r =>
      have h1 : Lib.maxOf (x :: r) = (x :: r).foldl max x := rfl
      rcases foldl_max_mem (x :: r) x with h2 | h2
      · rw [h1, h2]; simp
      · rw [h1]; exact h2
  have hle : ∀ y ∈ S, y ≤ Lib.maxOf S := (foldl_max_le S _).2
  obtain ⟨j, h1, h2, h3⟩ := idxP_first (Lib.maxOf S) S 0 hm
  refine ⟨⟨j, by rw [h1, Nat.zero_add], h2, fun i y hi hy => ?_⟩, hle⟩
  have := hle y (List.mem_of_getElem? hy)
  have := h3 i y hi hy
  show y < Lib.maxOf S
  omega
theorem fmx_max {S : List Int} (h : S ≠ []) (hp : ∀ y ∈ S, 0 ≤ y) : fmx 0 (0, -1) S = (idxP (Lib.maxOf S) 0 S, Lib.maxOf S) := (fmx_first h hp).eq (max_fst h)
end Go.Proofs.Ytngnagicgheenaa
