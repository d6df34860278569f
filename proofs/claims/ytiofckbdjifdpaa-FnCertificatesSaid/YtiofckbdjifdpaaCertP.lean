/- Spots that are apart prove that no cover has fewer sites: in plain Lean. -/
import Derived.Test.YtiofckbdjifdpaaApart
import Derived.Test.YtiofckbdjifdpaaMostP
namespace Go.Proofs.Ytiofckbdjifdpaa
open Go.RowKit
theorem cntL_cons (xss : List (List Int)) (i : Int) (ch : List Int) (s : Int) : cntL xss (i :: ch) s = (if (xss.getD i.toNat []).contains s then 1 else 0) + cntL xss ch s := by
  unfold cntL
  rw [List.filter_cons]
  split <;> simp [Nat.add_comm]
theorem apN_cons (l : List Int) (s : Int) (sp : List Int) : apN l (s :: sp) = (if l.contains s then 1 else 0) + apN l sp := by
  unfold apN
  rw [List.filter_cons]
  split <;> simp [Nat.add_comm]
/-- Counted by spots or by sites: the same. -/
theorem count_twice (xss : List (List Int)) (sp : List Int) : ∀ ch : List Int, (sp.map fun s => cntL xss ch s).sum = (ch.map fun i => apN (xss.getD i.toNat []) sp).sum
  | [] => by
    induction sp with
    | nil => rfl
    | cons s r ih =>
      rw [List.map_cons, List.sum_cons, ih]
      simp [cntL]
  | i :: ch => by
    rw [List.map_cons, List.sum_cons, ← count_twice xss sp ch]
    clear count_twice
    induction sp with
    | nil => rfl
    | cons s r ih =>
      rw [List.map_cons, List.sum_cons, List.map_cons, List.sum_cons, apN_cons, cntL_cons]
      omega
theorem sum_ge : ∀ (f : Int → Nat) (l : List Int), (∀ x ∈ l, 1 ≤ f x) → l.length ≤ (l.map f).sum
  | _, [], _ => by simp
  | f, x :: r, h => by
    have h1 := sum_ge f r fun y hy => h y (List.mem_cons_of_mem _ hy)
    have h2 := h x List.mem_cons_self
    simp only [List.map_cons, List.sum_cons, List.length_cons]; omega
theorem sum_le : ∀ (f : Int → Nat) (l : List Int), (∀ x ∈ l, f x ≤ 1) → (l.map f).sum ≤ l.length
  | _, [], _ => by simp
  | f, x :: r, h => by
    have h1 := sum_le f r fun y hy => h y (List.mem_cons_of_mem _ hy)
    have h2 := h x List.mem_cons_self
    simp only [List.map_cons, List.sum_cons, List.length_cons]; omega
/-- Spots that are apart: no cover has fewer sites. -/
theorem apart_cover {xss : List (List Int)} {n : Nat} (hs : GoodS xss n) {sp ch : List Int} (ha : apartB xss sp = true) (hc : coverB xss n ch 1 = true) (hr : ∀ s ∈ sp, 0 ≤ s ∧ s < (n : Int)) : sp.length ≤ ch.length := by
  have h1 : sp.length ≤ (sp.map fun s => cntL xss ch s).sum := sum_ge _ _ fun s hm => by
    obtain ⟨h0, h2⟩ := hr s hm
    have hk : s.toNat < n := by omega
    have hg := timesL_get hs.pn ch hk
    unfold coverB at hc
    have h3 := List.all_eq_true.1 hc _ (List.mem_of_getElem? hg)
    simp only [decide_eq_true_eq] at h3
    have h4 : ((s.toNat : Nat) : Int) = s := by omega
    rw [h4] at h3
    omega
  have h2 : (ch.map fun i => apN (xss.getD i.toNat []) sp).sum ≤ ch.length := sum_le _ _ fun i _ => by
    by_cases hi : i.toNat < xss.length
    · have hm : xss.getD i.toNat [] ∈ xss := by
        rw [List.getD_eq_getElem?_getD, List.getElem?_eq_getElem hi]; exact List.getElem_mem hi
      unfold apartB at ha
      have := List.all_eq_true.1 ha _ hm
      simpa using this
    · rw [List.getD_eq_getElem?_getD, List.getElem?_eq_none (by omega)]
      rw [Option.getD_none]; unfold apN; rw [List.filter_eq_nil_iff.2 (by simp)]; simp
  rw [count_twice] at h1
  omega
/-! ### The search for the most spots that are apart finds a longest list -/
/-- All lists that the search looks at: the numbers that are left, in rising order, each kept with what is before it as long as Q holds. -/
theorem mF_ge (Q : List Int → Bool) (n : Int) : ∀ (d : Nat) (hv best : List Int), best.length ≤ (mF Q n d hv best).length
  | 0, _, best => Nat.le_refl _
  | d + 1, hv, best => by
    unfold mF
    split
    · refine Nat.le_trans ?_ (mF_ge Q n d hv _)
      unfold better; split <;> omega
    · exact mF_ge Q n d hv best
/-- A rising list of numbers that are left, all of whose beginnings behind hv are good, is no longer than what is found. -/
theorem mF_most (Q : List Int → Bool) (n : Int) : ∀ (d : Nat) (hv best L : List Int), (∀ x ∈ L, n - (d : Int) ≤ x ∧ x < n) → incP none L = true → (∀ k, k < L.length → Q (hv ++ L.take (k + 1)) = true) → hv.length ≤ best.length →
    (hv ++ L).length ≤ (mF Q n d hv best).length
  | 0, hv, best, L, h1, h2, h3, h4 => by
    cases L with
    | nil => simpa [mF] using h4
    | cons x r => have := h1 x List.mem_cons_self; omega
  | d + 1, hv, best, L, h1, h2, h3, h4 => by
    cases L with
    | nil => rw [List.append_nil]; exact Nat.le_trans h4 (mF_ge Q n _ hv best)
    | cons x r =>
      by_cases hx : x = n - ((d : Int) + 1)
      · have hq : Q (hv ++ [n - ((d : Int) + 1)]) = true := by
          have := h3 0 (by simp)
          rw [← hx]; simpa using this
        unfold mF
        rw [hq, if_pos rfl]
        have hr : ∀ y ∈ r, x < y := by
          have h5 : incP (some x) r = true := by
            simp only [incP, Bool.and_eq_true] at h2
            exact h2.2
          exact incP_gt h5
        have hrec := mF_most Q n d (hv ++ [n - ((d : Int) + 1)]) (hv ++ [n - ((d : Int) + 1)]) r (fun y hy => by
            have := hr y hy; have := (h1 y (List.mem_cons_of_mem _ hy)).2; omega)
          (by
            simp only [incP, Bool.and_eq_true] at h2
            exact incP_some_none h2.2)
          (fun k hk => by
            have := h3 (k + 1) (by simp; omega)
            rw [← hx, List.append_assoc]
            simpa using this) (Nat.le_refl _)
        refine Nat.le_trans ?_ (mF_ge Q n d hv _)
        rw [List.append_assoc] at hrec
        simp only [List.length_append, List.length_cons, List.length_nil] at hrec ⊢
        unfold better
        split <;> omega
      · have hall : ∀ y ∈ x :: r, n - (d : Int) ≤ y ∧ y < n := by
          intro y hy
          have hxx := h1 x List.mem_cons_self
          rcases List.mem_cons.1 hy with rfl | hy'
          · omega
          · have h5 : incP (some x) r = true := by
              simp only [incP, Bool.and_eq_true] at h2
              exact h2.2
            have := incP_gt h5 y hy'
            have := (h1 y hy).2
            omega
        unfold mF
        refine mF_most Q n d hv _ (x :: r) hall h2 h3 ?_
        split
        · unfold better; split <;> omega
        · exact h4
/-- What holds of the best so far and of all good rising lists behind hv holds of what is found. -/
theorem mF_inv (Q : List Int → Bool) (n : Int) (I : List Int → Prop) : ∀ (d : Nat) (hv best : List Int), I best →
    (∀ L, L ≠ [] → (∀ x ∈ L, n - (d : Int) ≤ x ∧ x < n) → incP none L = true → Q (hv ++ L) = true → I (hv ++ L)) → I (mF Q n d hv best)
  | 0, _, _, h, _ => h
  | d + 1, hv, best, h, hL => by
    have hL2 : ∀ L, L ≠ [] → (∀ x ∈ L, n - (d : Int) ≤ x ∧ x < n) → incP none L = true → Q (hv ++ L) = true → I (hv ++ L) :=
      fun L h0 h1 h2 h3 => hL L h0 (fun x hx => by have := h1 x hx; omega) h2 h3
    unfold mF
    refine mF_inv Q n I d hv _ ?_ hL2
    split
    · rename_i hq
      have hx : I (hv ++ [n - ((d : Int) + 1)]) := hL [n - ((d : Int) + 1)] (by simp) (fun x hx => by simp at hx; omega) rfl hq
      have hr := mF_inv Q n I d (hv ++ [n - ((d : Int) + 1)]) (hv ++ [n - ((d : Int) + 1)]) hx (fun L h0 h1 h2 h3 => by
        rw [List.append_assoc] at h3 ⊢
        refine hL _ (by simp) (fun x hx => ?_) ?_ h3
        · rcases List.mem_append.1 hx with hx | hx
          · simp at hx; omega
          · have := h1 x hx; omega
        · cases L with
          | nil => exact absurd rfl h0
          | cons y r =>
            have hy := h1 y List.mem_cons_self
            simp only [List.cons_append, List.nil_append, incP, Bool.and_eq_true, decide_eq_true_eq] at h2 ⊢
            first | exact ⟨by omega, h2.2⟩ | exact ⟨trivial, by omega, h2.2⟩ | (simp_all; omega))
      unfold better
      split
      · exact hr
      · exact h
    · exact h
end Go.Proofs.Ytiofckbdjifdpaa
