/- What FnCertificates says of what the functions return: in plain Lean. -/
import Derived.Test.YtiofckbdjifdpaaCertP
import Derived.Test.YtiofckbdjifdpaaLeastC
import Derived.Test.YtiofckbdjifdpaaCount
import Derived.Test.YtiofckbdjifdpaaMost3
namespace Go.Proofs.Ytiofckbdjifdpaa
open Go.RowKit
theorem apN_take (l sp : List Int) (k : Nat) : apN l (sp.take k) ≤ apN l sp := by
  unfold apN
  exact (List.Sublist.filter _ (List.take_sublist k sp)).length_le
theorem apartB_take {xss : List (List Int)} {sp : List Int} (h : apartB xss sp = true) (k : Nat) : apartB xss (sp.take k) = true := by
  unfold apartB at h ⊢
  rw [List.all_eq_true] at h ⊢
  intro l hl
  have := h l hl
  have := apN_take l sp k
  simp only [decide_eq_true_eq] at *
  omega
theorem risB_inc {lo hi : Int} {xs : List Int} (h : risB lo hi xs = true) : incP none xs = true ∧ ∀ x ∈ xs, lo ≤ x ∧ x ≤ hi := by
  unfold risB at h
  rw [Bool.and_eq_true] at h
  refine ⟨h.2, fun x hx => ?_⟩
  have := List.all_eq_true.1 (by simpa [allB] using h.1 : xs.all (fun x => inB lo hi x) = true) x hx
  exact inB_t this
theorem ris_of {lo hi : Int} {xs : List Int} (h1 : incP none xs = true) (h2 : ∀ x ∈ xs, lo ≤ x ∧ x ≤ hi) : risB lo hi xs = true := by
  unfold risB
  rw [Bool.and_eq_true]
  refine ⟨?_, h1⟩
  unfold allB
  rw [List.all_eq_true]
  intro x hx
  have := h2 x hx
  simp only [inB, Bool.and_eq_true, decide_eq_true_eq]
  omega
/-- The most spots that are apart are at least as many as any spots that are. -/
theorem ma_most {xss : List (List Int)} {n : Int} {sp : List Int} (hs : sitesB xss n = true) (hr : risB 0 (n - 1) sp = true) (ha : apartB xss sp = true) : sp.length ≤ (maV xss n).length := by
  unfold maV
  rw [if_pos hs]
  obtain ⟨m, rfl, hg⟩ := GoodS.of hs
  obtain ⟨h1, h2⟩ := risB_inc hr
  have := mF_most (apartB xss) (m : Int) (m : Int).toNat [] [] sp (fun x hx => by have := h2 x hx; omega) h1 (fun k hk => by rw [List.nil_append]; exact apartB_take ha (k + 1)) (Nat.le_refl _)
  simpa using this
/-- They are spots that are apart. -/
theorem ma_apart {xss : List (List Int)} {n : Int} (hs : sitesB xss n = true) : risB 0 (n - 1) (maV xss n) = true ∧ apartB xss (maV xss n) = true := by
  unfold maV
  rw [if_pos hs]
  obtain ⟨m, rfl, hg⟩ := GoodS.of hs
  refine mF_inv (apartB xss) (m : Int) (fun L => risB 0 ((m : Int) - 1) L = true ∧ apartB xss L = true) (m : Int).toNat [] [] ⟨by simp [risB, allB, incP], by simp [apartB, apN]⟩ fun L _ h1 h2 h3 => ?_
  rw [List.nil_append] at h3 ⊢
  exact ⟨ris_of h2 (fun x hx => by have := h1 x hx; omega), h3⟩
theorem lc_lst (xss : List (List Int)) (n t : Int) (h : lcA xss n t = true) : LstO (fun c => coverB xss n.toNat c t) (bitsA xss.length) (lcR xss n t) := by
  unfold lcR
  rw [if_pos h]
  exact bstF_lst (bitsA xss.length) [] (o := none) (fun U hU => by cases hU)
end Go.Proofs.Ytiofckbdjifdpaa
