
/- Least heights and raises just suffice; horizons grow with heights: plain laws. -/
import Derived.Test.YtnoagmjajhlmjaaLeast
namespace Go.Proofs.Ytnoagmjajhlmjaa
open Go.RowKit
theorem srch_some {p : Nat → Bool} : ∀ {f k r : Nat}, srch p f k = some r → p r = true ∧ k ≤ r ∧ r < k + f ∧ ∀ j, k ≤ j → j < r → p j = false
  | 0, _, _, h => by simp [srch] at h
  | f + 1, k, r, h => by
    unfold srch at h
    cases hp : p k
    · rw [hp] at h
      simp only [Bool.false_eq_true, if_false] at h
      obtain ⟨h1, h2, h3, h4⟩ := srch_some h
      refine ⟨h1, by omega, by omega, fun j hj hr => ?_⟩
      by_cases e : j = k
      · rw [e]; exact hp
      · exact h4 j (by omega) hr
    · rw [hp] at h
      simp only [if_true, Option.some.injEq] at h
      subst h
      exact ⟨hp, Nat.le_refl _, by omega, fun j hj hr => by omega⟩
theorem asked_set {D A B A' B' n : Int} {gs : List GroundT} (h : askedB D A B n gs = true) (h1 : 0 ≤ A') (h2 : A' ≤ 3000) (h3 : 0 ≤ B') (h4 : B' ≤ 3000) : askedB D A' B' n gs = true := by
  have i1 : inB 0 3000 A' = true := inB_iff.2 ⟨h1, h2⟩
  have i2 : inB 0 3000 B' = true := inB_iff.2 ⟨h3, h4⟩
  unfold askedB sightOk at *
  simp only [Bool.and_eq_true] at *
  exact ⟨⟨h.1.1, i1, i2, h.1.2.2.2⟩, h.2⟩
theorem asked_bd {D A B n : Int} {gs : List GroundT} (h : askedB D A B n gs = true) : 0 ≤ A ∧ A ≤ 3000 ∧ 0 ≤ B ∧ B ≤ 3000 := by
  unfold askedB sightOk at h
  simp only [Bool.and_eq_true] at h
  obtain ⟨⟨_, i1, i2, _⟩, _⟩ := h
  obtain ⟨a1, a2⟩ := inB_t i1
  obtain ⟨b1, b2⟩ := inB_t i2
  exact ⟨a1, a2, b1, b2⟩
theorem lh_facts {D A B n : Int} {gs : List GroundT} {h : Nat} (e : lhR D A B n gs = some h) :
    h ≤ 3000 ∧ seesV D A h n gs = true ∧ askedB D A h n gs = true ∧ (0 < h → seesV D A ((h : Int) - 1) n gs = false ∧ askedB D A ((h : Int) - 1) n gs = true) := by
  unfold lhR at e
  cases ha : askedB D A B n gs
  · rw [ha] at e; simp at e
  · rw [ha] at e
    simp only [if_true] at e
    obtain ⟨h1, _, h3, h4⟩ := srch_some e
    obtain ⟨a1, a2, b1, b2⟩ := asked_bd ha
    have hk : askedB D A h n gs = true := asked_set ha a1 a2 (by omega) (by omega)
    refine ⟨by omega, by unfold seesV; rw [hk]; exact h1, hk, fun hp => ?_⟩
    have hk1 : askedB D A ((h : Int) - 1) n gs = true := asked_set ha a1 a2 (by omega) (by omega)
    refine ⟨?_, hk1⟩
    have h5 := h4 (h - 1) (by omega) (by omega)
    unfold lhP at h5
    rw [show (((h - 1 : Nat)) : Int) = (h : Int) - 1 by omega] at h5
    unfold seesV
    rw [hk1, h5]
    rfl
theorem lr_facts {D A B n : Int} {gs : List GroundT} {r : Nat} (e : lrR D A B n gs = some r) :
    r ≤ 3000 ∧ 0 ≤ A ∧ A ≤ 3000 ∧ 0 ≤ B ∧ B ≤ 3000 ∧ askedB D A B n gs = true ∧ seesV D A B n gs = decide ((r : Int) = 0) ∧ (A + r ≤ 3000 → B + r ≤ 3000 → seesV D (A + r) (B + r) n gs = true ∧ askedB D (A + r) (B + r) n gs = true) := by
  unfold lrR at e
  cases ha : askedB D A B n gs
  · rw [ha] at e; simp at e
  · rw [ha] at e
    simp only [if_true] at e
    obtain ⟨h1, _, h3, h4⟩ := srch_some e
    obtain ⟨a1, a2, b1, b2⟩ := asked_bd ha
    refine ⟨by omega, a1, a2, b1, b2, rfl, ?_, fun hA hB => ?_⟩
    · unfold seesV
      rw [ha, Bool.true_and]
      have hz : lrP D A B n gs 0 = seesB D A B n gs := by unfold lrP; simp
      rw [← hz]
      by_cases hr : r = 0
      · subst hr
        rw [h1]; rfl
      · rw [h4 0 (Nat.le_refl _) (by omega)]
        symm
        rw [decide_eq_false_iff_not]
        omega
    · have hk : askedB D (A + r) (B + r) n gs = true := asked_set ha (by omega) hA (by omega) hB
      exact ⟨by unfold seesV; rw [hk]; exact h1, hk⟩
theorem hzF_ge (h n : Int) : ∀ f k, k ≤ hzF h n f k
  | 0, k => Nat.le_refl _
  | f + 1, k => by
    unfold hzF
    split
    · exact Nat.le_trans (by omega) (hzF_ge h n f (k + 1))
    · exact Nat.le_refl _
theorem hzF_mono (h n : Int) : ∀ f k, hzF h n f k ≤ hzF (h + 1) n f k
  | 0, k => Nat.le_refl _
  | f + 1, k => by
    unfold hzF
    by_cases hc : hzC h n k
    · have hc' : hzC (h + 1) n k := by unfold hzC at *; omega
      rw [if_pos hc, if_pos hc']
      exact hzF_mono h n f (k + 1)
    · rw [if_neg hc]
      split
      · exact Nat.le_trans (by omega) (hzF_ge (h + 1) n f (k + 1))
      · exact Nat.le_refl _
theorem hz_facts {h n : Int} (e : hzOk h n = true) (hl : h < 3000) : 0 ≤ h ∧ hzOk (h + 1) n = true ∧ 0 ≤ hzV h n ∧ hzV h n ≤ hzV (h + 1) n := by
  unfold hzOk at e
  simp only [Bool.and_eq_true] at e
  obtain ⟨a1, a2⟩ := inB_t e.1
  have e1 : inB 0 3000 (h + 1) = true := inB_iff.2 ⟨by omega, by omega⟩
  have e2 : hzOk (h + 1) n = true := by unfold hzOk; rw [e1, e.2]; rfl
  have e3 : hzOk h n = true := by unfold hzOk; rw [e.1, e.2]; rfl
  refine ⟨a1, e2, ?_, ?_⟩
  · unfold hzV; rw [e3]; simp
  · unfold hzV
    rw [e2, e3]
    simp only [if_true]
    exact Int.ofNat_le.2 (hzF_mono h n 999 0)
end Go.Proofs.Ytnoagmjajhlmjaa
