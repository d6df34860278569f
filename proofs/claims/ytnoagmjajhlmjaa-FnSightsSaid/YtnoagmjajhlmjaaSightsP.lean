
/- Blocked grounds, clearances, refraction, both ways: plain laws. -/
import Derived.Test.YtnoagmjajhlmjaaClearance
import Derived.Test.YtnoagmjajhlmjaaBlocked
import Derived.Test.YtnoagmjajhlmjaaBounds
import Derived.Test.YtnoagmjajhlmjaaHeightP
import Derived.Test.YtnoagmjajhlmjaaRev
namespace Go.Proofs.Ytnoagmjajhlmjaa
open Go.RowKit
theorem clr_flip (D A B n : Int) (g : GroundT) : clr D B A n (flipG D g) = clr D A B n g := by
  obtain ⟨x, y⟩ := g
  unfold clr flipG
  dsimp only
  grind
theorem low_flip (D A B n : Int) (g : GroundT) : low D B A n (flipG D g) = low D A B n g := by
  unfold low; rw [clr_flip]
theorem sees_flip (D A B n : Int) (gs : List GroundT) : seesB D B A n (rvG D gs) = seesB D A B n gs := by
  unfold seesB rvG
  rw [List.any_reverse, List.any_map]
  congr 1
  apply List.any_congr rfl
  intro g
  exact low_flip D A B n g
theorem flip_flip (D : Int) (g : GroundT) : flipG D (flipG D g) = g := by
  obtain ⟨x, y⟩ := g
  unfold flipG
  dsimp only
  rw [show D - (D - x) = x by omega]
theorem rvG_rvG (D : Int) (gs : List GroundT) : rvG D (rvG D gs) = gs := by
  unfold rvG
  rw [List.map_reverse, List.reverse_reverse, List.map_map]
  conv => rhs; rw [← List.map_id gs]
  apply List.map_congr_left
  intro g _
  exact flip_flip D g
/-- Grounds in order. -/
def GsR (hi : Int) (gs : List GroundT) : Prop := (∀ g ∈ gs, 1 ≤ g.1 ∧ g.1 ≤ hi ∧ 0 ≤ g.2 ∧ g.2 ≤ 3000) ∧ gs.Pairwise (fun a b => a.1 < b.1)
theorem gsOk_iff {hi : Int} : ∀ (gs : List GroundT) (p : Option Int), gsOk hi p gs = true ↔ GsR hi gs ∧ ∀ a, p = some a → ∀ g ∈ gs, a < g.1
  | [], p => by simp [gsOk, GsR]
  | x :: r, p => by
    have ih := gsOk_iff (hi := hi) r (some x.1)
    unfold gsOk
    simp only [Bool.and_eq_true, ih, inB_iff, GsR, List.pairwise_cons, List.mem_cons, forall_eq_or_imp]
    cases p with
    | none =>
      simp only [reduceCtorEq, false_imp_iff, implies_true, and_true, Option.some.injEq, forall_eq']
      constructor
      · rintro ⟨⟨h1, h2⟩, ⟨h3, h4⟩, h5⟩
        exact ⟨⟨⟨h1.1, h1.2, h2.1, h2.2⟩, h3⟩, h5, h4⟩
      · rintro ⟨⟨h1, h3⟩, h5, h4⟩
        exact ⟨⟨⟨h1.1, h1.2.1⟩, h1.2.2⟩, ⟨h3, h4⟩, h5⟩
    | some a =>
      simp only [decide_eq_true_eq, Option.some.injEq, forall_eq']
      constructor
      · rintro ⟨⟨⟨h1, h2⟩, h0⟩, ⟨h3, h4⟩, h5⟩
        exact ⟨⟨⟨⟨h1.1, h1.2, h2.1, h2.2⟩, h3⟩, h5, h4⟩, h0, fun g hg => by have := h5 g hg; omega⟩
      · rintro ⟨⟨⟨h1, h3⟩, h5, h4⟩, h0, h6⟩
        exact ⟨⟨⟨⟨h1.1, h1.2.1⟩, h1.2.2⟩, h0⟩, ⟨h3, h4⟩, h5⟩
theorem gsR_rv {D : Int} {gs : List GroundT} (h : GsR (D - 1) gs) : GsR (D - 1) (rvG D gs) := by
  unfold rvG
  refine ⟨fun g hg => ?_, ?_⟩
  · rw [List.mem_reverse, List.mem_map] at hg
    obtain ⟨x, hx, rfl⟩ := hg
    have := h.1 x hx
    unfold flipG
    dsimp only
    omega
  · rw [List.pairwise_reverse, List.pairwise_map]
    refine h.2.imp ?_
    intro a b hab
    unfold flipG
    dsimp only
    omega
theorem ok_flip {D A B : Int} {gs : List GroundT} (h : sightOk D A B gs = true) : sightOk D B A (rvG D gs) = true := by
  unfold sightOk at *
  simp only [Bool.and_eq_true, decide_eq_true_eq] at *
  obtain ⟨h1, h2, h3, h4, h5⟩ := h
  refine ⟨h1, h3, h2, by rw [rvG_len]; exact h4, (gsOk_iff _ _).2 ⟨gsR_rv ((gsOk_iff _ _).1 h5).1, by simp⟩⟩
theorem asked_flip {D A B n : Int} {gs : List GroundT} (h : sightOk D A B gs = true) (hn : inB 0 3 n = true) :
    askedB D A B n gs = true ∧ askedB D B A n (rvG D gs) = true ∧ seesV D B A n (rvG D gs) = seesV D A B n gs ∧ seesV D A B n gs = seesB D A B n gs := by
  have h1 : askedB D A B n gs = true := by unfold askedB; rw [h, hn]; rfl
  have h2 : askedB D B A n (rvG D gs) = true := by unfold askedB; rw [ok_flip h, hn]; rfl
  unfold seesV
  rw [h1, h2, sees_flip]
  exact ⟨rfl, rfl, rfl, rfl⟩
theorem clr_mono {D A B n n' : Int} {g : GroundT} (hn : n ≤ n') (h1 : 1 ≤ g.1) (h2 : g.1 ≤ D - 1) : clr D A B n g ≤ clr D A B n' g := by
  obtain ⟨x, y⟩ := g
  dsimp only at h1 h2
  have e1 : ∀ k : Int, 5 * (8 - k) * x * (D - x) * D = (8 - k) * (x * (D - x) * D * 5) := by intro k; grind
  have p1 : 0 ≤ x * (D - x) := Int.mul_nonneg (by omega) (by omega)
  have p2 : 0 ≤ x * (D - x) * D := Int.mul_nonneg p1 (by omega)
  have e2 := Int.mul_le_mul_of_nonneg_right (show (8 - n') ≤ (8 - n) by omega) (show 0 ≤ x * (D - x) * D * 5 by omega)
  unfold clr
  dsimp only
  rw [e1 n, e1 n']
  omega
theorem sees_monoN {D A B n n' : Int} {gs : List GroundT} (h : sightOk D A B gs = true) (hn : n ≤ n') (hs : seesB D A B n gs = true) : seesB D A B n' gs = true := by
  unfold sightOk at h
  simp only [Bool.and_eq_true, decide_eq_true_eq] at h
  have hg := ((gsOk_iff _ _).1 h.2.2.2.2).1.1
  unfold seesB at *
  simp only [Bool.not_eq_true', List.any_eq_false] at *
  intro g hm
  have h1 := hg g hm
  have h2 := hs g hm
  have h3 := clr_mono (A := A) (B := B) hn h1.1 h1.2.1
  unfold low at *
  simp only [decide_eq_true_eq] at *
  omega
theorem blk_nil {α : Type} (p : α → Bool) : ∀ (l : List α) (i : Nat), (((blk p i l).length : Int) == 0) = !l.any p
  | [], i => by simp [blk]
  | x :: r, i => by
    unfold blk
    cases hp : p x
    · simp only [Bool.false_eq_true, if_false, List.any_cons, hp, Bool.false_or]
      exact blk_nil p r (i + 1)
    · simp only [if_true, List.any_cons, hp, Bool.true_or, Bool.not_true, List.length_cons, beq_eq_false_iff_ne, ne_eq]
      omega
theorem blocked_sees {D A B n : Int} {gs : List GroundT} (h : askedB D A B n gs = true) : (((bbV D A B n gs).length : Int) == 0) = seesV D A B n gs := by
  unfold bbV seesV seesB
  rw [if_pos h, blk_nil, h]
  rfl
theorem mn_nonneg (D A B n : Int) : ∀ (gs : List GroundT) (m : Int), 0 ≤ mnOf D A B n m gs ↔ 0 ≤ m ∧ ∀ g ∈ gs, 0 ≤ clr D A B n g
  | [], m => by simp [mnOf]
  | x :: r, m => by
    have ih := mn_nonneg D A B n r (min m (clr D A B n x))
    unfold mnOf at *
    rw [List.foldl_cons, ih]
    simp only [List.mem_cons, forall_eq_or_imp]
    constructor
    · rintro ⟨h1, h2⟩; exact ⟨by omega, by omega, h2⟩
    · rintro ⟨h1, h2, h3⟩; exact ⟨by omega, h3⟩
theorem clM_nonneg {D A B n : Int} {gs : List GroundT} (hg : gs.isEmpty = false) : 0 ≤ clM D A B n gs ↔ seesB D A B n gs = true := by
  unfold clM
  rw [mn_nonneg]
  unfold seesB
  simp only [Bool.not_eq_true', List.any_eq_false]
  cases gs with
  | nil => simp at hg
  | cons x r =>
    constructor
    · rintro ⟨_, h⟩ g hm
      have := h g hm
      unfold low
      simp only [decide_eq_true_eq]
      omega
    · intro h
      have key : ∀ g ∈ x :: r, 0 ≤ clr D A B n g := fun g hm => by
        have := h g hm
        unfold low at this
        simp only [decide_eq_true_eq] at this
        omega
      exact ⟨by simpa using key x (by simp), key⟩
theorem cl_facts {D A B n : Int} {gs : List GroundT} (h : clAsk D A B n gs = true) : askedB D A B n gs = true ∧ 1 ≤ clY D A B n gs ∧ (decide (0 ≤ clX D A B n gs)) = seesV D A B n gs := by
  have h0 := h
  unfold clAsk at h0
  simp only [Bool.and_eq_true, Bool.not_eq_true'] at h0
  obtain ⟨ha, he⟩ := h0
  have hD : 1 ≤ D := by
    have h1 := ha
    unfold askedB sightOk at h1
    simp only [Bool.and_eq_true] at h1
    exact (inB_t h1.1.1).1
  have hG : 0 < clG D A B n gs := Nat.gcd_pos_of_pos_right _ (by omega)
  have hGI : (0 : Int) < (clG D A B n gs : Int) := by omega
  have hdM : ((clG D A B n gs : Nat) : Int) ∣ clM D A B n gs := Int.ofNat_dvd_left.2 (Nat.gcd_dvd_left _ _)
  have hdD : ((clG D A B n gs : Nat) : Int) ∣ 50968 * D := Int.ofNat_dvd_left.2 (Nat.gcd_dvd_right _ _)
  refine ⟨ha, ?_, ?_⟩
  · unfold clY
    rw [if_pos h]
    obtain ⟨c, hc⟩ := hdD
    rw [hc, Int.mul_tdiv_cancel_left _ (by omega)]
    have : 0 < (clG D A B n gs : Int) * c := by omega
    have := Int.pos_of_mul_pos_right (a := (clG D A B n gs : Int)) (b := c) this (by omega)
    omega
  · unfold clX seesV
    rw [if_pos h, ha, Bool.true_and, Bool.eq_iff_iff, decide_eq_true_eq, ← clM_nonneg he]
    obtain ⟨c, hc⟩ := hdM
    rw [hc, Int.mul_tdiv_cancel_left _ (by omega)]
    constructor
    · intro h1; exact Int.mul_nonneg (by omega) h1
    · intro h1; exact Int.nonneg_of_mul_nonneg_right h1 hGI
theorem bulge_sym (d a n : Int) : bulge d (d - a) n = bulge d a n := by
  unfold bulge
  rw [show d - (d - a) = a by omega]
  grind
theorem bulge_facts {d a n : Int} (h : bulgeOk d a n = true) : bulgeOk d (d - a) n = true ∧ bulgeV d (d - a) n = bulgeV d a n ∧ 0 ≤ bulgeV d a n := by
  have h0 := h
  unfold bulgeOk at h0
  simp only [Bool.and_eq_true] at h0
  obtain ⟨h1, h2, h3⟩ := h0
  obtain ⟨a1, a2⟩ := inB_t h1
  obtain ⟨b1, b2⟩ := inB_t h2
  obtain ⟨c1, c2⟩ := inB_t h3
  have h4 : bulgeOk d (d - a) n = true := by
    unfold bulgeOk
    rw [h1, h3, inB_iff.2 ⟨by omega, by omega⟩]
    rfl
  have hb := bulge_bd (d := d) (a := a) (n := n) a2 b1 b2 c1 c2
  refine ⟨h4, by unfold bulgeV; rw [h4, h, bulge_sym], ?_⟩
  unfold bulgeV
  rw [if_pos h]
  unfold bulge
  omega
end Go.Proofs.Ytnoagmjajhlmjaa
