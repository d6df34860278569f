
/- PairChecks of the program and of the reference: their contracts. -/
import Derived.Test.YtphfgfejacbhpaaCheck
namespace Go.Proofs.Ytphfgfejacbhpaa
open Go.RowKit

theorem resid_congr {n m : Int} (h : n % 61 = m % 61) : resid n = resid m := by unfold resid; rw [h]
theorem resid_mod (n : Int) : resid n % 61 = n % 61 := by unfold resid; split <;> omega
def pairA (xs : List Int) : Int := resid (wsum 0 xs % 61 - ((xs.length : Int) + 2) * (lsum xs % 61))
def pairB (xs : List Int) : Int := resid (-(lsum xs % 61) - pairA xs)
theorem pair_y (xs : List Int) : resid (((xs.length : Int) + 1) * (lsum xs % 61) - wsum 0 xs % 61) = pairB xs := by
  unfold pairB
  apply resid_congr
  have h := resid_mod (wsum 0 xs % 61 - ((xs.length : Int) + 2) * (lsum xs % 61))
  unfold pairA
  rw [Int.add_mul _ 2] at h ⊢
  rw [Int.add_mul _ 1]
  omega
theorem pair_x (xs : List Int) : resid (-(lsum xs % 61) - pairB xs) = pairA xs := by
  rw [show pairA xs = resid (pairA xs) from ?_]
  · apply resid_congr
    have h := resid_mod (-(lsum xs % 61) - pairA xs)
    change pairB xs % 61 = _ at h
    omega
  · have b := resid_bd (wsum 0 xs % 61 - ((xs.length : Int) + 2) * (lsum xs % 61))
    change 1 ≤ pairA xs ∧ pairA xs ≤ 61 at b
    unfold resid; split <;> omega
theorem pairA_bd (xs : List Int) : 1 ≤ pairA xs ∧ pairA xs ≤ 61 := resid_bd _
theorem pairB_bd (xs : List Int) : 1 ≤ pairB xs ∧ pairB xs ≤ 61 := resid_bd _

set_option maxRecDepth 100000 in
theorem c_pairChecks (v : Value) (la ha : Nat) (xs : List Int) (w : World) (h : Ints w la ha v xs) (h50 : wordB 50 xs = true) :
    Calls Try.prog 40 #[v] w fun e w' => e = .returned (.tuple #[.int .i64 (pairA xs), .int .i64 (pairB xs)]) ∧ w = w' := by
  have h0 := h
  obtain ⟨a, cap, rfl, m1, m2, _⟩ := h0
  have CS := Lib.hid (c_syndromes _ _ _ xs w h h50)
  unfold wordB at h50
  simp only [Bool.and_eq_true, decide_eq_true_eq] at h50
  obtain ⟨hl, _⟩ := h50
  obtain ⟨p, hp⟩ : ∃ p, p = pairA xs := ⟨_, rfl⟩
  obtain ⟨q, hq⟩ : ∃ q, q = pairB xs := ⟨_, rfl⟩
  have bp := pairA_bd xs
  rw [← hp] at bp
  obtain ⟨bp1, bp2⟩ := bp
  unfold pairB at hq
  rw [← hp] at hq ⊢
  unfold pairA at hp
  rw [show pairB xs = q from by rw [hq, pairB, pairA, hp]]
  obtain ⟨s, hs⟩ : ∃ s, s = lsum xs % 61 := ⟨_, rfl⟩
  obtain ⟨t, ht⟩ : ∃ s, s = wsum 0 xs % 61 := ⟨_, rfl⟩
  have bs : 0 ≤ s ∧ s < 61 := by omega
  have bt : 0 ≤ t ∧ t < 61 := by omega
  obtain ⟨bs1, bs2⟩ := bs
  obtain ⟨bt1, bt2⟩ := bt
  rw [← hs, ← ht] at hp CS
  rw [← hs] at hq
  obtain ⟨bm1, bm2⟩ := mulBd (a := (xs.length : Int) + 2) (b := s) (A := 52) (B := 60) (by omega) (by omega) bs1 (by omega)
  have HP : Hid (∀ W, Calls Try.prog 48 #[.int .i64 (t - ((xs.length : Int) + 2) * s)] W fun e w' => e = .returned (.int .i64 p) ∧ W = w') := fun W => by rw [hp]; exact c_residue _ W (by omega) (by omega)
  have HQ : Hid (∀ W, Calls Try.prog 48 #[.int .i64 (-s - p)] W fun e w' => e = .returned (.int .i64 q) ∧ W = w') := fun W => by rw [hq]; exact c_residue _ W (by omega) (by omega)
  clear h hp hq hs ht
  go_enter Try.func40, Try.ntmps40
  go_wp2_with fail
  refine CS.out.mono ?_
  rintro e w' ⟨rfl, rfl⟩
  go_wp2_with fail
  refine (HP.out _).mono ?_
  rintro e w' ⟨rfl, rfl⟩
  go_wp2_with fail
  refine (HQ.out _).mono ?_
  rintro e w' ⟨rfl, rfl⟩
  go_wp2
  go_ret2
  exact ⟨rfl, rfl⟩
set_option maxRecDepth 100000 in
theorem c_ckPair (v : Value) (la ha : Nat) (xs : List Int) (w : World) (h : Ints w la ha v xs) (h50 : wordB 50 xs = true) :
    Calls Try.prog 43 #[v] w fun e w' => e = .returned (.tuple #[.int .i64 (pairA xs), .int .i64 (pairB xs)]) ∧ w = w' := by
  have h0 := h
  obtain ⟨a, cap, rfl, m1, m2, _⟩ := h0
  have CS := Lib.hid (c_ckSum _ _ _ xs w h h50)
  unfold wordB at h50
  simp only [Bool.and_eq_true, decide_eq_true_eq] at h50
  obtain ⟨hl, _⟩ := h50
  have ey := pair_y xs
  have ex := pair_x xs
  have bq := pairB_bd xs
  obtain ⟨q, hq⟩ : ∃ q, q = pairB xs := ⟨_, rfl⟩
  obtain ⟨p, hp⟩ : ∃ p, p = pairA xs := ⟨_, rfl⟩
  rw [← hq] at ey ex bq ⊢
  rw [← hp] at ex ⊢
  obtain ⟨bq1, bq2⟩ := bq
  obtain ⟨s, hs⟩ : ∃ s, s = lsum xs % 61 := ⟨_, rfl⟩
  obtain ⟨t, ht⟩ : ∃ s, s = wsum 0 xs % 61 := ⟨_, rfl⟩
  have bs : 0 ≤ s ∧ s < 61 := by omega
  have bt : 0 ≤ t ∧ t < 61 := by omega
  obtain ⟨bs1, bs2⟩ := bs
  obtain ⟨bt1, bt2⟩ := bt
  rw [← hs, ← ht] at ey CS
  rw [← hs] at ex
  obtain ⟨bm1, bm2⟩ := mulBd (a := (xs.length : Int) + 1) (b := s) (A := 52) (B := 60) (by omega) (by omega) bs1 (by omega)
  have HP : Hid (∀ W, Calls Try.prog 51 #[.int .i64 (((xs.length : Int) + 1) * s - t)] W fun e w' => e = .returned (.int .i64 q) ∧ W = w') := fun W => by rw [← ey]; exact c_ckSign _ W (by omega) (by omega)
  have HQ : Hid (∀ W, Calls Try.prog 51 #[.int .i64 (-s - q)] W fun e w' => e = .returned (.int .i64 p) ∧ W = w') := fun W => by rw [← ex]; exact c_ckSign _ W (by omega) (by omega)
  clear h hp hq hs ht ex ey
  go_enter Try.func43, Try.ntmps43
  go_wp2_with fail
  refine CS.out.mono ?_
  rintro e w' ⟨rfl, rfl⟩
  go_wp2_with fail
  refine (HP.out _).mono ?_
  rintro e w' ⟨rfl, rfl⟩
  go_wp2_with fail
  refine (HQ.out _).mono ?_
  rintro e w' ⟨rfl, rfl⟩
  go_wp2
  go_ret2
  exact ⟨rfl, rfl⟩

def pA (xs : List Int) : Int := if wordB 48 xs then pairA xs else 0
def pB (xs : List Int) : Int := if wordB 48 xs then pairB xs else 0
set_option maxRecDepth 100000 in
theorem c_iPairChecks (v : Value) (la ha : Nat) (xs : List Int) (w : World) (h : Ints w la ha v xs) :
    Calls Try.prog 9 #[v] w fun e w' => e = .returned (.tuple #[.int .i64 (pA xs), .int .i64 (pB xs), .bool (wordB 48 xs)]) ∧ w = w' := by
  obtain ⟨x, hx⟩ : ∃ x, x = pA xs := ⟨_, rfl⟩
  obtain ⟨y, hy⟩ : ∃ x, x = pB xs := ⟨_, rfl⟩
  rw [← hx, ← hy]
  unfold pA at hx
  unfold pB at hy
  have h0 := h
  obtain ⟨a, cap, rfl, m1, m2, _⟩ := h0
  have H := Lib.hid h
  clear h
  have hs := wordB_split (most := 48) (xs := xs) (by omega)
  cases h48 : wordB 48 xs
  · rw [h48] at hx hy hs
    simp at hx hy; subst hx hy
    cases h50 : wordB 50 xs
    · clear hs
      go_enter Try.func9, Try.ntmps9
      go_wp2_with (first | (go_at_call 39; refine (c_isWord _ _ _ xs 0 _ H.out).mono ?_; rintro e w' ⟨rfl, rfl⟩) | (go_at_call 40; refine (c_pairChecks _ _ _ xs _ H.out h50).mono ?_; rw [← HX.out, ← HY.out]; rintro e w' ⟨rfl, rfl⟩))
      go_ret3
      exact ⟨rfl, rfl⟩
    · rw [h50] at hs
      have hl : 48 < (xs.length : Int) := by simpa using hs
      clear hs
      go_enter Try.func9, Try.ntmps9
      go_wp2_with (first | (go_at_call 39; refine (c_isWord _ _ _ xs 0 _ H.out).mono ?_; rintro e w' ⟨rfl, rfl⟩) | (go_at_call 40; refine (c_pairChecks _ _ _ xs _ H.out h50).mono ?_; rw [← HX.out, ← HY.out]; rintro e w' ⟨rfl, rfl⟩))
      go_ret3
      exact ⟨rfl, rfl⟩
  · rw [h48] at hx hy hs
    simp at hx hy
    have h50 : wordB 50 xs = true := wordB_mono h48 (by omega)
    rw [h50] at hs
    have hl : (xs.length : Int) ≤ 48 := by simpa using hs.symm
    have HX := Lib.hid hx
    have HY := Lib.hid hy
    clear hs hx hy
    go_enter Try.func9, Try.ntmps9
    go_wp2_with (first | (go_at_call 39; refine (c_isWord _ _ _ xs 0 _ H.out).mono ?_; rintro e w' ⟨rfl, rfl⟩) | (go_at_call 40; refine (c_pairChecks _ _ _ xs _ H.out h50).mono ?_; rw [← HX.out, ← HY.out]; rintro e w' ⟨rfl, rfl⟩))
    go_ret3
    exact ⟨by rw [HX.out, HY.out]; rfl, rfl⟩
set_option maxRecDepth 100000 in
theorem c_sPairChecks (v : Value) (la ha : Nat) (xs : List Int) (w : World) (h : Ints w la ha v xs) :
    Calls Try.prog 10 #[v] w fun e w' => e = .returned (.tuple #[.int .i64 (pA xs), .int .i64 (pB xs), .bool (wordB 48 xs)]) ∧ w = w' := by
  obtain ⟨x, hx⟩ : ∃ x, x = pA xs := ⟨_, rfl⟩
  obtain ⟨y, hy⟩ : ∃ x, x = pB xs := ⟨_, rfl⟩
  rw [← hx, ← hy]
  unfold pA at hx
  unfold pB at hy
  have h0 := h
  obtain ⟨a, cap, rfl, m1, m2, _⟩ := h0
  have H := Lib.hid h
  clear h
  have hs := wordB_split (most := 48) (xs := xs) (by omega)
  cases h48 : wordB 48 xs
  · rw [h48] at hx hy hs
    simp at hx hy; subst hx hy
    cases h50 : wordB 50 xs
    · clear hs
      go_enter Try.func10, Try.ntmps10
      go_wp2_with (first | (go_at_call 42; refine (c_ckWord _ _ _ xs _ _ H.out).mono ?_; rintro e w' ⟨rfl, rfl⟩) | (go_at_call 43; refine (c_ckPair _ _ _ xs _ H.out h50).mono ?_; rw [← HX.out, ← HY.out]; rintro e w' ⟨rfl, rfl⟩))
      go_ret3
      exact ⟨rfl, rfl⟩
    · rw [h50] at hs
      have hl : 48 < (xs.length : Int) := by simpa using hs
      clear hs
      go_enter Try.func10, Try.ntmps10
      go_wp2_with (first | (go_at_call 42; refine (c_ckWord _ _ _ xs _ _ H.out).mono ?_; rintro e w' ⟨rfl, rfl⟩) | (go_at_call 43; refine (c_ckPair _ _ _ xs _ H.out h50).mono ?_; rw [← HX.out, ← HY.out]; rintro e w' ⟨rfl, rfl⟩))
      go_ret3
      exact ⟨rfl, rfl⟩
  · rw [h48] at hx hy hs
    simp at hx hy
    have h50 : wordB 50 xs = true := wordB_mono h48 (by omega)
    rw [h50] at hs
    have hl : (xs.length : Int) ≤ 48 := by simpa using hs.symm
    have HX := Lib.hid hx
    have HY := Lib.hid hy
    clear hs hx hy
    go_enter Try.func10, Try.ntmps10
    go_wp2_with (first | (go_at_call 42; refine (c_ckWord _ _ _ xs _ _ H.out).mono ?_; rintro e w' ⟨rfl, rfl⟩) | (go_at_call 43; refine (c_ckPair _ _ _ xs _ H.out h50).mono ?_; rw [← HX.out, ← HY.out]; rintro e w' ⟨rfl, rfl⟩))
    go_ret3
    exact ⟨by rw [HX.out, HY.out]; rfl, rfl⟩
end Go.Proofs.Ytphfgfejacbhpaa
