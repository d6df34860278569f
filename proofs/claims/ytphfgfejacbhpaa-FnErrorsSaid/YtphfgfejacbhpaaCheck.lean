
/- SumCheck, FillErased, PairChecks of the program and of the reference: their contracts. -/
import Derived.Test.YtphfgfejacbhpaaWord
namespace Go.Proofs.Ytphfgfejacbhpaa
open Go.RowKit

/-- The sum of the elements, each times its place (from i + 1 on). -/
def wsum : Nat → List Int → Int
  | _, [] => 0
  | i, x :: r => ((i : Int) + 1) * x + wsum (i + 1) r
def lsum : List Int → Int
  | [] => 0
  | x :: r => x + lsum r
theorem lsum_snoc (l : List Int) (x : Int) : lsum (l ++ [x]) = lsum l + x := by
  induction l with
  | nil => simp [lsum]
  | cons y r ih => simp only [List.cons_append, lsum, ih]; omega
theorem wsum_snoc (l : List Int) (x : Int) : ∀ i, wsum i (l ++ [x]) = wsum i l + ((i : Int) + l.length + 1) * x := by
  induction l with
  | nil => intro i; simp [wsum]
  | cons y r ih =>
    intro i
    simp only [List.cons_append, wsum, ih (i + 1), List.length_cons]
    rw [show (((i + 1 : Nat) : Int) + (r.length : Int) + 1) = ((i : Int) + ((r.length + 1 : Nat) : Int) + 1) by omega]
    omega
def wordB (most : Int) (xs : List Int) : Bool := decide ((xs.length : Int) ≤ most) && allB 1 61 xs
theorem lsum_bd {xs : List Int} (h : ∀ x ∈ xs, 1 ≤ x ∧ x ≤ 61) : 0 ≤ lsum xs ∧ lsum xs ≤ 61 * xs.length := by
  induction xs with
  | nil => simp [lsum]
  | cons y r ih =>
    have := ih (fun x hx => h x (by simp [hx]))
    have := h y (by simp)
    simp only [lsum, List.length_cons]; omega
theorem wsum_bd {xs : List Int} (h : ∀ x ∈ xs, 1 ≤ x ∧ x ≤ 61) : ∀ i, i + xs.length ≤ 50 → 0 ≤ wsum i xs ∧ wsum i xs ≤ 3050 * xs.length := by
  induction xs with
  | nil => intro i _; simp [wsum]
  | cons y r ih =>
    intro i hi
    simp only [List.length_cons] at hi
    have h1 := ih (fun x hx => h x (by simp [hx])) (i + 1) (by omega)
    have h2 := h y (by simp)
    have h3 := mulBd (a := (i : Int) + 1) (b := y) (A := 50) (B := 61) (by omega) (by omega) (by omega) (by omega)
    simp only [wsum, List.length_cons]; omega

/-- The signal that stands for a number modulo 61. -/
def resid (n : Int) : Int := if n % 61 = 0 then 61 else n % 61
theorem tmod61 (n : Int) : n.tmod 61 = if 0 ≤ n ∨ n % 61 = 0 then n % 61 else n % 61 - 61 := by
  rw [Int.tmod_eq_emod]
  have : (61 : Int) ∣ n ↔ n % 61 = 0 := Int.dvd_iff_emod_eq_zero
  simp only [this]
  split <;> simp
theorem resid_impl (n : Int) : (if n.tmod 61 ≤ 0 then n.tmod 61 + 61 else n.tmod 61) = resid n := by
  rw [tmod61]; unfold resid; split <;> split <;> split <;> omega
theorem resid_bd (n : Int) : 1 ≤ resid n ∧ resid n ≤ 61 := by unfold resid; split <;> omega

theorem tmod61_neg {n : Int} (h : n < 0) : n.tmod 61 ≤ 0 ∧ -61 ≤ n.tmod 61 ∧ resid n = n.tmod 61 + 61 := by
  rw [← resid_impl, tmod61]; split <;> split <;> omega
set_option maxRecDepth 100000 in
theorem c_residue (n : Int) (w : World) (h1 : -1000000000 ≤ n) (h2 : n ≤ 1000000000) :
    Calls Try.prog 48 #[.int .i64 n] w fun e w' => e = .returned (.int .i64 (resid n)) ∧ w = w' := by
  obtain ⟨r, hr⟩ : ∃ r, r = resid n := ⟨_, rfl⟩
  rw [← hr]
  by_cases h0 : 0 ≤ n
  · unfold resid at hr
    by_cases h3 : n % 61 ≤ 0
    · have e : Hid (r = n % 61 + 61) := by unfold Hid; rw [hr, if_pos (by omega)]; omega
      clear hr
      go_enter Try.func48, Try.ntmps48
      go_wp2
      go_ret
      exact ⟨by rw [e.out]; rfl, rfl⟩
    · have e : Hid (r = n % 61) := by unfold Hid; rw [hr, if_neg (by omega)]
      clear hr
      go_enter Try.func48, Try.ntmps48
      go_wp2
      go_ret
      exact ⟨by rw [e.out]; rfl, rfl⟩
  · obtain ⟨b1, b2, b3⟩ := tmod61_neg (n := n) (by omega)
    have e := Lib.hid (hr.trans b3)
    clear hr b3
    go_enter Try.func48, Try.ntmps48
    go_wp2
    go_ret
    exact ⟨by rw [e.out]; rfl, rfl⟩
set_option maxRecDepth 100000 in
theorem c_ckSign (n : Int) (w : World) (h1 : -1000000000 ≤ n) (h2 : n ≤ 1000000000) :
    Calls Try.prog 51 #[.int .i64 n] w fun e w' => e = .returned (.int .i64 (resid n)) ∧ w = w' := by
  obtain ⟨r, hr⟩ : ∃ r, r = resid n := ⟨_, rfl⟩
  rw [← hr]
  by_cases h0 : 0 ≤ n
  · unfold resid at hr
    by_cases h3 : n % 61 = 0
    · have e : Hid (r = 61) := by unfold Hid; rw [hr, if_pos h3]
      have t1 : (n % 61 + 61) % 61 = 0 := by omega
      have t2 : ((n % 61 + 61) % 61 == 0) = true := by simp [t1]
      clear hr t1 h3
      go_enter Try.func51, Try.ntmps51
      go_wp2
      go_ret
      exact ⟨by rw [e.out]; rfl, rfl⟩
    · have e : Hid (r = (n % 61 + 61) % 61) := by unfold Hid; rw [hr, if_neg h3]; omega
      have t2 : ((n % 61 + 61) % 61 == 0) = false := by rw [beq_eq_false_iff_ne]; omega
      clear hr h3
      go_enter Try.func51, Try.ntmps51
      go_wp2
      go_ret
      exact ⟨by rw [e.out]; rfl, rfl⟩
  · obtain ⟨b1, b2, b3⟩ := tmod61_neg (n := n) (by omega)
    obtain ⟨t, ht⟩ : ∃ t, t = n.tmod 61 := ⟨_, rfl⟩
    have rb := resid_bd n
    rw [← hr] at rb b3
    by_cases h3 : n.tmod 61 % 61 = 0
    · have e : Hid (r = 61) := by unfold Hid; omega
      have t2 : (n.tmod 61 % 61 == 0) = true := by simp [h3]
      clear hr h3 b3 rb ht
      go_enter Try.func51, Try.ntmps51
      go_wp2
      go_ret
      exact ⟨by rw [e.out]; rfl, rfl⟩
    · have e : Hid (r = n.tmod 61 % 61) := by unfold Hid; omega
      have t2 : (n.tmod 61 % 61 == 0) = false := by rw [beq_eq_false_iff_ne]; exact h3
      clear hr h3 b3 rb ht
      go_enter Try.func51, Try.ntmps51
      go_wp2
      go_ret
      exact ⟨by rw [e.out]; rfl, rfl⟩

set_option maxRecDepth 100000 in
theorem c_syndromes (v : Value) (la ha : Nat) (xs : List Int) (w : World) (h : Ints w la ha v xs) (hb : wordB 50 xs = true) :
    Calls Try.prog 45 #[v] w fun e w' => e = .returned (.tuple #[.int .i64 (lsum xs % 61), .int .i64 (wsum 0 xs % 61)]) ∧ w = w' := by
  have h0 := h
  obtain ⟨a, cap, rfl, m1, m2, _⟩ := h0
  have H := Lib.hid h
  unfold wordB at hb
  simp only [Bool.and_eq_true, decide_eq_true_eq] at hb
  obtain ⟨hb1, hb2⟩ := hb
  have HB := Lib.hid hb2
  obtain ⟨n, hn⟩ : ∃ n, n = xs.length := ⟨_, rfl⟩
  rw [← hn] at m1 H hb1
  have HN := Lib.hid hn
  have hlen : xs.length = n := hn.symm
  have hall : Hid (∀ k, 0 ≤ lsum (xs.take k) ∧ lsum (xs.take k) ≤ 3050 ∧ 0 ≤ wsum 0 (xs.take k) ∧ wsum 0 (xs.take k) ≤ 152500) := fun k => by
    have hm : ∀ x ∈ xs.take k, 1 ≤ x ∧ x ≤ 61 := fun x hx => allB_mem hb2 (List.mem_of_mem_take hx)
    have hl : (xs.take k).length ≤ 50 := by have := List.length_take_le k xs; have := List.length_take_le' k xs; omega
    have e1 := lsum_bd hm
    have e2 := wsum_bd hm 0 (by omega)
    omega
  obtain ⟨rs, hrs⟩ : ∃ r, r = lsum xs % 61 := ⟨_, rfl⟩
  obtain ⟨rw_, hrw⟩ : ∃ r, r = wsum 0 xs % 61 := ⟨_, rfl⟩
  rw [← hrs, ← hrw, hlen]
  have RS := Lib.hid hrs
  have RW := Lib.hid hrw
  clear h hn hb2 hrs hrw hlen
  go_enter Try.func45, Try.ntmps45
  go_wp2
  go_loop [4, 5, 10] (fun s u t => ∃ k : Nat, ∃ S U : Int, k ≤ n ∧ t = .int .i64 k ∧ s = .int .i64 S ∧ u = .int .i64 U ∧ 0 ≤ S ∧ S ≤ 3050 ∧ 0 ≤ U ∧ U ≤ 152500 ∧ Hid (S = lsum (xs.take k) ∧ U = wsum 0 (xs.take k))) (fun _ _ t => n - (intOf t).toNat)
  case atStart => exact ⟨0, 0, 0, by omega, rfl, rfl, rfl, by omega, by omega, by omega, by omega, rfl, rfl⟩
  case round =>
    obtain ⟨k, S, U, hk, rfl, rfl, rfl, bS1, bS2, bU1, bU2, hT⟩ := hrel
    by_cases hlt : k < n
    · obtain ⟨b, o, g, rfl, hg, c0⟩ := Ints_at H.out hlt
      have hltI : (k : Int) < (n : Int) := by omega
      obtain ⟨hg1, hg2⟩ := allB_get HB.out hg.out
      obtain ⟨hp1, hp2⟩ := mulBd (a := (k : Int) + 1) (b := g) (A := 50) (B := 61) (by omega) (by omega) (by omega) (by omega)
      have hT2 : Hid (S + g = lsum (xs.take (k + 1)) ∧ U + ((k : Int) + 1) * g = wsum 0 (xs.take (k + 1))) := by
        obtain ⟨e1, e2⟩ := hT.out
        have hl : (xs.take k).length = k := List.length_take_of_le (by rw [← HN.out]; exact hk)
        unfold Hid
        rw [take_snoc' hg.out, lsum_snoc, wsum_snoc, hl, e1, e2]
        exact ⟨rfl, by simp⟩
      have hN := hall.out (k + 1)
      rw [← hT2.out.1, ← hT2.out.2] at hN
      obtain ⟨n1, n2, n3, n4⟩ := hN
      clear hT
      go_wp2
      go_round
      case rel => exact ⟨k + 1, _, _, by omega, by go_num, rfl, rfl, n1, n2, n3, n4, hT2⟩
      case measure => simp [intOf]; omega
    · have hT2 : Hid (rs = S % 61 ∧ rw_ = U % 61) := by
        obtain ⟨e1, e2⟩ := hT.out
        rw [List.take_of_length_le (by rw [← HN.out]; omega)] at e1 e2
        unfold Hid
        rw [RS.out, RW.out, e1, e2]
        exact ⟨rfl, rfl⟩
      clear hT
      go_wp2
      go_ret2
      exact ⟨by rw [hT2.out.1, hT2.out.2]; rfl, rfl⟩
set_option maxRecDepth 100000 in
theorem c_ckSum (v : Value) (la ha : Nat) (xs : List Int) (w : World) (h : Ints w la ha v xs) (hb : wordB 50 xs = true) :
    Calls Try.prog 50 #[v] w fun e w' => e = .returned (.tuple #[.int .i64 (lsum xs % 61), .int .i64 (wsum 0 xs % 61)]) ∧ w = w' := by
  have h0 := h
  obtain ⟨a, cap, rfl, m1, m2, _⟩ := h0
  have H := Lib.hid h
  unfold wordB at hb
  simp only [Bool.and_eq_true, decide_eq_true_eq] at hb
  obtain ⟨hb1, hb2⟩ := hb
  have HB := Lib.hid hb2
  obtain ⟨n, hn⟩ : ∃ n, n = xs.length := ⟨_, rfl⟩
  rw [← hn] at m1 H hb1
  have HN := Lib.hid hn
  have hlen : xs.length = n := hn.symm
  have hall : Hid (∀ k, 0 ≤ lsum (xs.take k) ∧ lsum (xs.take k) ≤ 3050 ∧ 0 ≤ wsum 0 (xs.take k) ∧ wsum 0 (xs.take k) ≤ 152500) := fun k => by
    have hm : ∀ x ∈ xs.take k, 1 ≤ x ∧ x ≤ 61 := fun x hx => allB_mem hb2 (List.mem_of_mem_take hx)
    have hl : (xs.take k).length ≤ 50 := by have := List.length_take_le k xs; have := List.length_take_le' k xs; omega
    have e1 := lsum_bd hm
    have e2 := wsum_bd hm 0 (by omega)
    omega
  obtain ⟨rs, hrs⟩ : ∃ r, r = lsum xs % 61 := ⟨_, rfl⟩
  obtain ⟨rw_, hrw⟩ : ∃ r, r = wsum 0 xs % 61 := ⟨_, rfl⟩
  rw [← hrs, ← hrw, hlen]
  have RS := Lib.hid hrs
  have RW := Lib.hid hrw
  clear h hn hb2 hrs hrw hlen
  go_enter Try.func50, Try.ntmps50
  go_wp2
  go_loop [4, 5, 10] (fun s u t => ∃ k : Nat, ∃ S U : Int, k ≤ n ∧ t = .int .i64 k ∧ s = .int .i64 S ∧ u = .int .i64 U ∧ 0 ≤ S ∧ S ≤ 3050 ∧ 0 ≤ U ∧ U ≤ 152500 ∧ Hid (S = lsum (xs.take k) ∧ U = wsum 0 (xs.take k))) (fun _ _ t => n - (intOf t).toNat)
  case atStart => exact ⟨0, 0, 0, by omega, rfl, rfl, rfl, by omega, by omega, by omega, by omega, rfl, rfl⟩
  case round =>
    obtain ⟨k, S, U, hk, rfl, rfl, rfl, bS1, bS2, bU1, bU2, hT⟩ := hrel
    by_cases hlt : k < n
    · obtain ⟨b, o, g, rfl, hg, c0⟩ := Ints_at H.out hlt
      have hltI : (k : Int) < (n : Int) := by omega
      obtain ⟨hg1, hg2⟩ := allB_get HB.out hg.out
      obtain ⟨hp1, hp2⟩ := mulBd (a := (k : Int) + 1) (b := g) (A := 50) (B := 61) (by omega) (by omega) (by omega) (by omega)
      have hT2 : Hid (S + g = lsum (xs.take (k + 1)) ∧ U + ((k : Int) + 1) * g = wsum 0 (xs.take (k + 1))) := by
        obtain ⟨e1, e2⟩ := hT.out
        have hl : (xs.take k).length = k := List.length_take_of_le (by rw [← HN.out]; exact hk)
        unfold Hid
        rw [take_snoc' hg.out, lsum_snoc, wsum_snoc, hl, e1, e2]
        exact ⟨rfl, by simp⟩
      have hN := hall.out (k + 1)
      rw [← hT2.out.1, ← hT2.out.2] at hN
      obtain ⟨n1, n2, n3, n4⟩ := hN
      clear hT
      go_wp2
      go_round
      case rel => exact ⟨k + 1, _, _, by omega, by go_num, rfl, rfl, n1, n2, n3, n4, hT2⟩
      case measure => simp [intOf]; omega
    · have hT2 : Hid (rs = S % 61 ∧ rw_ = U % 61) := by
        obtain ⟨e1, e2⟩ := hT.out
        rw [List.take_of_length_le (by rw [← HN.out]; omega)] at e1 e2
        unfold Hid
        rw [RS.out, RW.out, e1, e2]
        exact ⟨rfl, rfl⟩
      clear hT
      go_wp2
      go_ret2
      exact ⟨by rw [hT2.out.1, hT2.out.2]; rfl, rfl⟩

/-! ### The tests -/
set_option maxRecDepth 100000 in
theorem c_isWord (v : Value) (la ha : Nat) (xs : List Int) (most : Int) (w : World) (h : Ints w la ha v xs) :
    Calls Try.prog 39 #[v] w fun e w' => e = .returned (.bool (wordB 50 xs)) ∧ w = w' := by
  obtain ⟨r, hr⟩ : ∃ r, r = wordB 50 xs := ⟨_, rfl⟩
  rw [← hr]
  unfold wordB at hr
  have h0 := h
  obtain ⟨a, cap, rfl, m1, m2, _⟩ := h0
  have H := Lib.hid h
  clear h
  by_cases h1 : (xs.length : Int) ≤ 50
  · have HR : Hid (r = allB 1 61 xs) := by unfold Hid; rw [hr]; simp [h1]
    clear hr
    go_enter Try.func39, Try.ntmps39
    go_wp2_with (go_at_call 63; refine (c_allWithin _ _ _ xs _ _ _ H.out).mono ?_; rintro e w' ⟨rfl, rfl⟩)
    go_ret
    exact ⟨by rw [HR.out]; rfl, rfl⟩
  · have HR : Hid (r = false) := by unfold Hid; rw [hr]; simp [h1]
    clear hr
    go_enter Try.func39, Try.ntmps39
    go_wp2_with (go_at_call 63; refine (c_allWithin _ _ _ xs _ _ _ H.out).mono ?_; rintro e w' ⟨rfl, rfl⟩)
    go_ret
    exact ⟨by rw [HR.out]; rfl, rfl⟩
set_option maxRecDepth 100000 in
theorem c_ckWord (v : Value) (la ha : Nat) (xs : List Int) (most : Int) (w : World) (h : Ints w la ha v xs) :
    Calls Try.prog 42 #[v, .int .i64 most] w fun e w' => e = .returned (.bool (wordB most xs)) ∧ w = w' := by
  obtain ⟨r, hr⟩ : ∃ r, r = wordB most xs := ⟨_, rfl⟩
  rw [← hr]
  unfold wordB at hr
  have h0 := h
  obtain ⟨a, cap, rfl, m1, m2, _⟩ := h0
  have H := Lib.hid h
  clear h
  by_cases h1 : (xs.length : Int) ≤ most
  · have HR : Hid (r = allB 1 61 xs) := by unfold Hid; rw [hr]; simp [h1]
    clear hr
    go_enter Try.func42, Try.ntmps42
    go_wp2_with (go_at_call 64; refine (c_l1All _ _ _ xs _ _ _ H.out).mono ?_; rintro e w' ⟨rfl, rfl⟩)
    go_ret
    exact ⟨by rw [HR.out]; rfl, rfl⟩
  · have HR : Hid (r = false) := by unfold Hid; rw [hr]; simp [h1]
    clear hr
    go_enter Try.func42, Try.ntmps42
    go_wp2_with (go_at_call 64; refine (c_l1All _ _ _ xs _ _ _ H.out).mono ?_; rintro e w' ⟨rfl, rfl⟩)
    go_ret
    exact ⟨by rw [HR.out]; rfl, rfl⟩
theorem wordB_mono {a b : Int} {xs : List Int} (h : wordB a xs = true) (hab : a ≤ b) : wordB b xs = true := by
  unfold wordB at *
  simp only [Bool.and_eq_true, decide_eq_true_eq] at *
  exact ⟨by omega, h.2⟩
theorem wordB_split {most : Int} {xs : List Int} (h : most ≤ 50) : wordB most xs = (wordB 50 xs && decide ((xs.length : Int) ≤ most)) := by
  unfold wordB
  by_cases h1 : (xs.length : Int) ≤ most <;> by_cases h2 : (xs.length : Int) ≤ 50 <;> cases allB 1 61 xs <;> simp [h1, h2] <;> omega

/-! ### SumCheck -/
def sumV (xs : List Int) : Int := if wordB 49 xs then resid (-(lsum xs % 61)) else 0
set_option maxRecDepth 100000 in
theorem c_iSumCheck (v : Value) (la ha : Nat) (xs : List Int) (w : World) (h : Ints w la ha v xs) :
    Calls Try.prog 16 #[v] w fun e w' => e = .returned (.tuple #[.int .i64 (sumV xs), .bool (wordB 49 xs)]) ∧ w = w' := by
  obtain ⟨x, hx⟩ : ∃ x, x = sumV xs := ⟨_, rfl⟩
  rw [← hx]
  unfold sumV at hx
  have h0 := h
  obtain ⟨a, cap, rfl, m1, m2, _⟩ := h0
  have H := Lib.hid h
  clear h
  have hs := wordB_split (most := 49) (xs := xs) (by omega)
  cases h49 : wordB 49 xs
  · rw [h49] at hx hs
    simp at hx; subst hx
    cases h50 : wordB 50 xs
    · clear hs
      go_enter Try.func16, Try.ntmps16
      go_wp2_with (first | (go_at_call 39; refine (c_isWord _ _ _ xs 0 _ H.out).mono ?_; rintro e w' ⟨rfl, rfl⟩) | (go_at_call 45; refine (c_syndromes _ _ _ xs _ H.out h50).mono ?_; rw [← HS.out]; rintro e w' ⟨rfl, rfl⟩) | (go_at_call 48; refine (c_residue _ _ (by omega) (by omega)).mono ?_; rintro e w' ⟨rfl, rfl⟩))
      go_ret2
      exact ⟨rfl, rfl⟩
    · rw [h50] at hs
      have hl : 49 < (xs.length : Int) := by simpa using hs
      clear hs
      go_enter Try.func16, Try.ntmps16
      go_wp2_with (first | (go_at_call 39; refine (c_isWord _ _ _ xs 0 _ H.out).mono ?_; rintro e w' ⟨rfl, rfl⟩) | (go_at_call 45; refine (c_syndromes _ _ _ xs _ H.out h50).mono ?_; rw [← HS.out]; rintro e w' ⟨rfl, rfl⟩) | (go_at_call 48; refine (c_residue _ _ (by omega) (by omega)).mono ?_; rintro e w' ⟨rfl, rfl⟩))
      go_ret2
      exact ⟨rfl, rfl⟩
  · rw [h49] at hx hs
    simp at hx
    have h50 : wordB 50 xs = true := wordB_mono h49 (by omega)
    rw [h50] at hs
    have hl : (xs.length : Int) ≤ 49 := by simpa using hs.symm
    have HX := Lib.hid hx
    obtain ⟨s, hsv⟩ : ∃ s, s = lsum xs % 61 := ⟨_, rfl⟩
    have hs1 : 0 ≤ s ∧ s < 61 := by omega
    obtain ⟨hs1, hs2⟩ := hs1
    rw [← hsv] at HX
    have HS := Lib.hid hsv
    clear hs hx hsv
    go_enter Try.func16, Try.ntmps16
    go_wp2_with (first | (go_at_call 39; refine (c_isWord _ _ _ xs 0 _ H.out).mono ?_; rintro e w' ⟨rfl, rfl⟩) | (go_at_call 45; refine (c_syndromes _ _ _ xs _ H.out h50).mono ?_; rw [← HS.out]; rintro e w' ⟨rfl, rfl⟩) | (go_at_call 48; refine (c_residue _ _ (by omega) (by omega)).mono ?_; rintro e w' ⟨rfl, rfl⟩))
    go_ret2
    exact ⟨by rw [HX.out]; rfl, rfl⟩
set_option maxRecDepth 100000 in
theorem c_sSumCheck (v : Value) (la ha : Nat) (xs : List Int) (w : World) (h : Ints w la ha v xs) :
    Calls Try.prog 17 #[v] w fun e w' => e = .returned (.tuple #[.int .i64 (sumV xs), .bool (wordB 49 xs)]) ∧ w = w' := by
  obtain ⟨x, hx⟩ : ∃ x, x = sumV xs := ⟨_, rfl⟩
  rw [← hx]
  unfold sumV at hx
  have h0 := h
  obtain ⟨a, cap, rfl, m1, m2, _⟩ := h0
  have H := Lib.hid h
  clear h
  have hs := wordB_split (most := 49) (xs := xs) (by omega)
  cases h49 : wordB 49 xs
  · rw [h49] at hx hs
    simp at hx; subst hx
    cases h50 : wordB 50 xs
    · clear hs
      go_enter Try.func17, Try.ntmps17
      go_wp2_with (first | (go_at_call 42; refine (c_ckWord _ _ _ xs _ _ H.out).mono ?_; rintro e w' ⟨rfl, rfl⟩) | (go_at_call 50; refine (c_ckSum _ _ _ xs _ H.out h50).mono ?_; rw [← HS.out]; rintro e w' ⟨rfl, rfl⟩) | (go_at_call 51; refine (c_ckSign _ _ (by omega) (by omega)).mono ?_; rintro e w' ⟨rfl, rfl⟩))
      go_ret2
      exact ⟨rfl, rfl⟩
    · rw [h50] at hs
      have hl : 49 < (xs.length : Int) := by simpa using hs
      clear hs
      go_enter Try.func17, Try.ntmps17
      go_wp2_with (first | (go_at_call 42; refine (c_ckWord _ _ _ xs _ _ H.out).mono ?_; rintro e w' ⟨rfl, rfl⟩) | (go_at_call 50; refine (c_ckSum _ _ _ xs _ H.out h50).mono ?_; rw [← HS.out]; rintro e w' ⟨rfl, rfl⟩) | (go_at_call 51; refine (c_ckSign _ _ (by omega) (by omega)).mono ?_; rintro e w' ⟨rfl, rfl⟩))
      go_ret2
      exact ⟨rfl, rfl⟩
  · rw [h49] at hx hs
    simp at hx
    have h50 : wordB 50 xs = true := wordB_mono h49 (by omega)
    rw [h50] at hs
    have hl : (xs.length : Int) ≤ 49 := by simpa using hs.symm
    have HX := Lib.hid hx
    obtain ⟨s, hsv⟩ : ∃ s, s = lsum xs % 61 := ⟨_, rfl⟩
    have hs1 : 0 ≤ s ∧ s < 61 := by omega
    obtain ⟨hs1, hs2⟩ := hs1
    rw [← hsv] at HX
    have HS := Lib.hid hsv
    clear hs hx hsv
    go_enter Try.func17, Try.ntmps17
    go_wp2_with (first | (go_at_call 42; refine (c_ckWord _ _ _ xs _ _ H.out).mono ?_; rintro e w' ⟨rfl, rfl⟩) | (go_at_call 50; refine (c_ckSum _ _ _ xs _ H.out h50).mono ?_; rw [← HS.out]; rintro e w' ⟨rfl, rfl⟩) | (go_at_call 51; refine (c_ckSign _ _ (by omega) (by omega)).mono ?_; rintro e w' ⟨rfl, rfl⟩))
    go_ret2
    exact ⟨by rw [HX.out]; rfl, rfl⟩

/-! ### FillErased -/
def erB (xs : List Int) (k : Int) : Bool := wordB 50 xs && inB 0 ((xs.length : Int) - 1) k
def erV (xs : List Int) (k : Int) : Int := if erB xs k then resid (xs.getD k.toNat 0 - lsum xs % 61) else 0
set_option maxRecDepth 100000 in
theorem c_ckHas (v : Value) (la ha : Nat) (xs : List Int) (k : Int) (w : World) (h : Ints w la ha v xs) :
    Calls Try.prog 55 #[v, .int .i64 k] w fun e w' => e = .returned (.bool (erB xs k)) ∧ w = w' := by
  obtain ⟨x, hx⟩ : ∃ x, x = erB xs k := ⟨_, rfl⟩
  rw [← hx]
  unfold erB at hx
  have h0 := h
  obtain ⟨a, cap, rfl, m1, m2, _⟩ := h0
  have H := Lib.hid h
  clear h
  cases h50 : wordB 50 xs
  · rw [h50] at hx
    simp at hx; subst hx
    go_enter Try.func55, Try.ntmps55
    go_wp2_with (first | (go_at_call 42; refine (c_ckWord _ _ _ xs _ _ H.out).mono ?_; rintro e w' ⟨rfl, rfl⟩) | (go_at_call 58; refine (l1In_c _ _ _ _).mono ?_; rintro e w' ⟨rfl, rfl⟩))
    go_ret
    exact ⟨rfl, rfl⟩
  · rw [h50] at hx
    simp at hx
    have HX := Lib.hid hx
    clear hx
    go_enter Try.func55, Try.ntmps55
    go_wp2_with (first | (go_at_call 42; refine (c_ckWord _ _ _ xs _ _ H.out).mono ?_; rintro e w' ⟨rfl, rfl⟩) | (go_at_call 58; refine (l1In_c _ _ _ _).mono ?_; rintro e w' ⟨rfl, rfl⟩))
    go_ret
    exact ⟨by rw [HX.out]; rfl, rfl⟩
set_option maxRecDepth 100000 in
theorem c_iFillErased (v : Value) (la ha : Nat) (xs : List Int) (k : Int) (w : World) (h : Ints w la ha v xs) :
    Calls Try.prog 14 #[v, .int .i64 k] w fun e w' => e = .returned (.tuple #[.int .i64 (erV xs k), .bool (erB xs k)]) ∧ w = w' := by
  obtain ⟨x, hx⟩ : ∃ x, x = erV xs k := ⟨_, rfl⟩
  obtain ⟨y, hy⟩ : ∃ y, y = erB xs k := ⟨_, rfl⟩
  rw [← hx, ← hy]
  have EB : Hid (erB xs k = y) := hy.symm
  unfold erV at hx
  rw [← hy] at hx
  unfold erB at hy
  have h0 := h
  obtain ⟨a, cap, rfl, m1, m2, _⟩ := h0
  have H := Lib.hid h
  clear h
  cases h50 : wordB 50 xs
  · rw [h50] at hy
    simp at hy; subst hy; simp at hx; subst hx
    go_enter Try.func14, Try.ntmps14
    go_wp2_with (first | (go_at_call 39; refine (c_isWord _ _ _ xs 0 _ H.out).mono ?_; rintro e w' ⟨rfl, rfl⟩) | (go_at_call 47; refine (within_c _ _ _ _).mono ?_; rintro e w' ⟨rfl, rfl⟩) | (go_at_call 45; refine (c_syndromes _ _ _ xs _ H.out h50).mono ?_; rw [← HS.out]; rintro e w' ⟨rfl, rfl⟩) | (go_at_call 48; refine (c_residue _ _ (by omega) (by omega)).mono ?_; rintro e w' ⟨rfl, rfl⟩))
    go_ret2
    exact ⟨rfl, rfl⟩
  cases hk : inB 0 ((xs.length : Int) - 1) k
  · rw [h50, hk] at hy
    simp at hy; subst hy; simp at hx; subst hx
    go_enter Try.func14, Try.ntmps14
    go_wp2_with (first | (go_at_call 39; refine (c_isWord _ _ _ xs 0 _ H.out).mono ?_; rintro e w' ⟨rfl, rfl⟩) | (go_at_call 47; refine (within_c _ _ _ _).mono ?_; rintro e w' ⟨rfl, rfl⟩) | (go_at_call 45; refine (c_syndromes _ _ _ xs _ H.out h50).mono ?_; rw [← HS.out]; rintro e w' ⟨rfl, rfl⟩) | (go_at_call 48; refine (c_residue _ _ (by omega) (by omega)).mono ?_; rintro e w' ⟨rfl, rfl⟩))
    go_ret2
    exact ⟨rfl, rfl⟩
  · rw [h50, hk] at hy
    simp at hy; subst hy; simp at hx
    obtain ⟨k1, k2⟩ := inB_t hk
    obtain ⟨j, rfl⟩ := Int.eq_ofNat_of_zero_le k1
    obtain ⟨n, hn⟩ : ∃ n, n = xs.length := ⟨_, rfl⟩
    rw [← hn] at m1 H k2 hk ⊢
    have hltI : (j : Int) < (n : Int) := by omega
    obtain ⟨b, o, g, rfl, hg, c0⟩ := Ints_at H.out (k := j) (by omega)
    have hgg : xs.getD (j : Int).toNat 0 = g := by rw [Int.toNat_natCast, List.getD_eq_getElem?_getD, hg.out]; rfl
    have hb := h50
    unfold wordB at hb
    simp only [Bool.and_eq_true] at hb
    obtain ⟨b1, b2⟩ := allB_get hb.2 hg.out
    obtain ⟨s, hsv⟩ : ∃ s, s = lsum xs % 61 := ⟨_, rfl⟩
    have hs1 : 0 ≤ s ∧ s < 61 := by omega
    obtain ⟨hs1, hs2⟩ := hs1
    simp only [List.getD_eq_getElem?_getD, Int.toNat_natCast] at hx hgg
    rw [hgg, ← hsv] at hx
    have HX := Lib.hid hx
    have HS := Lib.hid hsv
    have HN := Lib.hid hn
    clear hx hsv hgg hb k2 hn
    go_enter Try.func14, Try.ntmps14
    go_wp2_with (first | (go_at_call 39; refine (c_isWord _ _ _ xs 0 _ H.out).mono ?_; rintro e w' ⟨rfl, rfl⟩) | (go_at_call 47; refine (within_c _ _ _ _).mono ?_; rintro e w' ⟨rfl, rfl⟩) | (go_at_call 45; refine (c_syndromes _ _ _ xs _ H.out h50).mono ?_; rw [← HS.out]; rintro e w' ⟨rfl, rfl⟩) | (go_at_call 48; refine (c_residue _ _ (by omega) (by omega)).mono ?_; rintro e w' ⟨rfl, rfl⟩))
    go_ret2
    exact ⟨by rw [HX.out]; rfl, rfl⟩
set_option maxRecDepth 100000 in
theorem c_sFillErased (v : Value) (la ha : Nat) (xs : List Int) (k : Int) (w : World) (h : Ints w la ha v xs) :
    Calls Try.prog 22 #[v, .int .i64 k] w fun e w' => e = .returned (.tuple #[.int .i64 (erV xs k), .bool (erB xs k)]) ∧ w = w' := by
  obtain ⟨x, hx⟩ : ∃ x, x = erV xs k := ⟨_, rfl⟩
  obtain ⟨y, hy⟩ : ∃ y, y = erB xs k := ⟨_, rfl⟩
  rw [← hx, ← hy]
  have EB : Hid (erB xs k = y) := hy.symm
  unfold erV at hx
  rw [← hy] at hx
  unfold erB at hy
  have h0 := h
  obtain ⟨a, cap, rfl, m1, m2, _⟩ := h0
  have H := Lib.hid h
  clear h
  cases h50 : wordB 50 xs
  · rw [h50] at hy
    simp at hy; subst hy; simp at hx; subst hx
    go_enter Try.func22, Try.ntmps22
    go_wp2_with (first | (go_at_call 55; refine (c_ckHas _ _ _ xs _ _ H.out).mono ?_; rw [EB.out]; rintro e w' ⟨rfl, rfl⟩) | (go_at_call 50; refine (c_ckSum _ _ _ xs _ H.out h50).mono ?_; rw [← HS.out]; rintro e w' ⟨rfl, rfl⟩) | (go_at_call 51; refine (c_ckSign _ _ (by omega) (by omega)).mono ?_; rintro e w' ⟨rfl, rfl⟩))
    go_ret2
    exact ⟨rfl, rfl⟩
  cases hk : inB 0 ((xs.length : Int) - 1) k
  · rw [h50, hk] at hy
    simp at hy; subst hy; simp at hx; subst hx
    go_enter Try.func22, Try.ntmps22
    go_wp2_with (first | (go_at_call 55; refine (c_ckHas _ _ _ xs _ _ H.out).mono ?_; rw [EB.out]; rintro e w' ⟨rfl, rfl⟩) | (go_at_call 50; refine (c_ckSum _ _ _ xs _ H.out h50).mono ?_; rw [← HS.out]; rintro e w' ⟨rfl, rfl⟩) | (go_at_call 51; refine (c_ckSign _ _ (by omega) (by omega)).mono ?_; rintro e w' ⟨rfl, rfl⟩))
    go_ret2
    exact ⟨rfl, rfl⟩
  · rw [h50, hk] at hy
    simp at hy; subst hy; simp at hx
    obtain ⟨k1, k2⟩ := inB_t hk
    obtain ⟨j, rfl⟩ := Int.eq_ofNat_of_zero_le k1
    obtain ⟨n, hn⟩ : ∃ n, n = xs.length := ⟨_, rfl⟩
    rw [← hn] at m1 H k2 hk ⊢
    have hltI : (j : Int) < (n : Int) := by omega
    obtain ⟨b, o, g, rfl, hg, c0⟩ := Ints_at H.out (k := j) (by omega)
    have hgg : xs.getD (j : Int).toNat 0 = g := by rw [Int.toNat_natCast, List.getD_eq_getElem?_getD, hg.out]; rfl
    have hb := h50
    unfold wordB at hb
    simp only [Bool.and_eq_true] at hb
    obtain ⟨b1, b2⟩ := allB_get hb.2 hg.out
    obtain ⟨s, hsv⟩ : ∃ s, s = lsum xs % 61 := ⟨_, rfl⟩
    have hs1 : 0 ≤ s ∧ s < 61 := by omega
    obtain ⟨hs1, hs2⟩ := hs1
    simp only [List.getD_eq_getElem?_getD, Int.toNat_natCast] at hx hgg
    rw [hgg, ← hsv] at hx
    have HX := Lib.hid hx
    have HS := Lib.hid hsv
    have HN := Lib.hid hn
    clear hx hsv hgg hb k2 hn
    go_enter Try.func22, Try.ntmps22
    go_wp2_with (first | (go_at_call 55; refine (c_ckHas _ _ _ xs _ _ H.out).mono ?_; rw [EB.out]; rintro e w' ⟨rfl, rfl⟩) | (go_at_call 50; refine (c_ckSum _ _ _ xs _ H.out h50).mono ?_; rw [← HS.out]; rintro e w' ⟨rfl, rfl⟩) | (go_at_call 51; refine (c_ckSign _ _ (by omega) (by omega)).mono ?_; rintro e w' ⟨rfl, rfl⟩))
    go_ret2
    exact ⟨by rw [HX.out]; rfl, rfl⟩
end Go.Proofs.Ytphfgfejacbhpaa
