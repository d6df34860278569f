
/- Errors in plain Lean, and the last contracts for them. -/
import Derived.Test.YtphfgfejacbhpaaCkP
import Derived.Test.YtphfgfejacbhpaaDrawA
import Derived.Test.YtphfgfejacbhpaaWrong
namespace Go.Proofs.Ytphfgfejacbhpaa
open Go.RowKit
/-! ### An exchange -/
theorem hold_swp {xs : List Int} {i k : Nat} {x y : Int} (hw : wordB 50 xs = true) (hh : holdB xs = true) (hi : xs[i]? = some x) (hk : xs[k]? = some y) : (!holdB (swp xs i k)) = (x != y) := by
  obtain ⟨w1, w2⟩ := word_mem hw
  have hx := w2 x (List.mem_of_getElem? hi)
  have hy := w2 y (List.mem_of_getElem? hk)
  have hil := (List.getElem?_eq_some_iff.1 hi).1
  have hkl := (List.getElem?_eq_some_iff.1 hk).1
  simp only [holdB, Bool.and_eq_true, decide_eq_true_eq] at hh
  obtain ⟨h1, h2⟩ := hh
  have gi : xs.getD i 0 = x := by rw [List.getD_eq_getElem?_getD, hi]; rfl
  have gk : xs.getD k 0 = y := by rw [List.getD_eq_getElem?_getD, hk]; rfl
  unfold swp
  rw [gi, gk]
  have hk2 : (xs.set i y)[k]? = some y := by
    by_cases e : i = k
    · subst e; rw [List.getElem?_set_self hil]
    · rw [List.getElem?_set_ne e]; exact hk
  have l1 := lsum_set xs i x y hi
  have l2 := lsum_set (xs.set i y) k y x hk2
  have m1 := wsum_set xs 0 i x y hi
  have m2 := wsum_set (xs.set i y) 0 k y x hk2
  have hl : lsum ((xs.set i y).set k x) % 61 = 0 := by omega
  have hm : wsum 0 ((xs.set i y).set k x) = wsum 0 xs + ((i : Int) - k) * (y - x) := by
    rw [m2, m1]; grind
  by_cases e : x = y
  · subst e
    have : holdB ((xs.set i x).set k x) = true := by
      unfold holdB
      rw [hm, hl]
      simp [h2]
    rw [this]; simp
  · have hne : (x != y) = true := by simp [e]
    rw [hne]
    have : holdB ((xs.set i y).set k x) = false := by
      unfold holdB
      rw [hl, hm]
      simp only [decide_true, Bool.true_and, decide_eq_false_iff_not]
      intro h3
      have hik : i ≠ k := fun h => by
        subst h
        rw [hi] at hk
        exact e (Option.some.inj hk)
      have h4 : ((i : Int) - k) * (y - x) % 61 = 0 := by omega
      by_cases c1 : k < i
      · by_cases c2 : x < y
        · exact no_zero' (m := (i : Int) - k) (a := y - x) (by omega) (by omega) (by omega) (by omega) h4
        · refine no_zero' (m := (i : Int) - k) (a := x - y) (by omega) (by omega) (by omega) (by omega) ?_
          have e5 : ((i : Int) - k) * (x - y) = -(((i : Int) - k) * (y - x)) := by grind
          rw [e5]; omega
      · by_cases c2 : x < y
        · refine no_zero' (m := (k : Int) - i) (a := y - x) (by omega) (by omega) (by omega) (by omega) ?_
          have e5 : ((k : Int) - i) * (y - x) = -(((i : Int) - k) * (y - x)) := by grind
          rw [e5]; omega
        · refine no_zero' (m := (k : Int) - i) (a := x - y) (by omega) (by omega) (by omega) (by omega) ?_
          have e5 : ((k : Int) - i) * (x - y) = ((i : Int) - k) * (y - x) := by grind
          rw [e5]; exact h4
    rw [this]; rfl
/-! ### How many differ -/
def cntD (A B : List Int) : Nat → Nat
  | 0 => 0
  | k + 1 => cntD A B k + if A[k]? = B[k]? then 0 else 1
theorem cntD_set (xs : List Int) (i : Nat) (y : Int) : ∀ k, cntD (xs.set i y) xs k ≤ if i < k then 1 else 0
  | 0 => by simp [cntD]
  | k + 1 => by
    have ih := cntD_set xs i y k
    have hstep : cntD (xs.set i y) xs (k + 1) = cntD (xs.set i y) xs k + (if (xs.set i y)[k]? = xs[k]? then 0 else 1) := rfl
    have hle : (if (xs.set i y)[k]? = xs[k]? then 0 else 1) ≤ 1 := by split <;> omega
    by_cases e : i = k
    · rw [if_neg (by omega)] at ih
      rw [if_pos (by omega)]
      omega
    · rw [List.getElem?_set_ne e, if_pos rfl] at hstep
      by_cases h : i < k
      · rw [if_pos h] at ih; rw [if_pos (by omega)]; omega
      · rw [if_neg h] at ih; rw [if_neg (by omega)]; omega
theorem cntD_one {xs : List Int} {ys : List Int} (h : ∃ i y, ys = xs.set i y) (k : Nat) : cntD ys xs k ≤ 1 := by
  obtain ⟨i, y, rfl⟩ := h
  have := cntD_set xs i y k
  split at this <;> omega
/-! ### Wrong shutters -/
theorem shL_mem {x n : Int} : ∀ {k : Nat}, n ∈ shL x k → dst n x = 1 ∧ 1 ≤ n ∧ n ≤ k
  | 0, h => by simp [shL] at h
  | k + 1, h => by
    unfold shL at h
    rcases List.mem_append.1 h with h | h
    · have := shL_mem h; exact ⟨this.1, this.2.1, by omega⟩
    · split at h
      · rename_i hd; simp at h; subst h; exact ⟨hd, by omega, by omega⟩
      · simp at h
theorem wsV_mem {xs : List Int} {k n : Int} (h : n ∈ wsV xs k) : ∃ (q : Nat) (x : Int), k = (q : Int) ∧ q < xs.length ∧ xs[q]? = some x ∧ 1 ≤ x ∧ x ≤ 61 ∧ 1 ≤ n ∧ n ≤ 61 ∧ dst n x = 1 := by
  unfold wsV at h
  split at h
  · rename_i he
    simp only [erB, Bool.and_eq_true] at he
    obtain ⟨h1, h2⟩ := inB_t he.2
    obtain ⟨q, rfl⟩ := Int.eq_ofNat_of_zero_le h1
    have hq : q < xs.length := by omega
    obtain ⟨x, hx⟩ : ∃ x, xs[q]? = some x := ⟨_, List.getElem?_eq_getElem hq⟩
    rw [Int.toNat_natCast, List.getD_eq_getElem?_getD, hx] at h
    have h3 := shL_mem h
    have h4 := (word_mem he.1).2 x (List.mem_of_getElem? hx)
    exact ⟨q, x, rfl, hq, hx, h4.1, h4.2, h3.2.1, by have := h3.2.2; omega, h3.1⟩
  · simp at h
set_option maxRecDepth 100000 in
theorem c_isSignal (n : Int) (w : World) : Calls Try.prog 60 #[.int .i64 n] w fun e w' => e = .returned (.bool (inB 0 63 n)) ∧ w = w' := by
  go_enter Try.func60, Try.ntmps60
  go_wp2_with (go_at_call 47; refine (within_c _ _ _ _).mono ?_; rintro e w' ⟨rfl, rfl⟩)
  go_ret
  exact ⟨rfl, rfl⟩
set_option maxRecDepth 100000 in
theorem c_SigDist (a b : Int) (w : World) (ha : inB 0 63 a = true) (hb : inB 0 63 b = true) : Calls Try.prog 28 #[.int .i64 a, .int .i64 b] w fun e w' => e = .returned (.tuple #[.int .i64 (dst a b : Nat), .bool true]) ∧ w = w' := by
  have C1 := Lib.hid (c_isSignal a w)
  have C2 := Lib.hid (c_isSignal b w)
  rw [ha] at C1
  rw [hb] at C2
  obtain ⟨d, hd⟩ : ∃ d, d = dst a b := ⟨_, rfl⟩
  have CD := Lib.hid (c_distanceOf a b w)
  rw [← hd] at CD ⊢
  clear ha hb hd
  go_enter Try.func28, Try.ntmps28
  go_wp2_with fail
  refine C1.out.mono ?_
  rintro e w' ⟨rfl, rfl⟩
  go_wp2_with fail
  refine C2.out.mono ?_
  rintro e w' ⟨rfl, rfl⟩
  go_wp2_with fail
  refine CD.out.mono ?_
  rintro e w' ⟨rfl, rfl⟩
  go_wp2
  go_ret2
  exact ⟨rfl, rfl⟩
/-! ### Sums of counts -/
theorem caV_sum (xss : List (List Int)) : ∀ (C : List Int), C.length = 3 → (xss.foldl cup C).length = 3 ∧ lsum (xss.foldl cup C) = lsum C + xss.length := by
  induction xss with
  | nil => intro C h; exact ⟨h, by simp⟩
  | cons g r ih =>
    intro C h
    have hk : kindN g < 3 := by unfold kindN; split <;> (try split) <;> omega
    obtain ⟨x, hx⟩ : ∃ x, C[kindN g]? = some x := ⟨_, List.getElem?_eq_getElem (by omega)⟩
    have h1 : (cup C g).length = 3 := by unfold cup; rw [List.length_set]; exact h
    have h2 : lsum (cup C g) = lsum C + 1 := by
      unfold cup
      rw [lsum_set C _ x _ hx, List.getD_eq_getElem?_getD, hx]
      simp; omega
    obtain ⟨h3, h4⟩ := ih (cup C g) h1
    rw [List.foldl_cons]
    exact ⟨h3, by rw [h4, h2, List.length_cons]; omega⟩
theorem caV_good {xss : List (List Int)} (h : caB xss = true) : lsum (caV xss) = xss.length := by
  unfold caV
  rw [h, if_pos rfl, (caV_sum xss [0, 0, 0] rfl).2]
  simp [lsum]
theorem cup_nn (xss : List (List Int)) : ∀ (C : List Int), (∀ x ∈ C, 0 ≤ x) → ∀ x ∈ xss.foldl cup C, 0 ≤ x := by
  induction xss with
  | nil => intro C h; exact h
  | cons g r ih =>
    intro C h
    rw [List.foldl_cons]
    refine ih _ fun x hx => ?_
    unfold cup at hx
    rcases List.mem_or_eq_of_mem_set hx with hx | rfl
    · exact h x hx
    · cases hg : C[kindN g]? with
      | none => rw [List.getD_eq_getElem?_getD, hg]; simp
      | some z => rw [List.getD_eq_getElem?_getD, hg]; have := h z (List.mem_of_getElem? hg); simp; omega
theorem caV_nn (xss : List (List Int)) : ∀ x ∈ caV xss, 0 ≤ x := by
  unfold caV
  split
  · exact cup_nn xss _ (by simp)
  · simp
theorem lsum_take {xs : List Int} {k : Nat} {x : Int} (h : xs[k]? = some x) : lsum (xs.take (k + 1)) = lsum (xs.take k) + x := by
  rw [take_snoc' h, lsum_snoc]
theorem lsum_nn {xs : List Int} (h : ∀ x ∈ xs, 0 ≤ x) : 0 ≤ lsum xs := by
  induction xs with
  | nil => simp [lsum]
  | cons y r ih => have := ih (fun x hx => h x (by simp [hx])); have := h y (by simp); simp only [lsum]; omega
theorem lsum_app (a b : List Int) : lsum (a ++ b) = lsum a + lsum b := by
  induction a with
  | nil => simp [lsum]
  | cons y r ih => simp only [List.cons_append, lsum, ih]; omega
theorem lsum_take_le {xs : List Int} (h : ∀ x ∈ xs, 0 ≤ x) (k : Nat) : 0 ≤ lsum (xs.take k) ∧ lsum (xs.take k) ≤ lsum xs := by
  have h1 := lsum_app (xs.take k) (xs.drop k)
  rw [List.take_append_drop] at h1
  have h2 := lsum_nn (xs := xs.drop k) (fun x hx => h x (List.mem_of_mem_drop hx))
  have h3 := lsum_nn (xs := xs.take k) (fun x hx => h x (List.mem_of_mem_take hx))
  omega
set_option maxRecDepth 100000 in
theorem c_pSum (v : Value) (la ha : Nat) (xs : List Int) (w : World) (h : Ints w la ha v xs) (hb : ∀ x ∈ xs, 0 ≤ x) (hs : lsum xs ≤ 1000000) :
    Calls Try.prog 37 #[v] w fun e w' => e = .returned (.int .i64 (lsum xs)) ∧ w = w' := by
  obtain ⟨a, cap, rfl, m1, m2⟩ := h.form
  have H := Lib.hid h
  have HB : Hid (∀ k, 0 ≤ lsum (xs.take k) ∧ lsum (xs.take k) ≤ 1000000) := fun k => by have := lsum_take_le hb k; omega
  have HT : Hid (∀ k x, xs[k]? = some x → lsum (xs.take (k + 1)) = lsum (xs.take k) + x) := fun k x hx => lsum_take hx
  obtain ⟨s, hsv⟩ : ∃ s, s = lsum xs := ⟨_, rfl⟩
  obtain ⟨n, hn⟩ : ∃ n, n = xs.length := ⟨_, rfl⟩
  have HF : Hid (∀ k, n ≤ k → s = lsum (xs.take k)) := fun k hk => by rw [hsv, List.take_of_length_le (by rw [← hn]; exact hk)]
  rw [← hsv]
  rw [← hn] at m1 H ⊢
  clear h hb hs hsv hn
  go_enter Try.func37, Try.ntmps37
  go_wp2
  go_loop [3, 8] (fun t i => ∃ (k : Nat) (z : Int), k ≤ n ∧ i = .int .i64 k ∧ t = .int .i64 z ∧ Hid (z = lsum (xs.take k))) (fun _ i => n - (intOf i).toNat)
  case atStart => exact ⟨0, 0, by omega, rfl, rfl, by simp [Hid, lsum]⟩
  case round =>
    obtain ⟨k, z, hk, rfl, rfl, hz⟩ := hrel
    obtain ⟨b1, b2⟩ := HB.out k
    rw [← hz.out] at b1 b2
    by_cases hlt : k < n
    · obtain ⟨b, o, x, rfl, hx, c0⟩ := Ints_at H.out hlt
      have h1 := HT.out k x hx.out
      rw [← hz.out] at h1
      obtain ⟨b3, b4⟩ := HB.out (k + 1)
      rw [h1] at b3 b4
      have H1 := Lib.hid h1
      have hltI : (k : Int) < (n : Int) := by omega
      clear h1
      go_wp2
      go_round
      case rel => exact ⟨k + 1, _, by omega, by go_num, rfl, H1.out.symm⟩
      case measure => simp [intOf]; omega
    · have hge : ¬ ((k : Int) < (n : Int)) := by omega
      have HS : Hid (s = z) := (HF.out k (by omega)).trans hz.out.symm
      go_wp2
      go_ret
      exact ⟨by rw [HS.out]; rfl, rfl⟩
end Go.Proofs.Ytphfgfejacbhpaa
