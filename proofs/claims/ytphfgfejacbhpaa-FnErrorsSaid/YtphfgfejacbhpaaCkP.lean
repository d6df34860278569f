/- Checks in plain Lean: a word with its pair holds; one wrong signal is set right. -/
import Derived.Test.YtphfgfejacbhpaaSyn
import Derived.Test.YtphfgfejacbhpaaCorrect
namespace Go.Proofs.Ytphfgfejacbhpaa
open Go.RowKit
theorem lsum_set : ∀ (xs : List Int) (i : Nat) (x y : Int), xs[i]? = some x → lsum (xs.set i y) = lsum xs - x + y
  | [], i, x, y, h => by simp at h
  | z :: r, 0, x, y, h => by
    simp only [List.getElem?_cons_zero, Option.some.injEq] at h
    subst h
    simp only [List.set_cons_zero, lsum]
    omega
  | z :: r, i + 1, x, y, h => by
    have ih := lsum_set r i x y (by simpa using h)
    simp only [List.set_cons_succ, lsum, ih]
    omega
theorem wsum_set : ∀ (xs : List Int) (s i : Nat) (x y : Int), xs[i]? = some x → wsum s (xs.set i y) = wsum s xs + ((s : Int) + i + 1) * (y - x)
  | [], s, i, x, y, h => by simp at h
  | z :: r, s, 0, x, y, h => by
    simp only [List.getElem?_cons_zero, Option.some.injEq] at h
    subst h
    simp only [List.set_cons_zero, wsum]
    rw [show ((s : Int) + ((0 : Nat) : Int) + 1) = (s : Int) + 1 by omega, Int.mul_sub]
    omega
  | z :: r, s, i + 1, x, y, h => by
    have ih := wsum_set r (s + 1) i x y (by simpa using h)
    simp only [List.set_cons_succ, wsum, ih]
    rw [show (((s + 1 : Nat) : Int) + (i : Int) + 1) = ((s : Int) + ((i + 1 : Nat) : Int) + 1) by omega]
    omega
theorem app2 (xs : List Int) (a b : Int) : xs ++ [a, b] = (xs ++ [a]) ++ [b] := by simp
theorem pair_l (xs : List Int) : lsum (xs ++ [pairA xs, pairB xs]) % 61 = 0 := by
  rw [app2, lsum_snoc, lsum_snoc]
  have h := resid_mod (-(lsum xs % 61) - pairA xs)
  change pairB xs % 61 = _ at h
  omega
theorem pair_w (xs : List Int) : wsum 0 (xs ++ [pairA xs, pairB xs]) % 61 = 0 := by
  rw [app2, wsum_snoc, wsum_snoc]
  have h1 := resid_mod (-(lsum xs % 61) - pairA xs)
  change pairB xs % 61 = _ at h1
  have h2 := resid_mod (wsum 0 xs % 61 - ((xs.length : Int) + 2) * (lsum xs % 61))
  change pairA xs % 61 = _ at h2
  rw [List.length_append]
  obtain ⟨A, hA⟩ : ∃ A, A = pairA xs := ⟨_, rfl⟩
  obtain ⟨B, hB⟩ : ∃ A, A = pairB xs := ⟨_, rfl⟩
  obtain ⟨S, hS⟩ : ∃ A, A = lsum xs % 61 := ⟨_, rfl⟩
  obtain ⟨W, hW⟩ : ∃ A, A = wsum 0 xs := ⟨_, rfl⟩
  obtain ⟨n, hn⟩ : ∃ n : Int, n = (xs.length : Int) := ⟨_, rfl⟩
  rw [← hA, ← hB, ← hS] at h1
  rw [← hA, ← hS, ← hW, ← hn] at h2
  have hn2 : ((xs.length + [pairA xs].length : Nat) : Int) = n + 1 := by rw [hn]; simp
  rw [hn2, ← hA, ← hB, ← hW, ← hn]
  obtain ⟨q, hq⟩ : ∃ q, B = -S - A + 61 * q := ⟨(B + S + A) / 61, by omega⟩
  obtain ⟨r, hr⟩ : ∃ r, A = W - (n + 2) * S + 61 * r := ⟨(A - W + (n + 2) * S) / 61, by omega⟩
  have key : W + (((0 : Nat) : Int) + n + 1) * A + (((0 : Nat) : Int) + (n + 1) + 1) * B = 61 * ((n + 2) * q - r) := by
    rw [hq]
    have e : A = W - (n + 2) * S + 61 * r := hr
    clear hq hr h1 h2 hA hB hS hW hn hn2
    subst e
    grind
  rw [key]
  exact Int.mul_emod_right _ _
theorem no_zero : ∀ a : Fin 60, ∀ m : Fin 50, ((m.val + 1) * (a.val + 1)) % 61 ≠ 0 := by decide +kernel
theorem no_zero' {m a : Int} (h1 : 1 ≤ m) (h2 : m ≤ 50) (h3 : 1 ≤ a) (h4 : a ≤ 60) : m * a % 61 ≠ 0 := by
  intro h
  obtain ⟨p, rfl⟩ := Int.eq_ofNat_of_zero_le (show 0 ≤ m by omega)
  obtain ⟨q, rfl⟩ := Int.eq_ofNat_of_zero_le (show 0 ≤ a by omega)
  have h5 := no_zero ⟨q - 1, by omega⟩ ⟨p - 1, by omega⟩
  simp only at h5
  rw [show p - 1 + 1 = p by omega, show q - 1 + 1 = q by omega] at h5
  apply h5
  have : ((p * q % 61 : Nat) : Int) = 0 := by rw [Int.natCast_emod, Int.natCast_mul]; exact h
  omega
theorem uniq61 {i j : Nat} {a : Int} (h3 : 1 ≤ a) (h4 : a ≤ 60) (hi : i < 50) (hj : j < 50) (h : ((j : Int) + 1) * a % 61 = ((i : Int) + 1) * a % 61) : j = i := by
  rcases Nat.lt_trichotomy j i with h5 | h5 | h5
  · exfalso
    refine no_zero' (m := (i : Int) - j) (a := a) (by omega) (by omega) h3 h4 ?_
    have e : ((i : Int) - j) * a = ((i : Int) + 1) * a - ((j : Int) + 1) * a := by rw [← Int.sub_mul]; congr 1; omega
    rw [e]; omega
  · exact h5
  · exfalso
    refine no_zero' (m := (j : Int) - i) (a := a) (by omega) (by omega) h3 h4 ?_
    have e : ((j : Int) - i) * a = ((j : Int) + 1) * a - ((i : Int) + 1) * a := by rw [← Int.sub_mul]; congr 1; omega
    rw [e]; omega
theorem srch_first {p : Nat → Bool} {i : Nat} (hp : p i = true) : ∀ (f k : Nat), k ≤ i → i < k + f → (∀ j, k ≤ j → j < i → p j = false) → srch p f k = some i
  | 0, k, h1, h2, _ => by omega
  | f + 1, k, h1, h2, h3 => by
    unfold srch
    by_cases e : k = i
    · subst e; rw [if_pos hp]
    · rw [if_neg (by rw [h3 k (Nat.le_refl _) (by omega)]; simp)]
      exact srch_first hp f (k + 1) (by omega) (by omega) (fun j hj => h3 j (by omega))
theorem srch_some {p : Nat → Bool} : ∀ (f k : Nat) {i : Nat}, srch p f k = some i → p i = true ∧ k ≤ i ∧ i < k + f
  | 0, k, i, h => by simp [srch] at h
  | f + 1, k, i, h => by
    unfold srch at h
    split at h
    · rename_i hp
      simp only [Option.some.injEq] at h
      subst h
      exact ⟨hp, by omega, by omega⟩
    · have := srch_some f (k + 1) h
      exact ⟨this.1, by omega, by omega⟩
theorem word_mem {m : Int} {xs : List Int} (h : wordB m xs = true) : ((xs.length : Int) ≤ m) ∧ ∀ x ∈ xs, 1 ≤ x ∧ x ≤ 61 := by
  simp only [wordB, allB, Bool.and_eq_true, decide_eq_true_eq, List.all_eq_true] at h
  exact ⟨h.1, fun x hx => inB_t (h.2 x hx)⟩
theorem word_mk {m : Int} {xs : List Int} (h1 : (xs.length : Int) ≤ m) (h2 : ∀ x ∈ xs, 1 ≤ x ∧ x ≤ 61) : wordB m xs = true := by
  simp only [wordB, allB, Bool.and_eq_true, decide_eq_true_eq, List.all_eq_true]
  exact ⟨h1, fun x hx => inB_iff.2 (h2 x hx)⟩
theorem pair_word {xs : List Int} (h : wordB 48 xs = true) : wordB 50 (xs ++ [pairA xs, pairB xs]) = true := by
  obtain ⟨h1, h2⟩ := word_mem h
  refine word_mk (by simp; omega) fun x hx => ?_
  rcases List.mem_append.1 hx with hx | hx
  · exact h2 x hx
  · simp at hx
    rcases hx with rfl | rfl
    · exact pairA_bd xs
    · exact pairB_bd xs
theorem resid_self {x : Int} (h1 : 1 ≤ x) (h2 : x ≤ 61) : resid x = x := by unfold resid; split <;> omega
/-- One wrong signal, from a word that holds. -/
structure Wrong (W : List Int) (i : Nat) (x y : Int) : Prop where
  word : wordB 50 W = true
  l : lsum W % 61 = 0
  w : wsum 0 W % 61 = 0
  at_ : W[i]? = some x
  y1 : 1 ≤ y
  y2 : y ≤ 61
  ne : x ≠ y
theorem Wrong.bd {W : List Int} {i : Nat} {x y : Int} (h : Wrong W i x y) : 1 ≤ x ∧ x ≤ 61 ∧ i < W.length ∧ W.length ≤ 50 := by
  obtain ⟨h1, h2⟩ := word_mem h.word
  have h3 := h2 x (List.mem_of_getElem? h.at_)
  have h4 := (List.getElem?_eq_some_iff.1 h.at_).1
  exact ⟨h3.1, h3.2, h4, by omega⟩
theorem Wrong.word2 {W : List Int} {i : Nat} {x y : Int} (h : Wrong W i x y) : wordB 50 (W.set i y) = true := by
  obtain ⟨h1, h2⟩ := word_mem h.word
  refine word_mk (by rw [List.length_set]; exact h1) fun z hz => ?_
  rcases List.mem_or_eq_of_mem_set hz with hz | rfl
  · exact h2 z hz
  · exact ⟨h.y1, h.y2⟩
theorem Wrong.back {W : List Int} {i : Nat} {x y : Int} (h : Wrong W i x y) : (W.set i y).set i x = W := by
  apply List.ext_getElem?
  intro j
  have hi := (List.getElem?_eq_some_iff.1 h.at_).1
  by_cases e : i = j
  · subst e
    rw [List.getElem?_set_self (by rw [List.length_set]; exact hi), h.at_]
  · rw [List.getElem?_set_ne e, List.getElem?_set_ne e]
theorem Wrong.mod {W : List Int} {i : Nat} {x y : Int} (h : Wrong W i x y) : resid (y - lsum (W.set i y) % 61) = x := by
  obtain ⟨b1, b2, _, _⟩ := h.bd
  have h1 := lsum_set W i x y h.at_
  have h2 := h.l
  have h3 := h.y1
  have h4 := h.y2
  refine Eq.trans (resid_congr (m := x) ?_) (resid_self b1 b2)
  rw [h1]
  omega
theorem Wrong.coO {W : List Int} {i : Nat} {x y : Int} (h : Wrong W i x y) : coO (W.set i y) = some W := by
  obtain ⟨b1, b2, b3, b4⟩ := h.bd
  have h1 := lsum_set W i x y h.at_
  have h2 := wsum_set W 0 i x y h.at_
  have h3 := h.l
  have h4 := h.w
  have h5 := h.y1
  have h6 := h.y2
  have h7 := h.ne
  obtain ⟨a, ha⟩ : ∃ a, a = lsum (W.set i y) % 61 := ⟨_, rfl⟩
  obtain ⟨b, hb⟩ : ∃ b, b = wsum 0 (W.set i y) % 61 := ⟨_, rfl⟩
  have ha1 : 1 ≤ a := by omega
  have ha2 : a ≤ 60 := by omega
  have hab : ((i : Int) + 1) * a % 61 = b := by
    rw [hb, h2]
    obtain ⟨r, hr⟩ : ∃ r, y - x = a + 61 * r := ⟨(y - x - a) / 61, by omega⟩
    rw [show (((0 : Nat) : Int) + (i : Int) + 1) = (i : Int) + 1 by omega, hr, Int.mul_add, show ((i : Int) + 1) * (61 * r) = 61 * (((i : Int) + 1) * r) by grind]
    omega
  unfold Go.Proofs.Ytphfgfejacbhpaa.coO coH
  rw [h.word2, if_pos rfl]
  unfold holdB
  rw [← ha, ← hb, if_neg (by simp; omega), if_neg (by omega)]
  rw [srch_first (i := i) (by unfold coP; exact decide_eq_true hab) _ 0 (by omega) (by rw [List.length_set]; omega) (fun j _ hj => by
    unfold coP
    refine decide_eq_false fun e => ?_
    have := uniq61 ha1 ha2 (by omega) (by omega) (e.trans hab.symm)
    omega)]
  simp only [Option.map_some, Option.some.injEq]
  have hg : (W.set i y).getD i 0 = y := by rw [List.getD_eq_getElem?_getD, List.getElem?_set_self b3]; rfl
  rw [hg, ha, h.mod, h.back]
/-- What is set right holds and differs in one place at most. -/
theorem coO_good {xs ys : List Int} (h : coO xs = some ys) : wordB 50 ys = true ∧ lsum ys % 61 = 0 ∧ wsum 0 ys % 61 = 0 ∧ ∃ i y, ys = xs.set i y := by
  unfold coO at h
  split at h
  · rename_i hw
    obtain ⟨w1, w2⟩ := word_mem hw
    unfold coH holdB at h
    split at h
    · rename_i hh
      simp only [Bool.and_eq_true, decide_eq_true_eq] at hh
      simp only [Option.some.injEq] at h
      subst h
      exact ⟨hw, hh.1, hh.2, xs.length, 0, by rw [List.set_eq_of_length_le (Nat.le_refl _)]⟩
    · split at h
      · cases h
      · rename_i hn hl
        obtain ⟨i, hi, rfl⟩ := Option.map_eq_some_iff.1 h
        obtain ⟨hp, _, hlt⟩ := srch_some _ _ hi
        rw [Nat.zero_add] at hlt
        obtain ⟨x, hx⟩ : ∃ x, xs[i]? = some x := ⟨_, List.getElem?_eq_getElem hlt⟩
        have hg : xs.getD i 0 = x := by rw [List.getD_eq_getElem?_getD, hx]; rfl
        rw [hg]
        unfold coP at hp
        simp only [decide_eq_true_eq] at hp
        have hb := resid_bd (x - lsum xs % 61)
        have hm := resid_mod (x - lsum xs % 61)
        obtain ⟨y, hy⟩ : ∃ y, y = resid (x - lsum xs % 61) := ⟨_, rfl⟩
        rw [← hy] at hb hm ⊢
        refine ⟨word_mk (by rw [List.length_set]; exact w1) fun z hz => ?_, ?_, ?_, i, y, rfl⟩
        · rcases List.mem_or_eq_of_mem_set hz with hz | rfl
          · exact w2 z hz
          · exact hb
        · rw [lsum_set xs i x y hx]; omega
        · rw [wsum_set xs 0 i x y hx]
          obtain ⟨r, hr⟩ : ∃ r, y - x = -(lsum xs % 61) + 61 * r := ⟨(y - x + lsum xs % 61) / 61, by omega⟩
          rw [show (((0 : Nat) : Int) + (i : Int) + 1) = (i : Int) + 1 by omega, hr, Int.mul_add, show ((i : Int) + 1) * (61 * r) = 61 * (((i : Int) + 1) * r) by grind, Int.mul_neg]
          omega
  · cases h
end Go.Proofs.Ytphfgfejacbhpaa
