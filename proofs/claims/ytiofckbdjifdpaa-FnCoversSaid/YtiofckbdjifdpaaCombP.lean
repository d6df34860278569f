/- Choices of k numbers below n in lexicographic order, the next one, and the lists that are the bits of a set: in plain Lean. -/
import Derived.Test.YtiofckbdjifdpaaStP
namespace Go.Proofs.Ytiofckbdjifdpaa
open Go.RowKit
/-- The numbers lo, lo + 1, ..: k of them. -/
def runI : Int → Nat → List Int
  | _, 0 => []
  | lo, k + 1 => lo :: runI (lo + 1) k
theorem runI_len : ∀ (k : Nat) (lo : Int), (runI lo k).length = k
  | 0, _ => rfl
  | k + 1, lo => by unfold runI; rw [List.length_cons, runI_len k]
theorem runI_get : ∀ (k : Nat) (lo : Int) (i : Nat), i < k → (runI lo k)[i]? = some (lo + i)
  | 0, _, _, h => by omega
  | k + 1, lo, 0, _ => by unfold runI; simp
  | k + 1, lo, i + 1, h => by
    unfold runI
    rw [List.getElem?_cons_succ, runI_get k (lo + 1) i (by omega)]
    congr 1; omega
/-- The increasing lists of k numbers out of the d numbers from lo on, in lexicographic order. -/
def combs : Nat → Int → Nat → List (List Int)
  | _, _, 0 => [[]]
  | 0, _, _ + 1 => []
  | d + 1, lo, k + 1 => (combs d (lo + 1) k).map (lo :: ·) ++ combs d (lo + 1) (k + 1)
theorem combs_zero (d : Nat) (lo : Int) : combs d lo 0 = [[]] := by cases d <;> rfl
theorem combs_none (lo : Int) (k : Nat) : combs 0 lo (k + 1) = [] := rfl
theorem combs_succ (d : Nat) (lo : Int) (k : Nat) : combs (d + 1) lo (k + 1) = (combs d (lo + 1) k).map (lo :: ·) ++ combs d (lo + 1) (k + 1) := rfl
theorem combs_head : ∀ (d : Nat) (lo : Int) (k : Nat), (combs d lo k)[0]? = if k ≤ d then some (runI lo k) else none
  | d, lo, 0 => by rw [combs_zero]; simp [runI]
  | 0, lo, k + 1 => by rw [combs_none]; simp
  | d + 1, lo, k + 1 => by
    rw [combs_succ]
    have h1 := combs_head d (lo + 1) k
    have h2 := combs_head d (lo + 1) (k + 1)
    by_cases hk : k ≤ d
    · rw [if_pos hk] at h1
      rw [if_pos (by omega), List.getElem?_append_left (by have := (List.getElem?_eq_some_iff.1 h1).1; simpa using this), List.getElem?_map, h1]
      rfl
    · rw [if_neg hk] at h1
      rw [if_neg (by omega)] at h2 ⊢
      have e : combs d (lo + 1) k = [] := by
        cases e : combs d (lo + 1) k with
        | nil => rfl
        | cons a r => rw [e] at h1; simp at h1
      rw [e]; simpa using h2
theorem combs_len : ∀ (d : Nat) (lo : Int) (k : Nat) (c : List Int), c ∈ combs d lo k → c.length = k
  | d, lo, 0, c, h => by rw [combs_zero] at h; simp at h; subst h; rfl
  | 0, lo, k + 1, c, h => by rw [combs_none] at h; cases h
  | d + 1, lo, k + 1, c, h => by
    rw [combs_succ] at h
    rcases List.mem_append.1 h with h | h
    · obtain ⟨a, ha, rfl⟩ := List.mem_map.1 h
      rw [List.length_cons, combs_len d (lo + 1) k a ha]
    · exact combs_len d (lo + 1) (k + 1) c h
theorem combs_bd : ∀ (d : Nat) (lo : Int) (k : Nat) (c : List Int), c ∈ combs d lo k → ∀ x ∈ c, lo ≤ x ∧ x < lo + d
  | d, lo, 0, c, h => by rw [combs_zero] at h; simp at h; subst h; simp
  | 0, lo, k + 1, c, h => by rw [combs_none] at h; cases h
  | d + 1, lo, k + 1, c, h => by
    rw [combs_succ] at h
    intro x hx
    rcases List.mem_append.1 h with h | h
    · obtain ⟨a, ha, rfl⟩ := List.mem_map.1 h
      rcases List.mem_cons.1 hx with rfl | hx
      · omega
      · have := combs_bd d (lo + 1) k a ha x hx
        omega
    · have := combs_bd d (lo + 1) (k + 1) c h x hx
      omega
/-- The next choice of numbers below n. -/
def nxt (n : Int) : List Int → Option (List Int)
  | [] => none
  | x :: r => match nxt n r with
    | some r' => some (x :: r')
    | none => if x < n - ((r.length : Int) + 1) then some (runI (x + 1) (r.length + 1)) else none
/-- In the list of all choices each is followed by its next one. -/
theorem combs_nxt : ∀ (d : Nat) (lo : Int) (k i : Nat) (c : List Int), (combs d lo k)[i]? = some c → nxt (lo + d) c = (combs d lo k)[i + 1]?
  | d, lo, 0, i, c, h => by
    rw [combs_zero] at h ⊢
    cases i with
    | zero => simp at h; subst h; rfl
    | succ i => simp at h
  | 0, lo, k + 1, i, c, h => by rw [combs_none] at h; simp at h
  | d + 1, lo, k + 1, i, c, h => by
    have hn : lo + ((d + 1 : Nat) : Int) = (lo + 1) + d := by omega
    rw [hn]
    rw [combs_succ] at h ⊢
    have hmap : ((combs d (lo + 1) k).map (lo :: ·)).length = (combs d (lo + 1) k).length := by simp
    by_cases hi : i < (combs d (lo + 1) k).length
    · rw [List.getElem?_append_left (by rw [hmap]; exact hi), List.getElem?_map] at h
      obtain ⟨a, ha, rfl⟩ := Option.map_eq_some_iff.1 h
      have ih := combs_nxt d (lo + 1) k i a ha
      have hal := combs_len d (lo + 1) k a (List.mem_of_getElem? ha)
      by_cases hi2 : i + 1 < (combs d (lo + 1) k).length
      · have e : (combs d (lo + 1) k)[i + 1]? = some (combs d (lo + 1) k)[i + 1] := List.getElem?_eq_getElem hi2
        rw [List.getElem?_append_left (by rw [hmap]; exact hi2), List.getElem?_map, e]
        rw [e] at ih
        show nxt _ (lo :: a) = _
        unfold nxt
        rw [ih]; rfl
      · rw [List.getElem?_eq_none (by omega)] at ih
        rw [List.getElem?_append_right (by rw [hmap]; omega), hmap, show i + 1 - (combs d (lo + 1) k).length = 0 by omega, combs_head]
        show nxt _ (lo :: a) = _
        unfold nxt
        rw [ih, hal]
        simp only
        by_cases hk : k + 1 ≤ d
        · rw [if_pos hk, if_pos (by omega)]
        · rw [if_neg hk, if_neg (by omega)]
    · rw [List.getElem?_append_right (by rw [hmap]; omega), hmap] at h
      rw [List.getElem?_append_right (by rw [hmap]; omega), hmap, combs_nxt d (lo + 1) (k + 1) _ c h]
      congr 1; omega
theorem nxt_len {n : Int} : ∀ {c r : List Int}, nxt n c = some r → r.length = c.length
  | [], r, h => by cases h
  | x :: c, r, h => by
    unfold nxt at h
    cases e : nxt n c with
    | some r' =>
      rw [e] at h
      simp only [Option.some.injEq] at h
      subst h
      rw [List.length_cons, List.length_cons, nxt_len e]
    | none =>
      rw [e] at h
      simp only at h
      split at h
      · simp only [Option.some.injEq] at h
        subst h
        rw [runI_len, List.length_cons]
      · cases h
/-- Where the numbers behind place i are as great as can be. -/
theorem nxt_at {n : Int} : ∀ (i : Nat) (c : List Int) {x : Int}, c[i]? = some x → nxt n (c.drop (i + 1)) = none → x < n - ((c.length : Int) - i) → nxt n c = some (c.take i ++ runI (x + 1) (c.length - i))
  | 0, [], _, h, _, _ => by simp at h
  | 0, y :: c, x, h, hn, hx => by
    simp at h; subst h
    rw [List.drop_succ_cons, List.drop_zero] at hn
    unfold nxt
    rw [hn]
    simp only [List.length_cons] at hx ⊢
    rw [if_pos (by omega)]
    simp
  | i + 1, [], _, h, _, _ => by simp at h
  | i + 1, y :: c, x, h, hn, hx => by
    simp only [List.length_cons] at hx
    have ih := nxt_at i c (x := x) (by simpa using h) (by simpa using hn) (by omega)
    unfold nxt
    rw [ih]
    simp
theorem nxt_no {n : Int} {i : Nat} {c : List Int} {x : Int} (h : c[i]? = some x) (hn : nxt n (c.drop (i + 1)) = none) (hx : ¬ x < n - ((c.length : Int) - i)) : nxt n (c.drop i) = none := by
  have hi := (List.getElem?_eq_some_iff.1 h).1
  have e : c.drop i = x :: c.drop (i + 1) := by
    rw [List.drop_eq_getElem_cons hi]; congr 1; exact (List.getElem?_eq_some_iff.1 h).2
  rw [e]
  unfold nxt
  rw [hn]
  simp only
  rw [if_neg]
  rw [List.length_drop]
  omega
/-! ### The bits of a set -/
/-- The numbers below k of which f holds. -/
def ftoI (f : Nat → Bool) : Nat → List Int
  | 0 => []
  | k + 1 => ftoI f k ++ (if f k then [(k : Int)] else [])
theorem ftoI_succ (f : Nat → Bool) (k : Nat) : ftoI f (k + 1) = ftoI f k ++ (if f k then [(k : Int)] else []) := rfl
theorem ftoI_len (f : Nat → Bool) : ∀ k, (ftoI f k).length ≤ k
  | 0 => by simp [ftoI]
  | k + 1 => by have := ftoI_len f k; unfold ftoI; split <;> simp <;> omega
theorem ftoI_congr {f g : Nat → Bool} : ∀ {m : Nat}, (∀ k, k < m → f k = g k) → ftoI f m = ftoI g m
  | 0, _ => rfl
  | m + 1, h => by
    unfold ftoI
    rw [ftoI_congr (fun k hk => h k (by omega)), h m (by omega)]
theorem ftoI_bd {f : Nat → Bool} : ∀ {m : Nat} {x : Int}, x ∈ ftoI f m → 0 ≤ x ∧ x < (m : Int)
  | 0, x, h => by simp [ftoI] at h
  | m + 1, x, h => by
    unfold ftoI at h
    rcases List.mem_append.1 h with h | h
    · have := ftoI_bd h; omega
    · split at h
      · simp at h; omega
      · simp at h
theorem ftoI_stop {f : Nat → Bool} {m : Nat} (h : ∀ k, m ≤ k → f k = false) : ∀ d, ftoI f (m + d) = ftoI f m
  | 0 => rfl
  | d + 1 => by
    show ftoI f (m + d + 1) = _
    rw [ftoI_succ, ftoI_stop h d, h (m + d) (by omega)]
    simp
def bitL (s z : Nat) : List Int := ftoI (fun i => z.testBit i) s
def bitsA (s : Nat) : List (List Int) := (List.range (2 ^ s)).map (bitL s)
theorem bitsA_succ (s : Nat) : bitsA (s + 1) = bitsA s ++ (bitsA s).map (· ++ [(s : Int)]) := by
  unfold bitsA
  rw [Nat.pow_succ, Nat.mul_two, List.range_add, List.map_append, List.map_map, List.map_map]
  congr 1
  · apply List.map_congr_left
    intro z hz
    have hz2 := List.mem_range.1 hz
    show ftoI _ (s + 1) = _
    rw [ftoI_succ, Nat.testBit_lt_two_pow hz2]
    simp [bitL]
  · apply List.map_congr_left
    intro z hz
    have hz2 := List.mem_range.1 hz
    show ftoI (fun i => (2 ^ s + z).testBit i) (s + 1) = ftoI _ s ++ _
    rw [ftoI_succ, ftoI_congr (g := fun i => z.testBit i) (fun k hk => by rw [Nat.testBit_two_pow_add_gt hk]), Nat.testBit_two_pow_add_eq, Nat.testBit_lt_two_pow hz2]
    simp
/-- The last number instead of the first. -/
theorem combs_last : ∀ (d : Nat) (lo : Int) (k : Nat) (P : List Int → Bool), (combs (d + 1) lo (k + 1)).countP P = (combs d lo (k + 1)).countP P + (combs d lo k).countP (fun l => P (l ++ [lo + d]))
  | 0, lo, k, P => by
    rw [combs_succ, combs_none, combs_none]
    cases k with
    | zero => simp [combs_zero]
    | succ k => simp [combs_none]
  | d + 1, lo, k, P => by
    have e : (lo + 1) + (d : Int) = lo + ((d + 1 : Nat) : Int) := by omega
    have h2 := combs_last d (lo + 1) k P
    rw [e] at h2
    rw [combs_succ (d + 1) lo k, List.countP_append, h2, combs_succ d lo k, List.countP_append, List.countP_map, List.countP_map]
    cases k with
    | zero =>
      rw [combs_zero, combs_zero, combs_zero]
      simp
      omega
    | succ k =>
      have h1 := combs_last d (lo + 1) k (P ∘ (lo :: ·))
      rw [e] at h1
      rw [h1, combs_succ d lo k, List.countP_append, List.countP_map]
      simp only [Function.comp_def, List.cons_append]
      omega
/-- The sets of k bits are the choices of k numbers. -/
theorem bitsA_combs : ∀ (s k : Nat) (P : List Int → Bool), (bitsA s).countP (fun l => decide (l.length = k) && P l) = (combs s 0 k).countP P
  | 0, k, P => by
    have e : bitsA 0 = [[]] := by simp [bitsA, bitL, ftoI]
    rw [e]
    cases k with
    | zero => rw [combs_zero]; simp
    | succ k => rw [combs_none]; simp
  | s + 1, k, P => by
    rw [bitsA_succ, List.countP_append, List.countP_map, bitsA_combs s k P]
    cases k with
    | zero =>
      rw [combs_zero, combs_zero]
      have : ((bitsA s).countP ((fun l => decide (l.length = 0) && P l) ∘ fun x => x ++ [(s : Int)])) = 0 := by
        rw [List.countP_eq_zero]; intro a _; simp
      rw [this]; omega
    | succ k =>
      have h := combs_last s 0 k P
      rw [h, ← bitsA_combs s k (fun l => P (l ++ [(0 : Int) + s]))]
      congr 1
      apply List.countP_congr
      intro a _
      simp
theorem bitsA_mem {s k : Nat} {c : List Int} : c ∈ combs s 0 k ↔ c ∈ bitsA s ∧ c.length = k := by
  have h := bitsA_combs s k (· == c)
  have h1 : c ∈ combs s 0 k ↔ 0 < (combs s 0 k).countP (· == c) := by
    rw [List.countP_pos_iff]; simp
  rw [h1, ← h, List.countP_pos_iff]
  constructor
  · rintro ⟨a, ha, h2⟩
    simp only [Bool.and_eq_true, decide_eq_true_eq, beq_iff_eq] at h2
    obtain ⟨h3, rfl⟩ := h2
    exact ⟨ha, h3⟩
  · rintro ⟨ha, h2⟩
    exact ⟨c, ha, by simp [h2]⟩
end Go.Proofs.Ytiofckbdjifdpaa
