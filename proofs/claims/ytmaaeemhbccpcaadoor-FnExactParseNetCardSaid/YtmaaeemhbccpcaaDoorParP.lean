/- Texts that are read: pieces, numbers, lines; plain. -/
import Derived.Test.YtmaaeemhbccpcaaDoorTextP
namespace Go.Proofs.YtmaaeemhbccpcaaDoor
/-- The pieces between the bytes b. -/
def splitB (b : UInt8) : List UInt8 → List (List UInt8)
  | [] => [[]]
  | c :: r => if c = b then [] :: splitB b r else match splitB b r with
    | [] => [[c]]
    | p :: q => (c :: p) :: q
theorem splitB_cons (b c : UInt8) (r : List UInt8) : splitB b (c :: r) = if c = b then [] :: splitB b r else match splitB b r with
    | [] => [[c]]
    | p :: q => (c :: p) :: q := rfl
theorem splitB_ne (b : UInt8) : ∀ l, splitB b l ≠ []
  | [] => by simp [splitB]
  | c :: r => by
    unfold splitB
    split
    · simp
    · split <;> simp
theorem splitB_none {b : UInt8} : ∀ {p : List UInt8}, b ∉ p → splitB b p = [p]
  | [], _ => rfl
  | c :: r, h => by
    have h1 : c ≠ b := fun e => h (by simp [e])
    have h2 : b ∉ r := fun e => h (by simp [e])
    unfold splitB
    rw [if_neg h1, splitB_none h2]
theorem splitB_cut {b : UInt8} : ∀ {p : List UInt8} (r : List UInt8), b ∉ p → splitB b (p ++ b :: r) = p :: splitB b r
  | [], r, _ => by
    show splitB b (b :: r) = _
    rw [splitB_cons, if_pos rfl]
  | c :: q, r, h => by
    have h1 : c ≠ b := fun e => h (by simp [e])
    have h2 : b ∉ q := fun e => h (by simp [e])
    show splitB b (c :: (q ++ b :: r)) = _
    rw [splitB_cons, if_neg h1, splitB_cut r h2]
theorem splitB_len (b : UInt8) : ∀ l, (splitB b l).length ≤ l.length + 1
  | [] => by simp [splitB]
  | c :: r => by
    have := splitB_len b r
    unfold splitB
    split
    · simp; omega
    · split
      · simp
      · rename_i p q e
        rw [e] at this
        simp at this ⊢; omega
/-- The pieces joined again. -/
theorem splitB_join (b : UInt8) : ∀ l, [b].intercalate (splitB b l) = l
  | [] => rfl
  | c :: r => by
    have ih := splitB_join b r
    have hn := splitB_ne b r
    unfold splitB
    split
    · rename_i e
      subst e
      cases h : splitB c r with
      | nil => exact absurd h hn
      | cons p q =>
        rw [h] at ih
        simp only [List.intercalate, List.intersperse, List.flatten_cons] at ih ⊢
        simp [ih]
    · cases h : splitB b r with
      | nil => exact absurd h hn
      | cons p q =>
        rw [h] at ih
        cases q with
        | nil => simp [List.intercalate] at ih ⊢; rw [ih]
        | cons p2 q2 =>
          simp only [List.intercalate, List.intersperse, List.flatten_cons] at ih ⊢
          rw [List.cons_append, ih]
/-- A digit's byte. -/
theorem dig_mem {n : Int} (h0 : 0 ≤ n) (h1 : n ≤ 999) : ∀ c ∈ numL n, 48 ≤ c.toNat ∧ c.toNat ≤ 57 := by
  have small : ∀ {m : Int}, 0 ≤ m → m < 10 → ∀ c ∈ numL m, 48 ≤ c.toNat ∧ c.toNat ≤ 57 := by
    intro m a b c hc
    rw [numL_small a b] at hc
    rw [List.mem_singleton.1 hc, UInt8.toNat_ofNat']
    omega
  have last : ∀ {m : Int}, 0 ≤ m → ∀ c ∈ [UInt8.ofNat (48 + (m % 10).toNat)], 48 ≤ c.toNat ∧ c.toNat ≤ 57 := by
    intro m a c hc
    rw [List.mem_singleton.1 hc, UInt8.toNat_ofNat']
    omega
  intro c hc
  by_cases a : n < 10
  · exact small h0 a c hc
  · rw [numL_big (by omega)] at hc
    rcases List.mem_append.1 hc with hc | hc
    · by_cases b : n / 10 < 10
      · exact small (by omega) b c hc
      · rw [numL_big (by omega)] at hc
        rcases List.mem_append.1 hc with hc | hc
        · exact small (by omega) (by omega) c hc
        · exact last (by omega) c hc
    · exact last h0 c hc
theorem num_no {n : Int} (h0 : 0 ≤ n) (h1 : n ≤ 999) {b : UInt8} (hb : b.toNat < 48) : b ∉ numL n := fun h => by
  have := (dig_mem h0 h1 b h).1
  omega
/-- A number of at most six digits without leading zeros, or -1. -/
def digB (c : UInt8) : Bool := decide (48 ≤ c.toNat) && decide (c.toNat ≤ 57)
def valL (l : List UInt8) : Int := l.foldl (fun n c => 10 * n + ((c.toNat : Int) - 48)) 0
def rdL (l : List UInt8) : Int :=
  if (decide (1 ≤ l.length) && decide (l.length ≤ 6)) && !(decide (l.head? = some 48) && decide (1 < l.length)) && l.all digB then valL l else -1
theorem val_app (l : List UInt8) (c : UInt8) : valL (l ++ [c]) = 10 * valL l + ((c.toNat : Int) - 48) := by
  unfold valL
  rw [List.foldl_append]; rfl
theorem val_num {n : Int} (h0 : 0 ≤ n) (h1 : n ≤ 999) : valL (numL n) = n := by
  have small : ∀ {m : Int}, 0 ≤ m → m < 10 → valL (numL m) = m := by
    intro m a b
    rw [numL_small a b]
    show 10 * 0 + (((UInt8.ofNat (48 + m.toNat)).toNat : Int) - 48) = m
    rw [UInt8.toNat_ofNat']
    omega
  have step : ∀ {m : Int}, 10 ≤ m → valL (numL (m / 10)) = m / 10 → valL (numL m) = m := by
    intro m a e
    rw [numL_big a, val_app, e, UInt8.toNat_ofNat']
    omega
  by_cases a : n < 10
  · exact small h0 a
  · refine step (by omega) ?_
    by_cases b : n / 10 < 10
    · exact small (by omega) b
    · exact step (by omega) (small (by omega) (by omega))
theorem num_head {n : Int} (h0 : 0 ≤ n) (h1 : n ≤ 999) (hl : 1 < (numL n).length) : (numL n).head? ≠ some 48 := by
  have small : ∀ {m : Int}, 1 ≤ m → m < 10 → ∃ c r, numL m = c :: r ∧ c ≠ 48 := by
    intro m a b
    refine ⟨_, [], numL_small (by omega) b, ?_⟩
    intro e
    have := congrArg UInt8.toNat e
    rw [UInt8.toNat_ofNat'] at this
    have h48 : (48 : UInt8).toNat = 48 := rfl
    omega
  have grow : ∀ {m : Int}, 10 ≤ m → (∃ c r, numL (m / 10) = c :: r ∧ c ≠ 48) → ∃ c r, numL m = c :: r ∧ c ≠ 48 := by
    rintro m a ⟨c, r, e, h⟩
    exact ⟨c, r ++ [_], by rw [numL_big a, e]; rfl, h⟩
  have : ∃ c r, numL n = c :: r ∧ c ≠ 48 := by
    by_cases a : n < 10
    · rw [numL_small h0 a] at hl
      simp at hl
    · refine grow (by omega) ?_
      by_cases b : n / 10 < 10
      · exact small (by omega) b
      · exact grow (by omega) (small (by omega) (by omega))
  obtain ⟨c, r, e, h⟩ := this
  rw [e]
  simp [h]
theorem rd_num {n : Int} (h0 : 0 ≤ n) (h1 : n ≤ 999) : rdL (numL n) = n := by
  have hl := numL_len h0 h1
  have hp : 1 ≤ (numL n).length := by
    by_cases a : n < 10
    · rw [numL_small h0 a]; simp
    · rw [numL_big (by omega)]; simp
  have hd : (numL n).all digB = true := by
    rw [List.all_eq_true]
    intro c hc
    have := dig_mem h0 h1 c hc
    simp [digB, this]
  have hz : (decide ((numL n).head? = some 48) && decide (1 < (numL n).length)) = false := by
    by_cases a : 1 < (numL n).length
    · have := num_head h0 h1 a
      simp [this]
    · simp [a]
  unfold rdL
  rw [hz, hd, decide_eq_true hp, decide_eq_true (show (numL n).length ≤ 6 by omega)]
  simp [val_num h0 h1]
/-- The pieces of a line of a net's text. -/
theorem split_line {w : List UInt8} {a b c : Int} (hw : (32 : UInt8) ∉ w) (ha : 0 ≤ a ∧ a ≤ 999) (hb : 0 ≤ b ∧ b ≤ 999) (hc : 0 ≤ c ∧ c ≤ 999) :
    splitB 32 (w ++ [32] ++ lineL [a, b, c]) = [w, numL a, numL b, numL c] := by
  rw [line3]
  have e : w ++ [32] ++ (numL a ++ [32] ++ numL b ++ [32] ++ numL c) = w ++ 32 :: (numL a ++ 32 :: (numL b ++ 32 :: numL c)) := by simp
  rw [e, splitB_cut _ hw, splitB_cut _ (num_no ha.1 ha.2 (by decide)), splitB_cut _ (num_no hb.1 hb.2 (by decide)), splitB_none (num_no hc.1 hc.2 (by decide))]
end Go.Proofs.YtmaaeemhbccpcaaDoor
