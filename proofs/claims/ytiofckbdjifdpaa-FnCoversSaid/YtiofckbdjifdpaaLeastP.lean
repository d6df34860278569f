/- The least cover: both ways to find it, in plain Lean. -/
import Derived.Test.YtiofckbdjifdpaaCombP
namespace Go.Proofs.Ytiofckbdjifdpaa
open Go.RowKit
def lexB : List Int → List Int → Bool
  | a :: r, b :: t => if a = b then lexB r t else decide (a < b)
  | _, _ => false
theorem lexB_irrefl : ∀ l, lexB l l = false
  | [] => rfl
  | a :: r => by unfold lexB; rw [if_pos rfl]; exact lexB_irrefl r
theorem lexB_trans : ∀ {a b c : List Int}, lexB a b = true → lexB b c = true → lexB a c = true
  | [], _, _, h, _ => by simp [lexB] at h
  | x :: a, [], _, h, _ => by simp [lexB] at h
  | x :: a, y :: b, [], _, h => by simp [lexB] at h
  | x :: a, y :: b, z :: c, h1, h2 => by
    unfold lexB at h1 h2 ⊢
    by_cases e1 : x = y
    · rw [if_pos e1] at h1
      by_cases e2 : y = z
      · rw [if_pos e2] at h2
        rw [if_pos (e1.trans e2)]
        exact lexB_trans h1 h2
      · rw [if_neg e2] at h2
        rw [if_neg (by omega)]
        simp only [decide_eq_true_eq] at h2 ⊢
        omega
    · rw [if_neg e1] at h1
      simp only [decide_eq_true_eq] at h1
      by_cases e2 : y = z
      · rw [if_neg (by omega)]
        simp only [decide_eq_true_eq]
        omega
      · rw [if_neg e2] at h2
        simp only [decide_eq_true_eq] at h2
        rw [if_neg (by omega)]
        simp only [decide_eq_true_eq]
        omega
theorem lexB_total : ∀ {a b : List Int}, a.length = b.length → a ≠ b → lexB a b = true ∨ lexB b a = true
  | [], [], _, h => absurd rfl h
  | [], _ :: _, h, _ => by simp at h
  | _ :: _, [], h, _ => by simp at h
  | x :: a, y :: b, hl, hn => by
    unfold lexB
    by_cases e : x = y
    · subst e
      rw [if_pos rfl, if_pos rfl]
      exact lexB_total (by simpa using hl) (fun e => hn (by rw [e]))
    · rw [if_neg e, if_neg (fun h => e h.symm)]
      simp only [decide_eq_true_eq]
      omega
theorem combs_sorted : ∀ (d : Nat) (lo : Int) (k : Nat), (combs d lo k).Pairwise (fun a b => lexB a b = true)
  | d, lo, 0 => by rw [combs_zero]; simp
  | 0, lo, k + 1 => by rw [combs_none]; exact List.Pairwise.nil
  | d + 1, lo, k + 1 => by
    rw [combs_succ, List.pairwise_append, List.pairwise_map]
    refine ⟨(combs_sorted d (lo + 1) k).imp fun h => ?_, combs_sorted d (lo + 1) (k + 1), fun a ha b hb => ?_⟩
    · unfold lexB; rw [if_pos rfl]; exact h
    · obtain ⟨a', _, rfl⟩ := List.mem_map.1 ha
      have hbl := combs_len _ _ _ b hb
      cases b with
      | nil => simp at hbl
      | cons y b =>
        have := combs_bd _ _ _ _ hb y (by simp)
        unfold lexB
        rw [if_neg (by omega)]
        simp only [decide_eq_true_eq]
        omega
def betB (a b : List Int) : Bool := decide (a.length < b.length) || (decide (a.length = b.length) && lexB a b)
theorem betB_irrefl (l : List Int) : betB l l = false := by simp [betB, lexB_irrefl]
theorem betB_iff {a b : List Int} : betB a b = true ↔ a.length < b.length ∨ (a.length = b.length ∧ lexB a b = true) := by
  unfold betB
  rw [Bool.or_eq_true, Bool.and_eq_true, decide_eq_true_eq, decide_eq_true_eq]
theorem betB_trans {a b c : List Int} (h1 : betB a b = true) (h2 : betB b c = true) : betB a c = true := by
  rw [betB_iff] at h1 h2 ⊢
  rcases h1 with h1 | ⟨h1, l1⟩ <;> rcases h2 with h2 | ⟨h2, l2⟩
  · exact .inl (by omega)
  · exact .inl (by omega)
  · exact .inl (by omega)
  · exact .inr ⟨by omega, lexB_trans l1 l2⟩
theorem betB_total {a b : List Int} (h : a ≠ b) : betB a b = true ∨ betB b a = true := by
  rw [betB_iff, betB_iff]
  by_cases h1 : a.length = b.length
  · rcases lexB_total h1 h with h2 | h2
    · exact .inl (.inr ⟨h1, h2⟩)
    · exact .inr (.inr ⟨h1.symm, h2⟩)
  · omega
/-- V is the least list of S of which P holds. -/
structure Lst (P : List Int → Bool) (S : List (List Int)) (V : List Int) : Prop where
  mem : V ∈ S
  ok : P V = true
  min : ∀ U ∈ S, P U = true → U = V ∨ betB V U = true
theorem Lst.eq {P : List Int → Bool} {S : List (List Int)} {V W : List Int} (h : Lst P S V) (k : Lst P S W) : V = W := by
  rcases h.min W k.mem k.ok with e | e
  · exact e.symm
  · rcases k.min V h.mem h.ok with f | f
    · exact f
    · have := betB_trans e f
      rw [betB_irrefl] at this; cases this
def LstO (P : List Int → Bool) (S : List (List Int)) : Option (List Int) → Prop
  | none => ∀ U ∈ S, P U = false
  | some V => Lst P S V
theorem LstO.eq {P : List Int → Bool} {S : List (List Int)} : ∀ {a b : Option (List Int)}, LstO P S a → LstO P S b → a = b
  | none, none, _, _ => rfl
  | none, some V, h, k => by have := h V k.mem; rw [k.ok] at this; cases this
  | some V, none, h, k => by have := k V h.mem; rw [h.ok] at this; cases this
  | some V, some W, h, k => by rw [Lst.eq h k]
def stepF (P : List Int → Bool) (o : Option (List Int)) (c : List Int) : Option (List Int) :=
  if P c && (match o with | none => true | some b => betB c b) then some c else o
def bstF (P : List Int → Bool) : Option (List Int) → List (List Int) → Option (List Int)
  | o, [] => o
  | o, c :: r => bstF P (stepF P o c) r
theorem bstF_drop {P : List Int → Bool} {S : List (List Int)} {k : Nat} {c : List Int} (h : S[k]? = some c) (o : Option (List Int)) : bstF P o (S.drop k) = bstF P (stepF P o c) (S.drop (k + 1)) := by
  have hk := (List.getElem?_eq_some_iff.1 h).1
  have e : S.drop k = c :: S.drop (k + 1) := by
    rw [List.drop_eq_getElem_cons hk]; congr 1; exact (List.getElem?_eq_some_iff.1 h).2
  rw [e]; rfl
theorem LstO.step {P : List Int → Bool} {S : List (List Int)} {c : List Int} : ∀ {o : Option (List Int)}, LstO P S o → LstO P (S ++ [c]) (stepF P o c)
  | none, h => by
    unfold stepF
    cases e : P c
    · rw [Bool.false_and, if_neg (by simp)]
      intro U hU
      rcases List.mem_append.1 hU with hU | hU
      · exact h U hU
      · simp at hU; subst hU; exact e
    · simp only [Bool.true_and, if_true]
      refine ⟨by simp, e, fun U hU hP => ?_⟩
      rcases List.mem_append.1 hU with hU | hU
      · rw [h U hU] at hP; cases hP
      · simp at hU; exact .inl hU
  | some b, h => by
    unfold stepF
    cases e : P c && betB c b
    · rw [if_neg (by simp)]
      refine ⟨by simp [h.mem], h.ok, fun U hU hP => ?_⟩
      rcases List.mem_append.1 hU with hU | hU
      · exact h.min U hU hP
      · simp at hU; subst hU
        rw [hP, Bool.true_and] at e
        by_cases hne : U = b
        · exact .inl hne
        · rcases betB_total hne with h1 | h1
          · rw [e] at h1; cases h1
          · exact .inr h1
    · simp only [if_true]
      simp only [Bool.and_eq_true] at e
      refine ⟨by simp, e.1, fun U hU hP => ?_⟩
      rcases List.mem_append.1 hU with hU | hU
      · rcases h.min U hU hP with h1 | h1
        · subst h1; exact .inr e.2
        · exact .inr (betB_trans e.2 h1)
      · simp at hU; exact .inl hU
theorem bstF_lst {P : List Int → Bool} : ∀ (R S : List (List Int)) {o : Option (List Int)}, LstO P S o → LstO P (S ++ R) (bstF P o R)
  | [], S, o, h => by rw [List.append_nil]; exact h
  | c :: R, S, o, h => by
    have := bstF_lst R (S ++ [c]) h.step
    rw [List.append_assoc] at this
    exact this
/-- The first choice of which P holds, of the fewest numbers. -/
theorem find_lst {P : List Int → Bool} {s k i : Nat} {V : List Int} (hk : ∀ j, j < k → ∀ U ∈ combs s 0 j, P U = false) (hi : (combs s 0 k)[i]? = some V) (hp : P V = true) (hb : ∀ U ∈ (combs s 0 k).take i, P U = false) :
    Lst P (bitsA s) V := by
  have hm := bitsA_mem.1 (List.mem_of_getElem? hi)
  refine ⟨hm.1, hp, fun U hU hPU => ?_⟩
  have hUm : U ∈ combs s 0 U.length := bitsA_mem.2 ⟨hU, rfl⟩
  rcases Nat.lt_trichotomy U.length k with h | h | h
  · have := hk _ h U hUm
    rw [hPU] at this; cases this
  · rw [h] at hUm
    obtain ⟨j, hj⟩ := List.getElem?_of_mem hUm
    rcases Nat.lt_trichotomy j i with h2 | h2 | h2
    · have h3 := hb U (List.mem_of_getElem? (i := j) (by rw [List.getElem?_take, if_pos h2]; exact hj))
      rw [hPU] at h3; cases h3
    · subst h2
      rw [hi] at hj
      exact .inl (Option.some.inj hj).symm
    · refine .inr (betB_iff.2 (.inr ⟨by rw [h]; exact hm.2, ?_⟩))
      have h4 := List.pairwise_iff_getElem.1 (combs_sorted s 0 k) i j (List.getElem?_eq_some_iff.1 hi).1 (List.getElem?_eq_some_iff.1 hj).1 h2
      rw [(List.getElem?_eq_some_iff.1 hi).2, (List.getElem?_eq_some_iff.1 hj).2] at h4
      exact h4
  · exact .inr (betB_iff.2 (.inl (by rw [hm.2]; exact h)))
theorem find_none {P : List Int → Bool} {s : Nat} (h : ∀ j, j ≤ s → ∀ U ∈ combs s 0 j, P U = false) : ∀ U ∈ bitsA s, P U = false := by
  intro U hU
  refine h U.length ?_ U (bitsA_mem.2 ⟨hU, rfl⟩)
  unfold bitsA at hU
  obtain ⟨z, _, rfl⟩ := List.mem_map.1 hU
  exact ftoI_len _ _
end Go.Proofs.Ytiofckbdjifdpaa
