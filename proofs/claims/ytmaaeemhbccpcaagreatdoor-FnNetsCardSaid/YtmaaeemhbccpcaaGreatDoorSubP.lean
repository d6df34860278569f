/- Parts of a list of links: they are valid where the list is. -/
import Derived.Test.YtmaaeemhbccpcaaGreatDoorReachP
namespace Go.Proofs.YtmaaeemhbccpcaaGreatDoor
open Go.RowKit
theorem befL_trans {a b c : LinkT} (h1 : befL a b = true) (h2 : befL b c = true) : befL a c = true := by
  unfold befL at *
  simp only [Bool.or_eq_true, Bool.and_eq_true, decide_eq_true_eq] at *
  omega
theorem lnkP_iff {m : Int} : ∀ {L : List LinkT} {p : Option LinkT}, lnkP m p L = true ↔ (∀ y ∈ L, lkB m y = true) ∧ L.Pairwise (fun a b => befL a b = true) ∧ ∀ a, p = some a → ∀ y ∈ L, befL a y = true
  | [], p => by simp [lnkP]
  | x :: r, p => by
    unfold lnkP
    rw [Bool.and_eq_true, Bool.and_eq_true, lnkP_iff, List.pairwise_cons]
    constructor
    · rintro ⟨⟨h1, h2⟩, h3, h4, h5⟩
      refine ⟨?_, ⟨fun y hy => h5 x rfl y hy, h4⟩, ?_⟩
      · intro y hy
        rcases List.mem_cons.1 hy with rfl | hy
        · exact h1
        · exact h3 y hy
      · rintro a rfl y hy
        have h2 : befL a x = true := h2
        rcases List.mem_cons.1 hy with rfl | hy
        · exact h2
        · exact befL_trans h2 (h5 x rfl y hy)
    · rintro ⟨h1, ⟨h2, h3⟩, h4⟩
      refine ⟨⟨h1 x (by simp), ?_⟩, fun y hy => h1 y (by simp [hy]), h3, ?_⟩
      · cases p with
        | none => rfl
        | some a => exact h4 a rfl x (by simp)
      · rintro a ha y hy
        simp only [Option.some.injEq] at ha
        subst ha
        exact h2 y hy
theorem netB_sub {T : List TowerT} {L L' : List LinkT} (h : netB (T, L) = true) (hs : L'.Sublist L) : netB (T, L') = true := by
  simp only [netB, Bool.and_eq_true, decide_eq_true_eq] at h ⊢
  obtain ⟨h1, h2, h3, h4⟩ := h
  rw [lnkP_iff] at h4 ⊢
  obtain ⟨a1, a2, a3⟩ := h4
  have := hs.length_le
  exact ⟨h1, by omega, h3, fun y hy => a1 y (hs.subset hy), a2.sublist hs, fun a ha => by cases ha⟩
/-- The links below k whose numbers are wanted. -/
def keepL (u : Nat → Bool) (L : List LinkT) : Nat → List LinkT
  | 0 => []
  | k + 1 => keepL u L k ++ (match L[k]? with | some y => if u k then [y] else [] | none => [])
theorem keepL_succ {u : Nat → Bool} {L : List LinkT} {k : Nat} {y : LinkT} (h : L[k]? = some y) : keepL u L (k + 1) = keepL u L k ++ (if u k then [y] else []) := by
  show keepL u L k ++ _ = _
  rw [h]
theorem keepL_len (u : Nat → Bool) (L : List LinkT) : ∀ k, (keepL u L k).length ≤ k
  | 0 => by simp [keepL]
  | k + 1 => by
    have := keepL_len u L k
    unfold keepL
    rw [List.length_append]
    have h2 : (match L[k]? with | some y => if u k then [y] else [] | none => []).length ≤ 1 := by
      cases L[k]? with
      | none => simp
      | some y => simp only; split <;> simp
    omega
theorem keepL_sub (u : Nat → Bool) (L : List LinkT) : ∀ k, (keepL u L k).Sublist (L.take k)
  | 0 => by simp [keepL]
  | k + 1 => by
    rw [List.take_add_one]
    unfold keepL
    refine (keepL_sub u L k).append ?_
    cases L[k]? with
    | none => simp
    | some y =>
      simp only [Option.toList]
      split
      · exact List.Sublist.refl _
      · exact List.nil_sublist _
theorem keepL_mem {u : Nat → Bool} {L : List LinkT} {y : LinkT} : ∀ {k : Nat}, y ∈ keepL u L k ↔ ∃ j, j < k ∧ L[j]? = some y ∧ u j = true
  | 0 => by simp [keepL]
  | k + 1 => by
    unfold keepL
    rw [List.mem_append, keepL_mem]
    constructor
    · rintro (⟨j, h1, h2, h3⟩ | h)
      · exact ⟨j, by omega, h2, h3⟩
      · cases e : L[k]? with
        | none => rw [e] at h; simp at h
        | some z =>
          rw [e] at h
          simp only at h
          split at h
          · rename_i hu; simp at h; exact ⟨k, by omega, by rw [e, h], hu⟩
          · simp at h
    · rintro ⟨j, h1, h2, h3⟩
      by_cases hj : j < k
      · exact .inl ⟨j, hj, h2, h3⟩
      · have : j = k := by omega
        subst this
        right
        rw [h2]
        simp [h3]
/-- All but one of the links. -/
theorem dropOne_mem {L : List LinkT} {k : Nat} {y : LinkT} : y ∈ L.take k ++ L.drop (k + 1) ↔ ∃ j, L[j]? = some y ∧ (j != k) = true := by
  rw [List.mem_append, List.mem_iff_getElem?, List.mem_iff_getElem?]
  constructor
  · rintro (⟨j, h⟩ | ⟨j, h⟩)
    · rw [List.getElem?_take] at h
      split at h
      · exact ⟨j, h, by simp; omega⟩
      · cases h
    · rw [List.getElem?_drop] at h
      exact ⟨_, h, by simp; omega⟩
  · rintro ⟨j, h, hj⟩
    have hj : j ≠ k := by simpa using hj
    by_cases hlt : j < k
    · exact .inl ⟨j, by rw [List.getElem?_take, if_pos hlt]; exact h⟩
    · exact .inr ⟨j - (k + 1), by rw [List.getElem?_drop]; rw [show k + 1 + (j - (k + 1)) = j by omega]; exact h⟩
theorem dropOne_sub (L : List LinkT) (k : Nat) : (L.take k ++ L.drop (k + 1)).Sublist L := by
  have h := (List.Sublist.refl (L.take k)).append (List.drop_sublist_drop_left L (Nat.le_succ k))
  rwa [List.take_append_drop] at h
end Go.Proofs.YtmaaeemhbccpcaaGreatDoor
