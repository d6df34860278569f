/- What can be reached by links, in plain Lean: the least closed set; sorted lists of numbers. -/
import Derived.Test.YtmaaeemhbccpcaaGreatDoorNext
import Derived.Test.YtmaaeemhbccpcaaGreatDoorPut
namespace Go.Proofs.YtmaaeemhbccpcaaGreatDoor
open Go.RowKit
/-- A set that holds both ends of a link or none. -/
def ClosedL (L : List LinkT) (C : Int → Prop) : Prop := ∀ x ∈ L, (C x.1 ↔ C x.2.1)
/-- j lies in every closed set that holds i. -/
def ReachL (L : List LinkT) (i j : Int) : Prop := ∀ C : Int → Prop, ClosedL L C → C i → C j
theorem ReachL.self (L : List LinkT) (i : Int) : ReachL L i i := fun _ _ h => h
theorem ReachL.step {L : List LinkT} {i : Int} {x : LinkT} (hx : x ∈ L) : ReachL L i x.1 ↔ ReachL L i x.2.1 :=
  ⟨fun h C hc hi => (hc x hx).1 (h C hc hi), fun h C hc hi => (hc x hx).2 (h C hc hi)⟩
theorem ReachL.to {L : List LinkT} {i j : Int} {C : Int → Prop} (h : ReachL L i j) (hc : ClosedL L C) (hi : C i) : C j := h C hc hi
def IsReach (m : Nat) (L : List LinkT) (i : Int) (V : List Int) : Prop := ∃ f : Nat → Bool, V = fupto f m ∧ ∀ k, k < m → (f k = true ↔ ReachL L i k)
theorem fupto_congr {f g : Nat → Bool} : ∀ {m : Nat}, (∀ k, k < m → f k = g k) → fupto f m = fupto g m
  | 0, _ => rfl
  | m + 1, h => by
    unfold fupto
    rw [fupto_congr (fun k hk => h k (by omega)), h m (by omega)]
theorem IsReach.eq {m : Nat} {L : List LinkT} {i : Int} {V : List Int} (h : IsReach m L i V) {g : Nat → Bool} (hg : ∀ k, k < m → (g k = true ↔ ReachL L i k)) : fupto g m = V := by
  obtain ⟨f, rfl, hf⟩ := h
  exact fupto_congr fun k hk => by
    rw [Bool.eq_iff_iff, hg k hk, hf k hk]
theorem exists_reach (m : Nat) (L : List LinkT) (i : Int) : ∃ V, IsReach m L i V := by
  classical
  exact ⟨_, fun k => decide (ReachL L i k), rfl, fun k _ => by simp⟩
/-- The same set of links: the same is reached. -/
theorem ReachL.congr {L L' : List LinkT} (h : ∀ x, x ∈ L ↔ x ∈ L') {i j : Int} : ReachL L i j ↔ ReachL L' i j :=
  ⟨fun r C hc hi => r C (fun x hx => hc x ((h x).1 hx)) hi, fun r C hc hi => r C (fun x hx => hc x ((h x).2 hx)) hi⟩
theorem IsReach.congr {m : Nat} {L L' : List LinkT} (h : ∀ x, x ∈ L ↔ x ∈ L') {i : Int} {V : List Int} (hv : IsReach m L i V) : IsReach m L' i V := by
  obtain ⟨f, e, hf⟩ := hv
  exact ⟨f, e, fun k hk => (hf k hk).trans (ReachL.congr h)⟩
theorem IsReach.len {m : Nat} {L : List LinkT} {i : Int} {V : List Int} (h : IsReach m L i V) : V.length ≤ m := by
  obtain ⟨f, rfl, _⟩ := h
  exact fupto_len f m

/-! ### Sorted lists -/
def SortedI : List Int → Prop
  | [] => True
  | x :: r => (∀ y ∈ r, x < y) ∧ SortedI r
theorem fupto_mem {f : Nat → Bool} : ∀ {m : Nat} {x : Int}, x ∈ fupto f m ↔ ∃ k, k < m ∧ f k = true ∧ x = (k : Int)
  | 0, x => by simp [fupto]
  | m + 1, x => by
    unfold fupto
    rw [List.mem_append, fupto_mem]
    constructor
    · rintro (⟨k, h1, h2, h3⟩ | h)
      · exact ⟨k, by omega, h2, h3⟩
      · split at h
        · rename_i hf; simp at h; exact ⟨m, by omega, hf, h⟩
        · simp at h
    · rintro ⟨k, h1, h2, h3⟩
      by_cases hk : k < m
      · exact .inl ⟨k, hk, h2, h3⟩
      · have : k = m := by omega
        subst this
        exact .inr (by rw [if_pos h2, h3]; simp)
theorem sorted_snoc {x : Int} : ∀ {L : List Int}, SortedI L → (∀ y ∈ L, y < x) → SortedI (L ++ [x])
  | [], _, _ => ⟨by simp, trivial⟩
  | y :: r, h, hl => by
    refine ⟨fun z hz => ?_, sorted_snoc h.2 (fun z hz => hl z (by simp [hz]))⟩
    rcases List.mem_append.1 hz with hz | hz
    · exact h.1 z hz
    · simp at hz; subst hz; exact hl y (by simp)
theorem fupto_sorted (f : Nat → Bool) : ∀ m, SortedI (fupto f m)
  | 0 => trivial
  | m + 1 => by
    unfold fupto
    split
    · exact sorted_snoc (fupto_sorted f m) fun y hy => by obtain ⟨k, h1, _, rfl⟩ := fupto_mem.1 hy; omega
    · rw [List.append_nil]; exact fupto_sorted f m
theorem sorted_ext : ∀ {A B : List Int}, SortedI A → SortedI B → (∀ x, x ∈ A ↔ x ∈ B) → A = B
  | [], [], _, _, _ => rfl
  | [], b :: B, _, _, h => by have := (h b).2 (by simp); cases this
  | a :: A, [], _, _, h => by have := (h a).1 (by simp); cases this
  | a :: A, b :: B, hA, hB, h => by
    have hab : a = b := by
      rcases List.mem_cons.1 ((h a).1 (by simp)) with e | h1
      · exact e
      · rcases List.mem_cons.1 ((h b).2 (by simp)) with e | h2
        · exact e.symm
        · have := hB.1 a h1; have := hA.1 b h2; omega
    subst hab
    congr 1
    refine sorted_ext hA.2 hB.2 fun x => ⟨fun hx => ?_, fun hx => ?_⟩
    · rcases List.mem_cons.1 ((h x).1 (by simp [hx])) with e | h1
      · have := hA.1 x hx; omega
      · exact h1
    · rcases List.mem_cons.1 ((h x).2 (by simp [hx])) with e | h1
      · have := hB.1 x hx; omega
      · exact h1
theorem insL_cons (y : Int) (r : List Int) (n : Int) : insL (y :: r) n = if y < n then y :: insL r n else if y = n then y :: r else n :: y :: r := by
  by_cases h : y < n
  · rw [if_pos h]
    have hp : putAt n (y :: r) = putAt n r + 1 := by rw [show putAt n (y :: r) = if y < n then putAt n r + 1 else 0 from rfl, if_pos h]
    unfold insL
    rw [hp, List.getElem?_cons_succ, List.take_succ_cons, List.drop_succ_cons]
    split
    · rfl
    · rfl
  · rw [if_neg h]
    have hp : putAt n (y :: r) = 0 := by rw [show putAt n (y :: r) = if y < n then putAt n r + 1 else 0 from rfl, if_neg h]
    unfold insL
    rw [hp, List.getElem?_cons_zero]
    by_cases h2 : y = n
    · rw [if_pos (by rw [h2]), if_pos h2]
    · rw [if_neg (by simpa using h2), if_neg h2]; rfl
theorem insL_mem {n : Int} : ∀ {L : List Int} {x : Int}, x ∈ insL L n ↔ x = n ∨ x ∈ L
  | [], x => by simp [insL, putAt]
  | y :: r, x => by
    rw [insL_cons]
    split
    · rw [List.mem_cons, insL_mem, List.mem_cons]
      constructor
      · rintro (h | h | h)
        · exact .inr (.inl h)
        · exact .inl h
        · exact .inr (.inr h)
      · rintro (h | h | h)
        · exact .inr (.inl h)
        · exact .inl h
        · exact .inr (.inr h)
    · split
      · rename_i h; subst h
        simp
      · simp
theorem insL_sorted {n : Int} : ∀ {L : List Int}, SortedI L → SortedI (insL L n)
  | [], _ => ⟨by simp, trivial⟩
  | y :: r, h => by
    rw [insL_cons]
    split
    · rename_i hy
      refine ⟨fun z hz => ?_, insL_sorted h.2⟩
      rcases insL_mem.1 hz with rfl | hz
      · exact hy
      · exact h.1 z hz
    · split
      · exact h
      · rename_i h1 h2
        refine ⟨fun z hz => ?_, h⟩
        rcases List.mem_cons.1 hz with rfl | hz
        · omega
        · have := h.1 z hz; omega
theorem fold_ins {M : List Int} : ∀ {L : List Int}, SortedI L → SortedI (M.foldl insL L) ∧ ∀ x, x ∈ M.foldl insL L ↔ x ∈ M ∨ x ∈ L := by
  induction M with
  | nil => intro L h; exact ⟨h, fun x => by simp⟩
  | cons y r ih =>
    intro L h
    obtain ⟨h1, h2⟩ := ih (insL_sorted (n := y) h)
    refine ⟨h1, fun x => ?_⟩
    rw [List.foldl_cons, h2, insL_mem, List.mem_cons]
    constructor
    · rintro (h | h | h)
      · exact .inl (.inr h)
      · exact .inl (.inl h)
      · exact .inr h
    · rintro ((h | h) | h)
      · exact .inr (.inl h)
      · exact .inl h
      · exact .inr (.inr h)
theorem insL_len (L : List Int) (n : Int) : (insL L n).length ≤ L.length + 1 := by
  unfold insL
  split
  · omega
  · simp; have := putAt_le n L; omega
/-- The search's list, put in order. -/
theorem reach_of_list {m : Nat} {L : List LinkT} {i : Int} {V M : List Int} (hv : IsReach m L i V) (hi : i ∈ M) (hb : ∀ x ∈ M, 0 ≤ x ∧ x < (m : Int)) (hs : ∀ x ∈ M, ReachL L i x)
    (hc : ClosedL L (· ∈ M)) : M.foldl insL [] = V := by
  obtain ⟨h1, h2⟩ := fold_ins (M := M) (L := []) trivial
  obtain ⟨f, rfl, hf⟩ := hv
  refine sorted_ext h1 (fupto_sorted f m) fun x => ?_
  rw [h2, fupto_mem]
  constructor
  · rintro (hx | hx)
    · obtain ⟨b1, b2⟩ := hb x hx
      refine ⟨x.toNat, by omega, (hf _ (by omega)).2 ?_, by omega⟩
      rw [show ((x.toNat : Nat) : Int) = x by omega]; exact hs x hx
    · cases hx
  · rintro ⟨k, hk, hfk, rfl⟩
    exact .inl (((hf k hk).1 hfk).to hc hi)
/-- A nodup list of numbers below m is no longer than m. -/
theorem nodup_len : ∀ (m : Nat) (M : List Int), M.Nodup → (∀ x ∈ M, 0 ≤ x ∧ x < (m : Int)) → M.length ≤ m
  | 0, M, _, h => by
    cases M with
    | nil => simp
    | cons x r => have := h x (by simp); omega
  | m + 1, M, hn, h => by
    have h1 := nodup_len m (M.erase (m : Int)) (hn.erase _) (fun x hx => by
      have hx2 := List.mem_of_mem_erase hx
      have hne : x ≠ (m : Int) := fun e => by subst e; exact (List.Nodup.not_mem_erase hn) hx
      have := h x hx2
      omega)
    have h2 : M.length ≤ (M.erase (m : Int)).length + 1 := by
      rw [List.length_erase]; split <;> omega
    omega
theorem nbF_iff {x : NetT} {i : Int} {k : Nat} : nbF x i k = true ↔ ∃ y ∈ x.2, (y.1 = i ∧ y.2.1 = k) ∨ (y.1 = k ∧ y.2.1 = i) := by
  unfold nbF
  rw [decide_eq_true_eq]
  have key : ∀ (L : List LinkT) (s : Nat), 0 ≤ idxG (lkEq2 i k) s L ↔ ∃ y ∈ L, lkEq2 i k y = true := by
    intro L
    induction L with
    | nil => intro s; simp [idxG]
    | cons y r ih =>
      intro s
      unfold idxG
      by_cases h : lkEq2 i k y = true
      · rw [if_pos h]
        exact ⟨fun _ => ⟨y, by simp, h⟩, fun _ => by omega⟩
      · rw [if_neg h, ih (s + 1)]
        constructor
        · rintro ⟨z, hz, hz2⟩; exact ⟨z, by simp [hz], hz2⟩
        · rintro ⟨z, hz, hz2⟩
          rcases List.mem_cons.1 hz with rfl | hz
          · exact absurd hz2 h
          · exact ⟨z, hz, hz2⟩
  rw [key]
  constructor
  · rintro ⟨y, hy, h⟩
    refine ⟨y, hy, ?_⟩
    simp only [lkEq2, Bool.or_eq_true, Bool.and_eq_true, beq_iff_eq] at h
    exact h
  · rintro ⟨y, hy, h⟩
    refine ⟨y, hy, ?_⟩
    simp only [lkEq2, Bool.or_eq_true, Bool.and_eq_true, beq_iff_eq]
    exact h
end Go.Proofs.YtmaaeemhbccpcaaGreatDoor
