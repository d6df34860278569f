/- The greedy cover in plain Lean: what is left, the best site, and that both ways give the same. -/
import Derived.Test.YtiofckbdjifdpaaNeed
namespace Go.Proofs.Ytiofckbdjifdpaa
open Go.RowKit
/-- Is a spot seen from no chosen site? -/
def unB (xss : List (List Int)) (out : List Int) (s : Int) : Bool := cntL xss out s == 0
def frN (P : Int → Bool) (l : List Int) : Nat := (l.filter P).length
/-- The first site with the most fresh spots, and their number. -/
def gB (P : Int → Bool) : Nat → Int → Nat → List (List Int) → Int × Nat
  | _, b, m, [] => (b, m)
  | k, b, m, l :: r => if m < frN P l then gB P (k + 1) (k : Int) (frN P l) r else gB P (k + 1) b m r
theorem gB_drop {P : Int → Bool} {xs : List (List Int)} {k : Nat} {l : List Int} (h : xs[k]? = some l) (b : Int) (m : Nat) :
    gB P k b m (xs.drop k) = if m < frN P l then gB P (k + 1) (k : Int) (frN P l) (xs.drop (k + 1)) else gB P (k + 1) b m (xs.drop (k + 1)) := by
  have hk : k < xs.length := (List.getElem?_eq_some_iff.1 h).1
  have e : xs.drop k = l :: xs.drop (k + 1) := by
    rw [List.drop_eq_getElem_cons hk]; congr 1; exact (List.getElem?_eq_some_iff.1 h).2
  rw [e]; rfl
/-- The best is not less than the bound it began with, and than any site's. -/
theorem gB_max (P : Int → Bool) : ∀ (xs : List (List Int)) (k : Nat) (b : Int) (m : Nat), m ≤ (gB P k b m xs).2 ∧ ∀ l ∈ xs, frN P l ≤ (gB P k b m xs).2
  | [], k, b, m => by simp [gB]
  | l :: r, k, b, m => by
    unfold gB
    split
    · have h := gB_max P r (k + 1) (k : Int) (frN P l)
      refine ⟨by omega, fun y hy => ?_⟩
      rcases List.mem_cons.1 hy with rfl | hy
      · exact h.1
      · exact h.2 y hy
    · have h := gB_max P r (k + 1) b m
      refine ⟨h.1, fun y hy => ?_⟩
      rcases List.mem_cons.1 hy with rfl | hy
      · omega
      · exact h.2 y hy
/-- Where the bound grew, the best is a site that has so many. -/
theorem gB_site (P : Int → Bool) : ∀ (xs : List (List Int)) (k : Nat) (b : Int) (m : Nat), (gB P k b m xs = (b, m)) ∨ ∃ j l, xs[j]? = some l ∧ gB P k b m xs = (((k + j : Nat) : Int), frN P l) ∧ m < frN P l
  | [], k, b, m => .inl rfl
  | l :: r, k, b, m => by
    unfold gB
    split
    · rename_i h
      rcases gB_site P r (k + 1) (k : Int) (frN P l) with h1 | ⟨j, y, h1, h2, h3⟩
      · exact .inr ⟨0, l, by simp, by rw [h1]; simp, h⟩
      · exact .inr ⟨j + 1, y, by simpa using h1, by rw [h2, show k + 1 + j = k + (j + 1) by omega], by omega⟩
    · rcases gB_site P r (k + 1) b m with h1 | ⟨j, y, h1, h2, h3⟩
      · exact .inl h1
      · exact .inr ⟨j + 1, y, by simpa using h1, by rw [h2, show k + 1 + j = k + (j + 1) by omega], h3⟩
def lfN (xss : List (List Int)) (n : Nat) (out : List Int) : Nat := ((upto n).filter (unB xss out)).length
def greedF (xss : List (List Int)) (n : Nat) : Nat → List Int → Option (List Int)
  | 0, out => if lfN xss n out = 0 then some out else none
  | f + 1, out => if lfN xss n out = 0 then some out else if (gB (unB xss out) 0 0 0 xss).2 = 0 then none else greedF xss n f (out ++ [(gB (unB xss out) 0 0 0 xss).1])
theorem cntL_snoc (xss : List (List Int)) (out : List Int) (i s : Int) : cntL xss (out ++ [i]) s = cntL xss out s + (if (xss.getD i.toNat []).contains s then 1 else 0) := by
  unfold cntL
  rw [List.filter_append, List.length_append, List.filter_cons]
  split <;> simp
theorem cover_left {xss : List (List Int)} {n : Nat} (hs : GoodS xss n) (out : List Int) : coverB xss n out 1 = decide (lfN xss n out = 0) := by
  rw [Bool.eq_iff_iff, decide_eq_true_eq]
  unfold coverB lfN
  rw [List.all_eq_true, List.length_eq_zero_iff, List.filter_eq_nil_iff]
  constructor
  · intro h s hs2 hu
    obtain ⟨k, hk, rfl⟩ := List.mem_map.1 hs2
    have hkn := List.mem_range.1 hk
    have h1 := h _ (List.mem_of_getElem? (timesL_get hs.pn out hkn))
    simp only [unB, beq_iff_eq] at hu
    simp only [decide_eq_true_eq] at h1
    omega
  · intro h x hx
    obtain ⟨k, hk⟩ := List.getElem?_of_mem hx
    have hkn : k < n := by have := (List.getElem?_eq_some_iff.1 hk).1; rwa [timesL_len] at this
    rw [timesL_get hs.pn out hkn] at hk
    simp only [Option.some.injEq] at hk
    have h1 := h (k : Int) (List.mem_map.2 ⟨k, List.mem_range.2 hkn, rfl⟩)
    simp only [unB, beq_iff_eq] at h1
    simp only [decide_eq_true_eq]; omega
theorem filter_part (P Q : Int → Bool) : ∀ U : List Int, (U.filter fun s => P s && !Q s).length + (U.filter fun s => P s && Q s).length = (U.filter P).length
  | [] => rfl
  | x :: r => by
    have h := filter_part P Q r
    simp only [List.filter_cons]
    cases P x <;> cases Q x <;> simp <;> omega
theorem filter_sub {l U : List Int} (hl : l.Nodup) (hU : U.Nodup) (hs : ∀ s ∈ l, s ∈ U) (P : Int → Bool) : (U.filter fun s => P s && l.contains s).length = (l.filter P).length := by
  refine List.Perm.length_eq ((List.perm_ext_iff_of_nodup (hU.filter _) (hl.filter _)).2 fun a => ?_)
  simp only [List.mem_filter, Bool.and_eq_true, List.contains_iff_mem]
  exact ⟨fun h => ⟨h.2.2, h.2.1⟩, fun h => ⟨hs a h.1, h.2, h.1⟩⟩
theorem upto_nodup (n : Nat) : (upto n).Nodup := by
  unfold upto
  rw [List.nodup_iff_pairwise_ne, List.pairwise_map]
  exact (List.nodup_range (n := n)).imp fun h e => h (by omega)
/-- What is left after a site is taken: its fresh spots less. -/
theorem left_step {xss : List (List Int)} {n : Nat} (hs : GoodS xss n) (out : List Int) {i : Int} {l : List Int} (hi : xss[i.toNat]? = some l) :
    lfN xss n (out ++ [i]) + frN (unB xss out) l = lfN xss n out := by
  have hm := List.mem_of_getElem? hi
  have h1 : ∀ s ∈ l, s ∈ upto n := fun s hsl => by
    have h2 := hs.mem l hm s hsl
    exact List.mem_map.2 ⟨s.toNat, List.mem_range.2 (by omega), by omega⟩
  have h3 : unB xss (out ++ [i]) = fun s => unB xss out s && !l.contains s := by
    funext s
    unfold unB
    rw [cntL_snoc, List.getD_eq_getElem?_getD, hi]
    simp only [Option.getD_some]
    by_cases hc : l.contains s = true
    · rw [if_pos hc, hc]; simp
    · rw [if_neg hc, Bool.eq_false_iff.2 hc]; simp
  have h4 := filter_part (unB xss out) (fun s => l.contains s) (upto n)
  rw [filter_sub (hs.nod l hm) (upto_nodup n) h1] at h4
  unfold lfN frN
  rw [h3]
  exact h4
theorem lfN_pos {xss : List (List Int)} {n : Nat} {out : List Int} : lfN xss n out ≠ 0 ↔ ∃ s ∈ upto n, unB xss out s = true := by
  unfold lfN
  rw [Ne, List.length_eq_zero_iff, List.filter_eq_nil_iff]
  simp
theorem unB_false {xss : List (List Int)} {out : List Int} {s : Int} : unB xss out s = false ↔ ∃ i ∈ out, (xss.getD i.toNat []).contains s = true := by
  unfold unB cntL
  rw [beq_eq_false_iff_ne, Ne, List.length_eq_zero_iff, List.filter_eq_nil_iff]
  simp
/-- Where no site has a fresh spot and something is left, the sites do not cover. -/
theorem stuck {xss : List (List Int)} {n : Nat} {out : List Int} (hm : ∀ l ∈ xss, frN (unB xss out) l = 0) (h : lfN xss n out ≠ 0) : lfN xss n (upto xss.length) ≠ 0 := by
  obtain ⟨s, hs, hu⟩ := lfN_pos.1 h
  refine lfN_pos.2 ⟨s, hs, ?_⟩
  cases e : unB xss (upto xss.length) s
  · obtain ⟨i, hi, hc⟩ := unB_false.1 e
    rw [List.getD_eq_getElem?_getD] at hc
    cases hx : xss[i.toNat]? with
    | none => rw [hx] at hc; simp at hc
    | some l =>
      rw [hx] at hc
      have h1 := hm l (List.mem_of_getElem? hx)
      unfold frN at h1
      rw [List.length_eq_zero_iff, List.filter_eq_nil_iff] at h1
      exact absurd hu (h1 s (by simpa using hc))
  · rfl
theorem greed_some {xss : List (List Int)} {n : Nat} (hs : GoodS xss n) (ha : lfN xss n (upto xss.length) = 0) : ∀ (f : Nat) (out : List Int), lfN xss n out ≤ f → ∃ V, greedF xss n f out = some V
  | 0, out, h => ⟨out, by unfold greedF; rw [if_pos (by omega)]⟩
  | f + 1, out, h => by
    unfold greedF
    by_cases h0 : lfN xss n out = 0
    · exact ⟨out, by rw [if_pos h0]⟩
    · rw [if_neg h0]
      have hne : (gB (unB xss out) 0 0 0 xss).2 ≠ 0 := fun e => by
        refine stuck (fun l hl => ?_) h0 ha
        have := (gB_max (unB xss out) xss 0 0 0).2 l hl
        omega
      rw [if_neg hne]
      rcases gB_site (unB xss out) xss 0 0 0 with h1 | ⟨j, l, h1, h2, h3⟩
      · rw [h1] at hne; exact absurd rfl hne
      · refine greed_some hs ha f _ ?_
        have h4 := left_step hs out (i := ((0 + j : Nat) : Int)) (l := l) (by rw [Int.toNat_natCast, Nat.zero_add]; exact h1)
        rw [h2]
        simp only
        omega
theorem nodup_len : ∀ (m : Nat) (M : List Int), M.Nodup → (∀ x ∈ M, 0 ≤ x ∧ x < (m : Int)) → M.length ≤ m
  | 0, M, _, h => by
    cases M with
    | nil => simp
    | cons x r => have := h x (by simp); omega
  | m + 1, M, hn, h => by
    have h1 := nodup_len m (M.erase (m : Int)) (hn.erase _) (fun x hx => by
      have hx2 := List.mem_of_mem_erase hx
      have hne : x ≠ (m : Int) := fun e => by subst e; exact (List.Nodup.not_mem_erase hn) hx
      have := h x hx2
      omega)
    have h2 : M.length ≤ (M.erase (m : Int)).length + 1 := by
      rw [List.length_erase]; split <;> omega
    omega
/-- A chosen site has no fresh spot. -/
theorem fresh_zero {xss : List (List Int)} {out : List Int} {i : Int} {l : List Int} (hi : i ∈ out) (hx : xss[i.toNat]? = some l) : frN (unB xss out) l = 0 := by
  unfold frN
  rw [List.length_eq_zero_iff, List.filter_eq_nil_iff]
  intro s hs
  have h : unB xss out s = false := unB_false.2 ⟨i, hi, by rw [List.getD_eq_getElem?_getD, hx]; simpa using hs⟩
  simp [h]
/-- What is chosen: sites, none twice. -/
structure Picked (xss : List (List Int)) (out : List Int) : Prop where
  nod : out.Nodup
  bd : ∀ i ∈ out, 0 ≤ i ∧ i < (xss.length : Int)
theorem Picked.good {xss : List (List Int)} {out : List Int} (h : Picked xss out) (h12 : xss.length ≤ 12) : GoodC xss.length out :=
  ⟨Nat.le_trans (nodup_len xss.length out h.nod h.bd) h12, h.bd⟩
theorem Picked.add {xss : List (List Int)} {out : List Int} (h : Picked xss out) {j : Nat} {l : List Int} (hj : xss[j]? = some l) (hf : frN (unB xss out) l ≠ 0) : Picked xss (out ++ [(j : Int)]) := by
  have hlt := (List.getElem?_eq_some_iff.1 hj).1
  constructor
  · rw [List.nodup_append]
    refine ⟨h.nod, by simp, fun a ha b hb e => ?_⟩
    simp at hb; subst hb; subst e
    exact hf (fresh_zero ha (by rw [Int.toNat_natCast]; exact hj))
  · intro i hi
    rcases List.mem_append.1 hi with hi | hi
    · exact h.bd i hi
    · simp at hi; subst hi; omega
theorem done_all {xss : List (List Int)} {n : Nat} {out : List Int} (h : Picked xss out) (h0 : lfN xss n out = 0) : lfN xss n (upto xss.length) = 0 := by
  cases e : lfN xss n (upto xss.length) with
  | zero => rfl
  | succ k =>
    exfalso
    obtain ⟨s, hs, hu⟩ := lfN_pos.1 (show lfN xss n (upto xss.length) ≠ 0 by omega)
    cases e1 : unB xss out s
    · obtain ⟨i, hi, hc⟩ := unB_false.1 e1
      have hb := h.bd i hi
      have h2 : unB xss (upto xss.length) s = false := unB_false.2 ⟨i, List.mem_map.2 ⟨i.toNat, List.mem_range.2 (by omega), by omega⟩, hc⟩
      rw [h2] at hu; cases hu
    · exact lfN_pos.2 ⟨s, hs, e1⟩ h0
theorem greed_none {xss : List (List Int)} {n : Nat} (ha : lfN xss n (upto xss.length) ≠ 0) : ∀ (f : Nat) (out : List Int), Picked xss out → greedF xss n f out = none
  | 0, out, h => by unfold greedF; rw [if_neg fun e => ha (done_all h e)]
  | f + 1, out, h => by
    unfold greedF
    rw [if_neg fun e => ha (done_all h e)]
    by_cases hne : (gB (unB xss out) 0 0 0 xss).2 = 0
    · rw [if_pos hne]
    · rw [if_neg hne]
      rcases gB_site (unB xss out) xss 0 0 0 with h1 | ⟨j, l, h1, h2, h3⟩
      · rw [h1] at hne; exact absurd rfl hne
      · rw [h2, Nat.zero_add]
        exact greed_none ha f _ (h.add h1 (by omega))
end Go.Proofs.Ytiofckbdjifdpaa
