/- Sites and covers in plain Lean: how often each spot is seen; no program in sight. -/
import Derived.Test.YtiofckbdjifdpaaWord
namespace Go.Proofs.Ytiofckbdjifdpaa
open Go.RowKit

/-! ### Strictly increasing lists -/
def incP : Option Int → List Int → Bool
  | _, [] => true
  | p, x :: r => (match p with | none => true | some a => decide (a < x)) && incP (some x) r
def pvI (xs : List Int) (k : Nat) : Option Int := if k = 0 then none else xs[k - 1]?
theorem pvI_succ {xs : List Int} {k : Nat} {x : Int} (h : xs[k]? = some x) : pvI xs (k + 1) = some x := by simp [pvI, h]
theorem incP_drop {xs : List Int} {k : Nat} {x : Int} (h : xs[k]? = some x) :
    incP (pvI xs k) (xs.drop k) = ((match pvI xs k with | none => true | some a => decide (a < x)) && incP (pvI xs (k + 1)) (xs.drop (k + 1))) := by
  have hk : k < xs.length := (List.getElem?_eq_some_iff.1 h).1
  have e : xs.drop k = x :: xs.drop (k + 1) := by
    rw [List.drop_eq_getElem_cons hk]; congr 1; exact (List.getElem?_eq_some_iff.1 h).2
  rw [e, pvI_succ h]
  cases pvI xs k <;> rfl
theorem incP_one (xs : List Int) : incP none xs = incP (pvI xs 1) (xs.drop 1) := by
  cases xs with
  | nil => rfl
  | cons x r => simp [incP, pvI]
/-- Within lo..hi and strictly increasing. -/
def risB (lo hi : Int) (xs : List Int) : Bool := allB lo hi xs && incP none xs
def risP (lo hi : Int) : Option Int → List Int → Bool
  | _, [] => true
  | p, x :: r => (inB lo hi x && (match p with | none => true | some a => decide (a < x))) && risP lo hi (some x) r
theorem risP_eq (lo hi : Int) : ∀ (xs : List Int) (p : Option Int), risP lo hi p xs = (allB lo hi xs && incP p xs)
  | [], p => rfl
  | x :: r, p => by
    have h := risP_eq lo hi r (some x)
    unfold allB at *
    simp only [risP, incP, List.all_cons, h]
    cases inB lo hi x <;> cases (r.all (inB lo hi)) <;> simp
theorem risP_drop {lo hi : Int} {xs : List Int} {k : Nat} {x : Int} (h : xs[k]? = some x) :
    risP lo hi (pvI xs k) (xs.drop k) = ((inB lo hi x && (match pvI xs k with | none => true | some a => decide (a < x))) && risP lo hi (pvI xs (k + 1)) (xs.drop (k + 1))) := by
  have hk : k < xs.length := (List.getElem?_eq_some_iff.1 h).1
  have e : xs.drop k = x :: xs.drop (k + 1) := by
    rw [List.drop_eq_getElem_cons hk]; congr 1; exact (List.getElem?_eq_some_iff.1 h).2
  rw [e, pvI_succ h]
  cases pvI xs k <;> rfl
theorem incP_gt : ∀ {xs : List Int} {a : Int}, incP (some a) xs = true → ∀ x ∈ xs, a < x
  | [], a, _, x, hx => by cases hx
  | y :: r, a, h, x, hx => by
    simp only [incP, Bool.and_eq_true, decide_eq_true_eq] at h
    rcases List.mem_cons.1 hx with rfl | hx
    · exact h.1
    · have := incP_gt h.2 x hx; omega
theorem incP_some_none {xs : List Int} {a : Int} (h : incP (some a) xs = true) : incP none xs = true := by
  cases xs with
  | nil => rfl
  | cons x r => simp only [incP, Bool.and_eq_true] at h ⊢; exact ⟨trivial, h.2⟩
theorem incP_nodup : ∀ {xs : List Int}, incP none xs = true → xs.Nodup
  | [], _ => List.nodup_nil
  | x :: r, h => by
    simp only [incP, Bool.true_and] at h
    refine List.nodup_cons.2 ⟨fun hx => ?_, incP_nodup (incP_some_none h)⟩
    have := incP_gt h x hx; omega
theorem incP_len : ∀ {xs : List Int} {a b : Int}, incP (some a) xs = true → (∀ x ∈ xs, x ≤ b) → a ≤ b → (xs.length : Int) ≤ b - a
  | [], a, b, _, _, h => by simp; omega
  | x :: r, a, b, h, hb, hab => by
    simp only [incP, Bool.and_eq_true, decide_eq_true_eq] at h
    have h1 := incP_len h.2 (fun y hy => hb y (by simp [hy])) (hb x (by simp))
    simp only [List.length_cons]; omega
theorem risB_len {lo hi : Int} {xs : List Int} (h : risB lo hi xs = true) (hl : lo - 1 ≤ hi) : (xs.length : Int) ≤ hi - lo + 1 := by
  simp only [risB, Bool.and_eq_true] at h
  cases xs with
  | nil => simp; omega
  | cons x r =>
    have hb : ∀ y ∈ x :: r, lo ≤ y ∧ y ≤ hi := fun y hy => allB_mem h.1 hy
    have h2 : incP (some x) r = true := by simpa [incP] using h.2
    have h3 := incP_len h2 (fun y hy => (hb y (by simp [hy])).2) (hb x (by simp)).2
    have h4 := (hb x (by simp)).1
    simp only [List.length_cons]; omega

/-! ### Sites -/
def sitesB (xss : List (List Int)) (n : Int) : Bool := inB 1 16 n && (inB 1 12 xss.length && xss.all (risB 0 (n - 1)))
def chosenB (xss : List (List Int)) (n : Int) (ch : List Int) : Bool := sitesB xss n && risB 0 ((xss.length : Int) - 1) ch

/-! ### How often each spot is seen -/
def bump (T : List Int) (s : Int) : List Int := T.set s.toNat (T.getD s.toNat 0 + 1)
def bumps (T l : List Int) : List Int := l.foldl bump T
def timesF (xss : List (List Int)) (T ch : List Int) : List Int := ch.foldl (fun T i => bumps T (xss.getD i.toNat [])) T
def timesL (xss : List (List Int)) (n : Nat) (ch : List Int) : List Int := timesF xss (List.replicate n 0) ch
theorem bump_len (T : List Int) (s : Int) : (bump T s).length = T.length := by simp [bump]
theorem bumps_len (l : List Int) : ∀ T, (bumps T l).length = T.length := by
  induction l with
  | nil => intro T; rfl
  | cons x r ih => intro T; rw [show bumps T (x :: r) = bumps (bump T x) r from rfl, ih, bump_len]
theorem timesF_len (xss : List (List Int)) (ch : List Int) : ∀ T, (timesF xss T ch).length = T.length := by
  induction ch with
  | nil => intro T; rfl
  | cons x r ih => intro T; rw [show timesF xss T (x :: r) = timesF xss (bumps T (xss.getD x.toNat [])) r from rfl, ih, bumps_len]
theorem bumps_snoc {T l : List Int} {k : Nat} {x : Int} (h : l[k]? = some x) : bumps T (l.take (k + 1)) = bump (bumps T (l.take k)) x := by
  rw [take_snoc' h]; simp [bumps]
theorem timesF_snoc {xss : List (List Int)} {T ch : List Int} {k : Nat} {x : Int} (h : ch[k]? = some x) : timesF xss T (ch.take (k + 1)) = bumps (timesF xss T (ch.take k)) (xss.getD x.toNat []) := by
  rw [take_snoc' h]; simp [timesF]
def bdL (B : Int) (T : List Int) : Prop := ∀ x ∈ T, 0 ≤ x ∧ x ≤ B
theorem bdL.get {B : Int} {T : List Int} (h : bdL B T) {k : Nat} {x : Int} (hx : T[k]? = some x) : 0 ≤ x ∧ x ≤ B := h x (List.mem_of_getElem? hx)
theorem bdL.mono {B C : Int} {T : List Int} (h : bdL B T) (hc : B ≤ C) : bdL C T := fun x hx => by have := h x hx; omega
theorem bump_bd {B : Int} {T : List Int} (h : bdL B T) (h0 : 0 ≤ B) (s : Int) : bdL (B + 1) (bump T s) := by
  intro x hx
  rcases List.mem_or_eq_of_mem_set hx with hx | rfl
  · have := h x hx; omega
  · rw [List.getD_eq_getElem?_getD]
    cases e : T[s.toNat]? with
    | none => simp; omega
    | some y => have := h.get e; simp; omega
/-- How many of the chosen sites see a spot. -/
def cntL (xss : List (List Int)) (ch : List Int) (s : Int) : Nat := (ch.filter fun i => (xss.getD i.toNat []).contains s).length
theorem bump_get {T : List Int} {s : Int} {k : Nat} (h0 : 0 ≤ s) (hk : k < T.length) : (bump T s).getD k 0 = T.getD k 0 + (if (k : Int) = s then 1 else 0) := by
  unfold bump
  rw [List.getD_eq_getElem?_getD, List.getElem?_set, List.getD_eq_getElem?_getD]
  by_cases e : s.toNat = k
  · subst e
    rw [if_pos rfl, if_pos hk, if_pos (by omega)]; simp
  · rw [if_neg e, if_neg (by omega)]; simp
theorem bumps_get : ∀ (l : List Int) (T : List Int) (k : Nat), (∀ s ∈ l, 0 ≤ s) → l.Nodup → k < T.length → (bumps T l).getD k 0 = T.getD k 0 + (if l.contains (k : Int) then 1 else 0)
  | [], T, k, _, _, _ => by simp [bumps]
  | x :: r, T, k, h0, hn, hk => by
    obtain ⟨n1, n2⟩ := List.nodup_cons.1 hn
    rw [show bumps T (x :: r) = bumps (bump T x) r from rfl, bumps_get r (bump T x) k (fun s hs => h0 s (by simp [hs])) n2 (by rw [bump_len]; exact hk), bump_get (h0 x (by simp)) hk]
    by_cases e : (k : Int) = x
    · subst e
      have : r.contains (k : Int) = false := by simpa using n1
      have n2' : ¬ (k : Int) ∈ r := n1
      simp [n2']
    · have e2 : ¬ x = (k : Int) := fun h => e h.symm
      simp [e]
theorem timesF_get {xss : List (List Int)} (h0 : ∀ l ∈ xss, (∀ s ∈ l, 0 ≤ s) ∧ l.Nodup) : ∀ (ch : List Int) (T : List Int) (k : Nat), k < T.length → (timesF xss T ch).getD k 0 = T.getD k 0 + (cntL xss ch k : Nat)
  | [], T, k, _ => by simp [timesF, cntL]
  | x :: r, T, k, hk => by
    have hx : (∀ s ∈ xss.getD x.toNat [], 0 ≤ s) ∧ (xss.getD x.toNat []).Nodup := by
      rw [List.getD_eq_getElem?_getD]
      cases e : xss[x.toNat]? with
      | none => simp
      | some y => exact h0 y (List.mem_of_getElem? e)
    rw [show timesF xss T (x :: r) = timesF xss (bumps T (xss.getD x.toNat [])) r from rfl, timesF_get h0 r _ k (by rw [bumps_len]; exact hk), bumps_get _ _ _ hx.1 hx.2 hk]
    unfold cntL
    rw [List.filter_cons]
    split <;> simp_all <;> omega
theorem timesL_len (xss : List (List Int)) (n : Nat) (ch : List Int) : (timesL xss n ch).length = n := by rw [timesL, timesF_len, List.length_replicate]
theorem timesL_get {xss : List (List Int)} (h0 : ∀ l ∈ xss, (∀ s ∈ l, 0 ≤ s) ∧ l.Nodup) {n : Nat} (ch : List Int) {k : Nat} (hk : k < n) : (timesL xss n ch)[k]? = some ((cntL xss ch k : Nat) : Int) := by
  have h := timesF_get h0 ch (List.replicate n 0) k (by simpa using hk)
  have hl : k < (timesL xss n ch).length := by rw [timesL_len]; exact hk
  rw [List.getElem?_eq_getElem hl]
  rw [List.getD_eq_getElem?_getD, show timesF xss (List.replicate n 0) ch = timesL xss n ch from rfl, List.getElem?_eq_getElem hl] at h
  simp only [Option.getD_some] at h
  rw [h]
  simp [List.getD_eq_getElem?_getD, hk]
theorem cntL_le (xss : List (List Int)) (ch : List Int) (s : Int) : cntL xss ch s ≤ ch.length := List.length_filter_le _ _
/-- The facts that valid sites give. -/
structure GoodS (xss : List (List Int)) (n : Nat) : Prop where
  n1 : 1 ≤ n
  n16 : n ≤ 16
  s1 : 1 ≤ xss.length
  s12 : xss.length ≤ 12
  len : ∀ l ∈ xss, l.length ≤ 16
  mem : ∀ l ∈ xss, ∀ s ∈ l, 0 ≤ s ∧ s < (n : Int)
  nod : ∀ l ∈ xss, l.Nodup
theorem GoodS.of {xss : List (List Int)} {n : Int} (h : sitesB xss n = true) : ∃ m : Nat, n = m ∧ GoodS xss m := by
  simp only [sitesB, Bool.and_eq_true, List.all_eq_true] at h
  obtain ⟨h1, h2, h3⟩ := h
  have h1 := inB_t h1
  have h2 := inB_t h2
  refine ⟨n.toNat, by omega, by omega, by omega, by omega, by omega, fun l hl => ?_, fun l hl s hs => ?_, fun l hl => ?_⟩
  · have := risB_len (h3 l hl) (by omega); omega
  · have h4 := h3 l hl
    simp only [risB, Bool.and_eq_true] at h4
    have := allB_mem h4.1 hs; omega
  · have h4 := h3 l hl
    simp only [risB, Bool.and_eq_true] at h4
    exact incP_nodup h4.2
theorem GoodS.pn {xss : List (List Int)} {n : Nat} (h : GoodS xss n) : ∀ l ∈ xss, (∀ s ∈ l, 0 ≤ s) ∧ l.Nodup := fun l hl => ⟨fun s hs => (h.mem l hl s hs).1, h.nod l hl⟩
/-- Chosen sites: numbers of sites, not too many. -/
structure GoodC (m : Nat) (ch : List Int) : Prop where
  len : ch.length ≤ 12
  mem : ∀ i ∈ ch, 0 ≤ i ∧ i < (m : Int)
theorem GoodC.of {xss : List (List Int)} {ch : List Int} (h : risB 0 ((xss.length : Int) - 1) ch = true) (h12 : xss.length ≤ 12) : GoodC xss.length ch := by
  refine ⟨?_, fun i hi => ?_⟩
  · have := risB_len h (by omega); omega
  · simp only [risB, Bool.and_eq_true] at h
    have := allB_mem h.1 hi; omega
def coverB (xss : List (List Int)) (n : Nat) (ch : List Int) (t : Int) : Bool := (timesL xss n ch).all fun x => decide (t ≤ x)
theorem cover_12 {xss : List (List Int)} {n : Nat} (hs : GoodS xss n) {ch : List Int} (hl : ch.length ≤ 12) (t : Int) : allB t 12 (timesL xss n ch) = coverB xss n ch t := by
  unfold allB coverB
  suffices hall : ∀ x ∈ timesL xss n ch, inB t 12 x = decide (t ≤ x) by
    rw [Bool.eq_iff_iff, List.all_eq_true, List.all_eq_true]
    exact ⟨fun h x hx => (hall x hx) ▸ h x hx, fun h x hx => (hall x hx).symm ▸ h x hx⟩
  intro x hx
  obtain ⟨k, hk⟩ := List.getElem?_of_mem hx
  have hkn : k < n := by have := (List.getElem?_eq_some_iff.1 hk).1; rwa [timesL_len] at this
  rw [timesL_get hs.pn ch hkn] at hk
  have := cntL_le xss ch k
  simp only [Option.some.injEq] at hk
  unfold inB
  have : decide (x ≤ 12) = true := by simp; omega
  rw [this, Bool.and_true]
end Go.Proofs.Ytiofckbdjifdpaa
