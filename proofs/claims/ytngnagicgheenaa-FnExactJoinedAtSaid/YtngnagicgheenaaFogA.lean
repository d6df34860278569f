/- What is asked of fogs: clear seconds, starts, sums: in plain Lean. -/
import Derived.Test.YtngnagicgheenaaFog
namespace Go.Proofs.Ytngnagicgheenaa
open Go.RowKit
def inFog (link t : Int) (x : FogT) : Bool := (x.1 == link) && (decide (x.2.1 ≤ t) && decide (t < x.2.2))
def clB (F : List FogT) (link t : Int) : Bool := F.all fun x => !inFog link t x
theorem all_dropF {f : FogT → Bool} {xss : List FogT} {k : Nat} {x : FogT} (h : xss[k]? = some x) : (xss.drop k).all f = (f x && (xss.drop (k + 1)).all f) := by
  have hk : k < xss.length := (List.getElem?_eq_some_iff.1 h).1
  have e : xss.drop k = x :: xss.drop (k + 1) := by
    rw [List.drop_eq_getElem_cons hk]; congr 1; exact (List.getElem?_eq_some_iff.1 h).2
  rw [e, List.all_cons]
/-- The first second from t on from which a link is clear for s seconds. -/
def stF (link s : Int) : Int → List FogT → Int
  | t, [] => t
  | t, x :: r => stF link s (if x.1 = link ∧ t < x.2.2 ∧ x.2.1 < t + s then x.2.2 else t) r
theorem stF_drop {link s : Int} {xs : List FogT} {k : Nat} {x : FogT} (h : xs[k]? = some x) (t : Int) :
    stF link s t (xs.drop k) = stF link s (if x.1 = link ∧ t < x.2.2 ∧ x.2.1 < t + s then x.2.2 else t) (xs.drop (k + 1)) := by
  have hk : k < xs.length := (List.getElem?_eq_some_iff.1 h).1
  have e : xs.drop k = x :: xs.drop (k + 1) := by
    rw [List.drop_eq_getElem_cons hk]; congr 1; exact (List.getElem?_eq_some_iff.1 h).2
  rw [e]; rfl
/-- The seconds of a fog on a link in a range. -/
def secT (link a b : Int) (x : FogT) : Int := if x.1 = link then max 0 (min x.2.2 b - max x.2.1 a) else 0
def secF (link a b : Int) : List FogT → Int
  | [] => 0
  | x :: r => secT link a b x + secF link a b r
theorem secF_snoc (link a b : Int) (x : FogT) : ∀ L : List FogT, secF link a b (L ++ [x]) = secF link a b L + secT link a b x
  | [] => by simp [secF]
  | y :: r => by
    show secT link a b y + secF link a b (r ++ [x]) = secT link a b y + secF link a b r + _
    rw [secF_snoc link a b x r]; omega
theorem secF_take {link a b : Int} {F : List FogT} {k : Nat} {x : FogT} (h : F[k]? = some x) : secF link a b (F.take (k + 1)) = secF link a b (F.take k) + secT link a b x := by
  rw [take_snoc' h, secF_snoc]
theorem secT_bd {m link a b : Int} {x : FogT} (h : FgB m x) : 0 ≤ secT link a b x ∧ secT link a b x ≤ 10000 := by
  have h1 := h.f0; have h2 := h.ft; have h3 := h.t1
  unfold secT
  split
  · constructor <;> omega
  · omega
theorem secF_bd {m link a b : Int} : ∀ {F : List FogT}, (∀ x ∈ F, fgB m x = true) → 0 ≤ secF link a b F ∧ secF link a b F ≤ 10000 * F.length
  | [], _ => by simp [secF]
  | x :: r, h => by
    have h1 := secT_bd (link := link) (a := a) (b := b) (fgB_iff.1 (h x (by simp)))
    have h2 := secF_bd (link := link) (a := a) (b := b) (F := r) (fun y hy => h y (by simp [hy]))
    unfold secF
    rw [List.length_cons]
    omega
/-- The whole of a fog lies in the time there is. -/
theorem secT_all {m link : Int} {x : FogT} (h : FgB m x) : secT link 0 10000 x = if x.1 = link then x.2.2 - x.2.1 else 0 := by
  have h1 := h.f0; have h2 := h.ft; have h3 := h.t1
  unfold secT
  split
  · omega
  · rfl
/-! ### The first of the greatest -/
def fmx : Nat → Int × Int → List Int → Int × Int
  | _, p, [] => p
  | k, p, y :: r => fmx (k + 1) (if p.2 < y then ((k : Int), y) else p) r
theorem fmx_drop {S : List Int} {k : Nat} {y : Int} (h : S[k]? = some y) (p : Int × Int) : fmx k p (S.drop k) = fmx (k + 1) (if p.2 < y then ((k : Int), y) else p) (S.drop (k + 1)) := by
  have hk : k < S.length := (List.getElem?_eq_some_iff.1 h).1
  have e : S.drop k = y :: S.drop (k + 1) := by
    rw [List.drop_eq_getElem_cons hk]; congr 1; exact (List.getElem?_eq_some_iff.1 h).2
  rw [e]; rfl
/-- p tells the first of the greatest of the list S. -/
structure Fst (S : List Int) (p : Int × Int) : Prop where
  ex : ∃ j : Nat, p.1 = (j : Int) ∧ S[j]? = some p.2 ∧ ∀ i y, i < j → S[i]? = some y → y < p.2
  le : ∀ y ∈ S, y ≤ p.2
theorem Fst.eq {S : List Int} {p q : Int × Int} (h : Fst S p) (k : Fst S q) : p = q := by
  obtain ⟨j, hj1, hj2, hj3⟩ := h.ex
  obtain ⟨i, hi1, hi2, hi3⟩ := k.ex
  have e2 : p.2 = q.2 := by
    have := h.le _ (List.mem_of_getElem? hi2)
    have := k.le _ (List.mem_of_getElem? hj2)
    omega
  have e1 : j = i := by
    rcases Nat.lt_trichotomy j i with h1 | h1 | h1
    · have := hi3 j _ h1 hj2; omega
    · exact h1
    · have := hj3 i _ h1 hi2; omega
  exact Prod.ext (by rw [hj1, hi1, e1]) e2
theorem fmx_fst : ∀ (R S : List Int) (p : Int × Int), Fst S p → Fst (S ++ R) (fmx S.length p R)
  | [], S, p, h => by rw [List.append_nil]; exact h
  | y :: R, S, p, h => by
    have h1 : Fst (S ++ [y]) (if p.2 < y then ((S.length : Int), y) else p) := by
      split
      · rename_i hlt
        constructor
        · refine ⟨S.length, rfl, by simp, fun i z hi hz => ?_⟩
          rw [List.getElem?_append_left hi] at hz
          have := h.le z (List.mem_of_getElem? hz)
          show z < y
          omega
        · intro z hz
          show z ≤ y
          rcases List.mem_append.1 hz with hz | hz
          · have := h.le z hz; omega
          · simp at hz; omega
      · rename_i hlt
        obtain ⟨j, hj1, hj2, hj3⟩ := h.ex
        have hjl := (List.getElem?_eq_some_iff.1 hj2).1
        constructor
        · refine ⟨j, hj1, by rw [List.getElem?_append_left hjl]; exact hj2, fun i z hi hz => ?_⟩
          rw [List.getElem?_append_left (by omega)] at hz
          exact hj3 i z hi hz
        · intro z hz
          rcases List.mem_append.1 hz with hz | hz
          · exact h.le z hz
          · simp at hz; omega
    have h2 := fmx_fst R (S ++ [y]) _ h1
    rw [List.append_assoc] at h2
    have e : (S ++ [y]).length = S.length + 1 := by simp
    rw [e] at h2
    exact h2
theorem fmx_first {S : List Int} (h0 : S ≠ []) (hp : ∀ y ∈ S, 0 ≤ y) : Fst S (fmx 0 (0, -1) S) := by
  cases S with
  | nil => exact absurd rfl h0
  | cons y R =>
    have hy := hp y (by simp)
    have h1 : Fst [y] ((0 : Int), y) := ⟨⟨0, rfl, rfl, fun i z hi => by omega⟩, fun z hz => by simp at hz; omega⟩
    have h2 := fmx_fst R [y] _ h1
    show Fst ([y] ++ R) (fmx 1 (if -1 < y then ((0 : Nat), y) else ((0 : Int), -1)) R)
    rw [if_pos (by omega)]
    exact h2
end Go.Proofs.Ytngnagicgheenaa
