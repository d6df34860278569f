
/- Slices of slices of ints: how they read, and the laws' own helpers on them: sizes, copies, equality, marks. -/
import Derived.Test.YtphfgfejacbhpaaKeep
import Derived.Deep.RegionHeld3
namespace Go.Proofs.Ytphfgfejacbhpaa
open Go.RowKit

/-! ### Reading -/
def encV (v : Value) : List Value := [v]
theorem encV_len (g : Value) : (encV g).length = 1 := rfl
theorem flat_encV (vs : List Value) : vs.flatMap encV = vs := by
  induction vs with
  | nil => rfl
  | cons x r ih => rw [List.flatMap_cons, ih]; rfl
/-- v is a slice of slices that reads as xss. -/
def Intss (w : World) (lo hi : Nat) (v : Value) (xss : List (List Int)) : Prop :=
  ∃ vs : List Value, vs.length = xss.length ∧ Row encV 1 w lo hi v vs ∧ ∀ (i : Nat) u xs, vs[i]? = some u → xss[i]? = some xs → Ints w lo hi u xs
theorem Intss.keep {w w' : World} {lo hi : Nat} {v : Value} {xss : List (List Int)} (h : Intss w lo hi v xss) (hk : ∀ k, lo ≤ k → k < hi → w'.heap[k]? = w.heap[k]?) : Intss w' lo hi v xss := by
  obtain ⟨vs, h1, h2, h3⟩ := h
  exact ⟨vs, h1, h2.keep hk, fun i u xs hu hx => (h3 i u xs hu hx).keep hk⟩
theorem Intss.ext {w w' : World} {lo hi : Nat} {v : Value} {xss : List (List Int)} (h : Intss w lo hi v xss) (hx : Ext w w') (hh : hi ≤ w.heap.size) : Intss w' lo hi v xss :=
  h.keep fun k _ hk => hx.block k (by omega)
theorem Intss.form {w : World} {lo hi : Nat} {v : Value} {xss : List (List Int)} (h : Intss w lo hi v xss) : ∃ a cap, v = .slice a xss.length cap ∧ xss.length ≤ cap ∧ cap ≤ 9223372036854775807 := by
  obtain ⟨vs, h1, ⟨a, cap, rfl, h2, h3, _⟩, _⟩ := h
  exact ⟨a, cap, by rw [h1], by omega, h3⟩
theorem Intss_at {w : World} {lo hi n : Nat} {a : Option Addr} {cap : Nat} {xss : List (List Int)} (h : Intss w lo hi (.slice a n cap) xss) {k : Nat} (hk : k < n) :
    ∃ b off a2 c2 g, a = some ⟨b, off, none⟩ ∧ Hid (xss[k]? = some g) ∧ w.cell? ⟨b, off + k, none⟩ = some (.slice a2 g.length c2) ∧ Hid (Ints w lo hi (.slice a2 g.length c2) g) ∧ g.length ≤ c2 ∧ c2 ≤ 9223372036854775807 := by
  obtain ⟨vs, h1, ⟨a', cap', hv, r1, r2, b, off, r3, r4⟩, h3⟩ := h
  simp only [Value.slice.injEq] at hv
  obtain ⟨rfl, rfl, rfl⟩ := hv
  obtain ⟨ha, _, _⟩ := r3 (by omega)
  have hu : vs[k]? = some vs[k] := List.getElem?_eq_getElem hk
  have hg : xss[k]? = some (xss[k]'(by omega)) := List.getElem?_eq_getElem (by omega)
  have hi := h3 k _ _ hu hg
  obtain ⟨a2, c2, e, q1, q2⟩ := hi.form
  refine ⟨b, off, a2, c2, _, ha, hg, ?_, by rw [e] at hi; exact Lib.hid hi, q1, q2⟩
  have := r4 k _ 0 _ hu rfl
  rw [e] at this
  simpa using this

/-- Rows of ints, each in a block of the call's own. -/
def OwnL (w : World) (lo : Nat) (vs : List Value) (xss : List (List Int)) : Prop :=
  vs.length = xss.length ∧ (∀ (i : Nat) u xs, vs[i]? = some u → xss[i]? = some xs → w.ownsRow lo 3 1 u xs.length (xs.flatMap encI)) ∧
    ∀ (i j : Nat) u u' k, i < j → vs[i]? = some u → vs[j]? = some u' → u.ownBlock = some k → u'.ownBlock ≠ some k
theorem OwnL.nil (w : World) (lo : Nat) : OwnL w lo [] [] := ⟨rfl, by simp, by simp⟩
theorem OwnL.grown {w w' : World} {lo : Nat} {vs : List Value} {xss : List (List Int)} {row : Option Nat} (h : OwnL w lo vs xss) (hg : w.grownBy w' row) (hr : ∀ k, row = some k → k < lo) : OwnL w' lo vs xss := by
  refine ⟨h.1, fun i u xs hu hx => ?_, h.2.2⟩
  have ho := h.2.1 i u xs hu hx
  refine ho.kept hg ?_
  cases hb : u.ownBlock with
  | none => exact .inl rfl
  | some k => exact .inr (fun e => by have := hr k e.symm; have := (ho.lt k hb).1; omega)
theorem OwnL.snoc {w w2 : World} {lo : Nat} {vs : List Value} {xss : List (List Int)} {u : Value} {xs : List Int} (h : OwnL w lo vs xss) (hx : Ext w w2) (hl : lo ≤ w.heap.size)
    (ho : w2.ownsRow w.heap.size 3 1 u xs.length (xs.flatMap encI)) : OwnL w2 lo (vs ++ [u]) (xss ++ [xs]) := by
  obtain ⟨h1, h2, h3⟩ := h
  have key : ∀ (i : Nat) v k, i < vs.length → vs[i]? = some v → v.ownBlock = some k → k < w.heap.size := by
    intro i v k hi hv hk
    exact ((h2 i v _ hv (List.getElem?_eq_getElem (by omega))).lt k hk).2
  refine ⟨by simp [h1], ?_, ?_⟩
  · intro i v ys hv hy
    by_cases hi : i < vs.length
    · rw [List.getElem?_append_left hi] at hv
      rw [List.getElem?_append_left (by omega)] at hy
      exact own_ext (h2 i v ys hv hy) hx
    · rw [List.getElem?_append_right (by omega)] at hv
      rw [List.getElem?_append_right (by omega)] at hy
      have hi2 := (List.getElem?_eq_some_iff.1 hv).1
      simp at hi2
      rw [show i - vs.length = 0 by omega] at hv
      rw [show i - xss.length = 0 by omega] at hy
      simp at hv hy
      subst hv hy
      exact own_mono ho hl
  · intro i j v v' k hij hv hv' hk hk'
    by_cases hj : j < vs.length
    · rw [List.getElem?_append_left hj] at hv'
      rw [List.getElem?_append_left (by omega)] at hv
      exact h3 i j v v' k hij hv hv' hk hk'
    · rw [List.getElem?_append_right (by omega)] at hv'
      have hj2 := (List.getElem?_eq_some_iff.1 hv').1
      simp at hj2
      rw [show j - vs.length = 0 by omega] at hv'
      simp at hv'
      subst hv'
      rw [List.getElem?_append_left (by omega)] at hv
      have := key i v k (by omega) hv hk
      have := (ho.lt k hk').1
      omega
/-- A slice of slices that the call owns. -/
def OwnSS (w : World) (lo hi : Nat) (v : Value) (xss : List (List Int)) : Prop :=
  ∃ vs : List Value, (w.ownsRow lo 24 1 v vs.length vs ∧ ∀ k, v.ownBlock = some k → k < hi) ∧ OwnL w lo vs xss ∧ ∀ (i : Nat) u k, vs[i]? = some u → u.ownBlock = some k → k < hi ∧ v.ownBlock ≠ some k
theorem OwnSS.read {w : World} {lo hi : Nat} {v : Value} {xss : List (List Int)} (h : OwnSS w lo hi v xss) : Intss w lo hi v xss := by
  obtain ⟨vs, ⟨h1, h1b⟩, h2, h3⟩ := h
  refine ⟨vs, h2.1, ?_, fun i u xs hu hx => OwnI.read ⟨h2.2.1 i u xs hu hx, fun k hk => (h3 i u k hu hk).1⟩⟩
  obtain ⟨a, cap, e, g1, g2, b, off, g3, g4⟩ := Row.of_own encV_len (xs := vs) (by rw [flat_encV]; exact h1)
  refine ⟨a, cap, e, g1, g2, b, off, fun hp => ?_, g4⟩
  obtain ⟨e1, e2, _⟩ := g3 hp
  exact ⟨e1, e2, h1b b (by rw [e, e1]; rfl)⟩
theorem OwnSS.form {w : World} {lo hi : Nat} {v : Value} {xss : List (List Int)} (h : OwnSS w lo hi v xss) : ∃ a cap, v = .slice a xss.length cap ∧ xss.length ≤ cap ∧ cap ≤ 9223372036854775807 := h.read.form
theorem OwnSS.ext {w w' : World} {lo hi : Nat} {v : Value} {xss : List (List Int)} (h : OwnSS w lo hi v xss) (hx : Ext w w') : OwnSS w' lo hi v xss := by
  obtain ⟨vs, ⟨h1, h1b⟩, ⟨g1, g2, g3⟩, h3⟩ := h
  exact ⟨vs, ⟨own_ext h1 hx, h1b⟩, ⟨g1, fun i u xs hu hy => own_ext (g2 i u xs hu hy) hx, g3⟩, h3⟩
theorem OwnSS.keepd {w w' : World} {lo hi lo2 hi2 : Nat} {v : Value} {xss : List (List Int)} (h : OwnSS w lo hi v xss) (hk : Keep lo2 hi2 w w') (hd : hi ≤ lo2 ∨ hi2 ≤ lo) : OwnSS w' lo hi v xss := by
  obtain ⟨vs, ⟨h1, h1b⟩, ⟨g1, g2, g3⟩, h3⟩ := h
  refine ⟨vs, ⟨own_keep h1 hk (fun k e => by have := (h1.lt k e).1; have := h1b k e; omega), h1b⟩, ⟨g1, fun i u xs hu hy => ?_, g3⟩, h3⟩
  have ho := g2 i u xs hu hy
  exact own_keep ho hk (fun k e => by have := (ho.lt k e).1; have := (h3 i u k hu e).1; omega)

/-! ### The helpers -/
def tot : List (List Int) → Nat
  | [] => 0
  | x :: r => x.length + tot r
theorem tot_snoc (l : List (List Int)) (x : List Int) : tot (l ++ [x]) = tot l + x.length := by
  induction l with
  | nil => simp [tot]
  | cons y r ih => simp only [List.cons_append, tot, ih]; omega
theorem tot_succ {l : List (List Int)} {k : Nat} {x : List Int} (h : l[k]? = some x) : tot (l.take (k + 1)) = tot (l.take k) + x.length := by
  rw [take_snoc' h, tot_snoc]
theorem tot_append (l m : List (List Int)) : tot (l ++ m) = tot l + tot m := by
  induction l with
  | nil => simp [tot]
  | cons y r ih => simp only [List.cons_append, tot, ih]; omega
theorem tot_take (l : List (List Int)) (k : Nat) : tot (l.take k) ≤ tot l := by
  have h := tot_append (l.take k) (l.drop k)
  rw [List.take_append_drop] at h
  omega
theorem tot_get {l : List (List Int)} {k : Nat} {x : List Int} (h : l[k]? = some x) : x.length ≤ tot l := by
  have h1 := tot_succ h; have h2 := tot_take l (k + 1); omega
def szL (left n : Int) : Int := if n ≤ left then left - n else -1
theorem szL_pos {left n : Int} (h : n ≤ left) : szL left n = left - n := if_pos h
theorem szL_neg {left n : Int} (h : left < n) : szL left n = -1 := if_neg (by omega)
theorem Try.info_intSS : (Try.prog.info? 24).map (fun i => (i.zero, i.size, i.bytes)) = some (some (.slice none 0 0), 1, 24) := by kernel_rfl
end Go.Proofs.Ytphfgfejacbhpaa
