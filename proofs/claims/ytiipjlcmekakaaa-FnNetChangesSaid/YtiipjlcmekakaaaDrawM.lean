
/- Draws: what stays as it was. The least and the most of two ints. -/
import Derived.Test.YtiipjlcmekakaaaCur2
namespace Go.Proofs.Ytiipjlcmekakaaa
open Go.RowKit
theorem own_kc {w w' : World} {b base sz n : Nat} {e : TypeId} {v : Value} {xs : List Value} (h : w.ownsRow base e sz v n xs) (hk : Keep b (b + 1) w w') (hb : b < base) : w'.ownsRow base e sz v n xs :=
  own_keep h hk (fun k e => by have := (h.lt k e).1; omega)
/-- A store into a list of the call's own that a draw has given. -/
theorem keep_own {w : World} {b g base : Nat} (j : Nat) (v : Value) (hg : base ≤ g) {w0 : World} (hk : Keep b (b + 1) w0 w) (hs : w0.heap.size ≤ base) : Keep b (b + 1) w0 (w.setCell ⟨g, j, none⟩ v) :=
  ⟨hk.os, hk.tape, hk.output, by have := hk.size; simp [World.setCell]; exact this, fun i hi ho => by
    rw [heap_setCell_other _ _ _ _ (by show i ≠ g; omega)]; exact hk.block i hi ho⟩
theorem Cur.keep {w w' : World} {b k : Nat} (h : Cur w b k) (hk : ∀ j, j ≤ b → w'.heap[j]? = w.heap[j]?) : Cur w' b k := by
  obtain ⟨a, n, cap, t, s, xs, h1, h2, h3, h4⟩ := h
  exact ⟨a, n, cap, t, s, xs, by rw [hk b (Nat.le_refl _)]; exact h1, h2, h3.keep fun q _ hq => hk q (by omega), h4⟩
theorem Cur.set {w : World} {b k g : Nat} (h : Cur w b k) (j : Nat) (v : Value) (hg : b < g) : Cur (w.setCell ⟨g, j, none⟩ v) b k :=
  h.keep fun i hi => heap_setCell_other _ _ _ _ (by show i ≠ g; omega)
theorem Cur.grown {w w' : World} {b k : Nat} {row : Option Nat} {o : Obj} (h : Cur w b k) (hg : (w.alloc o).grownBy w' row) (hr : ∀ q, row = some q → b < q) : Cur w' b k :=
  h.keep fun i hi => by
    have := h.lt
    rw [hg.block i (by simp; omega) (fun e => by have := hr i e.symm; omega)]
    exact heap_alloc_old _ _ (by omega)
theorem keep_grown {w0 w w' : World} {b : Nat} {row : Option Nat} {o : Obj} (hk : Keep b (b + 1) w0 w) (hg : (w.alloc o).grownBy w' row) (hr : ∀ q, row = some q → w0.heap.size ≤ q) : Keep b (b + 1) w0 w' :=
  ⟨by rw [hg.os]; exact hk.os, by rw [hg.tape]; exact hk.tape, by rw [hg.output]; exact hk.output, by have := hk.size; have := hg.size; simp at this; omega, fun i hi ho => by
    have h1 := hk.size
    rw [hg.block i (by simp; omega) (fun e => by have := hr i e.symm; omega), heap_alloc_old _ _ (by omega)]
    exact hk.block i hi ho⟩
end Go.Proofs.Ytiipjlcmekakaaa
