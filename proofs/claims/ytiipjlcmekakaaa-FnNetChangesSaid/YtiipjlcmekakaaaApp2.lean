
/- append into a field of a struct of the call's own: what is kept. -/
import Derived.Test.YtiipjlcmekakaaaAppL
namespace Go.Proofs.Ytiipjlcmekakaaa
open Go.RowKit
/-- A box that lies below the row is as it was behind an append. -/
theorem grown_box {w w6 : World} {b base sz n : Nat} {e t : TypeId} {v : Value} {xs : List Value} {C : Array Value} {o : Obj} (hb : w.heap[b]? = some (.cells C t (0, 0))) (hown : w.ownsRow base e sz v n xs)
    (hg : (w.alloc o).grownBy w6 v.ownBlock) (hlt : b < base) : w6.heap[b]? = some (.cells C t (0, 0)) := by
  have hs := (Array.getElem?_eq_some_iff.1 hb).1
  rw [hg.block b (by simp; omega) (fun e => by have := (hown.lt b e.symm).1; omega)]
  exact blk_old hb
theorem box_set1 {w : World} {b : Nat} {t : TypeId} {x y z : Value} (hb : w.heap[b]? = some (.cells #[x, y] t (0, 0))) : (w.setCell ⟨b, 1, none⟩ z).heap[b]? = some (.cells #[x, z] t (0, 0)) := by
  rw [heap_setCell_same _ _ _ _ _ _ hb]; rfl
theorem own_set_box {w : World} {b base sz n : Nat} {e : TypeId} {v z : Value} {j : Nat} {xs : List Value} (hown : w.ownsRow base e sz v n xs) (hlt : b < base) : (w.setCell ⟨b, j, none⟩ z).ownsRow base e sz v n xs :=
  ownsRow_setCell_below hown (by exact hlt) _
/-- The part below a box is as it was, behind an append and the store of its field. -/
theorem below_app {b base sz n : Nat} {w w5 w6 : World} {e : TypeId} {v z : Value} {xs : List Value} {o : Obj} {j : Nat} (h : Below b w w5) (hs : b ≤ w5.heap.size) (hown : w5.ownsRow base e sz v n xs) (hlt : b < base)
    (hg : (w5.alloc o).grownBy w6 v.ownBlock) : Below b w (w6.setCell ⟨b, j, none⟩ z) :=
  Below.setCell (Below.grown (Below.alloc h hs o) hg (by simp; omega) (fun k hk => by have := (hown.lt k hk).1; omega)) (Nat.le_refl _) z
end Go.Proofs.Ytiipjlcmekakaaa
