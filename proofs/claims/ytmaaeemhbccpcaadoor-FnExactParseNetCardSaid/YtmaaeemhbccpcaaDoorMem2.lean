/- More small laws on slices of the call's own. -/
import Derived.Test.YtmaaeemhbccpcaaDoorInts
namespace Go.Proofs.YtmaaeemhbccpcaaDoor
open Go.RowKit
theorem own_push {w : World} {base : Nat} {e : TypeId} {v : Value} {L : List Int} {k : Int} (h : w.ownsRow base e 1 v (L.length + 1) (L.flatMap encI ++ [.int .i64 k])) :
    w.ownsRow base e 1 v (L ++ [k]).length ((L ++ [k]).flatMap encI) := by
  rw [List.length_append, List.flatMap_append]; exact h
theorem own_pushN {α : Type} {enc : α → List Value} {w : World} {base sz : Nat} {e : TypeId} {v : Value} {L : List α} {k : α} (h : w.ownsRow base e sz v (L.length + 1) (L.flatMap enc ++ enc k)) :
    w.ownsRow base e sz v (L ++ [k]).length ((L ++ [k]).flatMap enc) := by
  rw [List.length_append, List.flatMap_append]
  simpa using h
/-- Behind an append: what was there before the call is as it was. -/
theorem Ext.push {w w2 w3 : World} {base sz n : Nat} {e : TypeId} {v : Value} {xs : List Value} {o : Obj} (hx : Ext w w2) (hown : w2.ownsRow base e sz v n xs) (hg : (w2.alloc o).grownBy w3 v.ownBlock) (hb : w.heap.size ≤ base) : Ext w w3 :=
  (hx.al o).gr hg fun k hk => Nat.le_trans hb (hown.lt k hk).1
theorem new_cells1 (w : World) (x : Value) (t : TypeId) : ∀ j u, ([x] : List Value)[j]? = some u → (w.alloc (.cells #[x] t)).cell? ((⟨w.heap.size, 0, none⟩ : Addr).add j) = some u := by
  intro j u hj
  match j, hj with
  | 0, hj =>
    simp at hj; subst hj
    exact blk_cell (blk_alloc _ _) rfl
end Go.Proofs.YtmaaeemhbccpcaaDoor
