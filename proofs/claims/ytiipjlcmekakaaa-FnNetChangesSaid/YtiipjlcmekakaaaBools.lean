
/- Rows of bools: written, read, made. -/
import Derived.Test.YtiipjlcmekakaaaRow
import Derived.Test.YtiipjlcmekakaaaSet
namespace Go.Proofs.Ytiipjlcmekakaaa
open Go.RowKit
def encB (b : Bool) : List Value := [.bool b]
theorem encB_len (g : Bool) : (encB g).length = 1 := rfl
theorem flat_mapB (xs : List Bool) : xs.flatMap encB = xs.map Value.bool := by
  induction xs with
  | nil => rfl
  | cons x r ih => rw [List.flatMap_cons, ih]; rfl
theorem own_cellB {w : World} {base g n c : Nat} {e : TypeId} {xs : List Bool} (h : w.ownsRow base e 1 (.slice (some ⟨g, 0, none⟩) n c) n (xs.flatMap encB)) {j : Nat} {x : Bool} (hx : xs[j]? = some x) (hj : j < n) :
    w.cell? ⟨g, j, none⟩ = some (.bool x) := by
  rw [h.cellAt j (by omega), flat_mapB, List.getElem?_map, hx]; rfl
theorem own_setB {w : World} {base g n c : Nat} {e : TypeId} {xs : List Bool} (h : w.ownsRow base e 1 (.slice (some ⟨g, 0, none⟩) n c) n (xs.flatMap encB)) (k : Nat) (x : Bool) :
    (w.setCell ⟨g, k, none⟩ (.bool x)).ownsRow base e 1 (.slice (some ⟨g, 0, none⟩) n c) n ((xs.set k x).flatMap encB) := by
  rw [flat_mapB, List.map_set, ← flat_mapB]
  exact (h.stored k (.bool x)).1
theorem made_bools (n : Nat) : (madeCells (Value.bool false).cells (n * 1)).toList = (List.replicate n false).flatMap encB := by
  rw [flat_mapB]
  apply List.ext_getElem?
  intro i
  by_cases hi : i < n
  · simp [madeCells, hi, Nat.mod_one, Value.cells]
  · simp [madeCells, hi]
theorem Try.info_bool : (Try.prog.info? 4).map (fun i => (i.zero, i.size, i.bytes)) = some (some (.bool false), 1, 1) := by kernel_rfl
end Go.Proofs.Ytiipjlcmekakaaa
