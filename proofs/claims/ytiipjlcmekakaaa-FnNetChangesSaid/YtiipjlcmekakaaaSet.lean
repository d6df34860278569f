
/- Stores into a slice of ints of the call's own. -/
import Derived.Test.YtiipjlcmekakaaaRow
import Derived.Test.YtiipjlcmekakaaaKeep
namespace Go.Proofs.Ytiipjlcmekakaaa
open Go.RowKit
theorem flat_set (xs : List Int) (i : Nat) (x : Int) : (xs.set i x).flatMap encI = (xs.flatMap encI).set i (.int .i64 x) := by
  rw [flat_map, flat_map, List.map_set]
theorem own_at0 {w : World} {base sz n : Nat} {e : TypeId} {v : Value} {L : List Value} (h : w.ownsRow base e sz v n L) (hn : 0 < n) :
    ∃ g cap, v = .slice (some ⟨g, 0, none⟩) n cap ∧ base ≤ g ∧ g < w.heap.size := by
  rcases h.2 with ⟨_, h0⟩ | ⟨g, cap, cur, hv, hb, hg, _⟩
  · omega
  · exact ⟨g, cap, hv, hb, (Array.getElem?_eq_some_iff.1 hg).1⟩
theorem own_cellv {w : World} {base g n c : Nat} {e : TypeId} {xs : List Int} (h : w.ownsRow base e 1 (.slice (some ⟨g, 0, none⟩) n c) n (xs.flatMap encI)) {j : Nat} {x : Int} (hx : xs[j]? = some x) (hj : j < n) :
    w.cell? ⟨g, j, none⟩ = some (.int .i64 x) := by
  rw [h.cellAt j (by omega), flat_map, List.getElem?_map, hx]; rfl
theorem own_set {w : World} {base g n c : Nat} {xs : List Int} (h : w.ownsRow base 3 1 (.slice (some ⟨g, 0, none⟩) n c) n (xs.flatMap encI)) (k : Nat) (x : Int) :
    (w.setCell ⟨g, k, none⟩ (.int .i64 x)).ownsRow base 3 1 (.slice (some ⟨g, 0, none⟩) n c) n ((xs.set k x).flatMap encI) := by
  rw [flat_set]
  exact (h.stored k (.int .i64 x)).1
theorem made_ints (n : Nat) : (madeCells (Value.int .i64 0).cells (n * 1)).toList = (List.replicate n (0 : Int)).flatMap encI := by
  rw [flat_map]
  apply List.ext_getElem?
  intro i
  by_cases hi : i < n
  · simp [madeCells, hi, Nat.mod_one, Value.cells]
  · simp [madeCells, hi]
end Go.Proofs.Ytiipjlcmekakaaa
