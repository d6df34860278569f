
/- Slices of ints where append asks for their cells. -/
import Derived.Test.YtmaaeemhbccpcaaDoorMem2
import Derived.Laws.AppendOwnNone
namespace Go.Proofs.YtmaaeemhbccpcaaDoor
open Go.RowKit

theorem Tryd.info_intC : (Tryd.prog.info? 3).map (fun i => (i.zero, i.size, i.bytes)) = some (some (.int .i64 0), 1, 8) := by kernel_rfl
theorem flat_map (xs : List Int) : xs.flatMap encI = xs.map (Value.int .i64) := by
  induction xs with
  | nil => rfl
  | cons x r ih => rw [List.flatMap_cons, ih]; rfl
/-- The cells of a slice of ints where append asks for them. -/
theorem Ints_cells {w : World} {la ha n : Nat} {ad : Addr} {cap : Nat} {xs : List Int} (h : Ints w la ha (.slice (some ad) n cap) xs) :
    ∀ j u, (xs.flatMap encI)[j]? = some u → w.cell? (ad.add j) = some u := by
  obtain ⟨a', cap', hv, h1, h2, b, off, h3, h4⟩ := h
  simp only [Value.slice.injEq] at hv
  obtain ⟨rfl, rfl, rfl⟩ := hv
  intro j u hu
  rw [flat_map] at hu
  have hj : j < xs.length := by have := (List.getElem?_eq_some_iff.1 hu).1; simpa using this
  obtain ⟨ha, _, _⟩ := h3 (by omega)
  simp only [Option.some.injEq] at ha
  subst ha
  have hx : xs[j]? = some xs[j] := List.getElem?_eq_getElem hj
  rw [List.getElem?_map, hx] at hu
  simp only [Option.map_some, Option.some.injEq] at hu
  subst hu
  rw [add_lit1]
  simpa using h4 j _ 0 _ hx rfl
theorem ints_one (xs : List Int) : ∀ u ∈ xs.flatMap encI, u.oneCell' = true := by
  rw [flat_map]; intro u hu; obtain ⟨_, _, rfl⟩ := List.mem_map.1 hu; rfl
theorem own_lit0 (w : World) (e : TypeId) : (w.alloc (.cells #[] e)).ownsRow w.heap.size e 1 (.slice (some ⟨w.heap.size, 0, none⟩) 0 0) 0 [] := by
  simpa using World.ownsRow_lit (size := 1) (e := e) w #[] 0 (Nat.le_refl _) (by unfold maxLen; omega) rfl
end Go.Proofs.YtmaaeemhbccpcaaDoor
