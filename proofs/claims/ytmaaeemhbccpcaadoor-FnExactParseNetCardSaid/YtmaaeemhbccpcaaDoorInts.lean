/- The laws' own helpers on slices of ints: copies, equality, marks. -/
import Derived.Test.YtmaaeemhbccpcaaDoorMem
namespace Go.Proofs.YtmaaeemhbccpcaaDoor
open Go.RowKit
theorem encI_len (g : Int) : (encI g).length = 1 := rfl
theorem Ints_at {w : World} {lo hi n : Nat} {a : Option Addr} {cap : Nat} {xs : List Int} (h : Ints w lo hi (.slice a n cap) xs) {k : Nat} (hk : k < n) :
    ∃ b off g, a = some ⟨b, off, none⟩ ∧ Hid (xs[k]? = some g) ∧ w.cell? ⟨b, off + k, none⟩ = some (.int .i64 g) := by
  obtain ⟨a', cap', hv, h1, h2, b, off, h3, h4⟩ := h
  simp only [Value.slice.injEq] at hv
  obtain ⟨rfl, rfl, rfl⟩ := hv
  obtain ⟨ha, _, _⟩ := h3 (by omega)
  have hg : xs[k]? = some xs[k] := List.getElem?_eq_getElem hk
  exact ⟨b, off, xs[k], ha, hg, by simpa using h4 k _ 0 _ hg rfl⟩
theorem Tryd.info_Int : (Tryd.prog.info? 3).map (fun i => (i.zero, i.size, i.bytes)) = some (some (.int .i64 0), 1, 8) := by kernel_rfl
end Go.Proofs.YtmaaeemhbccpcaaDoor
