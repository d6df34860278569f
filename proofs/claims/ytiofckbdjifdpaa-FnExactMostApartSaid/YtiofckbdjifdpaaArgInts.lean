/- How an argument that is a slice of ints reads. -/
import Derived.Test.YtiofckbdjifdpaaInts
import Derived.Test.YtiofckbdjifdpaaArgs
namespace Go.Proofs.Ytiofckbdjifdpaa
open Go.ChangeShapes Go.WideShapes Go.RowKit Go.Joins Go.Deep
theorem cells_intA_Ytiofckbdjifdpaa : Try.prog.cellsOf 3 = 1 := by kernel_rfl
def ArgInts (w : World) (v : Value) (xs : List Int) : Prop := Ints w 0 w.heap.size v xs ∧ ∀ z ∈ xs, I64 z
theorem arg_ints {H : Type} {enc : TypeId × Value → H} {w : World} {r : Reach} {b0 : Nat} {v : Value} {d : DataW H} {p : List MemPlace} (hv : Value.okWide Try.prog w r b0 24 v)
    (h : DataW.Trod enc Try.prog w 0 (fun _ => true) true 24 v d p) : ∃ x, ArgInts w v x := by
  obtain ⟨a, l, c, rfl⟩ := okWide_slice Try.underlying24 hv
  obtain ⟨fuel, hf⟩ := h
  obtain ⟨xs, h1, h2⟩ := row_of_ints Try.underlying24 Try.underlying3 cells_intA_Ytiofckbdjifdpaa (by simpa [Value.cells] using hf)
  exact ⟨xs, h1, h2⟩
end Go.Proofs.Ytiofckbdjifdpaa
