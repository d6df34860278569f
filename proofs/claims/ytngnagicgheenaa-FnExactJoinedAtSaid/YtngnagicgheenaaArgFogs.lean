/- How an argument that is a list of fogs reads. -/
import Derived.Test.YtngnagicgheenaaFog
import Derived.Test.YtngnagicgheenaaArgNet
namespace Go.Proofs.Ytngnagicgheenaa
open Go.ChangeShapes Go.WideShapes Go.RowKit Go.Joins Go.Deep
theorem cells_LF_Ytngnagicgheenaa : Try.prog.cellsOf 67 = 3 := by kernel_rfl
def ArgFogs (w : World) (v : Value) (x : List FogT) : Prop := Fogs w 0 w.heap.size v x ∧ ∀ t ∈ x, Wf3 t
set_option maxRecDepth 100000 in
theorem arg_fogs {H : Type} {enc : TypeId × Value → H} {w : World} {r : Reach} {b0 : Nat} {v : Value} {d : DataW H} {p : List MemPlace} (hv : Value.okWide Try.prog w r b0 26 v)
    (h : DataW.Trod enc Try.prog w 0 (fun _ => true) true 26 v d p) : ∃ x, ArgFogs w v x := by
  obtain ⟨a, l, c, rfl⟩ := okWide_slice Try.underlying26 hv
  obtain ⟨fuel, hf⟩ := h
  obtain ⟨xs, hl, hr⟩ := row_of_structs Try.underlying26 Try.underlying67 Try.underlying3 cells_int_Ytngnagicgheenaa cells_LF_Ytngnagicgheenaa (by decide) (fields3 ⟨rfl, rfl⟩ ⟨rfl, rfl⟩ ⟨rfl, rfl⟩) (by simpa [Value.cells] using hf)
  refine ⟨xs.map tri, hr.map _ ?_, ?_⟩
  · intro l hx
    have := (hl l hx).1
    match l, this with
    | [a, b, c], _ => rfl
  · intro t ht
    obtain ⟨l, hx, rfl⟩ := List.mem_map.1 ht
    exact tri_mem (hl l hx).1 (hl l hx).2
end Go.Proofs.Ytngnagicgheenaa
