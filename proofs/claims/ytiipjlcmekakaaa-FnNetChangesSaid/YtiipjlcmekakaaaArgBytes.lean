/- How an argument that is a slice of bytes reads. -/
import Derived.Test.YtiipjlcmekakaaaCur2
import Derived.Test.YtiipjlcmekakaaaArgs
namespace Go.Proofs.Ytiipjlcmekakaaa
open Go.ChangeShapes Go.WideShapes Go.RowKit Go.Joins Go.Deep
theorem cells_byte_Ytiipjlcmekakaaa : Try.prog.cellsOf 5 = 1 := by kernel_rfl
def ArgBytes (w : World) (v : Value) (xs : List Int) : Prop := Row encY 1 w 0 w.heap.size v xs ∧ ∀ z ∈ xs, 0 ≤ z ∧ z ≤ 255
set_option maxRecDepth 100000 in
theorem arg_bytes {H : Type} {enc : TypeId × Value → H} {w : World} {r : Reach} {b0 : Nat} {v : Value} {d : DataW H} {p : List MemPlace} (hv : Value.okWide Try.prog w r b0 22 v)
    (h : DataW.Trod enc Try.prog w 0 (fun _ => true) true 22 v d p) : ∃ x, ArgBytes w v x := by
  obtain ⟨a, l, c, rfl⟩ := okWide_slice Try.underlying22 hv
  obtain ⟨fuel, hf⟩ := h
  have hf2 : DataW.trod enc Try.prog w 0 (fun _ => true) true fuel 22 [.slice a l c] = some (d, p) := by simpa [Value.cells] using hf
  rcases open_slice Try.underlying22 hf2 with ⟨hc, _⟩ | ⟨a', len, cap, m, n, D, Pl, hc, _, hl, hm, hmm, _, hx⟩
  · simp only [List.cons.injEq, and_true] at hc
    rw [hc]
    exact ⟨[], Row.nil _ _ _ _ _, by simp⟩
  · simp only [List.cons.injEq, and_true] at hc
    rw [hc]
    simp only [if_true] at hmm
    have each : ∀ i, i < len → ∃ z : Int, w.cell? ((a'.add (i * 1)).add 0) = some (.int .u8 z) ∧ 0 ≤ z ∧ z ≤ 255 := by
      intro i hi
      obtain ⟨cs, hcs, htr⟩ := hx i (by omega)
      obtain ⟨z, rfl, _, hw⟩ := DataW.trod_int Try.underlying5 htr
      rw [cells_byte_Ytiipjlcmekakaaa] at hcs
      obtain ⟨_, _, hcell⟩ := World.cells?_some hcs
      refine ⟨z, by simpa using hcell 0 (by omega), ?_⟩
      simpa [Lit.wf, IntKind.min, IntKind.max, IntKind.signed, IntKind.bits] using hw
    obtain ⟨Z, hZ⟩ := choose_lt each
    obtain ⟨b, off, spot⟩ := a'
    have hsp : 0 < len → spot = none ∧ b < w.heap.size := by
      intro hp
      obtain ⟨h3, _⟩ := hZ 0 hp
      have h4 : w.cell? ⟨b, off, spot⟩ = some (.int .u8 (Z 0)) := by simpa [Addr.add] using h3
      exact ⟨by simpa using World.cell?_spot h4, World.block_lt_of_cell? w _ h4⟩
    refine ⟨(List.range len).map Z, ⟨some ⟨b, off, spot⟩, cap, by simp, by simpa using hl, by unfold maxLen at hm; omega, b, off, ?_, ?_⟩, ?_⟩
    · intro hp
      have hp' : 0 < len := by simpa using hp
      obtain ⟨h1, h2⟩ := hsp hp'
      exact ⟨by rw [h1], Nat.zero_le _, h2⟩
    · intro i x j u hx' hu
      have hi : i < len := by have := (List.getElem?_eq_some_iff.1 hx').1; simpa using this
      obtain ⟨h1, _⟩ := hsp (by omega)
      subst h1
      have hxi : x = Z i := by
        rw [List.getElem?_map, List.getElem?_range hi] at hx'
        simpa using hx'.symm
      subst hxi
      have hj : j = 0 ∧ u = .int .u8 (Z i) := by
        cases j with
        | zero => simp [encY] at hu; exact ⟨rfl, hu.symm⟩
        | succ j => simp [encY] at hu
      obtain ⟨rfl, rfl⟩ := hj
      have h4 := (hZ i hi).1
      rw [add_lit1, add_lit1] at h4
      exact h4
    · intro z hz
      obtain ⟨i, hi, rfl⟩ := List.mem_map.1 hz
      exact (hZ i (List.mem_range.1 hi)).2
end Go.Proofs.Ytiipjlcmekakaaa
