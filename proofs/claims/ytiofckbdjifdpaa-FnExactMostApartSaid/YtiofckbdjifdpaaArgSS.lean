/- How an argument that is a slice of slices of ints reads. -/
import Derived.Test.YtiofckbdjifdpaaSS
import Derived.Test.YtiofckbdjifdpaaArgInts
namespace Go.Proofs.Ytiofckbdjifdpaa
open Go.ChangeShapes Go.WideShapes Go.RowKit Go.Joins Go.Deep
theorem cells_intSA_Ytiofckbdjifdpaa : Try.prog.cellsOf 24 = 1 := by kernel_rfl
section
variable {H : Type} {enc : TypeId × Value → H} {P : Program} {w : World}
theorem intss_of_trod {t e k : TypeId} {fuel : Nat} {c : Value} {x : DataW H × List MemPlace} (ht : P.underlying t = some (.slice e)) (he : P.underlying e = some (.slice k)) (hk : P.underlying k = some (.int .i64)) (ck : P.cellsOf k = 1) (ce : P.cellsOf e = 1)
    (h : DataW.trod enc P w 0 (fun _ => true) true fuel t [c] = some x) : ∃ xss : List (List Int), Intss w 0 w.heap.size c xss ∧ ∀ xs ∈ xss, ∀ z ∈ xs, I64 z := by
  rcases open_slice ht h with ⟨hc, _⟩ | ⟨a, len, cap, m, n, D, Pl, hc, _, hl, hm, hmm, _, hx⟩
  · simp only [List.cons.injEq, and_true] at hc
    subst hc
    exact ⟨[], ⟨[], rfl, Row.nil _ _ _ _ _, by simp⟩, by simp⟩
  · simp only [List.cons.injEq, and_true] at hc
    subst hc
    simp only [if_true] at hmm
    have each : ∀ i, i < len → ∃ p : Value × List Int, w.cell? ((a.add (i * 1)).add 0) = some p.1 ∧ Ints w 0 w.heap.size p.1 p.2 ∧ ∀ z ∈ p.2, I64 z := by
      intro i hi
      obtain ⟨cs, hcs, htr⟩ := hx i (by omega)
      rw [ce] at hcs
      obtain ⟨hlen, _, hcell⟩ := World.cells?_some hcs
      match cs, hlen, htr, hcell with
      | [u], _, htr, hcell =>
        obtain ⟨xs, h1, h2⟩ := row_of_ints he hk ck htr
        exact ⟨(u, xs), by simpa using hcell 0 (by omega), h1, h2⟩
    obtain ⟨N, hN⟩ := choose_lt each
    refine ⟨(List.range len).map fun i => (N i).2, ⟨(List.range len).map fun i => (N i).1, by simp, ?_, ?_⟩, ?_⟩
    · obtain ⟨b, off, spot⟩ := a
      have hsp : 0 < len → spot = none ∧ b < w.heap.size := by
        intro hp
        have h3 := (hN 0 hp).1
        have h4 : w.cell? ⟨b, off, spot⟩ = some (N 0).1 := by simpa [Addr.add] using h3
        exact ⟨by simpa using World.cell?_spot h4, World.block_lt_of_cell? w _ h4⟩
      refine ⟨some ⟨b, off, spot⟩, cap, by simp, by simpa using hl, by unfold maxLen at hm; omega, b, off, ?_, ?_⟩
      · intro hp
        have hp' : 0 < len := by simpa using hp
        obtain ⟨h1, h2⟩ := hsp hp'
        exact ⟨by rw [h1], Nat.zero_le _, h2⟩
      · intro i x j c hy hc
        have hi : i < len := by have := (List.getElem?_eq_some_iff.1 hy).1; simpa using this
        obtain ⟨h1, _⟩ := hsp (by omega)
        subst h1
        have hxi : x = (N i).1 := by
          rw [List.getElem?_map, List.getElem?_range hi] at hy
          simpa using hy.symm
        subst hxi
        have hj : j = 0 := by have := (List.getElem?_eq_some_iff.1 hc).1; simpa [encV] using this
        subst hj
        have h4 := (hN i hi).1
        rw [add_lit1, add_lit1] at h4
        rw [h4]; exact hc
    · intro i u xs hu hx
      have hi : i < len := by have := (List.getElem?_eq_some_iff.1 hu).1; simpa using this
      rw [List.getElem?_map, List.getElem?_range hi] at hu hx
      simp only [Option.map_some, Option.some.injEq] at hu hx
      subst hu hx
      exact (hN i hi).2.1
    · intro xs hx
      obtain ⟨i, hi, rfl⟩ := List.mem_map.1 hx
      exact (hN i (List.mem_range.1 hi)).2.2
end
def ArgSS (w : World) (v : Value) (xss : List (List Int)) : Prop := Intss w 0 w.heap.size v xss ∧ ∀ xs ∈ xss, ∀ z ∈ xs, I64 z
theorem arg_intss {H : Type} {enc : TypeId × Value → H} {w : World} {r : Reach} {b0 : Nat} {v : Value} {d : DataW H} {p : List MemPlace} (hv : Value.okWide Try.prog w r b0 22 v)
    (h : DataW.Trod enc Try.prog w 0 (fun _ => true) true 22 v d p) : ∃ x, ArgSS w v x := by
  obtain ⟨a, l, c, rfl⟩ := okWide_slice Try.underlying22 hv
  obtain ⟨fuel, hf⟩ := h
  obtain ⟨xs, h1, h2⟩ := intss_of_trod Try.underlying22 Try.underlying24 Try.underlying3 cells_intA_Ytiofckbdjifdpaa cells_intSA_Ytiofckbdjifdpaa (by simpa [Value.cells] using hf)
  exact ⟨xs, h1, h2⟩
end Go.Proofs.Ytiofckbdjifdpaa
