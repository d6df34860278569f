/- Arguments and what is read of them. -/
import Derived.Test.YtmaaeemhbccpcaaGreatDoorGA
import Derived.ProofKit
import Derived.OpenShut
import Derived.ShutString
import Derived.ChangeOld
import Derived.Below
import Derived.Lib.SmallJoins
import Derived.Test.YtmaaeemhbccpcaaGreatDoorGC
/- What the step from a walk to a statement uses: the program's own closed facts. -/
namespace Go.Proofs.YtmaaeemhbccpcaaGreatDoor
theorem own_YtmaaeemhbccpcaaGreatDoor : ownKnob Tryz.prog.godebug = none := by kernel_rfl
theorem laidOut_YtmaaeemhbccpcaaGreatDoor : laidOutB Tryz.prog = true := by kernel_rfl
end Go.Proofs.YtmaaeemhbccpcaaGreatDoor
/- How an argument that is a slice of ints, or of structs of ints, reads. -/
namespace Go.Proofs.YtmaaeemhbccpcaaGreatDoor
open Go.ChangeShapes Go.WideShapes Go.RowKit Go.Joins Go.Deep

theorem Row.map {α β : Type} {enc : α → List Value} {enc' : β → List Value} {sz : Nat} {w : World} {lo hi : Nat} {v : Value} {xs : List α} (f : α → β) (hf : ∀ x ∈ xs, enc' (f x) = enc x) (h : Row enc sz w lo hi v xs) :
    Row enc' sz w lo hi v (xs.map f) := by
  obtain ⟨a, cap, rfl, h1, h2, b, off, h3, h4⟩ := h
  refine ⟨a, cap, by simp, by simpa using h1, h2, b, off, by simpa using h3, fun i y j c hy hc => ?_⟩
  rw [List.getElem?_map] at hy
  obtain ⟨x, hx, rfl⟩ := Option.map_eq_some_iff.1 hy
  rw [hf x (List.mem_of_getElem? hx)] at hc
  exact h4 i x j c hx hc

section
variable {H : Type} {enc : TypeId × Value → H} {P : Program} {w : World}
/-- The cells of a struct all of whose fields are ints. -/
theorem cells_ints {e k : TypeId} {fs : Array Field} {fuel : Nat} {cs : List Value} {x : DataW H × List MemPlace} (he : P.underlying e = some (.struct fs)) (hk : P.underlying k = some (.int .i64)) (ck : P.cellsOf k = 1) (ce : P.cellsOf e = fs.size)
    (hf : ∀ (i : Nat) (f : Field), fs[i]? = some f → f.type = k ∧ f.offset = i) (h : DataW.trod enc P w 0 (fun _ => true) true fuel e cs = some x) : ∃ ns : List Int, ns.length = fs.size ∧ (∀ z ∈ ns, I64 z) ∧ cs = ns.map (Value.int .i64) := by
  obtain ⟨xs, n, _, _, hl, hlen, hp⟩ := DataW.trod_struct he h
  have each : ∀ i, i < fs.size → ∃ z : Int, cs[i]? = some (.int .i64 z) ∧ I64 z := by
    intro i hi
    have hfi : fs[i]? = some fs[i] := Array.getElem?_eq_getElem hi
    obtain ⟨ht, ho⟩ := hf i _ hfi
    have h1 := hp i _ hfi
    rw [ht, ho, ck] at h1
    have hci : cs[i]? = some (cs[i]'(by omega)) := List.getElem?_eq_getElem (by omega)
    have hd : (cs.drop i).take 1 = [cs[i]'(by omega)] := by
      rw [List.drop_eq_getElem_cons (by omega)]; rfl
    rw [hd, List.getElem?_eq_getElem (show i < xs.length by rw [hlen]; exact hi)] at h1
    obtain ⟨z, hz, _, hw⟩ := DataW.trod_int hk h1
    simp only [List.cons.injEq, and_true] at hz
    exact ⟨z, by rw [hci, hz], I64.of_wf hw⟩
  obtain ⟨Z, hZ⟩ := choose_lt each
  refine ⟨(List.range fs.size).map Z, by simp, ?_, ?_⟩
  · intro z hz
    obtain ⟨i, hi, rfl⟩ := List.mem_map.1 hz
    exact (hZ i (List.mem_range.1 hi)).2
  apply List.ext_getElem?
  intro i
  by_cases hi : i < fs.size
  · rw [(hZ i hi).1]; simp [hi]
  · rw [List.getElem?_eq_none (by rw [hl, ce]; omega), List.getElem?_eq_none (by simp; omega)]
/-- A slice whose elements lie in m cells that hold ints each. -/
theorem row_of_cells {m : Nat} (hm0 : 0 < m) {a : Addr} {len cap : Nat} (hl : len ≤ cap) (hm : cap ≤ maxLen) (h : ∀ i, i < len → ∃ ns : List Int, (ns.length = m ∧ ∀ z ∈ ns, I64 z) ∧ ∀ j, j < m → w.cell? ((a.add (i * m)).add j) = (ns.map (Value.int .i64))[j]?) :
    ∃ xs : List (List Int), (∀ x ∈ xs, x.length = m ∧ ∀ z ∈ x, I64 z) ∧ Row (fun l => l.map (Value.int .i64)) m w 0 w.heap.size (.slice (some a) len cap) xs := by
  obtain ⟨N, hN⟩ := choose_lt h
  refine ⟨(List.range len).map N, ?_, ?_⟩
  · intro x hx
    obtain ⟨i, hi, rfl⟩ := List.mem_map.1 hx
    exact (hN i (List.mem_range.1 hi)).1
  obtain ⟨b, off, spot⟩ := a
  have hsp : 0 < len → spot = none ∧ b < w.heap.size := by
    intro hp
    obtain ⟨⟨h1, _⟩, h2⟩ := hN 0 hp
    have h3 := h2 0 hm0
    obtain ⟨z, hz⟩ : ∃ z, ((N 0).map (Value.int .i64))[0]? = some z := ⟨_, List.getElem?_eq_getElem (by simp [h1]; omega)⟩
    rw [hz] at h3
    have h4 : w.cell? ⟨b, off, spot⟩ = some z := by simpa [Addr.add] using h3
    exact ⟨by simpa using World.cell?_spot h4, World.block_lt_of_cell? w _ h4⟩
  refine ⟨some ⟨b, off, spot⟩, cap, by simp, by simpa using hl, by unfold maxLen at hm; omega, b, off, ?_, ?_⟩
  · intro hp
    have hp' : 0 < len := by simpa using hp
    obtain ⟨h1, h2⟩ := hsp hp'
    exact ⟨by rw [h1], Nat.zero_le _, h2⟩
  · intro i x j c hx hc
    have hi : i < len := by have := (List.getElem?_eq_some_iff.1 hx).1; simpa using this
    obtain ⟨h1, _⟩ := hsp (by omega)
    subst h1
    have hxi : x = N i := by
      rw [List.getElem?_map, List.getElem?_range hi] at hx
      simpa using hx.symm
    subst hxi
    obtain ⟨⟨h2, _⟩, h3⟩ := hN i hi
    have hj : j < m := by have := (List.getElem?_eq_some_iff.1 hc).1; simpa [h2] using this
    have h4 := h3 j hj
    rw [add_lit1, add_lit1] at h4
    rw [h4]; exact hc
/-- A slice of structs of ints. -/
theorem row_of_structs {t e k : TypeId} {fs : Array Field} {fuel : Nat} {c : Value} {x : DataW H × List MemPlace} (ht : P.underlying t = some (.slice e)) (he : P.underlying e = some (.struct fs)) (hk : P.underlying k = some (.int .i64))
    (ck : P.cellsOf k = 1) (ce : P.cellsOf e = fs.size) (h0 : 0 < fs.size) (hf : ∀ (i : Nat) (f : Field), fs[i]? = some f → f.type = k ∧ f.offset = i) (h : DataW.trod enc P w 0 (fun _ => true) true fuel t [c] = some x) :
    ∃ xs : List (List Int), (∀ x ∈ xs, x.length = fs.size ∧ ∀ z ∈ x, I64 z) ∧ Row (fun l => l.map (Value.int .i64)) fs.size w 0 w.heap.size c xs := by
  rcases open_slice ht h with ⟨hc, _⟩ | ⟨a, len, cap, m, n, D, Pl, hc, _, hl, hm, hmm, _, hx⟩
  · simp only [List.cons.injEq, and_true] at hc
    subst hc
    exact ⟨[], by simp, Row.nil _ _ _ _ _⟩
  · simp only [List.cons.injEq, and_true] at hc
    subst hc
    simp only [if_true] at hmm
    refine row_of_cells h0 hl hm fun i hi => ?_
    obtain ⟨cs, hcs, htr⟩ := hx i (by omega)
    obtain ⟨ns, hn1, hn2, rfl⟩ := cells_ints he hk ck ce hf htr
    rw [ce] at hcs
    obtain ⟨_, _, hcell⟩ := World.cells?_some hcs
    exact ⟨ns, ⟨hn1, hn2⟩, hcell⟩
/-- A slice of ints. -/
theorem row_of_ints {t e : TypeId} {fuel : Nat} {c : Value} {x : DataW H × List MemPlace} (ht : P.underlying t = some (.slice e)) (he : P.underlying e = some (.int .i64)) (ce : P.cellsOf e = 1)
    (h : DataW.trod enc P w 0 (fun _ => true) true fuel t [c] = some x) : ∃ xs : List Int, Row encI 1 w 0 w.heap.size c xs ∧ ∀ z ∈ xs, I64 z := by
  rcases open_slice ht h with ⟨hc, _⟩ | ⟨a, len, cap, m, n, D, Pl, hc, _, hl, hm, hmm, _, hx⟩
  · simp only [List.cons.injEq, and_true] at hc
    subst hc
    exact ⟨[], Row.nil _ _ _ _ _, by simp⟩
  · simp only [List.cons.injEq, and_true] at hc
    subst hc
    simp only [if_true] at hmm
    obtain ⟨xs, hxl, hr⟩ := row_of_cells (w := w) (by omega : 0 < 1) hl hm (fun i hi => by
      obtain ⟨cs, hcs, htr⟩ := hx i (by omega)
      obtain ⟨z, rfl, _, hw⟩ := DataW.trod_int he htr
      rw [ce] at hcs
      obtain ⟨_, _, hcell⟩ := World.cells?_some hcs
      exact ⟨[z], ⟨rfl, by simpa using I64.of_wf hw⟩, hcell⟩)
    refine ⟨xs.map fun l => l.headD 0, hr.map _ ?_, ?_⟩
    · intro l hl
      have := (hxl l hl).1
      match l, this with
      | [z], _ => rfl
    · intro z hz
      obtain ⟨l, hl, rfl⟩ := List.mem_map.1 hz
      have := hxl l hl
      match l, this with
      | [z], h => exact h.2 z (by simp)
end
end Go.Proofs.YtmaaeemhbccpcaaGreatDoor
/- How an argument that is a slice of bytes reads. -/
namespace Go.Proofs.YtmaaeemhbccpcaaGreatDoor
open Go.ChangeShapes Go.WideShapes Go.RowKit Go.Joins Go.Deep
theorem cells_byte_YtmaaeemhbccpcaaGreatDoor : Tryz.prog.cellsOf 5 = 1 := by kernel_rfl
def ArgBytes (w : World) (v : Value) (xs : List Int) : Prop := Row encY 1 w 0 w.heap.size v xs ∧ ∀ z ∈ xs, 0 ≤ z ∧ z ≤ 255
set_option maxRecDepth 100000 in
theorem arg_bytes {H : Type} {enc : TypeId × Value → H} {w : World} {r : Reach} {b0 : Nat} {v : Value} {d : DataW H} {p : List MemPlace} (hv : Value.okWide Tryz.prog w r b0 22 v)
    (h : DataW.Trod enc Tryz.prog w 0 (fun _ => true) true 22 v d p) : ∃ x, ArgBytes w v x := by
  obtain ⟨a, l, c, rfl⟩ := okWide_slice Tryz.underlying22 hv
  obtain ⟨fuel, hf⟩ := h
  have hf2 : DataW.trod enc Tryz.prog w 0 (fun _ => true) true fuel 22 [.slice a l c] = some (d, p) := by simpa [Value.cells] using hf
  rcases open_slice Tryz.underlying22 hf2 with ⟨hc, _⟩ | ⟨a', len, cap, m, n, D, Pl, hc, _, hl, hm, hmm, _, hx⟩
  · simp only [List.cons.injEq, and_true] at hc
    rw [hc]
    exact ⟨[], Row.nil _ _ _ _ _, by simp⟩
  · simp only [List.cons.injEq, and_true] at hc
    rw [hc]
    simp only [if_true] at hmm
    have each : ∀ i, i < len → ∃ z : Int, w.cell? ((a'.add (i * 1)).add 0) = some (.int .u8 z) ∧ 0 ≤ z ∧ z ≤ 255 := by
      intro i hi
      obtain ⟨cs, hcs, htr⟩ := hx i (by omega)
      obtain ⟨z, rfl, _, hw⟩ := DataW.trod_int Tryz.underlying5 htr
      rw [cells_byte_YtmaaeemhbccpcaaGreatDoor] at hcs
      obtain ⟨_, _, hcell⟩ := World.cells?_some hcs
      refine ⟨z, by simpa using hcell 0 (by omega), ?_⟩
      simpa [Lit.wf, IntKind.min, IntKind.max, IntKind.signed, IntKind.bits] using hw
    obtain ⟨Z, hZ⟩ := choose_lt each
    obtain ⟨b, off, spot⟩ := a'
    have hsp : 0 < len → spot = none ∧ b < w.heap.size := by
      intro hp
      obtain ⟨h3, _⟩ := hZ 0 hp
      have h4 : w.cell? ⟨b, off, spot⟩ = some (.int .u8 (Z 0)) := by simpa [Addr.add] using h3
      exact ⟨by simpa using World.cell?_spot h4, World.block_lt_of_cell? w _ h4⟩
    refine ⟨(List.range len).map Z, ⟨some ⟨b, off, spot⟩, cap, by simp, by simpa using hl, by unfold maxLen at hm; omega, b, off, ?_, ?_⟩, ?_⟩
    · intro hp
      have hp' : 0 < len := by simpa using hp
      obtain ⟨h1, h2⟩ := hsp hp'
      exact ⟨by rw [h1], Nat.zero_le _, h2⟩
    · intro i x j u hx' hu
      have hi : i < len := by have := (List.getElem?_eq_some_iff.1 hx').1; simpa using this
      obtain ⟨h1, _⟩ := hsp (by omega)
      subst h1
      have hxi : x = Z i := by
        rw [List.getElem?_map, List.getElem?_range hi] at hx'
        simpa using hx'.symm
      subst hxi
      have hj : j = 0 ∧ u = .int .u8 (Z i) := by
        cases j with
        | zero => simp [encY] at hu; exact ⟨rfl, hu.symm⟩
        | succ j => simp [encY] at hu
      obtain ⟨rfl, rfl⟩ := hj
      have h4 := (hZ i hi).1
      rw [add_lit1, add_lit1] at h4
      exact h4
    · intro z hz
      obtain ⟨i, hi, rfl⟩ := List.mem_map.1 hz
      exact (hZ i (List.mem_range.1 hi)).2
end Go.Proofs.YtmaaeemhbccpcaaGreatDoor
