/- How an argument that is a net reads. -/
import Derived.Test.YtmaaeemhbccpcaaDoorNet
import Derived.Test.YtmaaeemhbccpcaaDoorArgs
namespace Go.Proofs.YtmaaeemhbccpcaaDoor
open Go.ChangeShapes Go.WideShapes Go.RowKit Go.Joins Go.Deep
theorem cells_int_YtmaaeemhbccpcaaDoor : Tryd.prog.cellsOf 3 = 1 := by kernel_rfl
theorem cells_LT_YtmaaeemhbccpcaaDoor : Tryd.prog.cellsOf 78 = 3 := by kernel_rfl
theorem cells_LL_YtmaaeemhbccpcaaDoor : Tryd.prog.cellsOf 80 = 3 := by kernel_rfl
theorem cells_LN_YtmaaeemhbccpcaaDoor : Tryd.prog.cellsOf 25 = 2 := by kernel_rfl
def tri (l : List Int) : Int × Int × Int := (l.headD 0, l.tail.headD 0, l.tail.tail.headD 0)
theorem tri_mem {l : List Int} (hl : l.length = 3) (hz : ∀ z ∈ l, I64 z) : I64 (tri l).1 ∧ I64 (tri l).2.1 ∧ I64 (tri l).2.2 := by
  match l, hl with
  | [a, b, c], _ => exact ⟨hz a (by simp), hz b (by simp), hz c (by simp)⟩
def Wf3 (x : Int × Int × Int) : Prop := I64 x.1 ∧ I64 x.2.1 ∧ I64 x.2.2
def ArgNet (w : World) (v : Value) (x : NetT) : Prop := Nets w 0 w.heap.size v x ∧ (∀ t ∈ x.1, Wf3 t) ∧ ∀ t ∈ x.2, Wf3 t
theorem fields3 {k : TypeId} {a b c : Field} (ha : a.type = k ∧ a.offset = 0) (hb : b.type = k ∧ b.offset = 1) (hc : c.type = k ∧ c.offset = 2) : ∀ (i : Nat) (f : Field), (#[a, b, c] : Array Field)[i]? = some f → f.type = k ∧ f.offset = i := by
  intro i f hf
  match i, hf with
  | 0, hf => simp at hf; subst hf; exact ha
  | 1, hf => simp at hf; subst hf; exact hb
  | 2, hf => simp at hf; subst hf; exact hc
  | i + 3, hf => simp at hf
set_option maxRecDepth 100000 in
theorem arg_net {H : Type} {enc : TypeId × Value → H} {w : World} {r : Reach} {b0 : Nat} {v : Value} {d : DataW H} {p : List MemPlace} (hv : Value.okWide Tryd.prog w r b0 25 v)
    (h : DataW.Trod enc Tryd.prog w 0 (fun _ => true) true 25 v d p) : ∃ x, ArgNet w v x := by
  obtain ⟨c0, c1, y0, y1, n, rfl, _, _, h0, h1⟩ := open_agg2 Tryd.underlying25 (by kernel_rfl) cells_LN_YtmaaeemhbccpcaaDoor hv h
  obtain ⟨xs, hl, hr⟩ := row_of_structs Tryd.underlying22 Tryd.underlying78 Tryd.underlying3 cells_int_YtmaaeemhbccpcaaDoor cells_LT_YtmaaeemhbccpcaaDoor (by decide) (fields3 ⟨rfl, rfl⟩ ⟨rfl, rfl⟩ ⟨rfl, rfl⟩) h0
  obtain ⟨ys, hl2, hr2⟩ := row_of_structs Tryd.underlying23 Tryd.underlying80 Tryd.underlying3 cells_int_YtmaaeemhbccpcaaDoor cells_LL_YtmaaeemhbccpcaaDoor (by decide) (fields3 ⟨rfl, rfl⟩ ⟨rfl, rfl⟩ ⟨rfl, rfl⟩) h1
  refine ⟨(xs.map tri, ys.map tri), ⟨c0, c1, rfl, hr.map _ ?_, hr2.map _ ?_⟩, ?_, ?_⟩
  · intro l hx
    have := (hl l hx).1
    match l, this with
    | [a, b, c], _ => rfl
  · intro l hx
    have := (hl2 l hx).1
    match l, this with
    | [a, b, c], _ => rfl
  · intro t ht
    obtain ⟨l, hx, rfl⟩ := List.mem_map.1 ht
    exact tri_mem (hl l hx).1 (hl l hx).2
  · intro t ht
    obtain ⟨l, hx, rfl⟩ := List.mem_map.1 ht
    exact tri_mem (hl2 l hx).1 (hl2 l hx).2
end Go.Proofs.YtmaaeemhbccpcaaDoor
