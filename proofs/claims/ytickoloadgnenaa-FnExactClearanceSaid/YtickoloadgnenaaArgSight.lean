/- How an argument that is a sight reads. -/
import Derived.Test.YtickoloadgnenaaIsSight
import Derived.Test.YtickoloadgnenaaArgs
namespace Go.Proofs.Ytickoloadgnenaa
open Go.ChangeShapes Go.WideShapes Go.RowKit Go.Joins Go.Deep

theorem cells_int_Ytickoloadgnenaa : Try.prog.cellsOf 3 = 1 := by kernel_rfl
theorem cells_LG_Ytickoloadgnenaa : Try.prog.cellsOf 52 = 2 := by kernel_rfl
theorem cells_LS_Ytickoloadgnenaa : Try.prog.cellsOf 24 = 4 := by kernel_rfl
theorem arg_sight {H : Type} {enc : TypeId × Value → H} {w : World} {r : Reach} {b0 : Nat} {v : Value} {d : DataW H} {p : List MemPlace} (hv : Value.okWide Try.prog w r b0 24 v)
    (h : DataW.Trod enc Try.prog w 0 (fun _ => true) true 24 v d p) : ∃ x, ArgSight w v x := by
  obtain ⟨c0, c1, c2, c3, y0, y1, y2, y3, n, rfl, _, _, h0, h1, h2, h3⟩ := open_agg4 Try.underlying24 (by kernel_rfl) cells_LS_Ytickoloadgnenaa hv h
  obtain ⟨D, e0, _, w0⟩ := DataW.trod_int Try.underlying3 h0
  obtain ⟨A, e1, _, w1⟩ := DataW.trod_int Try.underlying3 h1
  obtain ⟨B, e2, _, w2⟩ := DataW.trod_int Try.underlying3 h2
  simp only [List.cons.injEq, and_true] at e0 e1 e2
  subst e0 e1 e2
  obtain ⟨xs, hl, hr⟩ := row_of_structs Try.underlying22 Try.underlying52 Try.underlying3 cells_int_Ytickoloadgnenaa cells_LG_Ytickoloadgnenaa (by decide)
    (by intro i f hf; match i, hf with
        | 0, hf => simp at hf; subst hf; exact ⟨rfl, rfl⟩
        | 1, hf => simp at hf; subst hf; exact ⟨rfl, rfl⟩
        | i + 2, hf => simp at hf) h3
  refine ⟨(D, A, B, xs.map fun l => (l.headD 0, l.tail.headD 0)), c3, rfl, hr.map _ ?_⟩
  intro l hx
  have := (hl l hx).1
  match l, this with
  | [a, b], _ => rfl
end Go.Proofs.Ytickoloadgnenaa
