/- An argument that is a link; the bound of the net with one link more; what a call with a result of two parts leaves. -/
import Derived.Test.YtiipjlcmekakaaaAddS
import Derived.Test.YtiipjlcmekakaaaArgNet
namespace Go.Proofs.Ytiipjlcmekakaaa
open Go.ChangeShapes Go.WideShapes Go.RowKit Go.Joins Go.Deep
def ArgLink (_w : World) (v : Value) (y : LinkT) : Prop := v = .agg #[.int .i64 y.1, .int .i64 y.2.1, .int .i64 y.2.2]
set_option maxRecDepth 100000 in
theorem arg_link {H : Type} {enc : TypeId × Value → H} {w : World} {r : Reach} {b0 : Nat} {v : Value} {d : DataW H} {p : List MemPlace} (hv : Value.okWide Try.prog w r b0 60 v)
    (h : DataW.Trod enc Try.prog w 0 (fun _ => true) true 60 v d p) : ∃ x, ArgLink w v x := by
  obtain ⟨c0, c1, c2, y0, y1, y2, n, rfl, _, _, h0, h1, h2⟩ := open_agg3 Try.underlying60 (by kernel_rfl) cells_LL_Ytiipjlcmekakaaa hv h
  obtain ⟨D, e0, _, w0⟩ := DataW.trod_int Try.underlying3 h0
  obtain ⟨A, e1, _, w1⟩ := DataW.trod_int Try.underlying3 h1
  obtain ⟨B, e2, _, w2⟩ := DataW.trod_int Try.underlying3 h2
  simp only [List.cons.injEq, and_true] at e0 e1 e2
  subst e0 e1 e2
  exact ⟨(D, A, B), rfl⟩
theorem adV_bound (x : NetT) (y : LinkT) : (adV x y).1.length + (adV x y).2.length ≤ 1048576 := by
  unfold adV
  split
  · rename_i h
    simp only [adOk, Bool.and_eq_true] at h
    have h1 := h.2
    have h3 := net_links h1
    simp only [netB, Bool.and_eq_true] at h1
    have h2 := inB_t h1.1
    omega
  · simp
def LkRes (W0 : World) (ys : NetT) (ok : Bool) (v0 v1 : Value) (wx : World) : Prop := ∃ bS lo hi a c ae ce, v0 = .pointer (some ⟨bS, 0, none⟩) ∧ v1 = .bool ok ∧
  wx.heap[bS]? = some (.cells #[.slice a ys.1.length c, .slice ae ys.2.length ce] 27) ∧ OwnNet wx lo hi (.agg #[.slice a ys.1.length c, .slice ae ys.2.length ce]) ys ∧
  W0.heap.size ≤ lo ∧ hi ≤ wx.heap.size ∧ W0.heap.size ≤ bS ∧ (bS < lo ∨ hi ≤ bS) ∧ lo ≤ hi ∧ Ext W0 wx
end Go.Proofs.Ytiipjlcmekakaaa
