

/- Marks of a net that is a result: laid and found again. -/
import Derived.Test.YtmaaeemhbccpcaaDoorNet
namespace Go.Proofs.YtmaaeemhbccpcaaDoor
open Go.RowKit
/-- A net that has been marked. -/
def MarkNet (w : World) (lo hi : Nat) (v : Value) (m l : Nat) : Prop := ∃ a ca b cb, v = .agg #[.slice a m ca, .slice b l cb] ∧
  (w.ownsRow lo 51 3 (.slice a m ca) m (marks 1 (m * 3)) ∧ ∀ k, (Value.slice a m ca).ownBlock = some k → k < hi) ∧
  (w.ownsRow lo 59 3 (.slice b l cb) l (marks (1 + m * 3) (l * 3)) ∧ ∀ k, (Value.slice b l cb).ownBlock = some k → k < hi)
theorem MarkNet.ext {w w' : World} {lo hi : Nat} {v : Value} {m l : Nat} (h : MarkNet w lo hi v m l) (hx : Ext w w') : MarkNet w' lo hi v m l := by
  obtain ⟨a, ca, b, cb, e, ⟨h1, h2⟩, h3, h4⟩ := h
  exact ⟨a, ca, b, cb, e, ⟨own_ext h1 hx, h2⟩, own_ext h3 hx, h4⟩
theorem MarkNet.keepd {w w' : World} {lo hi lo2 hi2 : Nat} {v : Value} {m l : Nat} (h : MarkNet w lo hi v m l) (hk : Keep lo2 hi2 w w') (hd : hi ≤ lo2 ∨ hi2 ≤ lo) : MarkNet w' lo hi v m l := by
  obtain ⟨a, ca, b, cb, e, ⟨h1, h2⟩, h3, h4⟩ := h
  exact ⟨a, ca, b, cb, e, ⟨own_keep h1 hk (fun k e => by have := (h1.lt k e).1; have := h2 k e; omega), h2⟩, own_keep h3 hk (fun k e => by have := (h3.lt k e).1; have := h4 k e; omega), h4⟩
set_option maxRecDepth 100000 in
set_option maxHeartbeats 1000000 in
theorem c_markNetM (v : Value) (lo hi : Nat) (x : NetT) (w : World) (h : OwnNet w lo hi v x) (hh : hi ≤ w.heap.size) (hn20 : x.1.length + x.2.length ≤ 1048576) :
    Calls Tryd.prog 12 #[v, .int .i64 1] w fun e w' => e = .returned (.int .i64 (1 + x.1.length * 3 + x.2.length * 3)) ∧ Keep lo hi w w' ∧ MarkNet w' lo hi v x.1.length x.2.length := by
  obtain ⟨a, ca, b, cb, rfl, ⟨m1, m2⟩, m3, m4⟩ := h.form
  obtain ⟨vt, vl, hv, h1, h2, h3⟩ := h
  simp only [Value.agg.injEq, Array.mk.injEq, List.cons.injEq, and_true] at hv
  obtain ⟨rfl, rfl⟩ := hv
  obtain ⟨W1, hW1⟩ : ∃ W, W = (w.alloc (.cells #[.slice a x.1.length ca, .slice b x.2.length cb] 32)) := ⟨_, rfl⟩
  have X1 : Ext w W1 := by rw [hW1]; exact Ext.alloc _ _
  have B1 : W1.heap[w.heap.size]? = some (.cells #[.slice a x.1.length ca, .slice b x.2.length cb] 32) := by rw [hW1]; exact blk_alloc _ _
  have HW1 := Lib.hid hW1
  have o1 := h1.ext X1
  have o2 := h2.ext X1
  have O1 := Lib.hid o1
  have O2 := Lib.hid o2
  have H3 := Lib.hid h3
  have C1 := Lib.hid (c_markTowerS _ x.1.length lo _ 1 W1 o1.own (by omega) (by omega) (by omega))
  obtain ⟨n, hn⟩ : ∃ n, n = x.1.length := ⟨_, rfl⟩
  obtain ⟨l, hl⟩ : ∃ n, n = x.2.length := ⟨_, rfl⟩
  clear h1 h2 h3 hW1 o1 o2
  go_enter Tryd.func12, Tryd.ntmps12
  go_wp2_with fail
  rw [← HW1.out]
  refine C1.out.mono ?_
  rintro e W2 ⟨rfl, ho2, gr⟩
  have HOT := Lib.hid ho2
  have HGR := Lib.hid gr
  have K2 : Keep lo hi W1 W2 := Keep.of_grown gr (fun k hk => ⟨(O1.out.own.lt k hk).1, O1.out.lt k hk⟩)
  have HK2 := Lib.hid K2
  have o2 := O2.out.own.kept gr (by
    cases hb : (Value.slice b x.2.length cb).ownBlock with
    | none => exact .inl rfl
    | some k => exact .inr (fun e => H3.out k e.symm hb))
  have B2 : W2.heap[w.heap.size]? = some (.cells #[.slice a x.1.length ca, .slice b x.2.length cb] 32) := by
    rw [gr.block w.heap.size (Array.getElem?_eq_some_iff.1 B1).1 (fun e => by have := O1.out.lt w.heap.size e.symm; omega)]; exact B1
  have k1 := blk_cell B2 (j := 1) rfl
  have C2 := Lib.hid (c_markLinkS _ x.2.length lo _ (1 + x.1.length * 3) W2 o2 (by omega) (by omega) (by omega))
  clear gr K2 o2 B2 ho2
  go_wp2_with (go_at_call 32; refine C2.out.mono ?_; rintro e W3 ⟨rfl, ho3, gr3⟩)
  have HOL := Lib.hid ho3
  have HG3 := Lib.hid gr3
  clear ho3 gr3
  go_ret
  refine ⟨rfl, (Keep.of_ext X1).trans (HK2.out.trans (Keep.of_grown HG3.out (fun k hk => ⟨(O2.out.own.lt k hk).1, O2.out.lt k hk⟩))), a, ca, b, cb, rfl, ⟨?_, O1.out.lt⟩, HOL.out, O2.out.lt⟩
  refine HOT.out.kept HG3.out ?_
  cases hb : (Value.slice a x.1.length ca).ownBlock with
  | none => exact .inl rfl
  | some k => exact .inr (fun e => H3.out k hb e.symm)
set_option maxRecDepth 100000 in
set_option maxHeartbeats 1000000 in
theorem c_heldNet (v : Value) (lo hi m l : Nat) (w : World) (h : MarkNet w lo hi v m l) (_hh : hi ≤ w.heap.size) (hn20 : m + l ≤ 1048576) :
    Calls Tryd.prog 13 #[v, .int .i64 1] w fun e w' => e = .returned (.int .i64 (1 + m * 3 + l * 3)) ∧ Ext w w' := by
  obtain ⟨a, ca, b, cb, rfl, ⟨h1, h2⟩, h3, h4⟩ := h
  obtain ⟨W1, hW1⟩ : ∃ W, W = (w.alloc (.cells #[.slice a m ca, .slice b l cb] 32)) := ⟨_, rfl⟩
  have X1 : Ext w W1 := by rw [hW1]; exact Ext.alloc _ _
  have B1 : W1.heap[w.heap.size]? = some (.cells #[.slice a m ca, .slice b l cb] 32) := by rw [hW1]; exact blk_alloc _ _
  have k1 := blk_cell B1 (j := 1) rfl
  have C1 := Lib.hid (c_heldTowerS _ m lo 1 W1 (own_ext h1 X1) (by omega) (by omega) (by omega))
  have C2 := Lib.hid (c_heldLinkS _ l lo (1 + m * 3) W1 (own_ext h3 X1) (by omega) (by omega) (by omega))
  have HW1 := Lib.hid hW1
  clear h1 h2 h3 h4 hW1 B1
  go_enter Tryd.func13, Tryd.ntmps13
  go_wp2_with fail
  rw [← HW1.out]
  refine C1.out.mono ?_
  rintro e w' ⟨rfl, rfl⟩
  go_wp2_with (go_at_call 34; refine C2.out.mono ?_; rintro e w' ⟨rfl, rfl⟩)
  go_ret
  exact ⟨rfl, X1⟩
end Go.Proofs.YtmaaeemhbccpcaaDoor
