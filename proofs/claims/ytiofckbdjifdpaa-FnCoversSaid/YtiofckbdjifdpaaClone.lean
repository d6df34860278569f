
/- Copies of slices of ints: slices.Clone, l1Own. -/
import Derived.Test.YtiofckbdjifdpaaRow
import Derived.Laws.AppendOwnNone
namespace Go.Proofs.Ytiofckbdjifdpaa
open Go.RowKit

set_option maxRecDepth 100000 in
theorem c_Clone (v : Value) (la ha : Nat) (xs : List Int) (w : World) (h : Ints w la ha v xs) (hh : ha ≤ w.heap.size) (hn : xs.length ≤ 1048576) :
    Calls Try.prog 46 #[v] w fun e w' => ∃ v', e = .returned v' ∧ w'.ownsRow w.heap.size 3 1 v' xs.length (xs.flatMap encI) ∧ Ext w w' := by
  obtain ⟨i0, hi0, hz0, hz1, hz2⟩ := info_parts Try.info_intC
  have h0 := h
  obtain ⟨a, cap, rfl, m1, m2, b, off, m3, _⟩ := h0
  cases a with
  | none =>
    have hx : xs = [] := by
      cases xs with
      | nil => rfl
      | cons x r => have := (m3 (by simp)).1; cases this
    subst hx
    have hs := Lib.run_eql_slice_nil (P := Try.prog)
    go_enter Try.func46, Try.ntmps46
    go_wp2
    go_ret
    exact ⟨_, rfl, World.ownsRow_nil _ _ _ _, Ext.refl _⟩
  | some ad =>
    have hs := Lib.run_eql_slice_nil (P := Try.prog)
    clear m3
    go_enter Try.func46, Try.ntmps46
    go_wp2_with
      (at_builtin; refine wpList_append_own _ rfl _ _ 24 rfl w.heap.size 3 i0 (.int .i64 0) 1 8 Try.underlying24 hi0 hz0 hz1 hz2 rfl (by decide) _ _ _ rfl (own_lit0 w 3) ad xs.length cap (xs.flatMap encI) rfl (by rw [flat_map]; simp) (Ints_cells (h.ext (Ext.alloc _ _) hh)) (ints_one xs) (by unfold maxLen; omega) (by omega) (by simp) ?_; intro v3 w3 hown3 hgrow3 hnil3)
    go_ret
    exact ⟨_, rfl, by simpa using hown3, ((Ext.refl w).al _).gr hgrow3 (fun k hk => ((own_lit0 w 3).lt k hk).1)⟩
set_option maxRecDepth 100000 in
theorem c_l1Own (v : Value) (la ha : Nat) (xs : List Int) (w : World) (h : Ints w la ha v xs) (hh : ha ≤ w.heap.size) (hn : xs.length ≤ 1048576) :
    Calls Try.prog 74 #[v] w fun e w' => ∃ v', e = .returned v' ∧ w'.ownsRow w.heap.size 3 1 v' xs.length (xs.flatMap encI) ∧ Ext w w' := by
  obtain ⟨i0, hi0, hz0, hz1, hz2⟩ := info_parts Try.info_intC
  have h0 := h
  obtain ⟨a, cap, rfl, m1, m2, b, off, m3, _⟩ := h0
  cases a with
  | none =>
    have hx : xs = [] := by
      cases xs with
      | nil => rfl
      | cons x r => have := (m3 (by simp)).1; cases this
    subst hx
    go_enter Try.func74, Try.ntmps74
    go_wp2
    go_ret
    exact ⟨_, rfl, own_lit0 _ _, Ext.alloc _ _⟩
  | some ad =>
    clear m3
    go_enter Try.func74, Try.ntmps74
    go_wp2_with
      (at_builtin; refine wpList_append_own _ rfl _ _ 24 rfl w.heap.size 3 i0 (.int .i64 0) 1 8 Try.underlying24 hi0 hz0 hz1 hz2 rfl (by decide) _ _ _ rfl (own_lit0 w 3) ad xs.length cap (xs.flatMap encI) rfl (by rw [flat_map]; simp) (Ints_cells (h.ext (Ext.alloc _ _) hh)) (ints_one xs) (by unfold maxLen; omega) (by omega) (by simp) ?_; intro v3 w3 hown3 hgrow3 hnil3)
    go_ret
    exact ⟨_, rfl, by simpa using hown3, ((Ext.refl w).al _).gr hgrow3 (fun k hk => ((own_lit0 w 3).lt k hk).1)⟩
end Go.Proofs.Ytiofckbdjifdpaa
