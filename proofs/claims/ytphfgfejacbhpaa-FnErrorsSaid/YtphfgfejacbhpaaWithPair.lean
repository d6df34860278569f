
/- WithPair of the program and of the reference: their contracts. -/
import Derived.Test.YtphfgfejacbhpaaPair
import Derived.Test.YtphfgfejacbhpaaClone
namespace Go.Proofs.Ytphfgfejacbhpaa
open Go.RowKit

theorem new_cells2 (w : World) (x y : Value) (t : TypeId) : ∀ j u, ([x, y] : List Value)[j]? = some u → (w.alloc (.cells #[x, y] t)).cell? ((⟨w.heap.size, 0, none⟩ : Addr).add j) = some u := by
  intro j u hj
  match j, hj with
  | 0, hj => simp at hj; subst hj; exact blk_cell (blk_alloc _ _) rfl
  | 1, hj => simp at hj; subst hj; rw [add_lit1]; exact blk_cell (blk_alloc _ _) rfl
theorem own_push2 {w : World} {base : Nat} {e : TypeId} {v : Value} {L : List Int} {k l : Int} (h : w.ownsRow base e 1 v (L.length + 2) (L.flatMap encI ++ [.int .i64 k, .int .i64 l])) :
    w.ownsRow base e 1 v (L ++ [k, l]).length ((L ++ [k, l]).flatMap encI) := by
  rw [List.length_append, List.flatMap_append]; exact h
def wpV (xs : List Int) : List Int := if wordB 48 xs then xs ++ [pairA xs, pairB xs] else []
set_option maxRecDepth 100000 in
theorem c_iWithPair (v : Value) (la ha : Nat) (xs : List Int) (w : World) (h : Ints w la ha v xs) (hh : ha ≤ w.heap.size) :
    Calls Try.prog 7 #[v] w fun e w' => ∃ r, e = .returned (.tuple #[r, .bool (wordB 48 xs)]) ∧ w'.ownsRow w.heap.size 3 1 r (wpV xs).length ((wpV xs).flatMap encI) ∧ Ext w w' := by
  obtain ⟨i0, hi0, hz0, hz1, hz2⟩ := info_parts Try.info_intC
  obtain ⟨y, hy⟩ : ∃ x, x = wpV xs := ⟨_, rfl⟩
  rw [← hy]
  unfold wpV at hy
  have h0 := h
  obtain ⟨a, cap, rfl, m1, m2, _⟩ := h0
  have H := Lib.hid h
  clear h
  have hs := wordB_split (most := 48) (xs := xs) (by omega)
  cases h48 : wordB 48 xs
  · rw [h48] at hy hs
    simp at hy; subst hy
    cases h50 : wordB 50 xs
    · clear hs
      go_enter Try.func7, Try.ntmps7
      go_wp2_with ((first | (go_at_call 39; refine (c_isWord _ _ _ xs 0 _ H.out).mono ?_; rintro e w' ⟨rfl, rfl⟩) | (go_at_call 40; refine (c_pairChecks _ _ _ xs _ H.out h50).mono ?_; rintro e w' ⟨rfl, rfl⟩)))
      go_ret2
      exact ⟨_, rfl, World.ownsRow_nil _ _ _ _, Ext.refl _⟩
    · rw [h50] at hs
      have hl : 48 < (xs.length : Int) := by simpa using hs
      clear hs
      go_enter Try.func7, Try.ntmps7
      go_wp2_with ((first | (go_at_call 39; refine (c_isWord _ _ _ xs 0 _ H.out).mono ?_; rintro e w' ⟨rfl, rfl⟩) | (go_at_call 40; refine (c_pairChecks _ _ _ xs _ H.out h50).mono ?_; rintro e w' ⟨rfl, rfl⟩)))
      go_ret2
      exact ⟨_, rfl, World.ownsRow_nil _ _ _ _, Ext.refl _⟩
  · rw [h48] at hy hs
    simp at hy
    have h50 : wordB 50 xs = true := wordB_mono h48 (by omega)
    rw [h50] at hs
    have hl : (xs.length : Int) ≤ 48 := by simpa using hs.symm
    have HY := Lib.hid hy
    clear hs hy
    go_enter Try.func7, Try.ntmps7
    go_wp2_with (first | (first | (go_at_call 39; refine (c_isWord _ _ _ xs 0 _ H.out).mono ?_; rintro e w' ⟨rfl, rfl⟩) | (go_at_call 40; refine (c_pairChecks _ _ _ xs _ H.out h50).mono ?_; rintro e w' ⟨rfl, rfl⟩)) | (go_at_call 41; refine (c_Clone _ _ _ xs w H.out hh (by omega)).mono ?_; rintro e w2 ⟨v2, rfl, hown, hx2⟩) | (at_builtin; refine wpList_append_own _ rfl _ _ 24 rfl w.heap.size 3 i0 (.int .i64 0) 1 8 Try.underlying24 hi0 hz0 hz1 hz2 rfl (by decide) _ _ _ rfl (hown.alloc _) ⟨w2.heap.size, 0, none⟩ 2 2 [.int .i64 (pairA xs), .int .i64 (pairB xs)] rfl rfl (new_cells2 _ _ _ _) (by intro u hu; simp at hu; rcases hu with rfl | rfl <;> rfl) (by unfold maxLen; omega) (by omega) (by have := hx2.size; simp; omega) ?_; intro v3 w3 hown3 hgrow3 _))
    go_ret2
    refine ⟨_, rfl, ?_, hx2.push hown hgrow3 (Nat.le_refl _)⟩
    rw [HY.out]
    exact own_push2 hown3
set_option maxRecDepth 100000 in
theorem c_sWithPair (v : Value) (la ha : Nat) (xs : List Int) (w : World) (h : Ints w la ha v xs) (hh : ha ≤ w.heap.size) :
    Calls Try.prog 8 #[v] w fun e w' => ∃ r, e = .returned (.tuple #[r, .bool (wordB 48 xs)]) ∧ w'.ownsRow w.heap.size 3 1 r (wpV xs).length ((wpV xs).flatMap encI) ∧ Ext w w' := by
  obtain ⟨i0, hi0, hz0, hz1, hz2⟩ := info_parts Try.info_intC
  obtain ⟨y, hy⟩ : ∃ x, x = wpV xs := ⟨_, rfl⟩
  rw [← hy]
  unfold wpV at hy
  have h0 := h
  obtain ⟨a, cap, rfl, m1, m2, _⟩ := h0
  have H := Lib.hid h
  clear h
  have hs := wordB_split (most := 48) (xs := xs) (by omega)
  cases h48 : wordB 48 xs
  · rw [h48] at hy hs
    simp at hy; subst hy
    cases h50 : wordB 50 xs
    · clear hs
      go_enter Try.func8, Try.ntmps8
      go_wp2_with ((first | (go_at_call 42; refine (c_ckWord _ _ _ xs _ _ H.out).mono ?_; rintro e w' ⟨rfl, rfl⟩) | (go_at_call 43; refine (c_ckPair _ _ _ xs _ H.out h50).mono ?_; rintro e w' ⟨rfl, rfl⟩)))
      go_ret2
      exact ⟨_, rfl, World.ownsRow_nil _ _ _ _, Ext.refl _⟩
    · rw [h50] at hs
      have hl : 48 < (xs.length : Int) := by simpa using hs
      clear hs
      go_enter Try.func8, Try.ntmps8
      go_wp2_with ((first | (go_at_call 42; refine (c_ckWord _ _ _ xs _ _ H.out).mono ?_; rintro e w' ⟨rfl, rfl⟩) | (go_at_call 43; refine (c_ckPair _ _ _ xs _ H.out h50).mono ?_; rintro e w' ⟨rfl, rfl⟩)))
      go_ret2
      exact ⟨_, rfl, World.ownsRow_nil _ _ _ _, Ext.refl _⟩
  · rw [h48] at hy hs
    simp at hy
    have h50 : wordB 50 xs = true := wordB_mono h48 (by omega)
    rw [h50] at hs
    have hl : (xs.length : Int) ≤ 48 := by simpa using hs.symm
    have HY := Lib.hid hy
    clear hs hy
    go_enter Try.func8, Try.ntmps8
    go_wp2_with (first | (first | (go_at_call 42; refine (c_ckWord _ _ _ xs _ _ H.out).mono ?_; rintro e w' ⟨rfl, rfl⟩) | (go_at_call 43; refine (c_ckPair _ _ _ xs _ H.out h50).mono ?_; rintro e w' ⟨rfl, rfl⟩)) | (go_at_call 44; refine (c_l1Own _ _ _ xs w H.out hh (by omega)).mono ?_; rintro e w2 ⟨v2, rfl, hown, hx2⟩) | (at_builtin; refine wpList_append_own _ rfl _ _ 24 rfl w.heap.size 3 i0 (.int .i64 0) 1 8 Try.underlying24 hi0 hz0 hz1 hz2 rfl (by decide) _ _ _ rfl (hown.alloc _) ⟨w2.heap.size, 0, none⟩ 2 2 [.int .i64 (pairA xs), .int .i64 (pairB xs)] rfl rfl (new_cells2 _ _ _ _) (by intro u hu; simp at hu; rcases hu with rfl | rfl <;> rfl) (by unfold maxLen; omega) (by omega) (by have := hx2.size; simp; omega) ?_; intro v3 w3 hown3 hgrow3 _))
    go_ret2
    refine ⟨_, rfl, ?_, hx2.push hown hgrow3 (Nat.le_refl _)⟩
    rw [HY.out]
    exact own_push2 hown3
end Go.Proofs.Ytphfgfejacbhpaa
