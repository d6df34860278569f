
/- slices.Delete of one tower, slices.Clone of towers: contracts. -/
import Derived.Test.YtiipjlcmekakaaaAppL
import Derived.Lib.SliceRun
namespace Go.Proofs.Ytiipjlcmekakaaa
open Go.RowKit
def ovl : List Value → Nat → List Value → List Value
  | xs, _, [] => xs
  | xs, o, v :: r => ovl (xs.set o v) (o + 1) r
theorem ovl_len : ∀ (vs xs : List Value) (o : Nat), (ovl xs o vs).length = xs.length
  | [], xs, o => rfl
  | v :: r, xs, o => by unfold ovl; rw [ovl_len r, List.length_set]
theorem ovl_get : ∀ (vs xs : List Value) (o k : Nat), o + vs.length ≤ xs.length → (ovl xs o vs)[k]? = if o ≤ k ∧ k < o + vs.length then vs[k - o]? else xs[k]?
  | [], xs, o, k, _ => by
    unfold ovl
    rw [if_neg (by simp only [List.length_nil]; omega)]
  | v :: r, xs, o, k, h => by
    unfold ovl
    simp only [List.length_cons] at h ⊢
    rw [ovl_get r (xs.set o v) (o + 1) k (by simp; omega)]
    by_cases h1 : o + 1 ≤ k ∧ k < o + 1 + r.length
    · rw [if_pos h1, if_pos (by omega), show k - o = (k - (o + 1)) + 1 by omega, List.getElem?_cons_succ]
    · rw [if_neg h1]
      by_cases h2 : k = o
      · subst h2
        rw [if_pos (by omega), List.getElem?_set_self (by omega)]; simp
      · rw [if_neg (by omega), List.getElem?_set_ne (by omega)]
theorem del_cells {C news z : List Value} {o q : Nat} (h1 : o + news.length = q) (h2 : q + z.length ≤ C.length) : (ovl (ovl C o news) q z).take q = C.take o ++ news := by
  apply List.ext_getElem?
  intro k
  rw [List.getElem?_take]
  by_cases hk : k < q
  · rw [if_pos hk, ovl_get _ _ _ _ (by rw [ovl_len]; omega), if_neg (by omega), ovl_get _ _ _ _ (by omega)]
    by_cases h3 : k < o
    · rw [if_neg (by omega), List.getElem?_append_left (by rw [List.length_take]; omega), List.getElem?_take, if_pos h3]
    · rw [if_pos (by omega), List.getElem?_append_right (by rw [List.length_take]; omega), List.length_take, Nat.min_eq_left (by omega)]
  · rw [if_neg hk, List.getElem?_append_right (by rw [List.length_take]; omega), List.getElem?_eq_none (by rw [List.length_take]; omega)]
theorem own_setCellsV {base g n c sz : Nat} {e : TypeId} : ∀ (vs xs : List Value) (o : Nat) (w : World), w.ownsRow base e sz (.slice (some ⟨g, 0, none⟩) n c) n xs →
    (w.setCells g o vs).ownsRow base e sz (.slice (some ⟨g, 0, none⟩) n c) n (ovl xs o vs) ∧ w.grownBy (w.setCells g o vs) (some g)
  | [], xs, o, w, h => ⟨h, World.grownBy.refl _ _⟩
  | v :: r, xs, o, w, h => by
    obtain ⟨h1, h2⟩ := h.stored o v
    have h3 := own_setCellsV r (xs.set o v) (o + 1) _ h1
    exact ⟨h3.1, grown_trans h2 h3.2⟩
theorem own_cutV {w : World} {base g n c k sz : Nat} {e : TypeId} {L : List Value} (h : w.ownsRow base e sz (.slice (some ⟨g, 0, none⟩) n c) n L) (hk : k ≤ n) : w.ownsRow base e sz (.slice (some ⟨g, 0, none⟩) k c) k (L.take (k * sz)) := by
  rcases h with ⟨hl, h⟩
  have hks : k * sz ≤ n * sz := Nat.mul_le_mul_right _ hk
  refine ⟨by rw [List.length_take_of_le (by omega)], ?_⟩
  rcases h with ⟨hv, _⟩ | ⟨g', cap, cur, hv, hb, hg, hn, hm, hs, ht⟩
  · simp at hv
  · simp only [Value.slice.injEq, Option.some.injEq, Addr.mk.injEq, and_true, true_and] at hv
    obtain ⟨rfl, rfl⟩ := hv
    exact .inr ⟨g, c, cur, rfl, hb, hg, by omega, hm, hs, by rw [← ht, List.take_take, Nat.min_eq_left hks]⟩
theorem own_cellC {w : World} {base g n c sz : Nat} {e : TypeId} {L : List Value} (h : w.ownsRow base e sz (.slice (some ⟨g, 0, none⟩) n c) n L) {j : Nat} {u : Value} (hu : L[j]? = some u) : w.cell? ⟨g, j, none⟩ = some u := by
  have hj : j < n * sz := by rw [← h.1]; exact (List.getElem?_eq_some_iff.1 hu).1
  rw [h.cellAt j hj]; exact hu
theorem run_clear3 {P : Program} (w : World) (t e ty : TypeId) (ht : P.underlying t = some (.slice e)) (hv : ∀ w, (zeroValue e).run P w = .ok (.agg #[.int .i64 0, .int .i64 0, .int .i64 0]) w) (b o c : Nat)
    (hc : ∀ j, j < 3 → (w.cell? ⟨b, o + j, none⟩).isSome = true) (hf : ∀ j, j < 3 → w.frozen? ⟨b, o + j, none⟩ = false) :
    (Builtin.clear_ #[t] ty #[.slice (some ⟨b, o, none⟩) 1 c]).run P w = .ok (.tuple #[]) (w.setCells b o [.int .i64 0, .int .i64 0, .int .i64 0]) := by
  have hzc : (Builtin.zeroCells (Value.agg #[.int .i64 0, .int .i64 0, .int .i64 0]).cells 1).toList = [.int .i64 0, .int .i64 0, .int .i64 0] := by
    rw [show (Value.agg #[.int .i64 0, .int .i64 0, .int .i64 0]).cells = #[.int .i64 0, .int .i64 0, .int .i64 0] from rfl]
    simp [Builtin.zeroCells]
    apply List.ext_getElem
    · simp
    · intro i h1 h2
      simp at h1 h2
      match i, h1 with
      | 0, _ => simp
      | 1, _ => simp
      | 2, _ => simp
  have hst := run_storeCells_cells (P := P) b o [.int .i64 0, .int .i64 0, .int .i64 0] 0 w (by simpa using hc) (by simpa using hf) (by intro v hv'; simp at hv'; subst hv'; rfl)
  simp only [Nat.add_zero] at hst
  simp [Builtin.clear_, run_underlying ht, hv, hzc, hst]
theorem zero_tower_Ytiipjlcmekakaaa (w : World) : (zeroValue 75).run Try.prog w = .ok (.agg #[.int .i64 0, .int .i64 0, .int .i64 0]) w := by kernel_rfl
set_option maxRecDepth 1000000 in
set_option maxHeartbeats 4000000 in
theorem c_DelT (base g n cap i : Nat) (C : List Value) (w : World) (hown : w.ownsRow base 75 3 (.slice (some ⟨g, 0, none⟩) n cap) n C) (h1c : ∀ u ∈ C, u.oneCell' = true) (hi : i < n) :
    Calls Try.prog 53 #[.slice (some ⟨g, 0, none⟩) n cap, .int .i64 i, .int .i64 ((i : Int) + 1)] w fun e w' =>
      e = .returned (.slice (some ⟨g, 0, none⟩) (n - 1) cap) ∧ w'.ownsRow base 75 3 (.slice (some ⟨g, 0, none⟩) (n - 1) cap) (n - 1) (C.take (i * 3) ++ C.drop ((i + 1) * 3)) ∧ w.grownBy w' (some g) := by
  obtain ⟨i0, hi0, hz0, hz1, hz2⟩ := info_parts Try.info_tower
  have hxl : C.length = n * 3 := hown.1
  obtain ⟨hnc, hcm⟩ : n ≤ cap ∧ cap ≤ 9223372036854775807 := by
    obtain ⟨a, c, e, _, h1, h2⟩ := own_form hown
    simp only [Value.slice.injEq, true_and] at e
    obtain ⟨_, rfl⟩ := e
    exact ⟨h1, h2⟩
  obtain ⟨news, hnews⟩ : ∃ news, news = C.drop ((i + 1) * 3) := ⟨_, rfl⟩
  have hlen : news.length = (n - (i + 1)) * 3 := by rw [hnews, List.length_drop, hxl]; omega
  have hcell : ∀ (k : Nat) (x : Value), C[k]? = some x → w.cell? ⟨g, k, none⟩ = some x := fun k x hx => own_cellC hown hx
  obtain ⟨A, hA, hsrc⟩ : ∃ A : Addr, (if cap = i + 1 then some (⟨g, 0, none⟩ : Addr) else some ⟨g, (i + 1) * 3, none⟩) = some A ∧ Hid (∀ t u, news[t]? = some u → w.drew.cell? (A.add t) = some u) := by
    by_cases h : cap = i + 1
    · refine ⟨⟨g, 0, none⟩, by simp [h], fun t u hu => ?_⟩
      have h0 : news.length = 0 := by rw [hlen]; omega
      rw [List.length_eq_zero_iff.1 h0] at hu
      simp at hu
    · refine ⟨⟨g, (i + 1) * 3, none⟩, by simp [h], fun t u hu => ?_⟩
      rw [hnews, List.getElem?_drop] at hu
      rw [add_lit1]
      exact hcell _ u hu
  have s1 : Hid (news.length = (n - (i + 1)) * 3) := hlen
  have s2 : Hid (∀ u ∈ news, u.oneCell' = true) := by
    intro u hu
    rw [hnews] at hu
    exact h1c u (List.mem_of_mem_drop hu)
  have s3 : Hid (∀ t, t < news.length → (w.drew.cell? ⟨g, 0 + i * 3 + t, none⟩).isSome = true ∧ w.drew.frozen? ⟨g, 0 + i * 3 + t, none⟩ = false) := by
    intro t ht
    rw [hlen] at ht
    have hx : C[0 + i * 3 + t]? = some (C[0 + i * 3 + t]'(by omega)) := List.getElem?_eq_getElem (by omega)
    exact ⟨by show (w.cell? _).isSome = true; rw [hcell _ _ hx]; rfl, hown.frozenAt _⟩
  obtain ⟨W1, hW1⟩ : ∃ W1, W1 = w.drew.setCells g (0 + i * 3) news := ⟨_, rfl⟩
  obtain ⟨o1, gr1⟩ : W1.ownsRow base 75 3 (.slice (some ⟨g, 0, none⟩) n cap) n (ovl C (i * 3) news) ∧ w.grownBy W1 (some g) := by
    have h9 := own_setCellsV (base := base) (g := g) (n := n) (c := cap) news C (i * 3) w.drew hown.drew
    rw [hW1, show 0 + i * 3 = i * 3 by omega]
    exact ⟨h9.1, ⟨h9.2.os, h9.2.tape, h9.2.output, h9.2.size, h9.2.block⟩⟩
  have hol : (ovl C (i * 3) news).length = n * 3 := by rw [ovl_len]; exact hxl
  have hci : ∀ j, j < 3 → (W1.cell? ⟨g, (n - 1) * 3 + j, none⟩).isSome = true := fun j hj => by
    have hx : (ovl C (i * 3) news)[(n - 1) * 3 + j]? = some ((ovl C (i * 3) news)[(n - 1) * 3 + j]'(by omega)) := List.getElem?_eq_getElem (by omega)
    rw [own_cellC o1 hx]; rfl
  have hfz := fun j => o1.frozenAt ((n - 1) * 3 + j)
  have hcl : ∀ ty, (Builtin.clear_ #[24] ty #[.slice (some ⟨g, (i + (n - (i + 1))) * 3, none⟩) (n - (i + (n - (i + 1)))) (cap - (i + (n - (i + 1))))]).run Try.prog W1 = .ok (.tuple #[]) (W1.setCells g ((n - 1) * 3) [.int .i64 0, .int .i64 0, .int .i64 0]) := fun ty => by
    rw [show n - (i + (n - (i + 1))) = 1 by omega, show i + (n - (i + 1)) = n - 1 by omega]
    exact run_clear3 W1 24 75 ty Try.underlying24 zero_tower_Ytiipjlcmekakaaa g _ _ hci (fun j _ => hfz j)
  have hfin : Hid ((W1.setCells g ((n - 1) * 3) [.int .i64 0, .int .i64 0, .int .i64 0]).ownsRow base 75 3 (.slice (some ⟨g, 0, none⟩) (n - 1) cap) (n - 1) (C.take (i * 3) ++ news) ∧ w.grownBy (W1.setCells g ((n - 1) * 3) [.int .i64 0, .int .i64 0, .int .i64 0]) (some g)) := by
    have h9 := own_setCellsV (base := base) (g := g) (n := n) (c := cap) [.int .i64 0, .int .i64 0, .int .i64 0] _ ((n - 1) * 3) W1 o1
    refine ⟨?_, grown_trans gr1 h9.2⟩
    have h10 := own_cutV (k := n - 1) h9.1 (by omega)
    rw [del_cells (by rw [hlen]; omega) (by rw [hxl]; simp; omega)] at h10
    exact h10
  have hW : Hid (W1 = w.drew.setCells g (0 + i * 3) news) := hW1
  have HNW := Lib.hid hnews
  have hic : i ≤ cap := by omega
  have hjc : i + 1 ≤ cap := by omega
  have hwr : IntKind.i64.wrap ((i : Int) + 1) = (i : Int) + 1 := by rw [IntKind.wrap_i64]; omega
  have hp0 : (0 : Int) ≤ (i : Int) + 1 := by omega
  have hp1 : (i : Int) + 1 ≤ (n : Int) := by omega
  have hp2 : ((i : Int) + 1).toNat = i + 1 := by omega
  have hne : ((i : Int) == (i : Int) + 1) = false := by simp; omega
  have hiI : (i : Int) ≤ (n : Int) := by omega
  rw [← hnews]
  clear hW1 hcell hown o1 gr1 hol hci hfz hlen hxl hnews h1c
  go_enter Try.func53, Try.ntmps53
  go_wp2_with fail
  go_region_law (refine step_append_room rfl (.tmp 22) (.tmp 25) 24 rfl 75 i0 3 Try.underlying24 hi0 hz1 g 0 i cap (by simp [Act.eval, Act.put]) A (n - (i + 1)) (cap - (i + 1)) news (by simp [Act.eval, Act.put, hA]) s1.out hsrc.out s2.out (by omega) s3.out ?_; rw [← hW.out])
  go_wp2
  go_ret
  refine ⟨by rw [show n - 1 = i + (n - (i + 1)) by omega]; rfl, hfin.out⟩
end Go.Proofs.Ytiipjlcmekakaaa
