
/- slices.Delete of one element of a slice of the call's own. -/
import Derived.Test.YtiofckbdjifdpaaSet
import Derived.Deep.RegionLaw
import Derived.Lib.SliceRun
namespace Go.Proofs.Ytiofckbdjifdpaa
open Go.RowKit

def ovl : List Int → Nat → List Int → List Int
  | xs, _, [] => xs
  | xs, o, v :: r => ovl (xs.set o v) (o + 1) r
theorem ovl_len : ∀ (vs xs : List Int) (o : Nat), (ovl xs o vs).length = xs.length
  | [], xs, o => rfl
  | v :: r, xs, o => by unfold ovl; rw [ovl_len r, List.length_set]
theorem ovl_get : ∀ (vs xs : List Int) (o k : Nat), o + vs.length ≤ xs.length → (ovl xs o vs)[k]? = if o ≤ k ∧ k < o + vs.length then vs[k - o]? else xs[k]?
  | [], xs, o, k, _ => by
    unfold ovl
    rw [if_neg (by simp only [List.length_nil]; omega)]
  | v :: r, xs, o, k, h => by
    unfold ovl
    simp only [List.length_cons] at h ⊢
    rw [ovl_get r (xs.set o v) (o + 1) k (by simp; omega)]
    by_cases h1 : o + 1 ≤ k ∧ k < o + 1 + r.length
    · rw [if_pos h1, if_pos (by omega), show k - o = (k - (o + 1)) + 1 by omega, List.getElem?_cons_succ]
    · rw [if_neg h1]
      by_cases h2 : k = o
      · subst h2
        rw [if_pos (by omega), List.getElem?_set_self (by omega)]; simp
      · rw [if_neg (by omega), List.getElem?_set_ne (by omega)]
theorem del_list {xs : List Int} {i : Nat} (hi : i < xs.length) : ((ovl xs i (xs.drop (i + 1))).set (xs.length - 1) 0).take (xs.length - 1) = xs.eraseIdx i := by
  rw [List.take_set_of_le (Nat.le_refl _)]
  apply List.ext_getElem?
  intro k
  rw [List.getElem?_take, List.getElem?_eraseIdx]
  by_cases hk : k < xs.length - 1
  · rw [if_pos hk, ovl_get _ _ _ _ (by simp; omega)]
    by_cases h1 : k < i
    · rw [if_pos h1, if_neg (by omega)]
    · rw [if_neg h1, if_pos (by simp; omega), List.getElem?_drop, show i + 1 + (k - i) = k + 1 by omega]
  · rw [if_neg hk]
    split
    · omega
    · rw [List.getElem?_eq_none (by omega)]
theorem own_setCells {base g n c : Nat} : ∀ (vs xs : List Int) (o : Nat) (w : World), w.ownsRow base 3 1 (.slice (some ⟨g, 0, none⟩) n c) n (xs.flatMap encI) →
    (w.setCells g o (vs.map (Value.int .i64))).ownsRow base 3 1 (.slice (some ⟨g, 0, none⟩) n c) n ((ovl xs o vs).flatMap encI) ∧ w.grownBy (w.setCells g o (vs.map (Value.int .i64))) (some g)
  | [], xs, o, w, h => ⟨h, World.grownBy.refl _ _⟩
  | v :: r, xs, o, w, h => by
    have h1 := own_set h o v
    have h2 := (h.stored o (.int .i64 v)).2
    have h3 := own_setCells r (xs.set o v) (o + 1) _ h1
    exact ⟨h3.1, grown_trans h2 h3.2⟩
theorem own_cut {w : World} {base g n c k : Nat} {e : TypeId} {L : List Value} (h : w.ownsRow base e 1 (.slice (some ⟨g, 0, none⟩) n c) n L) (hk : k ≤ n) : w.ownsRow base e 1 (.slice (some ⟨g, 0, none⟩) k c) k (L.take k) := by
  rcases h with ⟨hl, h⟩
  refine ⟨by rw [List.length_take_of_le (by omega)]; omega, ?_⟩
  rcases h with ⟨hv, _⟩ | ⟨g', cap, cur, hv, hb, hg, hn, hm, hs, ht⟩
  · simp at hv
  · simp only [Value.slice.injEq, Option.some.injEq, Addr.mk.injEq, and_true, true_and] at hv
    obtain ⟨rfl, rfl⟩ := hv
    exact .inr ⟨g, c, cur, rfl, hb, hg, by omega, hm, hs, by rw [← ht, List.take_take, Nat.min_eq_left (by omega), Nat.mul_one]⟩
set_option maxRecDepth 1000000 in
set_option maxHeartbeats 4000000 in
theorem c_Delete1 (base g n cap i : Nat) (xs : List Int) (w : World) (hown : w.ownsRow base 3 1 (.slice (some ⟨g, 0, none⟩) n cap) n (xs.flatMap encI)) (hi : i < n) :
    Calls Try.prog 72 #[.slice (some ⟨g, 0, none⟩) n cap, .int .i64 i, .int .i64 ((i : Int) + 1)] w fun e w' =>
      e = .returned (.slice (some ⟨g, 0, none⟩) (n - 1) cap) ∧ w'.ownsRow base 3 1 (.slice (some ⟨g, 0, none⟩) (n - 1) cap) (n - 1) ((xs.eraseIdx i).flatMap encI) ∧ w.grownBy w' (some g) := by
  obtain ⟨i0, hi0, hz0, hz1, hz2⟩ := info_parts Try.info_intC
  have hxl : xs.length = n := by have := hown.1; rw [flat_map, List.length_map] at this; omega
  obtain ⟨hnc, hcm⟩ : n ≤ cap ∧ cap ≤ 9223372036854775807 := by
    obtain ⟨a, c, e, _, h1, h2⟩ := own_form hown
    simp only [Value.slice.injEq, true_and] at e
    obtain ⟨_, rfl⟩ := e
    exact ⟨h1, h2⟩
  obtain ⟨news, hnews⟩ : ∃ news, news = (xs.drop (i + 1)).map (Value.int .i64) := ⟨_, rfl⟩
  have hlen : news.length = n - (i + 1) := by rw [hnews]; simp [hxl]
  have hcell : ∀ k x, xs[k]? = some x → w.cell? ⟨g, k, none⟩ = some (.int .i64 x) := fun k x hx => own_cellv hown hx (by rw [← hxl]; exact (List.getElem?_eq_some_iff.1 hx).1)
  obtain ⟨A, hA, hsrc⟩ : ∃ A : Addr, (if cap = i + 1 then some (⟨g, 0, none⟩ : Addr) else some ⟨g, i + 1, none⟩) = some A ∧ Hid (∀ t u, news[t]? = some u → w.drew.cell? (A.add t) = some u) := by
    by_cases h : cap = i + 1
    · refine ⟨⟨g, 0, none⟩, by simp [h], fun t u hu => ?_⟩
      have h0 : news.length = 0 := by rw [hlen]; omega
      rw [List.length_eq_zero_iff.1 h0] at hu
      simp at hu
    · refine ⟨⟨g, i + 1, none⟩, by simp [h], fun t u hu => ?_⟩
      rw [hnews, List.getElem?_map, List.getElem?_drop] at hu
      obtain ⟨x, hx, rfl⟩ := Option.map_eq_some_iff.1 hu
      rw [add_lit1]
      exact hcell _ x hx
  have s1 : Hid (news.length = (n - (i + 1)) * 1) := by rw [Nat.mul_one]; exact hlen
  have s2 : Hid (∀ u ∈ news, u.oneCell' = true) := by
    intro u hu
    rw [hnews] at hu
    obtain ⟨x, _, rfl⟩ := List.mem_map.1 hu
    rfl
  have s3 : Hid (∀ t, t < news.length → (w.drew.cell? ⟨g, 0 + i * 1 + t, none⟩).isSome = true ∧ w.drew.frozen? ⟨g, 0 + i * 1 + t, none⟩ = false) := by
    intro t ht
    rw [hlen] at ht
    have hx : xs[0 + i * 1 + t]? = some (xs[0 + i * 1 + t]'(by omega)) := List.getElem?_eq_getElem (by omega)
    exact ⟨by show (w.cell? _).isSome = true; rw [hcell _ _ hx]; rfl, hown.frozenAt _⟩
  obtain ⟨W1, hW1⟩ : ∃ W1, W1 = w.drew.setCells g (0 + i * 1) news := ⟨_, rfl⟩
  obtain ⟨o1, gr1⟩ : W1.ownsRow base 3 1 (.slice (some ⟨g, 0, none⟩) n cap) n ((ovl xs i (xs.drop (i + 1))).flatMap encI) ∧ w.grownBy W1 (some g) := by
    have h9 := own_setCells (base := base) (g := g) (n := n) (c := cap) (xs.drop (i + 1)) xs i w.drew hown.drew
    rw [hW1, hnews, show 0 + i * 1 = i by omega]
    exact ⟨h9.1, ⟨h9.2.os, h9.2.tape, h9.2.output, h9.2.size, h9.2.block⟩⟩
  have hol : (ovl xs i (xs.drop (i + 1))).length = n := by rw [ovl_len]; exact hxl
  have hci : (W1.cell? ⟨g, n - 1, none⟩).isSome = true := by
    have hx : (ovl xs i (xs.drop (i + 1)))[n - 1]? = some ((ovl xs i (xs.drop (i + 1)))[n - 1]'(by omega)) := List.getElem?_eq_getElem (by omega)
    rw [own_cellv o1 hx (by omega)]; rfl
  have hfz := o1.frozenAt (n - 1)
  have hcl : ∀ ty, (Builtin.clear_ #[24] ty #[.slice (some ⟨g, i + (n - (i + 1)), none⟩) (n - (i + (n - (i + 1)))) (cap - (i + (n - (i + 1))))]).run Try.prog W1 = .ok (.tuple #[]) (W1.setCells g (i + (n - (i + 1))) (List.replicate (n - (i + (n - (i + 1)))) (.int .i64 0))) :=
    fun ty => Lib.run_clear_slice W1 24 3 ty _ Try.underlying24 Try.zeroValue3 rfl rfl g (i + (n - (i + 1))) _ _ (by omega) (fun t ht => by rw [show i + (n - (i + 1)) + t = n - 1 by omega]; exact hci) (fun t ht => by rw [show i + (n - (i + 1)) + t = n - 1 by omega]; exact hfz)
  have hfin : Hid ((W1.setCells g (i + (n - (i + 1))) (List.replicate (n - (i + (n - (i + 1)))) (.int .i64 0))).ownsRow base 3 1 (.slice (some ⟨g, 0, none⟩) (n - 1) cap) (n - 1) ((xs.eraseIdx i).flatMap encI) ∧ w.grownBy (W1.setCells g (i + (n - (i + 1))) (List.replicate (n - (i + (n - (i + 1)))) (.int .i64 0))) (some g)) := by
    rw [show n - (i + (n - (i + 1))) = 1 by omega, show i + (n - (i + 1)) = n - 1 by omega]
    have h9 := own_setCells (base := base) (g := g) (n := n) (c := cap) [0] _ (n - 1) W1 o1
    refine ⟨?_, grown_trans gr1 h9.2⟩
    have h10 := own_cut (k := n - 1) h9.1 (by omega)
    have e : ((ovl (ovl xs i (xs.drop (i + 1))) (n - 1) [0]).flatMap encI).take (n - 1) = (xs.eraseIdx i).flatMap encI := by
      rw [flat_map, flat_map, ← List.map_take]
      congr 1
      show ((ovl xs i (xs.drop (i + 1))).set (n - 1) 0).take (n - 1) = _
      rw [← hxl]; exact del_list (by omega)
    rw [e] at h10
    exact h10
  have hW : Hid (W1 = w.drew.setCells g (0 + i * 1) news) := hW1
  have hic : i ≤ cap := by omega
  have hjc : i + 1 ≤ cap := by omega
  have hwr : IntKind.i64.wrap ((i : Int) + 1) = (i : Int) + 1 := by rw [IntKind.wrap_i64]; omega
  have hp0 : (0 : Int) ≤ (i : Int) + 1 := by omega
  have hp1 : (i : Int) + 1 ≤ (n : Int) := by omega
  have hp2 : ((i : Int) + 1).toNat = i + 1 := by omega
  have hne : ((i : Int) == (i : Int) + 1) = false := by simp; omega
  have hiI : (i : Int) ≤ (n : Int) := by omega
  clear hW1 hcell hown o1 gr1 hol hci hfz hlen hxl hnews
  go_enter Try.func72, Try.ntmps72
  go_wp2_with fail
  go_region_law (refine step_append_room rfl (.tmp 22) (.tmp 25) 24 rfl 3 i0 1 Try.underlying24 hi0 hz1 g 0 i cap (by simp [Act.eval, Act.put]) A (n - (i + 1)) (cap - (i + 1)) news (by simp [Act.eval, Act.put, hA]) s1.out hsrc.out s2.out (by omega) s3.out ?_; rw [← hW.out])
  go_wp2
  go_ret
  refine ⟨by rw [show n - 1 = i + (n - (i + 1)) by omega]; rfl, hfin.out⟩
end Go.Proofs.Ytiofckbdjifdpaa
