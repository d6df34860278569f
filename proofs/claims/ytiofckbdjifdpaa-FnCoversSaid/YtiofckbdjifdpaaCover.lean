
/- Chosen sites and covers: the tests of the program and of the reference. -/
import Derived.Test.YtiofckbdjifdpaaTimes
import Derived.Lib.Slices
namespace Go.Proofs.Ytiofckbdjifdpaa
open Go.RowKit

theorem foldl_min_le (t : Int) : ∀ (xs : List Int) (z : Int), (t ≤ xs.foldl min z) ↔ (t ≤ z ∧ ∀ x ∈ xs, t ≤ x)
  | [], z => by simp
  | x :: r, z => by
    rw [List.foldl_cons, foldl_min_le t r (min z x)]
    constructor
    · rintro ⟨h1, h2⟩
      exact ⟨by omega, fun y hy => by rcases List.mem_cons.1 hy with rfl | hy; (· omega); exact h2 y hy⟩
    · rintro ⟨h1, h2⟩
      have := h2 x (by simp)
      exact ⟨by omega, fun y hy => h2 y (by simp [hy])⟩
theorem minOf_le {xs : List Int} (h : xs ≠ []) (t : Int) : decide (t ≤ Lib.minOf xs) = xs.all fun x => decide (t ≤ x) := by
  cases xs with
  | nil => exact absurd rfl h
  | cons x r =>
    have h1 := foldl_min_le t (x :: r) x
    have h2 : Lib.minOf (x :: r) = (x :: r).foldl min x := rfl
    rw [← h2] at h1
    rw [Bool.eq_iff_iff, decide_eq_true_eq, h1, List.all_eq_true]
    simp
set_option maxRecDepth 100000 in
theorem c_Min (v : Value) (la ha : Nat) (xs : List Int) (w : World) (h : Ints w la ha v xs) (h0 : 0 < xs.length) :
    Calls Try.prog 79 #[v] w fun e w' => e = .returned (.int .i64 (Lib.minOf xs)) ∧ w = w' := by
  obtain ⟨a, cap, rfl, m1, m2⟩ := h.form
  have H := Lib.hid h
  obtain ⟨z, hz⟩ : ∃ z, z = Lib.minOf xs := ⟨_, rfl⟩
  rw [← hz]
  obtain ⟨n, hn⟩ : ∃ n, n = xs.length := ⟨_, rfl⟩
  rw [← hn] at m1 H h0 ⊢
  have HN := Lib.hid hn
  have HZ := Lib.hid hz
  clear h hn hz
  have h1 : (1 : Int) ≤ (n : Int) := by omega
  obtain ⟨b, o, g, rfl, hg, c0⟩ := Ints_at H.out h0
  have c00 : w.cell? ⟨b, o, none⟩ = some (.int .i64 g) := by simpa using c0
  have hg1 : Hid (g = Lib.minOf (xs.take 1)) := by
    unfold Hid; rw [Lib.minOf_one, List.getD_eq_getElem?_getD, hg.out]; rfl
  clear c0
  go_enter Try.func79, Try.ntmps79
  go_wp2
  go_loop [3, 4] (fun m i => ∃ (k : Nat) (y : Int), 0 < k ∧ k ≤ n ∧ i = .int .i64 k ∧ m = .int .i64 y ∧ Hid (y = Lib.minOf (xs.take k))) (fun _ i => n - (intOf i).toNat)
  case atStart => exact ⟨1, g, by omega, h0, rfl, rfl, hg1.out⟩
  case round =>
    obtain ⟨k, y, hk0, hk, rfl, rfl, hy⟩ := hrel
    by_cases hlt : k < n
    · obtain ⟨b2, o2, x, hbo, hx, c1⟩ := Ints_at H.out hlt
      simp only [Option.some.injEq, Addr.mk.injEq, and_true] at hbo
      obtain ⟨rfl, rfl⟩ := hbo
      have hltI : (k : Int) < (n : Int) := by omega
      have HY : Hid (min y x = Lib.minOf (xs.take (k + 1))) := by
        unfold Hid
        rw [Lib.minOf_step xs k hk0 (by rw [← HN.out]; exact hlt), List.getD_eq_getElem?_getD, hx.out, ← hy.out]; rfl
      go_wp2
      go_round
      case rel => exact ⟨k + 1, _, by omega, by omega, by go_num, rfl, (by have := HY.out; unfold Hid; split <;> omega)⟩
      case measure => simp [intOf]; omega
    · have hge : ¬ ((k : Int) < (n : Int)) := by omega
      have HY : Hid (z = y) := by
        unfold Hid
        rw [HZ.out, hy.out, List.take_of_length_le (by rw [← HN.out]; omega)]
      go_wp2
      go_ret
      exact ⟨by rw [HY.out]; rfl, rfl⟩
set_option maxRecDepth 100000 in
theorem c_stCovers (va vb : Value) (la ha lb hb : Nat) (xss : List (List Int)) (n : Nat) (ch : List Int) (t : Int) (w : World) (h : Intss w la ha va xss) (hh : ha ≤ w.heap.size) (h2 : Ints w lb hb vb ch) (hh2 : hb ≤ w.heap.size) (gs : GoodS xss n) (gc : GoodC xss.length ch) :
    Calls Try.prog 62 #[va, .int .i64 n, vb, .int .i64 t] w fun e w' => e = .returned (.bool (coverB xss n ch t)) ∧ Ext w w' := by
  have CT := Lib.hid (c_stTimes va vb la ha lb hb xss n ch w h hh h2 hh2 gs gc)
  have HC := Lib.hid (cover_12 gs gc.len t)
  clear h h2 gs gc
  go_enter Try.func62, Try.ntmps62
  go_wp2_with fail
  refine CT.out.mono ?_
  rintro e w2 ⟨v, rfl, ho, hx⟩
  have CA := Lib.hid (c_l1All v _ _ (timesL xss n ch) t 12 w2 ho.read)
  obtain ⟨a3, c3, rfl, _, _⟩ := ho.form
  rw [HC.out] at CA
  clear ho
  go_wp2_with (go_at_call 80; refine CA.out.mono ?_; rintro e w' ⟨rfl, rfl⟩)
  go_ret
  exact ⟨rfl, hx⟩
set_option maxRecDepth 100000 in
theorem c_covers (va vb : Value) (la ha lb hb : Nat) (xss : List (List Int)) (n : Nat) (ch : List Int) (t : Int) (w : World) (h : Intss w la ha va xss) (hh : ha ≤ w.heap.size) (h2 : Ints w lb hb vb ch) (hh2 : hb ≤ w.heap.size) (gs : GoodS xss n) (gc : GoodC xss.length ch) :
    Calls Try.prog 58 #[va, .int .i64 n, vb, .int .i64 t] w fun e w' => e = .returned (.bool (coverB xss n ch t)) ∧ Ext w w' := by
  have CT := Lib.hid (c_seenTimes va vb la ha lb hb xss n ch w h hh h2 hh2 gs gc)
  have hl := timesL_len xss n ch
  have n1 := gs.n1
  have HC : Hid (coverB xss n ch t = decide (t ≤ Lib.minOf (timesL xss n ch))) := by
    unfold Hid coverB
    rw [minOf_le (fun e => by rw [e] at hl; simp at hl; omega)]
  have HL := Lib.hid hl
  clear h h2 gs gc hl
  rw [HC.out]
  go_enter Try.func58, Try.ntmps58
  go_wp2_with fail
  refine CT.out.mono ?_
  rintro e w2 ⟨v, rfl, ho, hx⟩
  have CA := Lib.hid (c_Min v _ _ (timesL xss n ch) w2 ho.read (by rw [HL.out]; omega))
  obtain ⟨a3, c3, rfl, _, _⟩ := ho.form
  clear ho
  go_wp2_with (go_at_call 79; refine CA.out.mono ?_; rintro e w' ⟨rfl, rfl⟩)
  go_ret
  exact ⟨rfl, hx⟩
set_option maxRecDepth 100000 in
theorem c_stAsked (va vb : Value) (la ha lb hb : Nat) (xss : List (List Int)) (n : Int) (ch : List Int) (w : World) (h : Intss w la ha va xss) (hh : ha ≤ w.heap.size) (h2 : Ints w lb hb vb ch) (hh2 : hb ≤ w.heap.size) :
    Calls Try.prog 73 #[va, .int .i64 n, vb] w fun e w' => e = .returned (.bool (chosenB xss n ch)) ∧ Ext w w' := by
  obtain ⟨r, hr⟩ : ∃ r, r = chosenB xss n ch := ⟨_, rfl⟩
  rw [← hr]
  unfold chosenB at hr
  have C1 := Lib.hid (c_stGood va la ha xss n w h hh)
  have C2 : Hid (∀ W, Ext w W → Calls Try.prog 54 #[vb, .int .i64 0, .int .i64 ((xss.length : Int) - 1)] W fun e w' => e = .returned (.bool (risB 0 ((xss.length : Int) - 1) ch)) ∧ Ext W w') :=
    fun W hX => c_l1Rising vb lb hb ch _ _ W (h2.ext hX hh2)
  obtain ⟨a, cap, rfl, m1, m2⟩ := h.form
  obtain ⟨a2, cap2, rfl, m3, m4⟩ := h2.form
  obtain ⟨m, hm⟩ : ∃ m, m = xss.length := ⟨_, rfl⟩
  rw [← hm] at m1 C1 C2 hr ⊢
  cases e1 : sitesB xss n
  · rw [e1] at C1 hr
    simp at hr
    subst hr
    clear h h2 hm e1
    go_enter Try.func73, Try.ntmps73
    go_wp2_with (go_at_call 42; refine C1.out.mono ?_; rintro e w2 ⟨rfl, hx⟩)
    go_ret
    exact ⟨rfl, hx⟩
  · rw [e1] at C1 hr
    simp only [Bool.true_and] at hr
    rw [← hr] at C2
    clear h h2 hm e1 hr
    go_enter Try.func73, Try.ntmps73
    go_wp2_with (first | (go_at_call 42; refine C1.out.mono ?_; rintro e w2 ⟨rfl, hx⟩) | (go_at_call 54; refine (C2.out _ hx).mono ?_; rintro e w3 ⟨rfl, hx3⟩))
    go_ret
    exact ⟨rfl, hx.trans hx3⟩
set_option maxRecDepth 100000 in
theorem c_areChosen (va vb : Value) (la ha lb hb : Nat) (xss : List (List Int)) (n : Int) (ch : List Int) (w : World) (h : Intss w la ha va xss) (hh : ha ≤ w.heap.size) (h2 : Ints w lb hb vb ch) (hh2 : hb ≤ w.heap.size) :
    Calls Try.prog 71 #[va, .int .i64 n, vb] w fun e w' => e = .returned (.bool (chosenB xss n ch)) ∧ Ext w w' := by
  obtain ⟨r, hr⟩ : ∃ r, r = chosenB xss n ch := ⟨_, rfl⟩
  rw [← hr]
  unfold chosenB risB at hr
  have C1 := Lib.hid (c_iAreSites va la ha xss n w h hh)
  have C2 : Hid (∀ W, Ext w W → Calls Try.prog 52 #[vb, .int .i64 0, .int .i64 ((xss.length : Int) - 1)] W fun e w' => e = .returned (.bool (allB 0 ((xss.length : Int) - 1) ch)) ∧ W = w') :=
    fun W hX => c_allWithin vb lb hb ch _ _ W (h2.ext hX hh2)
  have C3 : Hid (∀ W, Ext w W → Calls Try.prog 53 #[vb] W fun e w' => e = .returned (.bool (incP none ch)) ∧ Ext W w') :=
    fun W hX => c_increasing vb lb hb ch W (h2.ext hX hh2)
  obtain ⟨a, cap, rfl, m1, m2⟩ := h.form
  obtain ⟨a2, cap2, rfl, m3, m4⟩ := h2.form
  obtain ⟨m, hm⟩ : ∃ m, m = xss.length := ⟨_, rfl⟩
  rw [← hm] at m1 C1 C2 hr ⊢
  cases e1 : sitesB xss n
  · rw [e1] at C1 hr
    simp at hr
    subst hr
    clear h h2 hm e1
    go_enter Try.func71, Try.ntmps71
    go_wp2_with (go_at_call 39; refine C1.out.mono ?_; rintro e w2 ⟨rfl, hx⟩)
    go_ret
    exact ⟨rfl, hx⟩
  cases e2 : allB 0 ((m : Int) - 1) ch
  · rw [e1] at C1 hr
    rw [e2] at C2 hr
    simp at hr
    subst hr
    clear h h2 hm e1 e2
    go_enter Try.func71, Try.ntmps71
    go_wp2_with (first | (go_at_call 39; refine C1.out.mono ?_; rintro e w2 ⟨rfl, hx⟩) | (go_at_call 52; refine (C2.out _ hx).mono ?_; rintro e w' ⟨rfl, rfl⟩))
    go_ret
    exact ⟨rfl, hx⟩
  · rw [e1] at C1 hr
    rw [e2] at C2 hr
    simp only [Bool.true_and] at hr
    rw [← hr] at C3
    clear h h2 hm e1 e2 hr
    go_enter Try.func71, Try.ntmps71
    go_wp2_with (first | (go_at_call 39; refine C1.out.mono ?_; rintro e w2 ⟨rfl, hx⟩) | (go_at_call 52; refine (C2.out _ hx).mono ?_; rintro e w' ⟨rfl, rfl⟩) | (go_at_call 53; refine (C3.out _ hx).mono ?_; rintro e w3 ⟨rfl, hx3⟩))
    go_ret
    exact ⟨rfl, hx.trans hx3⟩
end Go.Proofs.Ytiofckbdjifdpaa
