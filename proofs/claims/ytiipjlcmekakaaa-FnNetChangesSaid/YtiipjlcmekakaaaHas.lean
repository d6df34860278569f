
/- Is a number in a list: slices.Contains, l1Has. -/
import Derived.Test.YtiipjlcmekakaaaMem2
import Derived.Test.YtiipjlcmekakaaaKeep
namespace Go.Proofs.Ytiipjlcmekakaaa
open Go.RowKit
def idxP (x : Int) : Nat → List Int → Int
  | _, [] => -1
  | k, y :: r => if x == y then (k : Int) else idxP x (k + 1) r
theorem idxP_drop {xs : List Int} {k : Nat} {y : Int} (x : Int) (h : xs[k]? = some y) : idxP x k (xs.drop k) = if x == y then (k : Int) else idxP x (k + 1) (xs.drop (k + 1)) := by
  have hk : k < xs.length := (List.getElem?_eq_some_iff.1 h).1
  have e : xs.drop k = y :: xs.drop (k + 1) := by
    rw [List.drop_eq_getElem_cons hk]; congr 1; exact (List.getElem?_eq_some_iff.1 h).2
  rw [e]; rfl
theorem idxP_has (x : Int) : ∀ (xs : List Int) (k : Nat), decide (0 ≤ idxP x k xs) = xs.contains x
  | [], k => by simp [idxP]
  | y :: r, k => by
    unfold idxP
    rw [List.contains_cons, ← idxP_has x r (k + 1)]
    cases e : (x == y) <;> simp
set_option maxRecDepth 100000 in
theorem c_Index (v : Value) (la ha : Nat) (xs : List Int) (x : Int) (w : World) (h : Ints w la ha v xs) :
    Calls Try.prog 89 #[v, .int .i64 x] w fun e w' => e = .returned (.int .i64 (idxP x 0 xs)) ∧ w = w' := by
  obtain ⟨r, hr⟩ : ∃ r, r = idxP x 0 xs := ⟨_, rfl⟩
  rw [← hr]
  have HR := Lib.hid hr
  obtain ⟨a, cap, rfl, m1, m2⟩ := h.form
  have H := Lib.hid h
  obtain ⟨n, hn⟩ : ∃ n, n = xs.length := ⟨_, rfl⟩
  rw [← hn] at m1 H ⊢
  have HN := Lib.hid hn
  clear h hn hr
  go_enter Try.func89, Try.ntmps89
  go_wp2
  go_loop [5, 8] (fun _ t => ∃ k : Nat, k ≤ n ∧ t = .int .i64 k ∧ Hid (r = idxP x k (xs.drop k))) (fun _ t => n - (intOf t).toNat)
  case atStart => exact ⟨0, by omega, rfl, HR.out⟩
  case round =>
    obtain ⟨k, hk, rfl, hT⟩ := hrel
    by_cases hlt : k < n
    · obtain ⟨b, o, g, rfl, hg, c0⟩ := Ints_at H.out hlt
      have hs := hT.out.trans (idxP_drop x hg.out)
      have hltI : (k : Int) < (n : Int) := by omega
      cases e : (x == g)
      · rw [e] at hs
        have HS := Lib.hid hs
        clear hs
        go_wp2
        go_round
        case rel => exact ⟨k + 1, by omega, by go_num, HS.out⟩
        case measure => simp [intOf]; omega
      · rw [e] at hs
        have HS := Lib.hid hs
        clear hs
        go_wp2
        go_ret
        exact ⟨by rw [HS.out]; rfl, rfl⟩
    · have hge : ¬ ((k : Int) < (n : Int)) := by omega
      have HS : Hid (r = -1) := by
        have e := hT.out
        rw [List.drop_eq_nil_of_le (by rw [← HN.out]; omega)] at e
        exact e
      go_wp2
      go_ret
      exact ⟨by rw [HS.out]; rfl, rfl⟩
set_option maxRecDepth 100000 in
theorem c_Contains (v : Value) (la ha : Nat) (xs : List Int) (x : Int) (w : World) (h : Ints w la ha v xs) :
    Calls Try.prog 72 #[v, .int .i64 x] w fun e w' => e = .returned (.bool (xs.contains x)) ∧ w = w' := by
  have CI := Lib.hid (c_Index v la ha xs x w h)
  obtain ⟨r, hr⟩ : ∃ r, r = xs.contains x := ⟨_, rfl⟩
  rw [← hr]
  have HR := Lib.hid (hr.trans (idxP_has x xs 0).symm)
  obtain ⟨a, cap, rfl, m1, m2⟩ := h.form
  clear h hr
  rw [HR.out]
  go_enter Try.func72, Try.ntmps72
  go_wp2_with (go_at_call 89; refine CI.out.mono ?_; rintro e w' ⟨rfl, rfl⟩)
  go_ret
  exact ⟨rfl, rfl⟩
theorem has_drop {xs : List Int} {k : Nat} {y : Int} (x : Int) (h : xs[k]? = some y) : (xs.drop k).contains x = ((y == x) || (xs.drop (k + 1)).contains x) := by
  have hk : k < xs.length := (List.getElem?_eq_some_iff.1 h).1
  have e : xs.drop k = y :: xs.drop (k + 1) := by
    rw [List.drop_eq_getElem_cons hk]; congr 1; exact (List.getElem?_eq_some_iff.1 h).2
  rw [e, List.contains_cons]
  have h2 : (x == y) = (y == x) := by rw [Bool.eq_iff_iff, beq_iff_eq, beq_iff_eq]; exact ⟨fun h => h.symm, fun h => h.symm⟩
  rw [h2]
set_option maxRecDepth 100000 in
theorem c_l1Has (v : Value) (la ha : Nat) (xs : List Int) (x : Int) (w : World) (h : Ints w la ha v xs) :
    Calls Try.prog 69 #[v, .int .i64 x] w fun e w' => e = .returned (.bool (xs.contains x)) ∧ w = w' := by
  obtain ⟨r, hr⟩ : ∃ r, r = xs.contains x := ⟨_, rfl⟩
  rw [← hr]
  have HR := Lib.hid hr
  obtain ⟨a, cap, rfl, m1, m2⟩ := h.form
  have H := Lib.hid h
  obtain ⟨n, hn⟩ : ∃ n, n = xs.length := ⟨_, rfl⟩
  rw [← hn] at m1 H ⊢
  have HN := Lib.hid hn
  clear h hn hr
  go_enter Try.func69, Try.ntmps69
  go_wp2
  go_loop [9] (fun t => ∃ k : Nat, k ≤ n ∧ t = .int .i64 k ∧ Hid (r = (xs.drop k).contains x)) (fun t => n - (intOf t).toNat)
  case atStart => exact ⟨0, by omega, rfl, HR.out⟩
  case round =>
    obtain ⟨k, hk, rfl, hT⟩ := hrel
    by_cases hlt : k < n
    · obtain ⟨b, o, g, rfl, hg, c0⟩ := Ints_at H.out hlt
      have hs := hT.out.trans (has_drop x hg.out)
      have hltI : (k : Int) < (n : Int) := by omega
      cases e : (g == x)
      · rw [e] at hs
        have HS := Lib.hid hs
        clear hs
        go_wp2
        go_round
        case rel => exact ⟨k + 1, by omega, by go_num, HS.out.trans (Bool.false_or _)⟩
        case measure => simp [intOf]; omega
      · rw [e] at hs
        have HS := Lib.hid hs
        clear hs
        go_wp2
        go_ret
        exact ⟨by rw [HS.out]; rfl, rfl⟩
    · have hge : ¬ ((k : Int) < (n : Int)) := by omega
      have HS : Hid (r = false) := by
        have e := hT.out
        rw [List.drop_eq_nil_of_le (by rw [← HN.out]; omega)] at e
        exact e
      go_wp2
      go_ret
      exact ⟨by rw [HS.out]; rfl, rfl⟩
end Go.Proofs.Ytiipjlcmekakaaa
