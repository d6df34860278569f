
/- Tests over lists of ints: the program's and the reference's. -/
import Derived.Test.YtiofckbdjifdpaaInts
namespace Go.Proofs.Ytiofckbdjifdpaa
open Go.RowKit

def allB (lo hi : Int) (xs : List Int) : Bool := xs.all (inB lo hi)
theorem allB_get {lo hi : Int} {xs : List Int} (h : allB lo hi xs = true) {k : Nat} {x : Int} (hx : xs[k]? = some x) : lo ≤ x ∧ x ≤ hi :=
  inB_t (by simpa using List.all_eq_true.1 h x (List.mem_of_getElem? hx))
theorem allB_mem {lo hi : Int} {xs : List Int} (h : allB lo hi xs = true) {x : Int} (hx : x ∈ xs) : lo ≤ x ∧ x ≤ hi :=
  inB_t (by simpa using List.all_eq_true.1 h x hx)
theorem allB_false {lo hi : Int} {xs : List Int} {k : Nat} {x : Int} (hx : xs[k]? = some x) (h : inB lo hi x = false) : allB lo hi xs = false := by
  cases e : allB lo hi xs
  · rfl
  · have := List.all_eq_true.1 e x (List.mem_of_getElem? hx); rw [h] at this; cases this
theorem allB_take_succ {lo hi : Int} {xs : List Int} {k : Nat} {x : Int} (h : allB lo hi (xs.take k) = true) (hx : xs[k]? = some x) (hb : inB lo hi x = true) : allB lo hi (xs.take (k + 1)) = true := by
  rw [take_snoc' hx]; unfold allB at *; rw [List.all_append, h]; simp [hb]

set_option maxRecDepth 100000 in
theorem c_allWithin (v : Value) (la ha : Nat) (xs : List Int) (lo hi : Int) (w : World) (h : Ints w la ha v xs) :
    Calls Try.prog 52 #[v, .int .i64 lo, .int .i64 hi] w fun e w' => e = .returned (.bool (allB lo hi xs)) ∧ w = w' := by
  obtain ⟨r, hr⟩ : ∃ r, r = allB lo hi xs := ⟨_, rfl⟩
  rw [← hr]
  have HR := Lib.hid hr
  have h0 := h
  obtain ⟨a, cap, rfl, m1, m2, _⟩ := h0
  have H := Lib.hid h
  obtain ⟨n, hn⟩ : ∃ n, n = xs.length := ⟨_, rfl⟩
  rw [← hn] at m1 H ⊢
  have HN := Lib.hid hn
  clear h hn hr
  go_enter Try.func52, Try.ntmps52
  go_wp2
  go_loop [11] (fun t => ∃ k : Nat, k ≤ n ∧ t = .int .i64 k ∧ Hid (allB lo hi (xs.take k) = true)) (fun t => n - (intOf t).toNat)
  case atStart => exact ⟨0, by omega, rfl, rfl⟩
  case round =>
    obtain ⟨k, hk, rfl, hT⟩ := hrel
    by_cases hlt : k < n
    · obtain ⟨b, o, g, rfl, hg, c0⟩ := Ints_at H.out hlt
      have hltI : (k : Int) < (n : Int) := by omega
      cases p : inB lo hi g
      · have hf : Hid (r = false) := HR.out.trans (allB_false hg.out p)
        go_wp2_with (go_at_call 56; refine (within_c _ _ _ _).mono ?_; rintro e w' ⟨rfl, rfl⟩)
        go_ret
        exact ⟨by rw [hf.out]; rfl, rfl⟩
      · have hT2 := allB_take_succ hT.out hg.out p
        have HT := Lib.hid hT2
        clear hT2
        go_wp2_with (go_at_call 56; refine (within_c _ _ _ _).mono ?_; rintro e w' ⟨rfl, rfl⟩)
        go_round
        case rel => exact ⟨k + 1, by omega, by go_num, HT⟩
        case measure => simp [intOf]; omega
    · have ht : r = true := by
        have := hT.out
        rw [List.take_of_length_le (by rw [← HN.out]; omega)] at this
        rw [HR.out, this]
      have HT := Lib.hid ht
      clear ht
      go_wp2
      go_ret
      exact ⟨by rw [HT.out]; rfl, rfl⟩
set_option maxRecDepth 100000 in
theorem c_l1All (v : Value) (la ha : Nat) (xs : List Int) (lo hi : Int) (w : World) (h : Ints w la ha v xs) :
    Calls Try.prog 80 #[v, .int .i64 lo, .int .i64 hi] w fun e w' => e = .returned (.bool (allB lo hi xs)) ∧ w = w' := by
  obtain ⟨r, hr⟩ : ∃ r, r = allB lo hi xs := ⟨_, rfl⟩
  rw [← hr]
  have HR := Lib.hid hr
  have h0 := h
  obtain ⟨a, cap, rfl, m1, m2, _⟩ := h0
  have H := Lib.hid h
  obtain ⟨n, hn⟩ : ∃ n, n = xs.length := ⟨_, rfl⟩
  rw [← hn] at m1 H ⊢
  have HN := Lib.hid hn
  clear h hn hr
  go_enter Try.func80, Try.ntmps80
  go_wp2
  go_loop [11] (fun t => ∃ k : Nat, k ≤ n ∧ t = .int .i64 k ∧ Hid (allB lo hi (xs.take k) = true)) (fun t => n - (intOf t).toNat)
  case atStart => exact ⟨0, by omega, rfl, rfl⟩
  case round =>
    obtain ⟨k, hk, rfl, hT⟩ := hrel
    by_cases hlt : k < n
    · obtain ⟨b, o, g, rfl, hg, c0⟩ := Ints_at H.out hlt
      have hltI : (k : Int) < (n : Int) := by omega
      cases p : inB lo hi g
      · have hf : Hid (r = false) := HR.out.trans (allB_false hg.out p)
        go_wp2_with (go_at_call 60; refine (l1In_c _ _ _ _).mono ?_; rintro e w' ⟨rfl, rfl⟩)
        go_ret
        exact ⟨by rw [hf.out]; rfl, rfl⟩
      · have hT2 := allB_take_succ hT.out hg.out p
        have HT := Lib.hid hT2
        clear hT2
        go_wp2_with (go_at_call 60; refine (l1In_c _ _ _ _).mono ?_; rintro e w' ⟨rfl, rfl⟩)
        go_round
        case rel => exact ⟨k + 1, by omega, by go_num, HT⟩
        case measure => simp [intOf]; omega
    · have ht : r = true := by
        have := hT.out
        rw [List.take_of_length_le (by rw [← HN.out]; omega)] at this
        rw [HR.out, this]
      have HT := Lib.hid ht
      clear ht
      go_wp2
      go_ret
      exact ⟨by rw [HT.out]; rfl, rfl⟩
end Go.Proofs.Ytiofckbdjifdpaa
