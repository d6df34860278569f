
/- IsCover of the program and of the reference: their contracts. -/
import Derived.Test.YtiofckbdjifdpaaCover
namespace Go.Proofs.Ytiofckbdjifdpaa
open Go.RowKit
def icOk (xss : List (List Int)) (n : Int) (ch : List Int) (t : Int) : Bool := chosenB xss n ch && inB 1 2 t
def icV (xss : List (List Int)) (n : Int) (ch : List Int) (t : Int) : Bool := icOk xss n ch t && coverB xss n.toNat ch t
theorem chosen_good {xss : List (List Int)} {n : Int} {ch : List Int} (h : chosenB xss n ch = true) : ∃ m : Nat, n = m ∧ GoodS xss m ∧ GoodC xss.length ch := by
  simp only [chosenB, Bool.and_eq_true] at h
  obtain ⟨m, e, gs⟩ := GoodS.of h.1
  exact ⟨m, e, gs, GoodC.of h.2 gs.s12⟩
set_option maxRecDepth 100000 in
theorem c_iIsCover (va vb : Value) (la ha lb hb : Nat) (xss : List (List Int)) (n : Int) (ch : List Int) (t : Int) (w : World) (h : Intss w la ha va xss) (hh : ha ≤ w.heap.size) (h2 : Ints w lb hb vb ch) (hh2 : hb ≤ w.heap.size) :
    Calls Try.prog 37 #[va, .int .i64 n, vb, .int .i64 t] w fun e w' => e = .returned (.tuple #[.bool (icV xss n ch t), .bool (icOk xss n ch t)]) ∧ Ext w w' := by
  obtain ⟨r, hr⟩ : ∃ r, r = icV xss n ch t := ⟨_, rfl⟩
  obtain ⟨q, hq⟩ : ∃ r, r = icOk xss n ch t := ⟨_, rfl⟩
  rw [← hr, ← hq]
  unfold icV at hr
  rw [← hq] at hr
  unfold icOk at hq
  have C1 := Lib.hid (c_areChosen va vb la ha lb hb xss n ch w h hh h2 hh2)
  cases e1 : chosenB xss n ch
  · rw [e1] at C1 hq
    simp at hq; subst hq; simp at hr; subst hr
    clear h h2 e1
    go_enter Try.func37, Try.ntmps37
    go_wp2_with (go_at_call 71; refine C1.out.mono ?_; rintro e w2 ⟨rfl, hx⟩)
    go_ret2
    exact ⟨rfl, hx⟩
  obtain ⟨m, rfl, gs, gc⟩ := chosen_good e1
  cases e2 : inB 1 2 t
  · rw [e1] at C1
    rw [e2] at hq
    simp at hq; subst hq; simp at hr; subst hr
    clear h h2 e1 gs gc
    go_enter Try.func37, Try.ntmps37
    go_wp2_with (first | (go_at_call 71; refine C1.out.mono ?_; rintro e w2 ⟨rfl, hx⟩) | (go_at_call 56; refine (within_c _ _ _ _).mono ?_; rintro e w' ⟨rfl, rfl⟩))
    go_ret2
    exact ⟨rfl, hx⟩
  · rw [e1] at C1 hq
    rw [e2] at hq
    simp at hq; subst hq; simp at hr
    have C2 : Hid (∀ W, Ext w W → Calls Try.prog 58 #[va, .int .i64 m, vb, .int .i64 t] W fun e w' => e = .returned (.bool r) ∧ Ext W w') :=
      fun W hX => by rw [hr]; exact c_covers va vb la ha lb hb xss m ch t W (h.ext hX hh) (Nat.le_trans hh hX.size) (h2.ext hX hh2) (Nat.le_trans hh2 hX.size) gs gc
    clear h h2 e1 gs gc hr
    go_enter Try.func37, Try.ntmps37
    go_wp2_with (first | (go_at_call 71; refine C1.out.mono ?_; rintro e w2 ⟨rfl, hx⟩) | (go_at_call 56; refine (within_c _ _ _ _).mono ?_; rintro e w' ⟨rfl, rfl⟩) | (go_at_call 58; refine (C2.out _ hx).mono ?_; rintro e w3 ⟨rfl, hx3⟩))
    go_ret2
    exact ⟨rfl, hx.trans hx3⟩
set_option maxRecDepth 100000 in
theorem c_sIsCover (va vb : Value) (la ha lb hb : Nat) (xss : List (List Int)) (n : Int) (ch : List Int) (t : Int) (w : World) (h : Intss w la ha va xss) (hh : ha ≤ w.heap.size) (h2 : Ints w lb hb vb ch) (hh2 : hb ≤ w.heap.size) :
    Calls Try.prog 38 #[va, .int .i64 n, vb, .int .i64 t] w fun e w' => e = .returned (.tuple #[.bool (icV xss n ch t), .bool (icOk xss n ch t)]) ∧ Ext w w' := by
  obtain ⟨r, hr⟩ : ∃ r, r = icV xss n ch t := ⟨_, rfl⟩
  obtain ⟨q, hq⟩ : ∃ r, r = icOk xss n ch t := ⟨_, rfl⟩
  rw [← hr, ← hq]
  unfold icV at hr
  rw [← hq] at hr
  unfold icOk at hq
  have C1 := Lib.hid (c_stAsked va vb la ha lb hb xss n ch w h hh h2 hh2)
  cases e1 : chosenB xss n ch
  · rw [e1] at C1 hq
    simp at hq; subst hq; simp at hr; subst hr
    clear h h2 e1
    go_enter Try.func38, Try.ntmps38
    go_wp2_with (go_at_call 73; refine C1.out.mono ?_; rintro e w2 ⟨rfl, hx⟩)
    go_ret2
    exact ⟨rfl, hx⟩
  obtain ⟨m, rfl, gs, gc⟩ := chosen_good e1
  cases e2 : inB 1 2 t
  · rw [e1] at C1
    rw [e2] at hq
    simp at hq; subst hq; simp at hr; subst hr
    clear h h2 e1 gs gc
    go_enter Try.func38, Try.ntmps38
    go_wp2_with (first | (go_at_call 73; refine C1.out.mono ?_; rintro e w2 ⟨rfl, hx⟩) | (go_at_call 60; refine (l1In_c _ _ _ _).mono ?_; rintro e w' ⟨rfl, rfl⟩))
    go_ret2
    exact ⟨rfl, hx⟩
  · rw [e1] at C1 hq
    rw [e2] at hq
    simp at hq; subst hq; simp at hr
    have C2 : Hid (∀ W, Ext w W → Calls Try.prog 62 #[va, .int .i64 m, vb, .int .i64 t] W fun e w' => e = .returned (.bool r) ∧ Ext W w') :=
      fun W hX => by rw [hr]; exact c_stCovers va vb la ha lb hb xss m ch t W (h.ext hX hh) (Nat.le_trans hh hX.size) (h2.ext hX hh2) (Nat.le_trans hh2 hX.size) gs gc
    clear h h2 e1 gs gc hr
    go_enter Try.func38, Try.ntmps38
    go_wp2_with (first | (go_at_call 73; refine C1.out.mono ?_; rintro e w2 ⟨rfl, hx⟩) | (go_at_call 60; refine (l1In_c _ _ _ _).mono ?_; rintro e w' ⟨rfl, rfl⟩) | (go_at_call 62; refine (C2.out _ hx).mono ?_; rintro e w3 ⟨rfl, hx3⟩))
    go_ret2
    exact ⟨rfl, hx.trans hx3⟩
end Go.Proofs.Ytiofckbdjifdpaa
