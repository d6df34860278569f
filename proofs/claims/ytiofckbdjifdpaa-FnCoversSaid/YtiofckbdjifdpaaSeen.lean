
/- SeenFrom of the program and of the reference: their contracts. -/
import Derived.Test.YtiofckbdjifdpaaIsCover
namespace Go.Proofs.Ytiofckbdjifdpaa
open Go.RowKit
/-- The places, from i on, of the numbers above 0. -/
def posL : Nat → List Int → List Int
  | _, [] => []
  | i, x :: r => (if 0 < x then [(i : Int)] else []) ++ posL (i + 1) r
theorem posL_snoc (l : List Int) (x : Int) : ∀ i, posL i (l ++ [x]) = posL i l ++ (if 0 < x then [((i + l.length : Nat) : Int)] else []) := by
  induction l with
  | nil => intro i; simp [posL]
  | cons y r ih =>
    intro i
    simp only [List.cons_append, posL, ih (i + 1), List.length_cons, List.append_assoc]
    rw [show i + 1 + r.length = i + (r.length + 1) by omega]
theorem posL_len (l : List Int) : ∀ i, (posL i l).length ≤ l.length := by
  induction l with
  | nil => intro i; simp [posL]
  | cons y r ih => intro i; have := ih (i + 1); simp only [posL, List.length_append, List.length_cons]; split <;> simp <;> omega
def sfV (xss : List (List Int)) (n : Int) (ch : List Int) : List Int := if chosenB xss n ch then posL 0 (timesL xss n.toNat ch) else []
theorem sfV_len (xss : List (List Int)) (n : Int) (ch : List Int) : (sfV xss n ch).length ≤ 1099511627776 := by
  unfold sfV
  split
  · rename_i h
    obtain ⟨m, rfl, gs, gc⟩ := chosen_good h
    have h1 := posL_len (timesL xss m ch) 0
    rw [timesL_len] at h1
    have := gs.n16
    rw [Int.toNat_natCast]; omega
  · simp
set_option maxRecDepth 100000 in
set_option maxHeartbeats 1000000 in
theorem c_iSeenFrom (va vb : Value) (la ha lb hb : Nat) (xss : List (List Int)) (n : Int) (ch : List Int) (w : World) (h : Intss w la ha va xss) (hh : ha ≤ w.heap.size) (h2 : Ints w lb hb vb ch) (hh2 : hb ≤ w.heap.size) :
    Calls Try.prog 34 #[va, .int .i64 n, vb] w fun e w' => ∃ r, e = .returned (.tuple #[r, .bool (chosenB xss n ch)]) ∧ w'.ownsRow w.heap.size 3 1 r (sfV xss n ch).length ((sfV xss n ch).flatMap encI) ∧ Ext w w' := by
  obtain ⟨i0, hi0, hz0, hz1, hz2⟩ := info_parts Try.info_intC
  obtain ⟨Z, hZ⟩ : ∃ r, r = sfV xss n ch := ⟨_, rfl⟩
  rw [← hZ]
  unfold sfV at hZ
  have C1 := Lib.hid (c_areChosen va vb la ha lb hb xss n ch w h hh h2 hh2)
  cases e1 : chosenB xss n ch
  · rw [e1] at C1 hZ
    simp at hZ; subst hZ
    clear h h2 e1
    go_enter Try.func34, Try.ntmps34
    go_wp2_with (go_at_call 71; refine C1.out.mono ?_; rintro e w2 ⟨rfl, hx⟩)
    go_ret2
    exact ⟨_, rfl, World.ownsRow_nil _ _ _ _, hx⟩
  · obtain ⟨m, rfl, gs, gc⟩ := chosen_good e1
    rw [e1] at C1 hZ
    simp at hZ
    have n16 := gs.n16
    obtain ⟨T, hT⟩ : ∃ T, T = timesL xss m ch := ⟨_, rfl⟩
    have hTl : T.length = m := by rw [hT, timesL_len]
    have C2 : Hid (∀ W, Ext w W → Calls Try.prog 66 #[va, .int .i64 m, vb] W fun e w' => ∃ v, e = .returned v ∧ OwnI w' W.heap.size w'.heap.size v T ∧ Ext W w') :=
      fun W hX => by rw [hT]; exact c_seenTimes va vb la ha lb hb xss m ch W (h.ext hX hh) (Nat.le_trans hh hX.size) (h2.ext hX hh2) (Nat.le_trans hh2 hX.size) gs gc
    rw [← hT] at hZ
    have HZ := Lib.hid hZ
    have HTL := Lib.hid hTl
    clear h h2 e1 gs gc hZ hT hTl
    go_enter Try.func34, Try.ntmps34
    go_wp2_with (first | (go_at_call 71; refine C1.out.mono ?_; rintro e w2 ⟨rfl, hx⟩) | (go_at_call 66; refine (C2.out _ hx).mono ?_; rintro e w3 ⟨vt, rfl, ho, hx3⟩; obtain ⟨a4, c4, rfl, q1, q2⟩ := ho.form; have HO := Lib.hid ho; clear ho; rw [HTL.out] at HO q1; rw [HTL.out]))
    have X3 := hx.trans hx3
    have HSZ := Lib.hid X3.size
    go_loopw [8, 21] (fun v t wr => ∃ (k : Nat) (L : List Int), k ≤ m ∧ t = .int .i64 k ∧ wr.ownsRow w3.heap.size 3 1 v L.length (L.flatMap encI) ∧ Hid (L = posL 0 (T.take k)) ∧ Ext w3 wr) (fun _ t _ => m - (intOf t).toNat)
    case atStart => exact ⟨0, [], by omega, rfl, World.ownsRow_nil _ _ _ _, rfl, Ext.refl _⟩
    case round =>
      obtain ⟨k, L, hk, rfl, hown, hL, hxr⟩ := hrel
      by_cases hlt : k < m
      · obtain ⟨b, o, x, rfl, hg, c0⟩ := Ints_at HO.out.read hlt
        have d0 := hxr.cell c0
        have hltI : (k : Int) < (m : Int) := by omega
        have hlen : L.length ≤ 16 := by
          rw [hL.out]; have := posL_len (T.take k) 0; have := List.length_take_le k T; omega
        have hS : Hid (posL 0 (T.take (k + 1)) = L ++ (if 0 < x then [(k : Int)] else [])) := by
          unfold Hid; rw [take_snoc' hg.out, posL_snoc, ← hL.out, List.length_take_of_le (by rw [HTL.out]; exact hk)]; simp
        have HOWN := Lib.hid hown
        clear c0 hown
        by_cases hx0 : 0 < x
        · go_wp2_with (at_builtin; refine wpList_append_own _ rfl _ _ 24 rfl w3.heap.size 3 i0 (.int .i64 0) 1 8 Try.underlying24 hi0 hz0 hz1 hz2 rfl (by decide) _ _ _ rfl (HOWN.out.alloc _) ⟨wr.heap.size, 0, none⟩ 1 1 [.int .i64 (k : Int)] rfl rfl (new_cells1 _ _ _) (by intro u hu; simp at hu; subst hu; rfl) (by unfold maxLen; omega) (by omega) (by have := hxr.size; simp; omega) ?_; intro v3 w4 hown3 hgrow3 _)
          go_roundw
          case rel =>
            refine ⟨k + 1, L ++ [(k : Int)], by omega, by go_num, own_push hown3, ?_, hxr.push HOWN.out hgrow3 (Nat.le_refl _)⟩
            unfold Hid; rw [hS.out, if_pos hx0]
          case measure => simp [intOf]; omega
        · go_wp2
          go_roundw
          case rel =>
            refine ⟨k + 1, L, by omega, by go_num, HOWN.out, ?_, hxr⟩
            unfold Hid; rw [hS.out, if_neg hx0, List.append_nil]
          case measure => simp [intOf]; omega
      · have hge : ¬ ((k : Int) < (m : Int)) := by omega
        have hLZ : Hid (Z = L) := by
          unfold Hid; rw [HZ.out, hL.out, List.take_of_length_le (by rw [HTL.out]; omega)]
        have HOWN := Lib.hid hown
        obtain ⟨a5, c5, rfl, _, _, _⟩ := own_form hown
        clear hown
        go_wp2
        go_ret2
        refine ⟨_, rfl, ?_, X3.trans hxr⟩
        rw [hLZ.out]
        exact own_mono HOWN.out HSZ.out
set_option maxRecDepth 100000 in
set_option maxHeartbeats 1000000 in
theorem c_sSeenFrom (va vb : Value) (la ha lb hb : Nat) (xss : List (List Int)) (n : Int) (ch : List Int) (w : World) (h : Intss w la ha va xss) (hh : ha ≤ w.heap.size) (h2 : Ints w lb hb vb ch) (hh2 : hb ≤ w.heap.size) :
    Calls Try.prog 35 #[va, .int .i64 n, vb] w fun e w' => ∃ r, e = .returned (.tuple #[r, .bool (chosenB xss n ch)]) ∧ w'.ownsRow w.heap.size 3 1 r (sfV xss n ch).length ((sfV xss n ch).flatMap encI) ∧ Ext w w' := by
  obtain ⟨i0, hi0, hz0, hz1, hz2⟩ := info_parts Try.info_intC
  obtain ⟨Z, hZ⟩ : ∃ r, r = sfV xss n ch := ⟨_, rfl⟩
  rw [← hZ]
  unfold sfV at hZ
  have C1 := Lib.hid (c_stAsked va vb la ha lb hb xss n ch w h hh h2 hh2)
  cases e1 : chosenB xss n ch
  · rw [e1] at C1 hZ
    simp at hZ; subst hZ
    clear h h2 e1
    go_enter Try.func35, Try.ntmps35
    go_wp2_with (go_at_call 73; refine C1.out.mono ?_; rintro e w2 ⟨rfl, hx⟩)
    go_ret2
    exact ⟨_, rfl, World.ownsRow_nil _ _ _ _, hx⟩
  · obtain ⟨m, rfl, gs, gc⟩ := chosen_good e1
    rw [e1] at C1 hZ
    simp at hZ
    have n16 := gs.n16
    obtain ⟨T, hT⟩ : ∃ T, T = timesL xss m ch := ⟨_, rfl⟩
    have hTl : T.length = m := by rw [hT, timesL_len]
    have C2 : Hid (∀ W, Ext w W → Calls Try.prog 65 #[va, .int .i64 m, vb] W fun e w' => ∃ v, e = .returned v ∧ OwnI w' W.heap.size w'.heap.size v T ∧ Ext W w') :=
      fun W hX => by rw [hT]; exact c_stTimes va vb la ha lb hb xss m ch W (h.ext hX hh) (Nat.le_trans hh hX.size) (h2.ext hX hh2) (Nat.le_trans hh2 hX.size) gs gc
    rw [← hT] at hZ
    have HZ := Lib.hid hZ
    have HTL := Lib.hid hTl
    clear h h2 e1 gs gc hZ hT hTl
    go_enter Try.func35, Try.ntmps35
    go_wp2_with (first | (go_at_call 73; refine C1.out.mono ?_; rintro e w2 ⟨rfl, hx⟩) | (go_at_call 65; refine (C2.out _ hx).mono ?_; rintro e w3 ⟨vt, rfl, ho, hx3⟩; obtain ⟨a4, c4, rfl, q1, q2⟩ := ho.form; have HO := Lib.hid ho; clear ho; rw [HTL.out] at HO q1; rw [HTL.out]))
    have X3 := hx.trans hx3
    have HSZ := Lib.hid X3.size
    go_loopw [8, 21] (fun v t wr => ∃ (k : Nat) (L : List Int), k ≤ m ∧ t = .int .i64 k ∧ wr.ownsRow w3.heap.size 3 1 v L.length (L.flatMap encI) ∧ Hid (L = posL 0 (T.take k)) ∧ Ext w3 wr) (fun _ t _ => m - (intOf t).toNat)
    case atStart => exact ⟨0, [], by omega, rfl, World.ownsRow_nil _ _ _ _, rfl, Ext.refl _⟩
    case round =>
      obtain ⟨k, L, hk, rfl, hown, hL, hxr⟩ := hrel
      by_cases hlt : k < m
      · obtain ⟨b, o, x, rfl, hg, c0⟩ := Ints_at HO.out.read hlt
        have d0 := hxr.cell c0
        have hltI : (k : Int) < (m : Int) := by omega
        have hlen : L.length ≤ 16 := by
          rw [hL.out]; have := posL_len (T.take k) 0; have := List.length_take_le k T; omega
        have hS : Hid (posL 0 (T.take (k + 1)) = L ++ (if 0 < x then [(k : Int)] else [])) := by
          unfold Hid; rw [take_snoc' hg.out, posL_snoc, ← hL.out, List.length_take_of_le (by rw [HTL.out]; exact hk)]; simp
        have HOWN := Lib.hid hown
        clear c0 hown
        by_cases hx0 : 0 < x
        · go_wp2_with (at_builtin; refine wpList_append_own _ rfl _ _ 24 rfl w3.heap.size 3 i0 (.int .i64 0) 1 8 Try.underlying24 hi0 hz0 hz1 hz2 rfl (by decide) _ _ _ rfl (HOWN.out.alloc _) ⟨wr.heap.size, 0, none⟩ 1 1 [.int .i64 (k : Int)] rfl rfl (new_cells1 _ _ _) (by intro u hu; simp at hu; subst hu; rfl) (by unfold maxLen; omega) (by omega) (by have := hxr.size; simp; omega) ?_; intro v3 w4 hown3 hgrow3 _)
          go_roundw
          case rel =>
            refine ⟨k + 1, L ++ [(k : Int)], by omega, by go_num, own_push hown3, ?_, hxr.push HOWN.out hgrow3 (Nat.le_refl _)⟩
            unfold Hid; rw [hS.out, if_pos hx0]
          case measure => simp [intOf]; omega
        · go_wp2
          go_roundw
          case rel =>
            refine ⟨k + 1, L, by omega, by go_num, HOWN.out, ?_, hxr⟩
            unfold Hid; rw [hS.out, if_neg hx0, List.append_nil]
          case measure => simp [intOf]; omega
      · have hge : ¬ ((k : Int) < (m : Int)) := by omega
        have hLZ : Hid (Z = L) := by
          unfold Hid; rw [HZ.out, hL.out, List.take_of_length_le (by rw [HTL.out]; omega)]
        have HOWN := Lib.hid hown
        obtain ⟨a5, c5, rfl, _, _, _⟩ := own_form hown
        clear hown
        go_wp2
        go_ret2
        refine ⟨_, rfl, ?_, X3.trans hxr⟩
        rw [hLZ.out]
        exact own_mono HOWN.out HSZ.out
end Go.Proofs.Ytiofckbdjifdpaa
