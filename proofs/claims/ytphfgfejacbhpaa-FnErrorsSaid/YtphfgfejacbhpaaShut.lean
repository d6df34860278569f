
/- WrongShutters of the program and of the reference: their contracts. -/
import Derived.Test.YtphfgfejacbhpaaCorrect
import Derived.Test.YtphfgfejacbhpaaOnes
namespace Go.Proofs.Ytphfgfejacbhpaa
open Go.RowKit

def dst (a b : Int) : Nat := Lib.onesCount (bits BinOp.xor IntKind.i64 a b % 256).toNat
set_option maxRecDepth 100000 in
theorem c_distanceOf (a b : Int) (w : World) :
    Calls Try.prog 57 #[.int .i64 a, .int .i64 b] w fun e w' => e = .returned (.int .i64 (dst a b : Nat)) ∧ w = w' := by
  obtain ⟨d, hd⟩ : ∃ d, d = dst a b := ⟨_, rfl⟩
  rw [← hd]
  have CO : Hid (∀ W, Calls Try.prog 67 #[.int .u8 (bits BinOp.xor IntKind.i64 a b % 256)] W fun e w' => e = .returned (.int .i64 (d : Nat)) ∧ W = w') := fun W => by
    rw [hd]; exact (c_Ones _ W (by omega) (by omega)).mono fun e w' ⟨he, hw⟩ => ⟨he, hw.symm⟩
  clear hd
  go_enter Try.func57, Try.ntmps57
  go_wp2_with (go_at_call 67; refine (CO.out _).mono ?_; rintro e w' ⟨rfl, rfl⟩)
  go_ret
  exact ⟨rfl, rfl⟩
/-- The numbers from 1 to k that differ from x in one bit. -/
def shL (x : Int) : Nat → List Int
  | 0 => []
  | k + 1 => shL x k ++ (if dst ((k : Int) + 1) x = 1 then [((k : Int) + 1)] else [])
theorem shL_len (x : Int) : ∀ k, (shL x k).length ≤ k
  | 0 => by simp [shL]
  | k + 1 => by have := shL_len x k; unfold shL; split <;> simp <;> omega
def wsV (xs : List Int) (k : Int) : List Int := if erB xs k then shL (xs.getD k.toNat 0) 61 else []
set_option maxRecDepth 100000 in
set_option maxHeartbeats 1000000 in
theorem c_iWrong (v : Value) (la ha : Nat) (xs : List Int) (k : Int) (w : World) (h : Ints w la ha v xs) (hh : ha ≤ w.heap.size) :
    Calls Try.prog 26 #[v, .int .i64 k] w fun e w' => ∃ r, e = .returned (.tuple #[r, .bool (erB xs k)]) ∧ w'.ownsRow w.heap.size 3 1 r (wsV xs k).length ((wsV xs k).flatMap encI) ∧ Ext w w' := by
  obtain ⟨i0, hi0, hz0, hz1, hz2⟩ := info_parts Try.info_intC
  obtain ⟨Z, hZ⟩ : ∃ x, x = wsV xs k := ⟨_, rfl⟩
  obtain ⟨y, hy⟩ : ∃ y, y = erB xs k := ⟨_, rfl⟩
  rw [← hZ, ← hy]
  unfold wsV at hZ
  rw [← hy] at hZ
  unfold erB at hy
  have h0 := h
  obtain ⟨a, cap, rfl, m1, m2, _⟩ := h0
  have H := Lib.hid h
  clear h
  cases h50 : wordB 50 xs
  · rw [h50] at hy
    simp at hy; subst hy; simp at hZ; subst hZ
    go_enter Try.func26, Try.ntmps26
    go_wp2_with (first | (go_at_call 39; refine (c_isWord _ _ _ xs 0 _ H.out).mono ?_; rintro e w' ⟨rfl, rfl⟩) | (go_at_call 47; refine (within_c _ _ _ _).mono ?_; rintro e w' ⟨rfl, rfl⟩))
    go_ret2
    exact ⟨_, rfl, World.ownsRow_nil _ _ _ _, Ext.refl _⟩
  cases hk : inB 0 ((xs.length : Int) - 1) k
  · rw [h50, hk] at hy
    simp at hy; subst hy; simp at hZ; subst hZ
    go_enter Try.func26, Try.ntmps26
    go_wp2_with (first | (go_at_call 39; refine (c_isWord _ _ _ xs 0 _ H.out).mono ?_; rintro e w' ⟨rfl, rfl⟩) | (go_at_call 47; refine (within_c _ _ _ _).mono ?_; rintro e w' ⟨rfl, rfl⟩))
    go_ret2
    exact ⟨_, rfl, World.ownsRow_nil _ _ _ _, Ext.refl _⟩
  · rw [h50, hk] at hy
    simp at hy; subst hy; simp at hZ
    obtain ⟨k1, k2⟩ := inB_t hk
    obtain ⟨j, rfl⟩ := Int.eq_ofNat_of_zero_le k1
    obtain ⟨n, hn⟩ : ∃ n, n = xs.length := ⟨_, rfl⟩
    rw [← hn] at m1 H k2 hk ⊢
    have hltI : (j : Int) < (n : Int) := by omega
    obtain ⟨b, o, g, rfl, hg, c0⟩ := Ints_at H.out (k := j) (by omega)
    have hgg : xs[j]?.getD 0 = g := by rw [hg.out]; rfl
    simp only [Int.toNat_natCast] at hZ
    rw [hgg] at hZ
    have HZ := Lib.hid hZ
    have HN := Lib.hid hn
    clear hZ hgg k2 hn
    go_enter Try.func26, Try.ntmps26
    go_wp2_with (first | (go_at_call 39; refine (c_isWord _ _ _ xs 0 _ H.out).mono ?_; rintro e w' ⟨rfl, rfl⟩) | (go_at_call 47; refine (within_c _ _ _ _).mono ?_; rintro e w' ⟨rfl, rfl⟩))
    go_loopw [6, 7] (fun v t wr => ∃ m : Nat, m ≤ 61 ∧ t = .int .i64 ((m : Int) + 1) ∧ wr.ownsRow w.heap.size 3 1 v (shL g m).length ((shL g m).flatMap encI) ∧ Ext w wr) (fun _ t _ => 62 - (intOf t).toNat)
    case atStart => exact ⟨0, by omega, rfl, World.ownsRow_nil _ _ _ _, Ext.refl _⟩
    case round =>
      obtain ⟨m, hm, rfl, hown, hx⟩ := hrel
      have d0 := hx.cell c0
      by_cases hlt : m < 61
      · have hmI : (m : Int) + 1 ≤ 61 := by omega
        have hlen := shL_len g m
        obtain ⟨L, hL⟩ : ∃ L, L = shL g m := ⟨_, rfl⟩
        obtain ⟨d, hd⟩ : ∃ d, d = dst ((m : Int) + 1) g := ⟨_, rfl⟩
        have HS : Hid (shL g (m + 1) = L ++ (if d = 1 then [((m : Int) + 1)] else [])) := by unfold Hid; rw [hL, hd]; rfl
        have CD : Hid (∀ W, Calls Try.prog 57 #[.int .i64 ((m : Int) + 1), .int .i64 g] W fun e w' => e = .returned (.int .i64 (d : Nat)) ∧ W = w') := fun W => by rw [hd]; exact c_distanceOf _ _ W
        rw [← hL] at hown hlen
        have HOWN := Lib.hid hown
        clear hL hd hown
        by_cases hd1 : d = 1
        · have hdI : (d : Int) = 1 := by omega
          rw [hd1] at HS
          simp only [if_true] at HS
          go_wp2_with (first | (go_at_call 57; refine (CD.out _).mono ?_; rintro e w2 ⟨rfl, rfl⟩) | (at_builtin; refine wpList_append_own _ rfl _ _ 24 rfl w.heap.size 3 i0 (.int .i64 0) 1 8 Try.underlying24 hi0 hz0 hz1 hz2 rfl (by decide) _ _ _ rfl (HOWN.out.alloc _) ⟨wr.heap.size, 0, none⟩ 1 1 [.int .i64 ((m : Int) + 1)] rfl rfl (new_cells1 _ _ _) (by intro u hu; simp at hu; subst hu; rfl) (by unfold maxLen; omega) (by omega) (by have := hx.size; simp; omega) ?_; intro v3 w3 hown3 hgrow3 _))
          go_roundw
          case rel =>
            refine ⟨m + 1, by omega, by go_num, ?_, hx.push HOWN.out hgrow3 (Nat.le_refl _)⟩
            rw [HS.out]
            exact own_push hown3
          case measure => simp [intOf]; omega
        · have hdI : ((d : Int) == 1) = false := by simp; omega
          have hdn : ¬ ((d : Int) = 1) := by omega
          go_wp2_with (go_at_call 57; refine (CD.out _).mono ?_; rintro e w2 ⟨rfl, rfl⟩)
          go_roundw
          case rel =>
            refine ⟨m + 1, by omega, by go_num, ?_, hx⟩
            rw [HS.out, if_neg hd1]
            simpa using HOWN.out
          case measure => simp [intOf]; omega
      · have : m = 61 := by omega
        subst this
        rw [← HZ.out] at hown
        have HOWN := Lib.hid hown
        obtain ⟨a5, c5, rfl, _, _, _⟩ := own_form hown
        clear hown
        go_wp2
        go_ret2
        exact ⟨_, rfl, HOWN.out, hx⟩
end Go.Proofs.Ytphfgfejacbhpaa
