
/- WrongShutters of the reference: its six steps, and their plain law. -/
import Derived.Test.YtphfgfejacbhpaaShut
import Derived.Test.YtphfgfejacbhpaaPut
namespace Go.Proofs.Ytphfgfejacbhpaa
open Go.RowKit
def spStep (x : Int) (L : List Int) (i : Nat) : List Int := if inB 1 61 (bits BinOp.xor IntKind.i64 x ((2 ^ i : Nat) : Int)) then insL L (bits BinOp.xor IntKind.i64 x ((2 ^ i : Nat) : Int)) else L
def spL (x : Int) : List Int := spStep x (spStep x (spStep x (spStep x (spStep x (spStep x [] 0) 1) 2) 3) 4) 5
theorem spL_all : ∀ f : Fin 61, spL ((f.val : Int) + 1) = shL ((f.val : Int) + 1) 61 := by decide +kernel
theorem spL_shL (x : Int) (h1 : 1 ≤ x) (h2 : x ≤ 61) : spL x = shL x 61 := by
  have h := spL_all ⟨(x - 1).toNat, by omega⟩
  have e : (((x - 1).toNat : Nat) : Int) + 1 = x := by omega
  have h2 : spL ((((x - 1).toNat : Nat) : Int) + 1) = shL ((((x - 1).toNat : Nat) : Int) + 1) 61 := h
  rw [e] at h2
  exact h2
def spP (x : Int) : Nat → List Int
  | 0 => []
  | k + 1 => spStep x (spP x k) k
theorem spP_6 (x : Int) : spP x 6 = spL x := by simp only [spP, spL]
theorem insL_len (L : List Int) (n : Int) : (insL L n).length ≤ L.length + 1 := by
  unfold insL
  split
  · omega
  · simp; have := putAt_le n L; omega
theorem spP_len (x : Int) : ∀ k, (spP x k).length ≤ k
  | 0 => by simp [spP]
  | k + 1 => by
    have h := spP_len x k
    unfold spP spStep
    split
    · have := insL_len (spP x k) (bits BinOp.xor IntKind.i64 x ((2 ^ k : Nat) : Int)); omega
    · omega
set_option maxRecDepth 100000 in
set_option maxHeartbeats 1000000 in
theorem c_sWrong (v : Value) (la ha : Nat) (xs : List Int) (k : Int) (w : World) (h : Ints w la ha v xs) (hh : ha ≤ w.heap.size) :
    Calls Try.prog 27 #[v, .int .i64 k] w fun e w' => ∃ r, e = .returned (.tuple #[r, .bool (erB xs k)]) ∧ w'.ownsRow w.heap.size 3 1 r (wsV xs k).length ((wsV xs k).flatMap encI) ∧ Ext w w' := by
  obtain ⟨Z, hZ⟩ : ∃ x, x = wsV xs k := ⟨_, rfl⟩
  obtain ⟨y, hy⟩ : ∃ y, y = erB xs k := ⟨_, rfl⟩
  rw [← hZ, ← hy]
  unfold wsV at hZ
  rw [← hy] at hZ
  have h0 := h
  obtain ⟨a, cap, rfl, m1, m2, _⟩ := h0
  have H := Lib.hid h
  have CH : Hid (∀ W, Ext w W → Calls Try.prog 55 #[.slice a xs.length cap, .int .i64 k] W fun e w' => e = .returned (.bool y) ∧ W = w') := fun W hX => by
    rw [hy]; exact c_ckHas _ la ha xs k W (h.ext hX hh)
  clear h
  cases y
  · simp at hZ; subst hZ
    clear hy
    go_enter Try.func27, Try.ntmps27
    go_wp2_with (go_at_call 55; refine (CH.out _ (Ext.refl _)).mono ?_; rintro e w' ⟨rfl, rfl⟩)
    go_ret2
    exact ⟨_, rfl, World.ownsRow_nil _ _ _ _, Ext.refl _⟩
  · unfold erB at hy
    obtain ⟨h50, hk⟩ : wordB 50 xs = true ∧ inB 0 ((xs.length : Int) - 1) k = true := by simpa using hy.symm
    obtain ⟨k1, k2⟩ := inB_t hk
    obtain ⟨j, rfl⟩ := Int.eq_ofNat_of_zero_le k1
    obtain ⟨n, hn⟩ : ∃ n, n = xs.length := ⟨_, rfl⟩
    rw [← hn] at m1 H k2 hk CH ⊢
    have hltI : (j : Int) < (n : Int) := by omega
    obtain ⟨b, o, g, rfl, hg, c0⟩ := Ints_at H.out (k := j) (by omega)
    have hgg : xs[j]?.getD 0 = g := by rw [hg.out]; rfl
    simp at hZ
    rw [hgg] at hZ
    have hgb : 1 ≤ g ∧ g ≤ 61 := by
      unfold wordB at h50
      simp only [Bool.and_eq_true] at h50
      exact allB_get h50.2 hg.out
    rw [← spL_shL g hgb.1 hgb.2, ← spP_6] at hZ
    obtain ⟨S, hS⟩ : ∃ S : Nat → List Int, S = spP g := ⟨_, rfl⟩
    have hlen := fun k => spP_len g k
    have SS : Hid (∀ k, S (k + 1) = spStep g (S k) k) := fun k => by rw [hS]; rfl
    have S0 : Hid (S 0 = []) := by unfold Hid; rw [hS]; rfl
    rw [← hS] at hlen hZ
    have HZ := Lib.hid hZ
    clear hS
    have l0 := hlen 0
    have l1 := hlen 1
    have l2 := hlen 2
    have l3 := hlen 3
    have l4 := hlen 4
    have l5 := hlen 5
    clear hZ hgg k2 hn hy hk h50 hlen
    go_enter Try.func27, Try.ntmps27
    go_wp2_with (go_at_call 55; refine (CH.out _ (Ext.refl _)).mono ?_; rintro e w' ⟨rfl, rfl⟩)
    go_loopw [6, 7] (fun v t wr => ∃ (m : Nat) (c : Int), m ≤ 6 ∧ Hid ((m : Int) = c) ∧ t = .int .i64 c ∧ wr.ownsRow w.heap.size 3 1 v (S m).length ((S m).flatMap encI) ∧ Ext w wr) (fun _ t _ => 6 - (intOf t).toNat)
    case atStart => exact ⟨0, 0, by omega, (by unfold Hid; rfl), rfl, by rw [S0.out]; exact World.ownsRow_nil _ _ _ _, Ext.refl _⟩
    case round =>
      obtain ⟨m, c, hm, hc, rfl, hown, hx⟩ := hrel
      have d0 := hx.cell c0
      have HOWN := Lib.hid hown
      by_cases hlt : m < 6
      · clear hown
        obtain h | h | h | h | h | h : m = 0 ∨ m = 1 ∨ m = 2 ∨ m = 3 ∨ m = 4 ∨ m = 5 := by omega
        all_goals subst h
        · have hc2 : c = 0 := by have := hc.out; omega
          subst hc2
          clear hc
          cases p1 : inB 1 61 (bits BinOp.xor IntKind.i64 g 1)
          · have HS : Hid (S (0 + 1) = S 0) := by
              unfold Hid; rw [SS.out 0]; unfold spStep; rw [show (((2 ^ 0 : Nat) : Int)) = 1 from rfl, p1]; rfl
            go_wp2_with (go_at_call 58; refine (l1In_c _ _ _ _).mono ?_; rintro e w' ⟨rfl, rfl⟩)
            go_roundw
            case rel => exact ⟨0 + 1, _, by omega, (by unfold Hid; rfl), rfl, by rw [HS.out]; exact HOWN.out, hx⟩
            case measure => simp [intOf]
          · have HS : Hid (S (0 + 1) = insL (S 0) (bits BinOp.xor IntKind.i64 g 1)) := by
              unfold Hid; rw [SS.out 0]; unfold spStep; rw [show (((2 ^ 0 : Nat) : Int)) = 1 from rfl, p1]; rfl
            go_wp2_with (first | (go_at_call 58; refine (l1In_c _ _ _ _).mono ?_; rintro e w' ⟨rfl, rfl⟩) | (go_at_call 59; refine (c_l1Put _ w.heap.size (S 0) _ _ HOWN.out hx.size (by omega)).mono ?_; rintro e w2 ⟨r, rfl, ho2, hx2⟩))
            go_roundw
            case rel => exact ⟨0 + 1, _, by omega, (by unfold Hid; rfl), rfl, by rw [HS.out]; exact ho2, hx.trans hx2⟩
            case measure => simp [intOf]
        · have hc2 : c = 1 := by have := hc.out; omega
          subst hc2
          clear hc
          cases p1 : inB 1 61 (bits BinOp.xor IntKind.i64 g 2)
          · have HS : Hid (S (1 + 1) = S 1) := by
              unfold Hid; rw [SS.out 1]; unfold spStep; rw [show (((2 ^ 1 : Nat) : Int)) = 2 from rfl, p1]; rfl
            go_wp2_with (go_at_call 58; refine (l1In_c _ _ _ _).mono ?_; rintro e w' ⟨rfl, rfl⟩)
            go_roundw
            case rel => exact ⟨1 + 1, _, by omega, (by unfold Hid; rfl), rfl, by rw [HS.out]; exact HOWN.out, hx⟩
            case measure => simp [intOf]
          · have HS : Hid (S (1 + 1) = insL (S 1) (bits BinOp.xor IntKind.i64 g 2)) := by
              unfold Hid; rw [SS.out 1]; unfold spStep; rw [show (((2 ^ 1 : Nat) : Int)) = 2 from rfl, p1]; rfl
            go_wp2_with (first | (go_at_call 58; refine (l1In_c _ _ _ _).mono ?_; rintro e w' ⟨rfl, rfl⟩) | (go_at_call 59; refine (c_l1Put _ w.heap.size (S 1) _ _ HOWN.out hx.size (by omega)).mono ?_; rintro e w2 ⟨r, rfl, ho2, hx2⟩))
            go_roundw
            case rel => exact ⟨1 + 1, _, by omega, (by unfold Hid; rfl), rfl, by rw [HS.out]; exact ho2, hx.trans hx2⟩
            case measure => simp [intOf]
        · have hc2 : c = 2 := by have := hc.out; omega
          subst hc2
          clear hc
          cases p1 : inB 1 61 (bits BinOp.xor IntKind.i64 g 4)
          · have HS : Hid (S (2 + 1) = S 2) := by
              unfold Hid; rw [SS.out 2]; unfold spStep; rw [show (((2 ^ 2 : Nat) : Int)) = 4 from rfl, p1]; rfl
            go_wp2_with (go_at_call 58; refine (l1In_c _ _ _ _).mono ?_; rintro e w' ⟨rfl, rfl⟩)
            go_roundw
            case rel => exact ⟨2 + 1, _, by omega, (by unfold Hid; rfl), rfl, by rw [HS.out]; exact HOWN.out, hx⟩
            case measure => simp [intOf]
          · have HS : Hid (S (2 + 1) = insL (S 2) (bits BinOp.xor IntKind.i64 g 4)) := by
              unfold Hid; rw [SS.out 2]; unfold spStep; rw [show (((2 ^ 2 : Nat) : Int)) = 4 from rfl, p1]; rfl
            go_wp2_with (first | (go_at_call 58; refine (l1In_c _ _ _ _).mono ?_; rintro e w' ⟨rfl, rfl⟩) | (go_at_call 59; refine (c_l1Put _ w.heap.size (S 2) _ _ HOWN.out hx.size (by omega)).mono ?_; rintro e w2 ⟨r, rfl, ho2, hx2⟩))
            go_roundw
            case rel => exact ⟨2 + 1, _, by omega, (by unfold Hid; rfl), rfl, by rw [HS.out]; exact ho2, hx.trans hx2⟩
            case measure => simp [intOf]
        · have hc2 : c = 3 := by have := hc.out; omega
          subst hc2
          clear hc
          cases p1 : inB 1 61 (bits BinOp.xor IntKind.i64 g 8)
          · have HS : Hid (S (3 + 1) = S 3) := by
              unfold Hid; rw [SS.out 3]; unfold spStep; rw [show (((2 ^ 3 : Nat) : Int)) = 8 from rfl, p1]; rfl
            go_wp2_with (go_at_call 58; refine (l1In_c _ _ _ _).mono ?_; rintro e w' ⟨rfl, rfl⟩)
            go_roundw
            case rel => exact ⟨3 + 1, _, by omega, (by unfold Hid; rfl), rfl, by rw [HS.out]; exact HOWN.out, hx⟩
            case measure => simp [intOf]
          · have HS : Hid (S (3 + 1) = insL (S 3) (bits BinOp.xor IntKind.i64 g 8)) := by
              unfold Hid; rw [SS.out 3]; unfold spStep; rw [show (((2 ^ 3 : Nat) : Int)) = 8 from rfl, p1]; rfl
            go_wp2_with (first | (go_at_call 58; refine (l1In_c _ _ _ _).mono ?_; rintro e w' ⟨rfl, rfl⟩) | (go_at_call 59; refine (c_l1Put _ w.heap.size (S 3) _ _ HOWN.out hx.size (by omega)).mono ?_; rintro e w2 ⟨r, rfl, ho2, hx2⟩))
            go_roundw
            case rel => exact ⟨3 + 1, _, by omega, (by unfold Hid; rfl), rfl, by rw [HS.out]; exact ho2, hx.trans hx2⟩
            case measure => simp [intOf]
        · have hc2 : c = 4 := by have := hc.out; omega
          subst hc2
          clear hc
          cases p1 : inB 1 61 (bits BinOp.xor IntKind.i64 g 16)
          · have HS : Hid (S (4 + 1) = S 4) := by
              unfold Hid; rw [SS.out 4]; unfold spStep; rw [show (((2 ^ 4 : Nat) : Int)) = 16 from rfl, p1]; rfl
            go_wp2_with (go_at_call 58; refine (l1In_c _ _ _ _).mono ?_; rintro e w' ⟨rfl, rfl⟩)
            go_roundw
            case rel => exact ⟨4 + 1, _, by omega, (by unfold Hid; rfl), rfl, by rw [HS.out]; exact HOWN.out, hx⟩
            case measure => simp [intOf]
          · have HS : Hid (S (4 + 1) = insL (S 4) (bits BinOp.xor IntKind.i64 g 16)) := by
              unfold Hid; rw [SS.out 4]; unfold spStep; rw [show (((2 ^ 4 : Nat) : Int)) = 16 from rfl, p1]; rfl
            go_wp2_with (first | (go_at_call 58; refine (l1In_c _ _ _ _).mono ?_; rintro e w' ⟨rfl, rfl⟩) | (go_at_call 59; refine (c_l1Put _ w.heap.size (S 4) _ _ HOWN.out hx.size (by omega)).mono ?_; rintro e w2 ⟨r, rfl, ho2, hx2⟩))
            go_roundw
            case rel => exact ⟨4 + 1, _, by omega, (by unfold Hid; rfl), rfl, by rw [HS.out]; exact ho2, hx.trans hx2⟩
            case measure => simp [intOf]
        · have hc2 : c = 5 := by have := hc.out; omega
          subst hc2
          clear hc
          cases p1 : inB 1 61 (bits BinOp.xor IntKind.i64 g 32)
          · have HS : Hid (S (5 + 1) = S 5) := by
              unfold Hid; rw [SS.out 5]; unfold spStep; rw [show (((2 ^ 5 : Nat) : Int)) = 32 from rfl, p1]; rfl
            go_wp2_with (go_at_call 58; refine (l1In_c _ _ _ _).mono ?_; rintro e w' ⟨rfl, rfl⟩)
            go_roundw
            case rel => exact ⟨5 + 1, _, by omega, (by unfold Hid; rfl), rfl, by rw [HS.out]; exact HOWN.out, hx⟩
            case measure => simp [intOf]
          · have HS : Hid (S (5 + 1) = insL (S 5) (bits BinOp.xor IntKind.i64 g 32)) := by
              unfold Hid; rw [SS.out 5]; unfold spStep; rw [show (((2 ^ 5 : Nat) : Int)) = 32 from rfl, p1]; rfl
            go_wp2_with (first | (go_at_call 58; refine (l1In_c _ _ _ _).mono ?_; rintro e w' ⟨rfl, rfl⟩) | (go_at_call 59; refine (c_l1Put _ w.heap.size (S 5) _ _ HOWN.out hx.size (by omega)).mono ?_; rintro e w2 ⟨r, rfl, ho2, hx2⟩))
            go_roundw
            case rel => exact ⟨5 + 1, _, by omega, (by unfold Hid; rfl), rfl, by rw [HS.out]; exact ho2, hx.trans hx2⟩
            case measure => simp [intOf]
      · have : m = 6 := by omega
        subst this
        have hc2 : c = 6 := by have := hc.out; omega
        subst hc2
        rw [← HZ.out] at hown
        have HOWN := Lib.hid hown
        obtain ⟨a5, c5, rfl, _, _, _⟩ := own_form hown
        clear hown
        go_wp2
        go_ret2
        exact ⟨_, rfl, HOWN.out, hx⟩
end Go.Proofs.Ytphfgfejacbhpaa
