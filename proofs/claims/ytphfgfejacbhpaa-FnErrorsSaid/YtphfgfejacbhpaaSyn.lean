
/- Syndromes and sums asked for; the laws' own comparisons. -/
import Derived.Test.YtphfgfejacbhpaaDrawK
import Derived.Test.YtphfgfejacbhpaaShut
namespace Go.Proofs.Ytphfgfejacbhpaa
open Go.RowKit
def synA (xs : List Int) : Int := if wordB 50 xs then lsum xs % 61 else 0
def synB (xs : List Int) : Int := if wordB 50 xs then wsum 0 xs % 61 else 0
set_option maxRecDepth 100000 in
theorem c_iSyn (v : Value) (la ha : Nat) (xs : List Int) (w : World) (h : Ints w la ha v xs) :
    Calls Try.prog 12 #[v] w fun e w' => e = .returned (.tuple #[.int .i64 (synA xs), .int .i64 (synB xs), .bool (wordB 50 xs)]) ∧ w = w' := by
  obtain ⟨p, hp⟩ : ∃ p, p = synA xs := ⟨_, rfl⟩
  obtain ⟨q, hq⟩ : ∃ p, p = synB xs := ⟨_, rfl⟩
  rw [← hp, ← hq]
  unfold synA at hp
  unfold synB at hq
  obtain ⟨a, cap, rfl, m1, m2⟩ := h.form
  have H := Lib.hid h
  clear h
  cases h50 : wordB 50 xs
  · rw [h50] at hp hq
    have HP : Hid (p = 0) := hp
    have HQ : Hid (q = 0) := hq
    clear hp hq
    go_enter Try.func12, Try.ntmps12
    go_wp2_with fail
    refine (c_isWord _ _ _ xs 0 _ H.out).mono ?_
    rw [h50]
    rintro e w' ⟨rfl, rfl⟩
    go_wp2
    go_ret3
    exact ⟨by rw [HP.out, HQ.out]; rfl, rfl⟩
  · rw [h50] at hp hq
    have CS := Lib.hid (c_syndromes _ _ _ xs w H.out h50)
    simp only [if_true] at hp hq
    rw [← hp, ← hq] at CS
    have H50 := Lib.hid h50
    clear hp hq h50
    go_enter Try.func12, Try.ntmps12
    go_wp2_with fail
    refine (c_isWord _ _ _ xs 0 _ H.out).mono ?_
    rw [H50.out]
    rintro e w' ⟨rfl, rfl⟩
    go_wp2_with fail
    refine CS.out.mono ?_
    rintro e w' ⟨rfl, rfl⟩
    go_wp2
    go_ret3
    exact ⟨rfl, rfl⟩
set_option maxRecDepth 100000 in
theorem c_sSyn (v : Value) (la ha : Nat) (xs : List Int) (w : World) (h : Ints w la ha v xs) :
    Calls Try.prog 33 #[v] w fun e w' => e = .returned (.tuple #[.int .i64 (synA xs), .int .i64 (synB xs), .bool (wordB 50 xs)]) ∧ w = w' := by
  obtain ⟨p, hp⟩ : ∃ p, p = synA xs := ⟨_, rfl⟩
  obtain ⟨q, hq⟩ : ∃ p, p = synB xs := ⟨_, rfl⟩
  rw [← hp, ← hq]
  unfold synA at hp
  unfold synB at hq
  obtain ⟨a, cap, rfl, m1, m2⟩ := h.form
  have H := Lib.hid h
  clear h
  cases h50 : wordB 50 xs
  · rw [h50] at hp hq
    have HP : Hid (p = 0) := hp
    have HQ : Hid (q = 0) := hq
    clear hp hq
    go_enter Try.func33, Try.ntmps33
    go_wp2_with fail
    refine (c_ckWord _ _ _ xs _ _ H.out).mono ?_
    rw [h50]
    rintro e w' ⟨rfl, rfl⟩
    go_wp2
    go_ret3
    exact ⟨by rw [HP.out, HQ.out]; rfl, rfl⟩
  · rw [h50] at hp hq
    have CS := Lib.hid (c_ckSum _ _ _ xs w H.out h50)
    simp only [if_true] at hp hq
    rw [← hp, ← hq] at CS
    have H50 := Lib.hid h50
    clear hp hq h50
    go_enter Try.func33, Try.ntmps33
    go_wp2_with fail
    refine (c_ckWord _ _ _ xs _ _ H.out).mono ?_
    rw [H50.out]
    rintro e w' ⟨rfl, rfl⟩
    go_wp2_with fail
    refine CS.out.mono ?_
    rintro e w' ⟨rfl, rfl⟩
    go_wp2
    go_ret3
    exact ⟨rfl, rfl⟩
def shB (xs : List Int) : Bool := wordB 50 xs && decide (lsum xs % 61 = 0)
set_option maxRecDepth 100000 in
theorem c_iSumH (v : Value) (la ha : Nat) (xs : List Int) (w : World) (h : Ints w la ha v xs) :
    Calls Try.prog 18 #[v] w fun e w' => e = .returned (.tuple #[.bool (shB xs), .bool (wordB 50 xs)]) ∧ w = w' := by
  obtain ⟨p, hp⟩ : ∃ p, p = shB xs := ⟨_, rfl⟩
  rw [← hp]
  unfold shB at hp
  obtain ⟨a, cap, rfl, m1, m2⟩ := h.form
  have H := Lib.hid h
  clear h
  cases h50 : wordB 50 xs
  · rw [h50] at hp
    have HP : Hid (p = false) := hp
    clear hp
    go_enter Try.func18, Try.ntmps18
    go_wp2_with fail
    refine (c_isWord _ _ _ xs 0 _ H.out).mono ?_
    rw [h50]
    rintro e w' ⟨rfl, rfl⟩
    go_wp2
    go_ret2
    exact ⟨by rw [HP.out]; rfl, rfl⟩
  · rw [h50, Bool.true_and] at hp
    have CS := Lib.hid (c_syndromes _ _ _ xs w H.out h50)
    obtain ⟨s, hs⟩ : ∃ s, s = lsum xs % 61 := ⟨_, rfl⟩
    rw [← hs] at CS hp
    have HP : Hid ((s == 0) = p) := by unfold Hid; rw [hp, Bool.eq_iff_iff]; simp
    have H50 := Lib.hid h50
    clear hp hs h50
    go_enter Try.func18, Try.ntmps18
    go_wp2_with fail
    refine (c_isWord _ _ _ xs 0 _ H.out).mono ?_
    rw [H50.out]
    rintro e w' ⟨rfl, rfl⟩
    go_wp2_with fail
    refine CS.out.mono ?_
    rintro e w' ⟨rfl, rfl⟩
    have HP2 := HP.out
    go_wp2
    go_ret2
    exact ⟨rfl, rfl⟩
set_option maxRecDepth 100000 in
theorem c_sSumH (v : Value) (la ha : Nat) (xs : List Int) (w : World) (h : Ints w la ha v xs) :
    Calls Try.prog 20 #[v] w fun e w' => e = .returned (.tuple #[.bool (shB xs), .bool (wordB 50 xs)]) ∧ w = w' := by
  obtain ⟨p, hp⟩ : ∃ p, p = shB xs := ⟨_, rfl⟩
  rw [← hp]
  unfold shB at hp
  obtain ⟨a, cap, rfl, m1, m2⟩ := h.form
  have H := Lib.hid h
  clear h
  cases h50 : wordB 50 xs
  · rw [h50] at hp
    have HP : Hid (p = false) := hp
    clear hp
    go_enter Try.func20, Try.ntmps20
    go_wp2_with fail
    refine (c_ckWord _ _ _ xs _ _ H.out).mono ?_
    rw [h50]
    rintro e w' ⟨rfl, rfl⟩
    go_wp2
    go_ret2
    exact ⟨by rw [HP.out]; rfl, rfl⟩
  · rw [h50, Bool.true_and] at hp
    have CS := Lib.hid (c_ckSum _ _ _ xs w H.out h50)
    obtain ⟨s, hs⟩ : ∃ s, s = lsum xs % 61 := ⟨_, rfl⟩
    rw [← hs] at CS hp
    have HP : Hid ((s == 0) = p) := by unfold Hid; rw [hp, Bool.eq_iff_iff]; simp
    have H50 := Lib.hid h50
    clear hp hs h50
    go_enter Try.func20, Try.ntmps20
    go_wp2_with fail
    refine (c_ckWord _ _ _ xs _ _ H.out).mono ?_
    rw [H50.out]
    rintro e w' ⟨rfl, rfl⟩
    go_wp2_with fail
    refine CS.out.mono ?_
    rintro e w' ⟨rfl, rfl⟩
    have HP2 := HP.out
    go_wp2
    go_ret2
    exact ⟨rfl, rfl⟩
/-! ### The laws' own -/
set_option maxRecDepth 100000 in
theorem c_sameInts (va vb : Value) (la ha lb hb : Nat) (xs ys : List Int) (w : World) (h1 : Ints w la ha va xs) (h2 : Ints w lb hb vb ys) :
    Calls Try.prog 11 #[va, vb] w fun e w' => e = .returned (.bool (decide (xs = ys))) ∧ Ext w w' := by
  have g1 := h1
  have g2 := h2
  obtain ⟨a, ca, rfl, m1, m2, _⟩ := g1
  obtain ⟨b, cb, rfl, m3, m4, _⟩ := g2
  have H1 := Lib.hid h1
  have H2 := Lib.hid h2
  clear h1 h2
  obtain ⟨r, hr⟩ : ∃ r, r = decide (xs = ys) := ⟨_, rfl⟩
  rw [← hr]
  have HR := Lib.hid hr
  clear hr
  by_cases hlen : xs.length = ys.length
  · have hl : ((xs.length : Int) != (ys.length : Int)) = false := by simp [hlen]
    obtain ⟨n, hn⟩ : ∃ n, n = xs.length := ⟨_, rfl⟩
    rw [← hlen] at m3 hl H2 ⊢
    rw [← hn] at m1 m3 hl H1 H2 ⊢
    have HN := Lib.hid hn
    have HL := Lib.hid hlen
    clear hn hlen
    go_enter Try.func11, Try.ntmps11
    go_wp2
    go_loopw [13] (fun t wr => ∃ k : Nat, k ≤ n ∧ t = .int .i64 k ∧ Ext w wr ∧ Hid (xs.take k = ys.take k)) (fun t _ => n - (intOf t).toNat)
    case atStart => exact ⟨0, by omega, rfl, Ext.refl _, by simp [Hid]⟩
    case round =>
      obtain ⟨k, hk, rfl, hx, hT⟩ := hrel
      by_cases hlt : k < n
      · obtain ⟨b1, o1, g1, rfl, hg1, c0⟩ := Ints_at H1.out hlt
        obtain ⟨b2, o2, g2, rfl, hg2, d0⟩ := Ints_at H2.out hlt
        have C0 := XT.cell (hx.cell c0)
        have D0 := XT.cell (hx.cell d0)
        have hltI : (k : Int) < (n : Int) := by omega
        clear c0 d0
        by_cases he : g1 = g2
        · have hne : (g1 != g2) = false := by simp [he]
          have HT2 := Lib.hid (take_eq_succ hT.out hg1.out hg2.out he)
          clear he
          go_wp2_with fail
          refine region_ext (by kernel_rfl) (by kernel_rfl) ?_
          repeat (go_big_quiet_step (fail))
          refine wpQuiet_nil ?_
          intro wq hxq
          go_wp2
          go_roundw
          case rel => exact ⟨k + 1, by omega, by go_num, hx.trans hxq, HT2.out⟩
          case measure => simp [intOf]; omega
        · have hne : (g1 != g2) = true := by simp [he]
          have HF : Hid (r = false) := by
            unfold Hid
            rw [HR.out]
            simp only [decide_eq_false_iff_not]
            intro e
            rw [e] at hg1
            exact he (Option.some.inj (hg1.out.symm.trans hg2.out))
          clear he
          go_wp2_with fail
          refine region_ext (by kernel_rfl) (by kernel_rfl) ?_
          repeat (go_big_quiet_step (fail))
          refine wpQuiet_nil ?_
          intro wq hxq
          go_wp2
          go_ret
          exact ⟨by rw [HF.out]; rfl, hx.trans hxq⟩
      · have hge : ¬ ((k : Int) < (n : Int)) := by omega
        have HT2 : Hid (r = true) := by
          unfold Hid
          have e := hT.out
          rw [List.take_of_length_le (by rw [← HN.out]; omega), List.take_of_length_le (by rw [← HL.out, ← HN.out]; omega)] at e
          rw [HR.out]; simp [e]
        go_wp2
        go_ret
        exact ⟨by rw [HT2.out]; rfl, hx⟩
  · have hl : ((xs.length : Int) != (ys.length : Int)) = true := by simp; omega
    have HF : Hid (r = false) := by
      unfold Hid
      rw [HR.out]
      simp only [decide_eq_false_iff_not]
      intro e
      rw [e] at hlen
      exact hlen rfl
    clear hlen
    go_enter Try.func11, Try.ntmps11
    go_wp2
    go_ret
    exact ⟨by rw [HF.out]; rfl, Ext.refl _⟩
def bigB (m n : Nat) : Bool := decide (1048576 < (m : Int)) || decide ((1048576 : Int) - m < n)
set_option maxRecDepth 100000 in
theorem c_big (a1 a2 : Option Addr) (m n c1 c2 : Nat) (w : World) (h1 : m ≤ 9223372036854775807) (h2 : n ≤ 9223372036854775807) :
    Calls Try.prog 5 #[.slice a1 m c1, .slice a2 n c2] w fun e w' => e = .returned (.bool (bigB m n)) ∧ w = w' := by
  obtain ⟨r, hr⟩ : ∃ r, r = bigB m n := ⟨_, rfl⟩
  rw [← hr]
  unfold bigB at hr
  by_cases hm : 1048576 < (m : Int)
  · have HR : Hid (r = true) := by unfold Hid; rw [hr, decide_eq_true hm]; rfl
    clear hr
    go_enter Try.func5, Try.ntmps5
    go_wp2
    go_ret
    exact ⟨by rw [HR.out]; rfl, rfl⟩
  · have HR : Hid (r = decide ((1048576 : Int) - m < n)) := by unfold Hid; rw [hr, decide_eq_false hm]; rfl
    clear hr
    by_cases hn : (1048576 : Int) - m < n
    · rw [decide_eq_true hn] at HR
      go_enter Try.func5, Try.ntmps5
      go_wp2
      go_ret
      exact ⟨by rw [HR.out]; rfl, rfl⟩
    · rw [decide_eq_false hn] at HR
      go_enter Try.func5, Try.ntmps5
      go_wp2
      go_ret
      exact ⟨by rw [HR.out]; rfl, rfl⟩
end Go.Proofs.Ytphfgfejacbhpaa
