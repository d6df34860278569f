
/- Whether two slices of ints hold the same: the laws' own function. -/
import Derived.Test.YtiofckbdjifdpaaMem2
import Derived.Test.YtiofckbdjifdpaaInts
namespace Go.Proofs.Ytiofckbdjifdpaa
open Go.RowKit
set_option maxRecDepth 100000 in
theorem c_qInts (va vb : Value) (la ha lb hb : Nat) (xs ys : List Int) (w : World) (h1 : Ints w la ha va xs) (h2 : Ints w lb hb vb ys) :
    Calls Try.prog 22 #[va, vb] w fun e w' => e = .returned (.bool (decide (xs = ys))) ∧ Ext w w' := by
  have g1 := h1
  have g2 := h2
  obtain ⟨a, ca, rfl, m1, m2, _⟩ := g1
  obtain ⟨b, cb, rfl, m3, m4, _⟩ := g2
  have H1 := Lib.hid h1
  have H2 := Lib.hid h2
  clear h1 h2
  obtain ⟨r, hr⟩ : ∃ r, r = decide (xs = ys) := ⟨_, rfl⟩
  rw [← hr]
  have HR := Lib.hid hr
  clear hr
  by_cases hlen : xs.length = ys.length
  · have hl : ((xs.length : Int) != (ys.length : Int)) = false := by simp [hlen]
    obtain ⟨n, hn⟩ : ∃ n, n = xs.length := ⟨_, rfl⟩
    rw [← hlen] at m3 hl H2 ⊢
    rw [← hn] at m1 m3 hl H1 H2 ⊢
    have HN := Lib.hid hn
    have HL := Lib.hid hlen
    clear hn hlen
    go_enter Try.func22, Try.ntmps22
    go_wp2
    go_loopw [13] (fun t wr => ∃ k : Nat, k ≤ n ∧ t = .int .i64 k ∧ Ext w wr ∧ Hid (xs.take k = ys.take k)) (fun t _ => n - (intOf t).toNat)
    case atStart => exact ⟨0, by omega, rfl, Ext.refl _, by simp [Hid]⟩
    case round =>
      obtain ⟨k, hk, rfl, hx, hT⟩ := hrel
      by_cases hlt : k < n
      · obtain ⟨b1, o1, g1, rfl, hg1, c0⟩ := Ints_at H1.out hlt
        obtain ⟨b2, o2, g2, rfl, hg2, d0⟩ := Ints_at H2.out hlt
        have C0 := XT.cell (hx.cell c0)
        have D0 := XT.cell (hx.cell d0)
        have hltI : (k : Int) < (n : Int) := by omega
        clear c0 d0
        by_cases he : g1 = g2
        · have hne : (g1 != g2) = false := by simp [he]
          have HT2 := Lib.hid (take_eq_succ hT.out hg1.out hg2.out he)
          clear he
          go_wp2_with fail
          refine region_ext (by kernel_rfl) (by kernel_rfl) ?_
          repeat (go_big_quiet_step (fail))
          refine wpQuiet_nil ?_
          intro wq hxq
          go_wp2
          go_roundw
          case rel => exact ⟨k + 1, by omega, by go_num, hx.trans hxq, HT2.out⟩
          case measure => simp [intOf]; omega
        · have hne : (g1 != g2) = true := by simp [he]
          have HF : Hid (r = false) := by
            unfold Hid
            rw [HR.out]
            simp only [decide_eq_false_iff_not]
            intro e
            rw [e] at hg1
            exact he (Option.some.inj (hg1.out.symm.trans hg2.out))
          clear he
          go_wp2_with fail
          refine region_ext (by kernel_rfl) (by kernel_rfl) ?_
          repeat (go_big_quiet_step (fail))
          refine wpQuiet_nil ?_
          intro wq hxq
          go_wp2
          go_ret
          exact ⟨by rw [HF.out]; rfl, hx.trans hxq⟩
      · have hge : ¬ ((k : Int) < (n : Int)) := by omega
        have HT2 : Hid (r = true) := by
          unfold Hid
          have e := hT.out
          rw [List.take_of_length_le (by rw [← HN.out]; omega), List.take_of_length_le (by rw [← HL.out, ← HN.out]; omega)] at e
          rw [HR.out]; simp [e]
        go_wp2
        go_ret
        exact ⟨by rw [HT2.out]; rfl, hx⟩
  · have hl : ((xs.length : Int) != (ys.length : Int)) = true := by simp; omega
    have HF : Hid (r = false) := by
      unfold Hid
      rw [HR.out]
      simp only [decide_eq_false_iff_not]
      intro e
      rw [e] at hlen
      exact hlen rfl
    clear hlen
    go_enter Try.func22, Try.ntmps22
    go_wp2
    go_ret
    exact ⟨by rw [HF.out]; rfl, Ext.refl _⟩
end Go.Proofs.Ytiofckbdjifdpaa
