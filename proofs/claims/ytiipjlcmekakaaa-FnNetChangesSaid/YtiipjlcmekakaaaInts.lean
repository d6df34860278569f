/- The laws' own helpers on slices of ints: copies, equality, marks. -/
import Derived.Test.YtiipjlcmekakaaaMem
namespace Go.Proofs.Ytiipjlcmekakaaa
open Go.RowKit
theorem encI_len (g : Int) : (encI g).length = 1 := rfl
theorem Ints_at {w : World} {lo hi n : Nat} {a : Option Addr} {cap : Nat} {xs : List Int} (h : Ints w lo hi (.slice a n cap) xs) {k : Nat} (hk : k < n) :
    ∃ b off g, a = some ⟨b, off, none⟩ ∧ Hid (xs[k]? = some g) ∧ w.cell? ⟨b, off + k, none⟩ = some (.int .i64 g) := by
  obtain ⟨a', cap', hv, h1, h2, b, off, h3, h4⟩ := h
  simp only [Value.slice.injEq] at hv
  obtain ⟨rfl, rfl, rfl⟩ := hv
  obtain ⟨ha, _, _⟩ := h3 (by omega)
  have hg : xs[k]? = some xs[k] := List.getElem?_eq_getElem hk
  exact ⟨b, off, xs[k], ha, hg, by simpa using h4 k _ 0 _ hg rfl⟩
set_option maxRecDepth 100000 in
theorem c_eqIntS (va vb : Value) (la ha lb hb : Nat) (xs ys : List Int) (w : World) (h1 : Ints w la ha va xs) (h2 : Ints w lb hb vb ys) :
    Calls Try.prog 34 #[va, vb] w fun e w' => e = .returned (.bool (decide (xs = ys))) ∧ Ext w w' := by
  have g1 := h1
  have g2 := h2
  obtain ⟨a, ca, rfl, m1, m2, _⟩ := g1
  obtain ⟨b, cb, rfl, m3, m4, _⟩ := g2
  have H1 := Lib.hid h1
  have H2 := Lib.hid h2
  clear h1 h2
  obtain ⟨r, hr⟩ : ∃ r, r = decide (xs = ys) := ⟨_, rfl⟩
  rw [← hr]
  have HR := Lib.hid hr
  clear hr
  by_cases hlen : xs.length = ys.length
  · have hl : ((xs.length : Int) != (ys.length : Int)) = false := by simp [hlen]
    obtain ⟨n, hn⟩ : ∃ n, n = xs.length := ⟨_, rfl⟩
    rw [← hlen] at m3 hl H2 ⊢
    rw [← hn] at m1 m3 hl H1 H2 ⊢
    have HN := Lib.hid hn
    have HL := Lib.hid hlen
    clear hn hlen
    go_enter Try.func34, Try.ntmps34
    go_wp2
    go_loopw [5] (fun t wr => ∃ k : Nat, k ≤ n ∧ t = .int .i64 k ∧ Ext w wr ∧ Hid (xs.take k = ys.take k)) (fun t _ => n - (intOf t).toNat)
    case atStart => exact ⟨0, by omega, rfl, Ext.refl _, by simp [Hid]⟩
    case round =>
      obtain ⟨k, hk, rfl, hx, hT⟩ := hrel
      by_cases hlt : k < n
      · obtain ⟨b1, o1, g1, rfl, hg1, c0⟩ := Ints_at H1.out hlt
        obtain ⟨b2, o2, g2, rfl, hg2, d0⟩ := Ints_at H2.out hlt
        have C0 := XT.cell (hx.cell c0)
        have D0 := XT.cell (hx.cell d0)
        clear c0 d0
        have hltI : (k : Int) < (n : Int) := by omega
        by_cases hgg : g1 = g2
        · have hgg2 := Lib.hid hgg
          have hq : (g1 != g2) = false := by simp [hgg]
          clear hgg
          go_wp2
          refine region_ext (by kernel_rfl) (by kernel_rfl) ?_
          repeat (go_big_quiet_step (fail))
          refine wpQuiet_nil ?_
          intro wq hxq
          go_wp2
          go_roundw
          case rel => exact ⟨k + 1, by omega, by go_num, hx.trans hxq, take_eq_succ hT.out hg1.out hg2.out hgg2.out⟩
          case measure => simp [intOf]; omega
        · have hgg2 := Lib.hid hgg
          have hq : (g1 != g2) = true := by simp [hgg]
          clear hgg
          go_wp2
          refine region_ext (by kernel_rfl) (by kernel_rfl) ?_
          repeat (go_big_quiet_step (fail))
          refine wpQuiet_nil ?_
          intro wq hxq
          go_wp2
          go_ret
          refine ⟨?_, hx.trans hxq⟩
          rw [HR.out, decide_eq_false (fun e => hgg2.out (by have := hg1.out; rw [e, hg2.out] at this; exact (Option.some.inj this).symm))]
          rfl
      · go_wp2
        go_ret
        refine ⟨?_, hx⟩
        have e := hT.out
        rw [List.take_of_length_le (by rw [← HN.out]; omega), List.take_of_length_le (by rw [← HL.out, ← HN.out]; omega)] at e
        rw [HR.out, decide_eq_true e]
        rfl
  · have hl : ((xs.length : Int) != (ys.length : Int)) = true := by rw [bne_iff_ne]; omega
    have HL := Lib.hid hlen
    clear hlen
    go_enter Try.func34, Try.ntmps34
    go_wp2
    go_ret
    refine ⟨?_, Ext.refl _⟩
    rw [HR.out, decide_eq_false (fun e => HL.out (by rw [e]))]
    rfl
theorem Try.info_Int : (Try.prog.info? 3).map (fun i => (i.zero, i.size, i.bytes)) = some (some (.int .i64 0), 1, 8) := by kernel_rfl
set_option maxRecDepth 100000 in
theorem c_markIntS (v : Value) (n base : Nat) (L : List Value) (c : Int) (w : World) (hown : w.ownsRow base 3 1 v n L) (hc0 : 0 ≤ c) (hc1 : c ≤ 1099511627776) (hn20 : n ≤ 1099511627776) :
    Calls Try.prog 35 #[v, .int .i64 c] w fun e w' => e = .returned (.int .i64 (c + n * 1)) ∧ w'.ownsRow base 3 1 v n (marks c (n * 1)) ∧ w.grownBy w' v.ownBlock := by
  obtain ⟨a, cap, hv, ha, _, _⟩ := own_form hown
  have hownB := hown
  subst hv
  go_enter Try.func35, Try.ntmps35
  go_wp2
  go_loopw [1, 5] (fun q t wr => ∃ (k : Nat) (L2 : List Value), k ≤ n ∧ t = .int .i64 k ∧ q = .int .i64 (c + k * 1) ∧ wr.ownsRow base 3 1 (.slice a n cap) n L2 ∧ Hid (L2.take (k) = marks c (k)) ∧ w.grownBy wr (Value.slice a n cap).ownBlock) (fun _ t _ => n - (intOf t).toNat)
  case atStart => exact ⟨0, _, by omega, rfl, by simp, hown, by simp [Hid, marks], World.grownBy.refl _ _⟩
  case round =>
    clear hown hownB
    obtain ⟨k, L2, hk, rfl, rfl, hown, hT, hx⟩ := hrel
    have hL : L2.length = n * 1 := hown.1
    by_cases hlt : k < n
    · obtain ⟨b, rfl⟩ := ha (by omega)
      obtain ⟨y0, hy0⟩ : ∃ y, L2[k]? = some y := ⟨_, List.getElem?_eq_getElem (by omega)⟩
      have Y0 := Lib.hid hy0
      clear hy0
      have e0 := (hown.cellAt (k) (by omega)).trans Y0.out
      have z0 := hown.frozenAt (k)
      have HL := Lib.hid hL
      clear hL
      have hltI : (k : Int) < (n : Int) := by omega
      go_wp2
      obtain ⟨O0, gr0⟩ := hown.stored (k) (.int .i64 (c + k * 1))
      go_roundw
      case rel =>
        refine ⟨k + 1, _, by omega, by go_num, by go_num, by simpa using O0, ?_, by simpa using (grown_trans hx gr0)⟩
        unfold Hid
        rw [show (k + 1) = k + 1 by omega, marks_add]
        have e := take_set1 (a := .int .i64 (c + k * 1))  hT.out (by have := HL.out; omega)
        rw [show (k + 1) = k + 1 by omega] at e
        simpa [marks1] using e
      case measure => simp [intOf]; omega
    · have e1 : k = n := by omega
      have e3 := hT.out
      rw [e1, List.take_of_length_le (by omega)] at e3
      have HT := Lib.hid e3
      have E1 := Lib.hid e1
      clear e3 e1 hL
      go_wp2
      go_ret
      refine ⟨?_, ?_, hx⟩
      · rw [E1.out]; rfl
      · rw [show marks c (n * 1) = L2 from by rw [HT.out]; simp]; exact hown
set_option maxRecDepth 100000 in
theorem c_heldIntS (v : Value) (n base : Nat) (c : Int) (w : World) (hown : w.ownsRow base 3 1 v n (marks c (n * 1))) (hc0 : 0 ≤ c) (hc1 : c ≤ 1099511627776) (hn20 : n ≤ 1099511627776) :
    Calls Try.prog 36 #[v, .int .i64 c] w fun e w' => e = .returned (.int .i64 (c + n * 1)) ∧ w = w' := by
  obtain ⟨a, cap, hv, ha, _, _⟩ := own_form hown
  subst hv
  have HO := Lib.hid hown
  clear hown
  go_enter Try.func36, Try.ntmps36
  go_wp2
  go_loop [1, 5] (fun q t => ∃ (k : Nat), k ≤ n ∧ t = .int .i64 k ∧ q = .int .i64 (c + k * 1)) (fun _ t => n - (intOf t).toNat)
  case atStart => exact ⟨0, by omega, rfl, by simp⟩
  case round =>
    obtain ⟨k, hk, rfl, rfl⟩ := hrel
    by_cases hlt : k < n
    · obtain ⟨b, rfl⟩ := ha (by omega)
      have e0 : w.cell? ⟨b, k, none⟩ = some (.int .i64 (c + k * 1)) := by
        rw [HO.out.cellAt (k) (by omega), marks_get _ _ _ (by omega)]
        exact congrArg (fun z => some (Value.int .i64 z)) (by omega)
      have hltI : (k : Int) < (n : Int) := by omega
      go_wp2
      go_round
      case rel => exact ⟨k + 1, by omega, by go_num, by go_num⟩
      case measure => simp [intOf]; omega
    · have e1 : k = n := by omega
      have E1 := Lib.hid e1
      clear e1
      go_wp2
      go_ret
      exact ⟨by rw [E1.out]; rfl, rfl⟩
end Go.Proofs.Ytiipjlcmekakaaa
