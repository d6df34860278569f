

/- Tests of fogs: all fogs of a net: the program's and the reference's. -/
import Derived.Test.YtngnagicgheenaaFogW
namespace Go.Proofs.Ytngnagicgheenaa
open Go.RowKit
set_option maxRecDepth 100000 in
set_option maxHeartbeats 1000000 in
theorem c_compareFogs (x y : FogT) (w : World) :
    Calls Try.prog 75 #[.agg #[.int .i64 x.1, .int .i64 x.2.1, .int .i64 x.2.2], .agg #[.int .i64 y.1, .int .i64 y.2.1, .int .i64 y.2.2]] w fun e w' => e = .returned (.int .i64 (cmpL x y)) ∧ Ext w w' := by
  obtain ⟨x1, x2, x3⟩ := x
  obtain ⟨y1, y2, y3⟩ := y
  obtain ⟨p, hp⟩ : ∃ p, p = cmpI x1 y1 := ⟨_, rfl⟩
  obtain ⟨q, hq⟩ : ∃ p, p = cmpI x2 y2 := ⟨_, rfl⟩
  obtain ⟨r, hr⟩ : ∃ r, r = if p = 0 then q else p := ⟨_, rfl⟩
  have hrr : cmpL (x1, x2, x3) (y1, y2, y3) = r := by rw [hr, hp, hq]; unfold cmpL; rfl
  rw [hrr]
  have C1 : Hid (∀ W, Calls Try.prog 87 #[.int .i64 x1, .int .i64 y1] W fun e w' => e = .returned (.int .i64 p) ∧ W = w') := fun W => by rw [hp]; exact c_Compare _ _ W
  have C2 : Hid (∀ W, Calls Try.prog 87 #[.int .i64 x2, .int .i64 y2] W fun e w' => e = .returned (.int .i64 q) ∧ W = w') := fun W => by rw [hq]; exact c_Compare _ _ W
  have HR := Lib.hid hr
  clear hr hp hq hrr
  go_enter Try.func75, Try.ntmps75
  go_wp2_with fail
  obtain ⟨W1, hW1⟩ : ∃ W, W = ((w.alloc (.cells #[.int .i64 x1, .int .i64 x2, .int .i64 x3] 65)).alloc (.cells #[.int .i64 y1, .int .i64 y2, .int .i64 y3] 65)) := ⟨_, rfl⟩
  rw [← hW1]
  have X1 : Ext w W1 := by rw [hW1]; exact ((Ext.refl w).al _).al _
  have B1 : W1.heap[w.heap.size]? = some (.cells #[.int .i64 x1, .int .i64 x2, .int .i64 x3] 65) := by rw [hW1]; exact blk_old (blk_alloc _ _)
  have B2 : W1.heap[w.heap.size + 1]? = some (.cells #[.int .i64 y1, .int .i64 y2, .int .i64 y3] 65) := by rw [hW1]; exact blk_alloc2 _ _ _
  have k10 : W1.cell? ⟨w.heap.size, 0, none⟩ = some (.int .i64 x1) := blk_cell B1 (j := 0) rfl
  have k11 : W1.cell? ⟨w.heap.size, 1, none⟩ = some (.int .i64 x2) := blk_cell B1 (j := 1) rfl
  have k20 : W1.cell? ⟨w.heap.size + 1, 0, none⟩ = some (.int .i64 y1) := blk_cell B2 (j := 0) rfl
  have k21 : W1.cell? ⟨w.heap.size + 1, 1, none⟩ = some (.int .i64 y2) := blk_cell B2 (j := 1) rfl
  clear hW1 B1 B2
  have S1 : Hid (Calls Try.prog 87 #[.int .i64 x1, .int .i64 y1] W1.drew fun e w' => e = .returned (.int .i64 p) ∧ w' = W1.drew) := (C1.out W1.drew).mono fun e w' ⟨h1, h2⟩ => ⟨h1, h2.symm⟩
  have S2 : Hid (Calls Try.prog 87 #[.int .i64 x2, .int .i64 y2] W1.drew fun e w' => e = .returned (.int .i64 q) ∧ w' = W1.drew) := (C2.out W1.drew).mono fun e w' ⟨h1, h2⟩ => ⟨h1, h2.symm⟩
  refine wp_region_still_tail 10 (by kernel_rfl) (by kernel_rfl) ?_
  simp only [List.take_succ_cons, List.take_zero, List.drop_succ_cons, List.drop_zero]
  still_step
  still_step
  still_step
  still_step
  still_call S1.out
  still_step
  still_step
  still_step
  still_step
  still_call S2.out
  refine wpStill_nil ?_
  change wpList _ _ _ _ _ W1.drew
  have X2 : Ext w W1.drew := X1.dr
  generalize W1.drew = W2 at *
  clear k10 k11 k20 k21
  have CO2 : Hid (Calls Try.prog 86 #[.slice (some ⟨W2.heap.size, 0, none⟩) 2 2] (W2.alloc (.cells #[.int .i64 p, .int .i64 q] 3)) fun e w' => e = .returned (.int .i64 r) ∧ (W2.alloc (.cells #[.int .i64 p, .int .i64 q] 3)) = w') := by
    rw [HR.out]
    exact c_Or W2.heap.size p q _ (box_cell W2 _ _ 0 _ rfl) (box_cell W2 _ _ 1 _ rfl)
  go_wp2_with (go_at_call 86; refine CO2.out.mono ?_; rintro e w' ⟨rfl, rfl⟩)
  go_ret
  exact ⟨rfl, X2.al _⟩
set_option maxRecDepth 100000 in
set_option maxHeartbeats 4000000 in
theorem c_fgGood (v vf : Value) (la ha lb hb : Nat) (x : NetT) (F : List FogT) (w : World) (h : Nets w la ha v x) (hh : ha ≤ w.heap.size) (h2 : Fogs w lb hb vf F) (_ : hb ≤ w.heap.size) :
    Calls Try.prog 41 #[v, vf] w fun e w' => e = .returned (.bool (fogsB x.2.length F)) ∧ Ext w w' := by
  obtain ⟨r, hr⟩ : ∃ r, r = fogsB x.2.length F := ⟨_, rfl⟩
  rw [← hr]
  unfold fogsB at hr
  obtain ⟨a, ca, b, cb, rfl, ⟨m1, m2⟩, m3, m4⟩ := h.form
  have HN := Lib.hid h
  obtain ⟨T, L⟩ := x
  simp only at m1 m3 hr HN ⊢
  obtain ⟨m, hm⟩ : ∃ n, n = T.length := ⟨_, rfl⟩
  obtain ⟨l, hl⟩ : ∃ n, n = L.length := ⟨_, rfl⟩
  have CF : Hid (∀ W g, Ext w W → Calls Try.prog 70 #[.agg #[.slice a T.length ca, .slice b L.length cb], .agg #[.int .i64 g.1, .int .i64 g.2.1, .int .i64 g.2.2]] W fun e w' => e = .returned (.bool (fgB L.length g)) ∧ Ext W w') := fun W g hX => c_fgFog _ la ha (T, L) g W (HN.out.ext hX hh)
  rw [← hm, ← hl] at CF
  rw [← hm] at m1 ⊢
  rw [← hl] at m3 hr ⊢
  clear h HN hm hl
  obtain ⟨a2, ca2, rfl, m5, m6⟩ := Row.form h2
  have HF := Lib.hid h2
  obtain ⟨n, hn⟩ : ∃ n, n = F.length := ⟨_, rfl⟩
  rw [← hn] at m5 HF hr ⊢
  have HNN := Lib.hid hn
  clear h2 hn
  obtain ⟨q, hq⟩ : ∃ q, q = fogP l none F := ⟨_, rfl⟩
  rw [← hq] at hr
  have HQ := Lib.hid hq
  have HFL : Hid (q = false → r = false) := fun e => by rw [hr, e, Bool.and_false]
  have HE : Hid (q = true → r = decide ((n : Int) ≤ 60)) := fun e => by rw [hr, e, Bool.and_true]
  clear hr hq
  go_enter Try.func41, Try.ntmps41
  go_wp2
  have B0 : (w.alloc (.cells #[.slice a m ca, .slice b l cb] 34)).cell? ⟨w.heap.size, 0, none⟩ = some (.slice a m ca) := box_cell w _ _ 0 _ rfl
  have B1 : (w.alloc (.cells #[.slice a m ca, .slice b l cb] 34)).cell? ⟨w.heap.size, 1, none⟩ = some (.slice b l cb) := box_cell w _ _ 1 _ rfl
  have X0 := Ext.alloc w (.cells #[.slice a m ca, .slice b l cb] 34)
  generalize w.alloc (.cells #[.slice a m ca, .slice b l cb] 34) = w1 at *
  go_loopw [9] (fun t wr => ∃ k : Nat, k ≤ n ∧ t = .int .i64 k ∧ Ext w1 wr ∧ Hid (q = fogP l (pvF F k) (F.drop k)) ∧ Hid (∀ p, pvF F k = some p → fgB l p = true)) (fun t _ => n - (intOf t).toNat)
  case atStart => exact ⟨0, by omega, rfl, Ext.refl _, HQ.out, fun p hp => by simp [pvF] at hp⟩
  case round =>
    obtain ⟨k, hk, rfl, hx, hT, hP⟩ := hrel
    have D0 := hx.cell B0
    have D1 := hx.cell B1
    by_cases hlt : k < n
    · obtain ⟨b8, o8, g, rfl, hg, c0, c1, c2⟩ := Fogs_at HF.out hlt
      have hs := hT.out.trans (fogP_drop hg.out)
      have C0 := hx.cell (X0.cell c0)
      have C1 := hx.cell (X0.cell c1)
      have C2 := hx.cell (X0.cell c2)
      have hltI : (k : Int) < (n : Int) := by omega
      clear c0 c1 c2
      have K0 := (Ext.alloc wr (.cells #[.int .i64 g.1, .int .i64 g.2.1, .int .i64 g.2.2] 65)).cell D0
      have K1 := (Ext.alloc wr (.cells #[.int .i64 g.1, .int .i64 g.2.1, .int .i64 g.2.2] 65)).cell D1
      go_wp2_with fail
      have G0 : (wr.alloc (.cells #[.int .i64 g.1, .int .i64 g.2.1, .int .i64 g.2.2] 65)).cell? ⟨wr.heap.size, 0, none⟩ = some (.int .i64 g.1) := box_cell wr _ _ 0 _ rfl
      have G1 : (wr.alloc (.cells #[.int .i64 g.1, .int .i64 g.2.1, .int .i64 g.2.2] 65)).cell? ⟨wr.heap.size, 1, none⟩ = some (.int .i64 g.2.1) := box_cell wr _ _ 1 _ rfl
      have G2 : (wr.alloc (.cells #[.int .i64 g.1, .int .i64 g.2.1, .int .i64 g.2.2] 65)).cell? ⟨wr.heap.size, 2, none⟩ = some (.int .i64 g.2.2) := box_cell wr _ _ 2 _ rfl
      have GX := hx.trans (Ext.alloc wr (.cells #[.int .i64 g.1, .int .i64 g.2.1, .int .i64 g.2.2] 65))
      generalize wr.alloc (.cells #[.int .i64 g.1, .int .i64 g.2.1, .int .i64 g.2.2] 65) = w2 at *
      clear K0 K1
      obtain ⟨t, ht⟩ : ∃ t, t = fgB l g := ⟨_, rfl⟩
      have HT := Lib.hid ht.symm
      have CG := Lib.hid (CF.out w2 g (X0.trans GX))
      rw [← ht] at CG
      clear ht
      refine CG.out.mono ?_
      rintro e w3 ⟨rfl, hx3⟩
      have XR := GX.trans hx3
      cases t
      · have HS : Hid (q = false) := by unfold Hid; rw [hs, HT.out]; rfl
        clear hs
        go_wp2
        go_ret
        exact ⟨by rw [HFL.out HS.out]; rfl, X0.trans XR⟩
      · have g0 := XT.cell (hx3.cell G0)
        have g1 := XT.cell (hx3.cell G1)
        clear G0 G1 G2 C0 C1 C2
        go_wp2_with fail
        by_cases hk0 : k = 0
        · have hkd : decide (0 < (k : Int)) = false := by simp [hk0]
          have hkd2 : decide (0 < k) = false := by simp [hk0]
          rw [show pvF F k = none by unfold pvF; rw [if_pos hk0]] at hs
          clear hk0
          have HS : Hid (q = fogP l (pvF F (k + 1)) (F.drop (k + 1))) := by unfold Hid; rw [hs, HT.out]; rfl
          have HP2 : Hid (∀ p, pvF F (k + 1) = some p → fgB l p = true) := fun p hp => by
            rw [pvF_succ hg.out] at hp
            rw [← Option.some.inj hp]; exact HT.out
          clear hs
          refine region_ext (by kernel_rfl) (by kernel_rfl) ?_
          repeat (go_big_quiet_step ((fail)))
          refine wpQuiet_nil ?_
          intro wq hxq
          go_wp2
          go_roundw
          case rel => exact ⟨k + 1, by omega, by go_num, XR.trans hxq, HS.out, HP2.out⟩
          case measure => simp [intOf]; omega
        · have hkd : decide (0 < (k : Int)) = true := by simp; omega
          have hkd2 : decide (0 < k) = true := by simp; omega
          obtain ⟨b', o', pg, hbo, hpg, r0, r1, r2⟩ := Fogs_at HF.out (k := k - 1) (by omega)
          simp only [Option.some.injEq, Addr.mk.injEq, and_true] at hbo
          obtain ⟨rfl, rfl⟩ := hbo
          have hpv : pvF F k = some pg := by unfold pvF; rw [if_neg hk0]; exact hpg.out
          have hpb := fgB_iff.1 (hP.out pg hpv)
          have hpf := hpb.ft
          have hk1 : (1 : Int) ≤ (k : Int) := by omega
          have hkt : ((k : Int) - 1).toNat = k - 1 := by omega
          rw [hpv] at hs
          have e0 := XT.cell (XR.cell (X0.cell r0))
          have e1 := XT.cell (XR.cell (X0.cell r1))
          have e2 := XT.cell (XR.cell (X0.cell r2))
          clear r0 r1 r2 hpv hk0 hpb
          by_cases p1 : g.1 < pg.1
          · have HS : Hid (q = false) := by unfold Hid; rw [hs, HT.out]; simp [befF, p1]
            clear hs
            refine region_ext (by kernel_rfl) (by kernel_rfl) ?_
            repeat (go_big_quiet_step ((fail)))
            refine wpQuiet_nil ?_
            intro wq hxq
            go_wp2
            go_ret
            exact ⟨by rw [HFL.out HS.out]; rfl, X0.trans (XR.trans hxq)⟩
          · cases p2 : (pg.1 == g.1)
            · have p2n : ¬ pg.1 = g.1 := by simpa using p2
              have HS : Hid (q = fogP l (pvF F (k + 1)) (F.drop (k + 1))) := by unfold Hid; rw [hs, HT.out]; simp [befF, p1, p2n]
              have HP2 : Hid (∀ p, pvF F (k + 1) = some p → fgB l p = true) := fun p hp => by
                rw [pvF_succ hg.out] at hp
                rw [← Option.some.inj hp]; exact HT.out
              clear hs
              refine region_ext (by kernel_rfl) (by kernel_rfl) ?_
              repeat (go_big_quiet_step ((fail)))
              refine wpQuiet_nil ?_
              intro wq hxq
              go_wp2
              go_roundw
              case rel => exact ⟨k + 1, by omega, by go_num, XR.trans hxq, HS.out, HP2.out⟩
              case measure => simp [intOf]; omega
            · have p2n : pg.1 = g.1 := by simpa using p2
              by_cases p3 : g.2.1 ≤ pg.2.2
              · have HS : Hid (q = false) := by unfold Hid; rw [hs, HT.out]; simp [befF, p2n, p3]
                clear hs
                refine region_ext (by kernel_rfl) (by kernel_rfl) ?_
                repeat (go_big_quiet_step ((fail)))
                refine wpQuiet_nil ?_
                intro wq hxq
                go_wp2
                go_ret
                exact ⟨by rw [HFL.out HS.out]; rfl, X0.trans (XR.trans hxq)⟩
              · have p3b : pg.2.2 < g.2.1 := by omega
                have HS : Hid (q = fogP l (pvF F (k + 1)) (F.drop (k + 1))) := by unfold Hid; rw [hs, HT.out]; simp [befF, p2n, p3]
                have HP2 : Hid (∀ p, pvF F (k + 1) = some p → fgB l p = true) := fun p hp => by
                  rw [pvF_succ hg.out] at hp
                  rw [← Option.some.inj hp]; exact HT.out
                clear hs
                refine region_ext (by kernel_rfl) (by kernel_rfl) ?_
                repeat (go_big_quiet_step ((fail)))
                refine wpQuiet_nil ?_
                intro wq hxq
                go_wp2
                go_roundw
                case rel => exact ⟨k + 1, by omega, by go_num, XR.trans hxq, HS.out, HP2.out⟩
                case measure => simp [intOf]; omega
    · have hge : ¬ ((k : Int) < (n : Int)) := by omega
      have HS : Hid (q = true) := by
        have e := hT.out
        rw [List.drop_eq_nil_of_le (by rw [← HNN.out]; omega)] at e
        exact e
      have HR := Lib.hid (HE.out HS.out)
      go_wp2
      go_ret
      exact ⟨by rw [HR.out]; rfl, X0.trans hx⟩
set_option maxRecDepth 100000 in
set_option maxHeartbeats 4000000 in
theorem c_areFogs (v vf : Value) (la ha lb hb : Nat) (x : NetT) (F : List FogT) (w : World) (h : Nets w la ha v x) (hh : ha ≤ w.heap.size) (h2 : Fogs w lb hb vf F) (_ : hb ≤ w.heap.size) :
    Calls Try.prog 46 #[v, vf] w fun e w' => e = .returned (.bool (fogsB x.2.length F)) ∧ Ext w w' := by
  obtain ⟨r, hr⟩ : ∃ r, r = fogsB x.2.length F := ⟨_, rfl⟩
  rw [← hr]
  unfold fogsB at hr
  obtain ⟨a, ca, b, cb, rfl, ⟨m1, m2⟩, m3, m4⟩ := h.form
  have HN := Lib.hid h
  obtain ⟨T, L⟩ := x
  simp only at m1 m3 hr HN ⊢
  obtain ⟨m, hm⟩ : ∃ n, n = T.length := ⟨_, rfl⟩
  obtain ⟨l, hl⟩ : ∃ n, n = L.length := ⟨_, rfl⟩
  have CF : Hid (∀ W g, Ext w W → Calls Try.prog 74 #[.agg #[.slice a T.length ca, .slice b L.length cb], .agg #[.int .i64 g.1, .int .i64 g.2.1, .int .i64 g.2.2]] W fun e w' => e = .returned (.bool (fgB L.length g)) ∧ Ext W w') := fun W g hX => c_isFog _ la ha (T, L) g W (HN.out.ext hX hh)
  rw [← hm, ← hl] at CF
  rw [← hm] at m1 ⊢
  rw [← hl] at m3 hr ⊢
  clear h HN hm hl
  obtain ⟨a2, ca2, rfl, m5, m6⟩ := Row.form h2
  have HF := Lib.hid h2
  obtain ⟨n, hn⟩ : ∃ n, n = F.length := ⟨_, rfl⟩
  rw [← hn] at m5 HF hr ⊢
  have HNN := Lib.hid hn
  clear h2 hn
  obtain ⟨q, hq⟩ : ∃ q, q = fogP l none F := ⟨_, rfl⟩
  rw [← hq] at hr
  have HQ := Lib.hid hq
  have HFL : Hid (q = false → r = false) := fun e => by rw [hr, e, Bool.and_false]
  have HE : Hid (q = true → r = decide ((n : Int) ≤ 60)) := fun e => by rw [hr, e, Bool.and_true]
  have HB : Hid (¬ (n : Int) ≤ 60 → r = false) := fun e => by rw [hr, decide_eq_false e, Bool.false_and]
  clear hr hq
  by_cases e60 : (n : Int) ≤ 60
  · have e60b : ¬ 60 < (n : Int) := by omega
    go_enter Try.func46, Try.ntmps46
    go_wp2
    have B0 : (w.alloc (.cells #[.slice a m ca, .slice b l cb] 34)).cell? ⟨w.heap.size, 0, none⟩ = some (.slice a m ca) := box_cell w _ _ 0 _ rfl
    have B1 : (w.alloc (.cells #[.slice a m ca, .slice b l cb] 34)).cell? ⟨w.heap.size, 1, none⟩ = some (.slice b l cb) := box_cell w _ _ 1 _ rfl
    have X0 := Ext.alloc w (.cells #[.slice a m ca, .slice b l cb] 34)
    generalize w.alloc (.cells #[.slice a m ca, .slice b l cb] 34) = w1 at *
    go_loopw [12] (fun t wr => ∃ k : Nat, k ≤ n ∧ t = .int .i64 k ∧ Ext w1 wr ∧ Hid (q = fogP l (pvF F k) (F.drop k)) ∧ Hid (∀ p, pvF F k = some p → fgB l p = true)) (fun t _ => n - (intOf t).toNat)
    case atStart => exact ⟨0, by omega, rfl, Ext.refl _, HQ.out, fun p hp => by simp [pvF] at hp⟩
    case round =>
      obtain ⟨k, hk, rfl, hx, hT, hP⟩ := hrel
      by_cases hlt : k < n
      · obtain ⟨b8, o8, g, rfl, hg, c0, c1, c2⟩ := Fogs_at HF.out hlt
        have hs := hT.out.trans (fogP_drop hg.out)
        have C0 := hx.cell (X0.cell c0)
        have C1 := hx.cell (X0.cell c1)
        have C2 := hx.cell (X0.cell c2)
        have hltI : (k : Int) < (n : Int) := by omega
        clear c0 c1 c2
        skip
        go_wp2_with fail
        have G0 : (wr.alloc (.cells #[.int .i64 g.1, .int .i64 g.2.1, .int .i64 g.2.2] 65)).cell? ⟨wr.heap.size, 0, none⟩ = some (.int .i64 g.1) := box_cell wr _ _ 0 _ rfl
        have G1 : (wr.alloc (.cells #[.int .i64 g.1, .int .i64 g.2.1, .int .i64 g.2.2] 65)).cell? ⟨wr.heap.size, 1, none⟩ = some (.int .i64 g.2.1) := box_cell wr _ _ 1 _ rfl
        have G2 : (wr.alloc (.cells #[.int .i64 g.1, .int .i64 g.2.1, .int .i64 g.2.2] 65)).cell? ⟨wr.heap.size, 2, none⟩ = some (.int .i64 g.2.2) := box_cell wr _ _ 2 _ rfl
        have GX := hx.trans (Ext.alloc wr (.cells #[.int .i64 g.1, .int .i64 g.2.1, .int .i64 g.2.2] 65))
        generalize wr.alloc (.cells #[.int .i64 g.1, .int .i64 g.2.1, .int .i64 g.2.2] 65) = w2 at *
        have XR := GX
        obtain ⟨t, ht⟩ : ∃ t, t = fgB l g := ⟨_, rfl⟩
        have HT := Lib.hid ht.symm
        have CG : Hid (∀ W, Ext w2 W → Calls Try.prog 74 #[.agg #[.slice a m ca, .slice b l cb], .agg #[.int .i64 g.1, .int .i64 g.2.1, .int .i64 g.2.2]] W fun e w' => e = .returned (.bool t) ∧ Ext W w') := fun W hX => by rw [ht]; exact CF.out W g (X0.trans (GX.trans hX))
        have g0 := XT.cell G0
        have g1 := XT.cell G1
        have g2 := XT.cell G2
        have bb0 := XT.cell (GX.cell B0)
        have bb1 := XT.cell (GX.cell B1)
        clear ht G0 G1 G2 C0 C1 C2
        cases t
        · have hkx : k = 0 ∨ k ≠ 0 := by omega
          have HS : Hid (q = false) := by unfold Hid; rw [hs, HT.out]; rfl
          clear hs
          refine region_ext (by kernel_rfl) (by kernel_rfl) ?_
          repeat (go_big_quiet_step ((go_at_call 74; refine Calls.ext_of (CG.out _ (XT.prop _)))))
          refine wpQuiet_nil ?_
          intro wq hxq
          go_wp2
          go_ret
          exact ⟨by rw [HFL.out HS.out]; rfl, X0.trans (XR.trans hxq)⟩
        · by_cases hk0 : k = 0
          · have hkd : decide (0 < (k : Int)) = false := by simp [hk0]
            have hkd2 : decide (0 < k) = false := by simp [hk0]
            rw [show pvF F k = none by unfold pvF; rw [if_pos hk0]] at hs
            clear hk0
            have HS : Hid (q = fogP l (pvF F (k + 1)) (F.drop (k + 1))) := by unfold Hid; rw [hs, HT.out]; rfl
            have HP2 : Hid (∀ p, pvF F (k + 1) = some p → fgB l p = true) := fun p hp => by
              rw [pvF_succ hg.out] at hp
              rw [← Option.some.inj hp]; exact HT.out
            clear hs
            refine region_ext (by kernel_rfl) (by kernel_rfl) ?_
            repeat (go_big_quiet_step ((go_at_call 74; refine Calls.ext_of (CG.out _ (XT.prop _)))))
            refine wpQuiet_nil ?_
            intro wq hxq
            go_wp2
            go_roundw
            case rel => exact ⟨k + 1, by omega, by go_num, XR.trans hxq, HS.out, HP2.out⟩
            case measure => simp [intOf]; omega
          · have hkd : decide (0 < (k : Int)) = true := by simp; omega
            have hkd2 : decide (0 < k) = true := by simp; omega
            obtain ⟨b', o', pg, hbo, hpg, r0, r1, r2⟩ := Fogs_at HF.out (k := k - 1) (by omega)
            simp only [Option.some.injEq, Addr.mk.injEq, and_true] at hbo
            obtain ⟨rfl, rfl⟩ := hbo
            have hpv : pvF F k = some pg := by unfold pvF; rw [if_neg hk0]; exact hpg.out
            have hpb := fgB_iff.1 (hP.out pg hpv)
            have hpf := hpb.ft
            have hk1 : (1 : Int) ≤ (k : Int) := by omega
            have hkt : ((k : Int) - 1).toNat = k - 1 := by omega
            rw [hpv] at hs
            have e0 := XT.cell (XR.cell (X0.cell r0))
            have e1 := XT.cell (XR.cell (X0.cell r1))
            have e2 := XT.cell (XR.cell (X0.cell r2))
            clear r0 r1 r2 hpv hk0 hpb
            have hcb := cmpL_bef pg g
            obtain ⟨c, hc⟩ : ∃ c, c = cmpL pg g := ⟨_, rfl⟩
            have CC : Hid (∀ W, Calls Try.prog 75 #[.agg #[.int .i64 pg.1, .int .i64 pg.2.1, .int .i64 pg.2.2], .agg #[.int .i64 g.1, .int .i64 g.2.1, .int .i64 g.2.2]] W fun e w' => e = .returned (.int .i64 c) ∧ Ext W w') := fun W => by rw [hc]; exact c_compareFogs pg g W
            rw [← hc] at hcb
            clear hc
            by_cases hc0 : 0 ≤ c
            · rw [decide_eq_true hc0] at hcb
              have hcb2 : befL pg g = false := by simpa using hcb.symm
              have hbf : befF pg g = false := by
                unfold befL at hcb2
                unfold befF
                simp only [Bool.or_eq_false_iff, Bool.and_eq_false_iff, decide_eq_false_iff_not] at hcb2
                simp only [Bool.not_eq_false', Bool.or_eq_true, Bool.and_eq_true, decide_eq_true_eq]
                omega
              clear hcb hcb2
              have HS : Hid (q = false) := by unfold Hid; rw [hs, HT.out]; simp [hbf]
              clear hs
              refine region_ext (by kernel_rfl) (by kernel_rfl) ?_
              repeat (go_big_quiet_step ((first | (go_at_call 74; refine Calls.ext_of (CG.out _ (XT.prop _))) | (go_at_call 75; refine Calls.ext_of (CC.out _)))))
              refine wpQuiet_nil ?_
              intro wq hxq
              go_wp2
              go_ret
              exact ⟨by rw [HFL.out HS.out]; rfl, X0.trans (XR.trans hxq)⟩
            · rw [decide_eq_false hc0] at hcb
              have hcb2 : befL pg g = true := by simpa using hcb.symm
              have hc1 : c < 0 := by omega
              have hle : pg.1 ≤ g.1 := by
                unfold befL at hcb2
                simp only [Bool.or_eq_true, Bool.and_eq_true, decide_eq_true_eq] at hcb2
                omega
              clear hcb hcb2
              cases p2 : (pg.1 == g.1)
              · have p2n : Hid (¬ pg.1 = g.1) := by unfold Hid; simpa using p2
                have p1 : Hid (¬ g.1 < pg.1) := by unfold Hid; omega
                clear hle
                have HS : Hid (q = fogP l (pvF F (k + 1)) (F.drop (k + 1))) := by unfold Hid; rw [hs, HT.out]; simp [befF, p1.out, p2n.out]
                have HP2 : Hid (∀ p, pvF F (k + 1) = some p → fgB l p = true) := fun p hp => by
                  rw [pvF_succ hg.out] at hp
                  rw [← Option.some.inj hp]; exact HT.out
                clear hs
                refine region_ext (by kernel_rfl) (by kernel_rfl) ?_
                repeat (go_big_quiet_step ((first | (go_at_call 74; refine Calls.ext_of (CG.out _ (XT.prop _))) | (go_at_call 75; refine Calls.ext_of (CC.out _)))))
                refine wpQuiet_nil ?_
                intro wq hxq
                go_wp2
                go_roundw
                case rel => exact ⟨k + 1, by omega, by go_num, XR.trans hxq, HS.out, HP2.out⟩
                case measure => simp [intOf]; omega
              · have p2n : Hid (pg.1 = g.1) := by unfold Hid; simpa using p2
                clear hle
                by_cases p3 : g.2.1 ≤ pg.2.2
                · have HS : Hid (q = false) := by unfold Hid; rw [hs, HT.out]; simp [befF, p2n.out, p3]
                  clear hs
                  refine region_ext (by kernel_rfl) (by kernel_rfl) ?_
                  repeat (go_big_quiet_step ((first | (go_at_call 74; refine Calls.ext_of (CG.out _ (XT.prop _))) | (go_at_call 75; refine Calls.ext_of (CC.out _)))))
                  refine wpQuiet_nil ?_
                  intro wq hxq
                  go_wp2
                  go_ret
                  exact ⟨by rw [HFL.out HS.out]; rfl, X0.trans (XR.trans hxq)⟩
                · have p3b : pg.2.2 < g.2.1 := by omega
                  have HS : Hid (q = fogP l (pvF F (k + 1)) (F.drop (k + 1))) := by unfold Hid; rw [hs, HT.out]; simp [befF, p2n.out, p3]
                  have HP2 : Hid (∀ p, pvF F (k + 1) = some p → fgB l p = true) := fun p hp => by
                    rw [pvF_succ hg.out] at hp
                    rw [← Option.some.inj hp]; exact HT.out
                  clear hs
                  refine region_ext (by kernel_rfl) (by kernel_rfl) ?_
                  repeat (go_big_quiet_step ((first | (go_at_call 74; refine Calls.ext_of (CG.out _ (XT.prop _))) | (go_at_call 75; refine Calls.ext_of (CC.out _)))))
                  refine wpQuiet_nil ?_
                  intro wq hxq
                  go_wp2
                  go_roundw
                  case rel => exact ⟨k + 1, by omega, by go_num, XR.trans hxq, HS.out, HP2.out⟩
                  case measure => simp [intOf]; omega
      · have hge : ¬ ((k : Int) < (n : Int)) := by omega
        have HS : Hid (q = true) := by
          have e := hT.out
          rw [List.drop_eq_nil_of_le (by rw [← HNN.out]; omega)] at e
          exact e
        have HR : Hid (r = true) := (HE.out HS.out).trans (decide_eq_true e60)
        go_wp2
        go_ret
        exact ⟨by rw [HR.out]; rfl, X0.trans hx⟩
  · have HR := Lib.hid (HB.out e60)
    have e60b : 60 < (n : Int) := by omega
    go_enter Try.func46, Try.ntmps46
    go_wp2
    go_ret
    exact ⟨by rw [HR.out]; rfl, Ext.alloc _ _⟩
end Go.Proofs.Ytngnagicgheenaa
