

/- IsNet of the reference: its contract. -/
import Derived.Test.YtmaaeemhbccpcaaGreatDoorIsNet
namespace Go.Proofs.YtmaaeemhbccpcaaGreatDoor
open Go.RowKit
theorem netB_alt (T : List TowerT) (L : List LinkT) : netB (T, L) = (T.all towB && (lnkP T.length none L && (inB 1 16 T.length && decide ((L.length : Int) ≤ 40)))) := by
  unfold netB
  simp only
  cases inB 1 16 T.length <;> cases decide ((L.length : Int) ≤ 40) <;> cases T.all towB <;> cases lnkP T.length none L <;> rfl
set_option maxRecDepth 100000 in
set_option maxHeartbeats 4000000 in
theorem c_neGood (v : Value) (la ha : Nat) (x : NetT) (w : World) (h : Nets w la ha v x) (_ : ha ≤ w.heap.size) :
    Calls Tryz.prog 30 #[v] w fun e w' => e = .returned (.bool (netB x)) ∧ Ext w w' := by
  obtain ⟨T, L⟩ := x
  obtain ⟨r, hr⟩ : ∃ r, r = netB (T, L) := ⟨_, rfl⟩
  rw [← hr]
  rw [netB_alt] at hr
  obtain ⟨a, ca, b, cb, rfl, ⟨m1, m2⟩, m3, m4⟩ := h.form
  obtain ⟨p1, p2⟩ := h.parts
  have HT := Lib.hid p1
  have HL := Lib.hid p2
  simp only at m1 m3 HT HL hr ⊢
  obtain ⟨m, hm⟩ : ∃ n, n = T.length := ⟨_, rfl⟩
  obtain ⟨l, hl⟩ : ∃ n, n = L.length := ⟨_, rfl⟩
  rw [← hm] at m1 HT hr ⊢
  rw [← hl] at m3 HL hr ⊢
  have HM := Lib.hid hm
  have HLL := Lib.hid hl
  clear h p1 p2 hm hl
  have hm63 : m ≤ 9223372036854775807 := by omega
  obtain ⟨q, hq⟩ : ∃ q, q = T.all towB := ⟨_, rfl⟩
  obtain ⟨q2, hq2⟩ : ∃ q, q = lnkP m none L := ⟨_, rfl⟩
  rw [← hq, ← hq2] at hr
  have HF : Hid (q = false → r = false) := fun e => by rw [hr, e]; rfl
  have HF2 : Hid (q2 = false → r = false) := fun e => by rw [hr, e, Bool.false_and, Bool.and_false]
  have HE : Hid (q = true → q2 = true → r = (inB 1 16 m && decide ((l : Int) ≤ 40))) := fun e1 e2 => by rw [hr, e1, e2]; rfl
  have HQ := Lib.hid hq
  have HQ2 := Lib.hid hq2
  clear hr hq hq2
  go_enter Tryz.func30, Tryz.ntmps30
  go_wp2
  have B0 : (w.alloc (.cells #[.slice a m ca, .slice b l cb] 27)).cell? ⟨w.heap.size, 0, none⟩ = some (.slice a m ca) := box_cell w _ _ 0 _ rfl
  have B1 : (w.alloc (.cells #[.slice a m ca, .slice b l cb] 27)).cell? ⟨w.heap.size, 1, none⟩ = some (.slice b l cb) := box_cell w _ _ 1 _ rfl
  have X0 := Ext.alloc w (.cells #[.slice a m ca, .slice b l cb] 27)
  generalize w.alloc (.cells #[.slice a m ca, .slice b l cb] 27) = w1 at *
  go_loopw [10] (fun t wr => ∃ k : Nat, k ≤ m ∧ t = .int .i64 k ∧ Ext w1 wr ∧ Hid (q = (T.drop k).all towB)) (fun t _ => m - (intOf t).toNat)
  case atStart => exact ⟨0, by omega, rfl, Ext.refl _, HQ.out⟩
  case round =>
    obtain ⟨k, hk, rfl, hx, hTT⟩ := hrel
    by_cases hlt : k < m
    · obtain ⟨b, o, g, rfl, hg, c0, c1, c2⟩ := Towers_at HT.out hlt
      have hs := hTT.out.trans (allT_drop hg.out)
      unfold towB at hs
      have d0 := hx.cell (X0.cell c0)
      have d1 := hx.cell (X0.cell c1)
      have d2 := hx.cell (X0.cell c2)
      have hltI : (k : Int) < (m : Int) := by omega
      clear c0 c1 c2
      cases p1 : inB 0 999 g.1
      · have HS : Hid (q = false) := by unfold Hid; rw [hs, p1]; rfl
        clear hs
        go_wp2_with ((go_at_call 59; refine (l1In_c _ _ _ _).mono ?_; rintro e w' ⟨rfl, rfl⟩))
        go_ret
        exact ⟨by rw [HF.out HS.out]; rfl, X0.trans (hx.trans (Ext.alloc _ _))⟩
      cases p2 : inB 0 999 g.2.1
      · have HS : Hid (q = false) := by unfold Hid; rw [hs, p1, p2]; rfl
        clear hs
        go_wp2_with ((go_at_call 59; refine (l1In_c _ _ _ _).mono ?_; rintro e w' ⟨rfl, rfl⟩))
        go_ret
        exact ⟨by rw [HF.out HS.out]; rfl, X0.trans (hx.trans (Ext.alloc _ _))⟩
      cases p3 : inB 0 500 g.2.2
      · have HS : Hid (q = false) := by unfold Hid; rw [hs, p1, p2, p3]; rfl
        clear hs
        go_wp2_with ((go_at_call 59; refine (l1In_c _ _ _ _).mono ?_; rintro e w' ⟨rfl, rfl⟩))
        go_ret
        exact ⟨by rw [HF.out HS.out]; rfl, X0.trans (hx.trans (Ext.alloc _ _))⟩
      · have HS : Hid (q = (T.drop (k + 1)).all towB) := by unfold Hid; rw [hs, p1, p2, p3]; rfl
        clear hs
        go_wp2_with ((go_at_call 59; refine (l1In_c _ _ _ _).mono ?_; rintro e w' ⟨rfl, rfl⟩))
        go_roundw
        case rel => exact ⟨k + 1, by omega, by go_num, hx.trans (Ext.alloc _ _), HS.out⟩
        case measure => simp [intOf]; omega
    · have hge : ¬ ((k : Int) < (m : Int)) := by omega
      have HQT : Hid (q = true) := by
        have e := hTT.out
        rw [List.drop_eq_nil_of_le (by rw [← HM.out]; omega)] at e
        exact e
      have D1 := hx.cell B1
      clear hTT
      go_wp2
      clear D1
      go_loopw [34] (fun t wr2 => ∃ k : Nat, k ≤ l ∧ t = .int .i64 k ∧ Ext w1 wr2 ∧ Hid (q2 = lnkP m (pvL L k) (L.drop k))) (fun t _ => l - (intOf t).toNat)
      case atStart => exact ⟨0, by omega, rfl, hx, HQ2.out⟩
      case round =>
        clear hx
        obtain ⟨k, hk, rfl, hx, hTL⟩ := hrel
        by_cases hlt : k < l
        · obtain ⟨b, o, g, rfl, hg, c0, c1, c2⟩ := Links_at HL.out hlt
          have hs := hTL.out.trans (lnkP_drop hg.out)
          have C0 := hx.cell (X0.cell c0)
          have C1 := hx.cell (X0.cell c1)
          have C2 := hx.cell (X0.cell c2)
          have hltI : (k : Int) < (l : Int) := by omega
          clear c0 c1 c2
          go_wp2
          have G0 : (wr.alloc (.cells #[.int .i64 g.1, .int .i64 g.2.1, .int .i64 g.2.2] 42)).cell? ⟨wr.heap.size, 0, none⟩ = some (.int .i64 g.1) := box_cell wr _ _ 0 _ rfl
          have G1 : (wr.alloc (.cells #[.int .i64 g.1, .int .i64 g.2.1, .int .i64 g.2.2] 42)).cell? ⟨wr.heap.size, 1, none⟩ = some (.int .i64 g.2.1) := box_cell wr _ _ 1 _ rfl
          have G2 : (wr.alloc (.cells #[.int .i64 g.1, .int .i64 g.2.1, .int .i64 g.2.2] 42)).cell? ⟨wr.heap.size, 2, none⟩ = some (.int .i64 g.2.2) := box_cell wr _ _ 2 _ rfl
          have GX := hx.trans (Ext.alloc wr (.cells #[.int .i64 g.1, .int .i64 g.2.1, .int .i64 g.2.2] 42))
          generalize wr.alloc (.cells #[.int .i64 g.1, .int .i64 g.2.1, .int .i64 g.2.2] 42) = w2 at *
          have g0 := XT.cell G0
          have g1 := XT.cell G1
          have g2 := XT.cell G2
          have bb0 := XT.cell (GX.cell B0)
          have bb1 := XT.cell (GX.cell B1)
          clear G0 G1 G2 C0 C1 C2
          have hlk := lkB_alt hm63 g
          cases t1 : inB 0 (wrap64 (g.2.1 - 1)) g.1
          · rw [hlk, t1] at hs
            clear hlk
            have HS : Hid (q2 = false) := by unfold Hid; rw [hs]; rfl
            clear hs
            refine region_ext (by kernel_rfl) (by kernel_rfl) ?_
            repeat (go_big_quiet_step (((go_at_call 59; refine Calls.ext_same (l1In_c _ _ _ _)))))
            refine wpQuiet_nil ?_
            intro wq hxq
            go_wp2
            go_ret
            exact ⟨by rw [HF2.out HS.out]; rfl, X0.trans (GX.trans hxq)⟩
          cases t2 : inB 0 ((m : Int) - 1) g.2.1
          · rw [hlk, t1, t2] at hs
            clear hlk
            have HS : Hid (q2 = false) := by unfold Hid; rw [hs]; rfl
            clear hs
            refine region_ext (by kernel_rfl) (by kernel_rfl) ?_
            repeat (go_big_quiet_step (((go_at_call 59; refine Calls.ext_same (l1In_c _ _ _ _)))))
            refine wpQuiet_nil ?_
            intro wq hxq
            go_wp2
            go_ret
            exact ⟨by rw [HF2.out HS.out]; rfl, X0.trans (GX.trans hxq)⟩
          cases t4 : inB 1 60 g.2.2
          · rw [hlk, t1, t2, t4] at hs
            clear hlk
            have HS : Hid (q2 = false) := by unfold Hid; rw [hs]; rfl
            clear hs
            refine region_ext (by kernel_rfl) (by kernel_rfl) ?_
            repeat (go_big_quiet_step (((go_at_call 59; refine Calls.ext_same (l1In_c _ _ _ _)))))
            refine wpQuiet_nil ?_
            intro wq hxq
            go_wp2
            go_ret
            exact ⟨by rw [HF2.out HS.out]; rfl, X0.trans (GX.trans hxq)⟩
          · rw [hlk, t1, t2, t4] at hs
            clear hlk
            by_cases hk0 : k = 0
            · have hkd : decide (0 < (k : Int)) = false := by simp [hk0]
              have hkd2 : decide (0 < k) = false := by simp [hk0]
              rw [show pvL L k = none by unfold pvL; rw [if_pos hk0]] at hs
              clear hk0
              have HS : Hid (q2 = lnkP m (pvL L (k + 1)) (L.drop (k + 1))) := by unfold Hid; rw [hs]; rfl
              clear hs
              refine region_ext (by kernel_rfl) (by kernel_rfl) ?_
              repeat (go_big_quiet_step (((go_at_call 59; refine Calls.ext_same (l1In_c _ _ _ _)))))
              refine wpQuiet_nil ?_
              intro wq hxq
              go_wp2
              go_roundw
              case rel => exact ⟨k + 1, by omega, by go_num, GX.trans hxq, HS.out⟩
              case measure => simp [intOf]; omega
            · have hkd : decide (0 < (k : Int)) = true := by simp; omega
              have hkd2 : decide (0 < k) = true := by simp; omega
              obtain ⟨b', o', pg, hbo, hpg, r0, r1, r2⟩ := Links_at HL.out (k := k - 1) (by omega)
              simp only [Option.some.injEq, Addr.mk.injEq, and_true] at hbo
              obtain ⟨rfl, rfl⟩ := hbo
              have e0 := XT.cell (GX.cell (X0.cell r0))
              have e1 := XT.cell (GX.cell (X0.cell r1))
              have e2 := XT.cell (GX.cell (X0.cell r2))
              clear r0 r1 r2
              have hpv : pvL L k = some pg := by unfold pvL; rw [if_neg hk0]; exact hpg.out
              have hk1 : (1 : Int) ≤ (k : Int) := by omega
              have hkt : ((k : Int) - 1).toNat = k - 1 := by omega
              rw [hpv] at hs
              obtain ⟨t, ht⟩ : ∃ t, t = befL pg g := ⟨_, rfl⟩
              have CC : Hid (∀ W, Calls Tryz.prog 60 #[.agg #[.int .i64 pg.1, .int .i64 pg.2.1, .int .i64 pg.2.2], .agg #[.int .i64 g.1, .int .i64 g.2.1, .int .i64 g.2.2]] W fun e w' => e = .returned (.bool t) ∧ Ext W w') := fun W => by rw [ht]; exact c_neBefore pg g W
              simp only at hs
              rw [← ht] at hs
              clear ht hk0 hpv
              cases t
              · have HS : Hid (q2 = false) := by unfold Hid; rw [hs]; rfl
                clear hs
                refine region_ext (by kernel_rfl) (by kernel_rfl) ?_
                repeat (go_big_quiet_step (((first | (go_at_call 59; refine Calls.ext_same (l1In_c _ _ _ _)) | (go_at_call 60; refine Calls.ext_of (CC.out _))))))
                refine wpQuiet_nil ?_
                intro wq hxq
                go_wp2
                go_ret
                exact ⟨by rw [HF2.out HS.out]; rfl, X0.trans (GX.trans hxq)⟩
              · have HS : Hid (q2 = lnkP m (pvL L (k + 1)) (L.drop (k + 1))) := by unfold Hid; rw [hs]; rfl
                clear hs
                refine region_ext (by kernel_rfl) (by kernel_rfl) ?_
                repeat (go_big_quiet_step (((first | (go_at_call 59; refine Calls.ext_same (l1In_c _ _ _ _)) | (go_at_call 60; refine Calls.ext_of (CC.out _))))))
                refine wpQuiet_nil ?_
                intro wq hxq
                go_wp2
                go_roundw
                case rel => exact ⟨k + 1, by omega, by go_num, GX.trans hxq, HS.out⟩
                case measure => simp [intOf]; omega
        · have hge : ¬ ((k : Int) < (l : Int)) := by omega
          have HS : Hid (q2 = true) := by
            have e := hTL.out
            rw [List.drop_eq_nil_of_le (by rw [← HLL.out]; omega)] at e
            exact e
          have D0 := hx.cell B0
          have D1 := hx.cell B1
          have hs1 := HE.out HQT.out HS.out
          cases t1 : inB 1 16 m
          · have HR : Hid (r = false) := by unfold Hid; rw [hs1, t1]; rfl
            clear hs1
            go_wp2_with (go_at_call 59; refine (l1In_c _ _ _ _).mono ?_; rintro e w' ⟨rfl, rfl⟩)
            go_ret
            exact ⟨by rw [HR.out]; rfl, X0.trans hx⟩
          · have HR : Hid (r = decide ((l : Int) ≤ 40)) := by unfold Hid; rw [hs1, t1]; rfl
            clear hs1
            go_wp2_with (go_at_call 59; refine (l1In_c _ _ _ _).mono ?_; rintro e w' ⟨rfl, rfl⟩)
            go_ret
            exact ⟨by rw [HR.out]; rfl, X0.trans hx⟩
end Go.Proofs.YtmaaeemhbccpcaaGreatDoor
