

/- IsNet of the program and of the reference: their contracts. -/
import Derived.Test.YtmaaeemhbccpcaaGreatDoorCmpL
import Derived.Test.YtmaaeemhbccpcaaGreatDoorNet
namespace Go.Proofs.YtmaaeemhbccpcaaGreatDoor
open Go.RowKit

set_option maxRecDepth 100000 in
theorem c_neBefore (x y : LinkT) (w : World) :
    Calls Tryz.prog 60 #[.agg #[.int .i64 x.1, .int .i64 x.2.1, .int .i64 x.2.2], .agg #[.int .i64 y.1, .int .i64 y.2.1, .int .i64 y.2.2]] w fun e w' => e = .returned (.bool (befL x y)) ∧ Ext w w' := by
  obtain ⟨x1, x2, x3⟩ := x
  obtain ⟨y1, y2, y3⟩ := y
  obtain ⟨r, hr⟩ : ∃ r, r = befL (x1, x2, x3) (y1, y2, y3) := ⟨_, rfl⟩
  rw [← hr]
  unfold befL at hr
  by_cases h1 : x1 < y1
  · have HR : Hid (r = true) := by unfold Hid; rw [hr]; simp [h1]
    clear hr
    go_enter Tryz.func60, Tryz.ntmps60
    go_wp2
    go_ret
    exact ⟨by rw [HR.out]; rfl, ((Ext.refl w).al _).al _⟩
  by_cases h2 : x1 = y1
  · by_cases h3 : x2 < y2
    · have HR : Hid (r = true) := by unfold Hid; rw [hr]; simp [h2, h3]
      have hb : ((x1 : Int) == y1) = true := by simp [h2]
      clear hr h2
      go_enter Tryz.func60, Tryz.ntmps60
      go_wp2
      go_ret
      exact ⟨by rw [HR.out]; rfl, ((Ext.refl w).al _).al _⟩
    · have HR : Hid (r = false) := by unfold Hid; rw [hr]; simp [h2, h3]
      have hb : ((x1 : Int) == y1) = true := by simp [h2]
      clear hr h2
      go_enter Tryz.func60, Tryz.ntmps60
      go_wp2
      go_ret
      exact ⟨by rw [HR.out]; rfl, ((Ext.refl w).al _).al _⟩
  · have HR : Hid (r = false) := by unfold Hid; rw [hr]; simp [h1, h2]
    have hb : ((x1 : Int) == y1) = false := by simp [h2]
    clear hr
    go_enter Tryz.func60, Tryz.ntmps60
    go_wp2
    go_ret
    exact ⟨by rw [HR.out]; rfl, ((Ext.refl w).al _).al _⟩

/-! ### Valid nets -/
def towB (t : TowerT) : Bool := inB 0 999 t.1 && (inB 0 999 t.2.1 && inB 0 500 t.2.2)
def lkB (m : Int) (x : LinkT) : Bool := decide (0 ≤ x.1) && (decide (x.1 < x.2.1) && (decide (x.2.1 < m) && inB 1 60 x.2.2))
def lnkP (m : Int) : Option LinkT → List LinkT → Bool
  | _, [] => true
  | p, x :: r => (lkB m x && (match p with | none => true | some a => befL a x)) && lnkP m (some x) r
def netB (x : NetT) : Bool := inB 1 16 x.1.length && (decide ((x.2.length : Int) ≤ 40) && (x.1.all towB && lnkP x.1.length none x.2))
def pvL (L : List LinkT) (k : Nat) : Option LinkT := if k = 0 then none else L[k - 1]?
theorem pvL_succ {xs : List LinkT} {k : Nat} {x : LinkT} (h : xs[k]? = some x) : pvL xs (k + 1) = some x := by simp [pvL, h]
theorem lnkP_drop {m : Int} {xs : List LinkT} {k : Nat} {x : LinkT} (h : xs[k]? = some x) :
    lnkP m (pvL xs k) (xs.drop k) = ((lkB m x && (match pvL xs k with | none => true | some a => befL a x)) && lnkP m (pvL xs (k + 1)) (xs.drop (k + 1))) := by
  have hk : k < xs.length := (List.getElem?_eq_some_iff.1 h).1
  have e : xs.drop k = x :: xs.drop (k + 1) := by
    rw [List.drop_eq_getElem_cons hk]; congr 1; exact (List.getElem?_eq_some_iff.1 h).2
  rw [e, pvL_succ h]
  cases pvL xs k <;> rfl
theorem allT_drop {f : TowerT → Bool} {xss : List TowerT} {k : Nat} {x : TowerT} (h : xss[k]? = some x) : (xss.drop k).all f = (f x && (xss.drop (k + 1)).all f) := by
  have hk : k < xss.length := (List.getElem?_eq_some_iff.1 h).1
  have e : xss.drop k = x :: xss.drop (k + 1) := by
    rw [List.drop_eq_getElem_cons hk]; congr 1; exact (List.getElem?_eq_some_iff.1 h).2
  rw [e, List.all_cons]
theorem lkB_alt {m : Nat} (hm : m ≤ 9223372036854775807) (x : LinkT) : lkB m x = (inB 0 (wrap64 (x.2.1 - 1)) x.1 && (inB 0 ((m : Int) - 1) x.2.1 && inB 1 60 x.2.2)) := by
  unfold lkB
  cases h : inB 0 ((m : Int) - 1) x.2.1
  · have h2 := inB_f h
    rw [Bool.false_and, Bool.and_false]
    rcases h2 with h2 | h2
    · by_cases h3 : 0 ≤ x.1
      · have : ¬ x.1 < x.2.1 := by omega
        simp [this]
      · simp [h3]
    · have : ¬ x.2.1 < (m : Int) := by omega
      simp [this]
  · obtain ⟨h1, h2⟩ := inB_t h
    rw [IntWalk.wrap64_in (x.2.1 - 1) ⟨by omega, by omega⟩]
    have h3 : decide (x.2.1 < (m : Int)) = true := by simp; omega
    rw [h3]
    unfold inB
    by_cases a1 : 0 ≤ x.1
    · by_cases a2 : x.1 < x.2.1
      · have : x.1 ≤ x.2.1 - 1 := by omega
        simp [a1, a2, this]
      · have : ¬ x.1 ≤ x.2.1 - 1 := by omega
        simp [a1, a2, this]
    · simp [a1]
set_option maxRecDepth 100000 in
set_option maxHeartbeats 4000000 in
theorem c_IsNet (v : Value) (la ha : Nat) (x : NetT) (w : World) (h : Nets w la ha v x) (_ : ha ≤ w.heap.size) :
    Calls Tryz.prog 13 #[v] w fun e w' => e = .returned (.bool (netB x)) ∧ Ext w w' := by
  obtain ⟨T, L⟩ := x
  obtain ⟨r, hr⟩ : ∃ r, r = netB (T, L) := ⟨_, rfl⟩
  rw [← hr]
  unfold netB at hr
  obtain ⟨a, ca, b, cb, rfl, ⟨m1, m2⟩, m3, m4⟩ := h.form
  obtain ⟨p1, p2⟩ := h.parts
  have HT := Lib.hid p1
  have HL := Lib.hid p2
  simp only at m1 m3 HT HL hr ⊢
  obtain ⟨m, hm⟩ : ∃ n, n = T.length := ⟨_, rfl⟩
  obtain ⟨l, hl⟩ : ∃ n, n = L.length := ⟨_, rfl⟩
  rw [← hm] at m1 HT hr ⊢
  rw [← hl] at m3 HL hr ⊢
  have HM := Lib.hid hm
  have HLL := Lib.hid hl
  clear h p1 p2 hm hl
  cases e1 : inB 1 16 m
  · simp [e1] at hr; subst hr
    go_enter Tryz.func13, Tryz.ntmps13
    go_wp2_with (go_at_call 39; refine (within_c _ _ _ _).mono ?_; rintro e w' ⟨rfl, rfl⟩)
    go_ret
    exact ⟨rfl, Ext.alloc _ _⟩
  by_cases e2 : (l : Int) ≤ 40
  · obtain ⟨n1, n16⟩ := inB_t e1
    rw [e1, decide_eq_true e2, Bool.true_and, Bool.true_and] at hr
    obtain ⟨q, hq⟩ : ∃ q, q = T.all towB := ⟨_, rfl⟩
    obtain ⟨q2, hq2⟩ : ∃ q, q = lnkP m none L := ⟨_, rfl⟩
    rw [← hq, ← hq2] at hr
    have HF : Hid (q = false → r = false) := fun e => by rw [hr, e]; rfl
    have HF2 : Hid (q2 = false → r = false) := fun e => by rw [hr, e, Bool.and_false]
    have HE : Hid (q = true → q2 = true → r = true) := fun e1 e2 => by rw [hr, e1, e2]; rfl
    have HQ := Lib.hid hq
    have HQ2 := Lib.hid hq2
    have e2n : ¬ (40 < (l : Int)) := by omega
    clear hr hq hq2
    go_enter Tryz.func13, Tryz.ntmps13
    go_wp2_with (go_at_call 39; refine (within_c _ _ _ _).mono ?_; rintro e w' ⟨rfl, rfl⟩)
    have B0 : (w.alloc (.cells #[.slice a m ca, .slice b l cb] 27)).cell? ⟨w.heap.size, 0, none⟩ = some (.slice a m ca) := box_cell w _ _ 0 _ rfl
    have B1 : (w.alloc (.cells #[.slice a m ca, .slice b l cb] 27)).cell? ⟨w.heap.size, 1, none⟩ = some (.slice b l cb) := box_cell w _ _ 1 _ rfl
    have X0 := Ext.alloc w (.cells #[.slice a m ca, .slice b l cb] 27)
    generalize w.alloc (.cells #[.slice a m ca, .slice b l cb] 27) = w1 at *
    go_loopw [21] (fun t wr => ∃ k : Nat, k ≤ m ∧ t = .int .i64 k ∧ Ext w1 wr ∧ Hid (q = (T.drop k).all towB)) (fun t _ => m - (intOf t).toNat)
    case atStart => exact ⟨0, by omega, rfl, Ext.refl _, HQ.out⟩
    case round =>
      obtain ⟨k, hk, rfl, hx, hTT⟩ := hrel
      by_cases hlt : k < m
      · obtain ⟨b, o, g, rfl, hg, c0, c1, c2⟩ := Towers_at HT.out hlt
        have hs := hTT.out.trans (allT_drop hg.out)
        unfold towB at hs
        have d0 := hx.cell (X0.cell c0)
        have d1 := hx.cell (X0.cell c1)
        have d2 := hx.cell (X0.cell c2)
        have hltI : (k : Int) < (m : Int) := by omega
        clear c0 c1 c2
        cases p1 : inB 0 999 g.1
        · have HS : Hid (q = false) := by unfold Hid; rw [hs, p1]; rfl
          clear hs
          go_wp2_with ((go_at_call 39; refine (within_c _ _ _ _).mono ?_; rintro e w' ⟨rfl, rfl⟩))
          go_ret
          exact ⟨by rw [HF.out HS.out]; rfl, X0.trans (hx.trans (Ext.alloc _ _))⟩
        cases p2 : inB 0 999 g.2.1
        · have HS : Hid (q = false) := by unfold Hid; rw [hs, p1, p2]; rfl
          clear hs
          go_wp2_with ((go_at_call 39; refine (within_c _ _ _ _).mono ?_; rintro e w' ⟨rfl, rfl⟩))
          go_ret
          exact ⟨by rw [HF.out HS.out]; rfl, X0.trans (hx.trans (Ext.alloc _ _))⟩
        cases p3 : inB 0 500 g.2.2
        · have HS : Hid (q = false) := by unfold Hid; rw [hs, p1, p2, p3]; rfl
          clear hs
          go_wp2_with ((go_at_call 39; refine (within_c _ _ _ _).mono ?_; rintro e w' ⟨rfl, rfl⟩))
          go_ret
          exact ⟨by rw [HF.out HS.out]; rfl, X0.trans (hx.trans (Ext.alloc _ _))⟩
        · have HS : Hid (q = (T.drop (k + 1)).all towB) := by unfold Hid; rw [hs, p1, p2, p3]; rfl
          clear hs
          go_wp2_with ((go_at_call 39; refine (within_c _ _ _ _).mono ?_; rintro e w' ⟨rfl, rfl⟩))
          go_roundw
          case rel => exact ⟨k + 1, by omega, by go_num, hx.trans (Ext.alloc _ _), HS.out⟩
          case measure => simp [intOf]; omega
      · have hge : ¬ ((k : Int) < (m : Int)) := by omega
        have HQT : Hid (q = true) := by
          have e := hTT.out
          rw [List.drop_eq_nil_of_le (by rw [← HM.out]; omega)] at e
          exact e
        have D1 := hx.cell B1
        clear hTT
        go_wp2
        clear D1
        go_loopw [45] (fun t wr2 => ∃ k : Nat, k ≤ l ∧ t = .int .i64 k ∧ Ext w1 wr2 ∧ Hid (q2 = lnkP m (pvL L k) (L.drop k))) (fun t _ => l - (intOf t).toNat)
        case atStart => exact ⟨0, by omega, rfl, hx, HQ2.out⟩
        case round =>
          clear hx
          obtain ⟨k, hk, rfl, hx, hTL⟩ := hrel
          by_cases hlt : k < l
          · obtain ⟨b, o, g, rfl, hg, c0, c1, c2⟩ := Links_at HL.out hlt
            have hs := hTL.out.trans (lnkP_drop hg.out)
            have C0 := hx.cell (X0.cell c0)
            have C1 := hx.cell (X0.cell c1)
            have C2 := hx.cell (X0.cell c2)
            have hltI : (k : Int) < (l : Int) := by omega
            clear c0 c1 c2
            go_wp2
            have G0 : (wr.alloc (.cells #[.int .i64 g.1, .int .i64 g.2.1, .int .i64 g.2.2] 42)).cell? ⟨wr.heap.size, 0, none⟩ = some (.int .i64 g.1) := box_cell wr _ _ 0 _ rfl
            have G1 : (wr.alloc (.cells #[.int .i64 g.1, .int .i64 g.2.1, .int .i64 g.2.2] 42)).cell? ⟨wr.heap.size, 1, none⟩ = some (.int .i64 g.2.1) := box_cell wr _ _ 1 _ rfl
            have G2 : (wr.alloc (.cells #[.int .i64 g.1, .int .i64 g.2.1, .int .i64 g.2.2] 42)).cell? ⟨wr.heap.size, 2, none⟩ = some (.int .i64 g.2.2) := box_cell wr _ _ 2 _ rfl
            have GX := hx.trans (Ext.alloc wr (.cells #[.int .i64 g.1, .int .i64 g.2.1, .int .i64 g.2.2] 42))
            generalize wr.alloc (.cells #[.int .i64 g.1, .int .i64 g.2.1, .int .i64 g.2.2] 42) = w2 at *
            have g0 := XT.cell G0
            have g1 := XT.cell G1
            have g2 := XT.cell G2
            have bb0 := XT.cell (GX.cell B0)
            have bb1 := XT.cell (GX.cell B1)
            clear G0 G1 G2 C0 C1 C2
            by_cases t1 : 0 ≤ g.1
            · have t1b : ¬ g.1 < 0 := by omega
              by_cases t2 : g.1 < g.2.1
              · have t2b : ¬ g.2.1 ≤ g.1 := by omega
                by_cases t3 : g.2.1 < (m : Int)
                · have t3b : ¬ (m : Int) ≤ g.2.1 := by omega
                  cases t4 : inB 1 60 g.2.2
                  · have HL4 : lkB m g = false := by unfold lkB; simp [t4]
                    rw [HL4] at hs
                    clear HL4
                    have HS : Hid (q2 = false) := by unfold Hid; rw [hs]; rfl
                    clear hs
                    refine region_ext (by kernel_rfl) (by kernel_rfl) ?_
                    repeat (go_big_quiet_step (((go_at_call 39; refine Calls.ext_same (within_c _ _ _ _)))))
                    refine wpQuiet_nil ?_
                    intro wq hxq
                    go_wp2
                    go_ret
                    exact ⟨by rw [HF2.out HS.out]; rfl, X0.trans (GX.trans hxq)⟩
                  · have HL4 : lkB m g = true := by unfold lkB; simp [t1, t2, t3, t4]
                    rw [HL4] at hs
                    clear HL4
                    by_cases hk0 : k = 0
                    · have hkd : decide (0 < (k : Int)) = false := by simp [hk0]
                      have hkd2 : decide (0 < k) = false := by simp [hk0]
                      rw [show pvL L k = none by unfold pvL; rw [if_pos hk0]] at hs
                      clear hk0
                      have HS : Hid (q2 = lnkP m (pvL L (k + 1)) (L.drop (k + 1))) := by unfold Hid; rw [hs]; rfl
                      clear hs
                      refine region_ext (by kernel_rfl) (by kernel_rfl) ?_
                      repeat (go_big_quiet_step (((go_at_call 39; refine Calls.ext_same (within_c _ _ _ _)))))
                      refine wpQuiet_nil ?_
                      intro wq hxq
                      go_wp2
                      go_roundw
                      case rel => exact ⟨k + 1, by omega, by go_num, GX.trans hxq, HS.out⟩
                      case measure => simp [intOf]; omega
                    · have hkd : decide (0 < (k : Int)) = true := by simp; omega
                      have hkd2 : decide (0 < k) = true := by simp; omega
                      obtain ⟨b', o', pg, hbo, hpg, r0, r1, r2⟩ := Links_at HL.out (k := k - 1) (by omega)
                      simp only [Option.some.injEq, Addr.mk.injEq, and_true] at hbo
                      obtain ⟨rfl, rfl⟩ := hbo
                      have e0 := XT.cell (GX.cell (X0.cell r0))
                      have e1 := XT.cell (GX.cell (X0.cell r1))
                      have e2 := XT.cell (GX.cell (X0.cell r2))
                      clear r0 r1 r2
                      have hpv : pvL L k = some pg := by unfold pvL; rw [if_neg hk0]; exact hpg.out
                      have hk1 : (1 : Int) ≤ (k : Int) := by omega
                      have hkt : ((k : Int) - 1).toNat = k - 1 := by omega
                      rw [hpv] at hs
                      obtain ⟨t, ht⟩ : ∃ t, t = befL pg g := ⟨_, rfl⟩
                      have hcb := cmpL_bef pg g
                      obtain ⟨c, hc⟩ : ∃ c, c = cmpL pg g := ⟨_, rfl⟩
                      have CC : Hid (∀ W, Calls Tryz.prog 40 #[.agg #[.int .i64 pg.1, .int .i64 pg.2.1, .int .i64 pg.2.2], .agg #[.int .i64 g.1, .int .i64 g.2.1, .int .i64 g.2.2]] W fun e w' => e = .returned (.int .i64 c) ∧ Ext W w') := fun W => by rw [hc]; exact c_compareLinks pg g W
                      rw [← hc, ← ht] at hcb
                      simp only at hs
                      rw [← ht] at hs
                      clear hc ht hk0 hpv
                      cases t
                      · have hc0 : 0 ≤ c := by simpa using hcb
                        clear hcb
                        have HS : Hid (q2 = false) := by unfold Hid; rw [hs]; rfl
                        clear hs
                        refine region_ext (by kernel_rfl) (by kernel_rfl) ?_
                        repeat (go_big_quiet_step (((first | (go_at_call 39; refine Calls.ext_same (within_c _ _ _ _)) | (go_at_call 40; refine Calls.ext_of (CC.out _))))))
                        refine wpQuiet_nil ?_
                        intro wq hxq
                        go_wp2
                        go_ret
                        exact ⟨by rw [HF2.out HS.out]; rfl, X0.trans (GX.trans hxq)⟩
                      · have hc0 : ¬ 0 ≤ c := by simpa using hcb
                        have hc1 : c < 0 := by omega
                        clear hcb
                        have HS : Hid (q2 = lnkP m (pvL L (k + 1)) (L.drop (k + 1))) := by unfold Hid; rw [hs]; rfl
                        clear hs
                        refine region_ext (by kernel_rfl) (by kernel_rfl) ?_
                        repeat (go_big_quiet_step (((first | (go_at_call 39; refine Calls.ext_same (within_c _ _ _ _)) | (go_at_call 40; refine Calls.ext_of (CC.out _))))))
                        refine wpQuiet_nil ?_
                        intro wq hxq
                        go_wp2
                        go_roundw
                        case rel => exact ⟨k + 1, by omega, by go_num, GX.trans hxq, HS.out⟩
                        case measure => simp [intOf]; omega
                · have t3b : (m : Int) ≤ g.2.1 := by omega
                  have HL4 : lkB m g = false := by unfold lkB; simp [t3]
                  rw [HL4] at hs
                  clear HL4
                  have HS : Hid (q2 = false) := by unfold Hid; rw [hs]; rfl
                  clear hs
                  refine region_ext (by kernel_rfl) (by kernel_rfl) ?_
                  repeat (go_big_quiet_step (((go_at_call 39; refine Calls.ext_same (within_c _ _ _ _)))))
                  refine wpQuiet_nil ?_
                  intro wq hxq
                  go_wp2
                  go_ret
                  exact ⟨by rw [HF2.out HS.out]; rfl, X0.trans (GX.trans hxq)⟩
              · have t2b : g.2.1 ≤ g.1 := by omega
                have HL4 : lkB m g = false := by unfold lkB; simp [t2]
                rw [HL4] at hs
                clear HL4
                have HS : Hid (q2 = false) := by unfold Hid; rw [hs]; rfl
                clear hs
                refine region_ext (by kernel_rfl) (by kernel_rfl) ?_
                repeat (go_big_quiet_step (((go_at_call 39; refine Calls.ext_same (within_c _ _ _ _)))))
                refine wpQuiet_nil ?_
                intro wq hxq
                go_wp2
                go_ret
                exact ⟨by rw [HF2.out HS.out]; rfl, X0.trans (GX.trans hxq)⟩
            · have t1b : g.1 < 0 := by omega
              have HL4 : lkB m g = false := by unfold lkB; simp [t1]
              rw [HL4] at hs
              clear HL4
              have HS : Hid (q2 = false) := by unfold Hid; rw [hs]; rfl
              clear hs
              refine region_ext (by kernel_rfl) (by kernel_rfl) ?_
              repeat (go_big_quiet_step (((go_at_call 39; refine Calls.ext_same (within_c _ _ _ _)))))
              refine wpQuiet_nil ?_
              intro wq hxq
              go_wp2
              go_ret
              exact ⟨by rw [HF2.out HS.out]; rfl, X0.trans (GX.trans hxq)⟩
          · have hge : ¬ ((k : Int) < (l : Int)) := by omega
            have HS : Hid (q2 = true) := by
              have e := hTL.out
              rw [List.drop_eq_nil_of_le (by rw [← HLL.out]; omega)] at e
              exact e
            go_wp2
            go_ret
            exact ⟨by rw [HE.out HQT.out HS.out]; rfl, X0.trans hx⟩
  · rw [decide_eq_false e2] at hr
    simp at hr; subst hr
    have e2n : 40 < (l : Int) := by omega
    go_enter Tryz.func13, Tryz.ntmps13
    go_wp2_with (go_at_call 39; refine (within_c _ _ _ _).mono ?_; rintro e w' ⟨rfl, rfl⟩)
    go_ret
    exact ⟨rfl, Ext.alloc _ _⟩
end Go.Proofs.YtmaaeemhbccpcaaGreatDoor
