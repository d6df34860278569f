
/- IsSight of the program and of the reference return the same. -/
import Derived.Test.YtnoagmjajhlmjaaGround
namespace Go.Proofs.Ytnoagmjajhlmjaa
open Go.RowKit

/-- The grounds g, where p is the place of the one before. -/
def gsOk (hi : Int) : Option Int → List GroundT → Bool
  | _, [] => true
  | p, g :: r => (inB 1 hi g.1 && inB 0 3000 g.2 && (match p with | none => true | some a => decide (a < g.1))) && gsOk hi (some g.1) r
def sightOk (D A B : Int) (gs : List GroundT) : Bool := inB 1 999 D && (inB 0 3000 A && (inB 0 3000 B && (decide (gs.length ≤ 20) && gsOk (D - 1) none gs)))
def prevAt (gs : List GroundT) (k : Nat) : Option Int := if k = 0 then none else (gs[k - 1]?).map (·.1)
theorem prevAt_succ {gs : List GroundT} {k : Nat} {g : GroundT} (h : gs[k]? = some g) : prevAt gs (k + 1) = some g.1 := by simp [prevAt, h]
theorem gsOk_drop {hi : Int} {gs : List GroundT} {k : Nat} {g : GroundT} (h : gs[k]? = some g) :
    gsOk hi (prevAt gs k) (gs.drop k) = ((inB 1 hi g.1 && inB 0 3000 g.2 && (match prevAt gs k with | none => true | some a => decide (a < g.1))) && gsOk hi (prevAt gs (k + 1)) (gs.drop (k + 1))) := by
  have hk : k < gs.length := (List.getElem?_eq_some_iff.1 h).1
  have e : gs.drop k = g :: gs.drop (k + 1) := by
    rw [List.drop_eq_getElem_cons hk]; congr 1; exact (List.getElem?_eq_some_iff.1 h).2
  rw [e, prevAt_succ h]
  cases prevAt gs k <;> rfl

set_option maxRecDepth 100000 in
set_option maxHeartbeats 1000000 in
theorem c_IsSight (D A B : Int) (vg : Value) (lo hi : Nat) (gs : List GroundT) (w : World) (h : Grounds w lo hi vg gs) :
    Calls Try.prog 37 #[.agg #[.int .i64 D, .int .i64 A, .int .i64 B, vg]] w fun e w' => e = .returned (.bool (sightOk D A B gs)) ∧ Ext w w' := by
  obtain ⟨r, hr⟩ : ∃ r, r = sightOk D A B gs := ⟨_, rfl⟩
  rw [← hr]
  unfold sightOk at hr
  have h0 := h
  obtain ⟨a, cap, rfl, m1, m2, _⟩ := h0
  have H := Lib.hid h
  clear h
  obtain ⟨n, hn⟩ : ∃ n, n = gs.length := ⟨_, rfl⟩
  rw [← hn] at m1 H hr ⊢
  have HN := Lib.hid hn
  clear hn
  have AX := fun (C : Array Value) (t : TypeId) => Ext.alloc w (.cells C t)
  cases h1 : inB 1 999 D
  · simp [h1] at hr; subst hr
    go_enter Try.func37, Try.ntmps37
    go_wp2_with (go_at_call 45; refine (within_c _ _ _ _).mono ?_; rintro e w' ⟨rfl, rfl⟩)
    go_ret
    exact ⟨rfl, Ext.alloc _ _⟩
  cases h2 : inB 0 3000 A
  · simp [h1, h2] at hr; subst hr
    go_enter Try.func37, Try.ntmps37
    go_wp2_with (go_at_call 45; refine (within_c _ _ _ _).mono ?_; rintro e w' ⟨rfl, rfl⟩)
    go_ret
    exact ⟨rfl, Ext.alloc _ _⟩
  cases h3 : inB 0 3000 B
  · simp [h1, h2, h3] at hr; subst hr
    go_enter Try.func37, Try.ntmps37
    go_wp2_with (go_at_call 45; refine (within_c _ _ _ _).mono ?_; rintro e w' ⟨rfl, rfl⟩)
    go_ret
    exact ⟨rfl, Ext.alloc _ _⟩
  by_cases h4 : n ≤ 20
  · simp [h1, h2, h3, h4] at hr
    obtain ⟨q, hq⟩ : ∃ q, q = gsOk (D - 1) none gs := ⟨_, rfl⟩
    have hF : Hid (q = false → r = false) := fun e => by rw [hr, ← hq, e]
    have hE : Hid (q = true → r = true) := fun e => by rw [hr, ← hq, e]
    have HQ := Lib.hid hq
    clear hr hq
    obtain ⟨b1, b2⟩ := inB_t h1
    go_enter Try.func37, Try.ntmps37
    go_wp2_with (go_at_call 45; refine (within_c _ _ _ _).mono ?_; rintro e w' ⟨rfl, rfl⟩)
    have B0 := box_cell w #[.int .i64 D, .int .i64 A, .int .i64 B, .slice a n cap] 28 0 _ rfl
    have B3 := box_cell w #[.int .i64 D, .int .i64 A, .int .i64 B, .slice a n cap] 28 3 _ rfl
    have X0 := Ext.alloc w (.cells #[.int .i64 D, .int .i64 A, .int .i64 B, .slice a n cap] 28)
    generalize w.alloc (.cells #[.int .i64 D, .int .i64 A, .int .i64 B, .slice a n cap] 28) = w1 at *
    go_loopw [30] (fun t wr => ∃ k : Nat, k ≤ n ∧ t = .int .i64 k ∧ Ext w1 wr ∧ Hid (q = gsOk (D - 1) (prevAt gs k) (gs.drop k))) (fun t _ => n - (intOf t).toNat)
    case atStart => exact ⟨0, by omega, rfl, Ext.refl _, HQ.out⟩
    case round =>
      obtain ⟨k, hk, rfl, hx, hT⟩ := hrel
      by_cases hlt : k < n
      · obtain ⟨b, o, g, rfl, hg, c0, c1⟩ := Grounds_at H.out hlt
        have hs := hT.out.trans (gsOk_drop hg.out)
        have C0 := hx.cell (X0.cell c0)
        have C1 := hx.cell (X0.cell c1)
        clear c0 c1 hT
        have hltI : (k : Int) < (n : Int) := by omega
        go_wp2
        have G0 := box_cell wr #[.int .i64 g.1, .int .i64 g.2] 61 0 _ rfl
        have G1 := box_cell wr #[.int .i64 g.1, .int .i64 g.2] 61 1 _ rfl
        have GX := hx.trans (Ext.alloc wr (.cells #[.int .i64 g.1, .int .i64 g.2] 61))
        have BB0 := (Ext.alloc wr (.cells #[.int .i64 g.1, .int .i64 g.2] 61)).cell (hx.cell B0)
        have BB3 := (Ext.alloc wr (.cells #[.int .i64 g.1, .int .i64 g.2] 61)).cell (hx.cell B3)
        generalize wr.alloc (.cells #[.int .i64 g.1, .int .i64 g.2] 61) = w2 at *
        have g0 := XT.cell G0
        have g1 := XT.cell G1
        have bb0 := XT.cell BB0
        have bb3 := XT.cell BB3
        clear G0 G1 BB0 BB3 C0 C1
        have hs2 := Lib.hid hs
        clear hs
        cases p1 : inB 1 (D - 1) g.1
        · refine region_ext (by kernel_rfl) (by kernel_rfl) ?_
          repeat (go_big_quiet_step (((go_at_call 45; refine Calls.ext_same (within_c _ _ _ _)))))
          refine wpQuiet_nil ?_
          intro wq hxq
          go_wp2
          go_ret
          refine ⟨?_, X0.trans (GX.trans hxq)⟩
          rw [hF.out (by rw [hs2.out, p1]; rfl)]; rfl
        cases p2 : inB 0 3000 g.2
        · refine region_ext (by kernel_rfl) (by kernel_rfl) ?_
          repeat (go_big_quiet_step (((go_at_call 45; refine Calls.ext_same (within_c _ _ _ _)))))
          refine wpQuiet_nil ?_
          intro wq hxq
          go_wp2
          go_ret
          refine ⟨?_, X0.trans (GX.trans hxq)⟩
          rw [hF.out (by rw [hs2.out, p1, p2]; rfl)]; rfl
        by_cases hk0 : k = 0
        · have hkd : decide (0 < (k : Int)) = false := by simp [hk0]
          have hkd2 : decide (0 < k) = false := by simp [hk0]
          have hT2 : Hid (q = gsOk (D - 1) (prevAt gs (k + 1)) (gs.drop (k + 1))) := by
            unfold Hid; rw [hs2.out, p1, p2, hk0]; rfl
          clear hk0 hs2
          refine region_ext (by kernel_rfl) (by kernel_rfl) ?_
          repeat (go_big_quiet_step (((go_at_call 45; refine Calls.ext_same (within_c _ _ _ _)))))
          refine wpQuiet_nil ?_
          intro wq hxq
          go_wp2
          go_roundw
          case rel => exact ⟨k + 1, by omega, by go_num, GX.trans hxq, hT2⟩
          case measure => simp [intOf]; omega
        · have hkd : decide (0 < (k : Int)) = true := by simp; omega
          have hkd2 : decide (0 < k) = true := by simp; omega
          obtain ⟨b', o', pg, hbo, hpg, q0, q1⟩ := Grounds_at H.out (k := k - 1) (by omega)
          simp only [Option.some.injEq, Addr.mk.injEq, and_true] at hbo
          obtain ⟨rfl, rfl⟩ := hbo
          have e0 := XT.cell (GX.cell (X0.cell q0))
          clear q0 q1
          have hpv : prevAt gs k = some pg.1 := by unfold prevAt; rw [if_neg hk0, hpg.out]; rfl
          have hk1 : (1 : Int) ≤ (k : Int) := by omega
          by_cases hlt2 : pg.1 < g.1
          · have hT2 : Hid (q = gsOk (D - 1) (prevAt gs (k + 1)) (gs.drop (k + 1))) := by
              unfold Hid; rw [hs2.out, p1, p2, hpv]; simp [hlt2]
            clear hk0 hs2 hpv
            have hd1 : ¬ (g.1 ≤ pg.1) := by omega
            refine region_ext (by kernel_rfl) (by kernel_rfl) ?_
            repeat (go_big_quiet_step (((go_at_call 45; refine Calls.ext_same (within_c _ _ _ _)))))
            refine wpQuiet_nil ?_
            intro wq hxq
            go_wp2
            go_roundw
            case rel => exact ⟨k + 1, by omega, by go_num, GX.trans hxq, hT2⟩
            case measure => simp [intOf]; omega
          · have hT2 : Hid (q = false) := by
              unfold Hid; rw [hs2.out, p1, p2, hpv]; simp [hlt2]
            clear hk0 hs2 hpv
            have hd1 : g.1 ≤ pg.1 := by omega
            refine region_ext (by kernel_rfl) (by kernel_rfl) ?_
            repeat (go_big_quiet_step (((go_at_call 45; refine Calls.ext_same (within_c _ _ _ _)))))
            refine wpQuiet_nil ?_
            intro wq hxq
            go_wp2
            go_ret
            refine ⟨?_, X0.trans (GX.trans hxq)⟩
            rw [hF.out hT2.out]; rfl
      · have e1 : gs.drop k = [] := List.drop_eq_nil_of_le (by rw [← HN.out]; omega)
        have hs := hT.out
        rw [e1] at hs
        have HS : Hid (q = true) := hs
        clear hs e1 hT
        go_wp2
        go_ret
        refine ⟨?_, X0.trans hx⟩
        rw [hE.out HS.out]; rfl
  · simp [h1, h2, h3, h4] at hr; subst hr
    go_enter Try.func37, Try.ntmps37
    go_wp2_with (go_at_call 45; refine (within_c _ _ _ _).mono ?_; rintro e w' ⟨rfl, rfl⟩)
    go_ret
    exact ⟨rfl, Ext.alloc _ _⟩
theorem sight_alt (D A B : Int) (gs : List GroundT) : sightOk D A B gs = (gsOk (wrap64 (D - 1)) none gs && (inB 1 999 D && (inB 0 3000 A && (inB 0 3000 B && decide (gs.length ≤ 20))))) := by
  unfold sightOk
  cases h : inB 1 999 D
  · simp
  · obtain ⟨h1, h2⟩ := inB_t h
    rw [IntWalk.wrap64_in (D - 1) ⟨by omega, by omega⟩]
    cases inB 0 3000 A <;> cases inB 0 3000 B <;> cases decide (gs.length ≤ 20) <;> simp

set_option maxRecDepth 100000 in
set_option maxHeartbeats 2000000 in
theorem c_siGood (D A B : Int) (vg : Value) (lo hi : Nat) (gs : List GroundT) (w : World) (h : Grounds w lo hi vg gs) :
    Calls Try.prog 39 #[.agg #[.int .i64 D, .int .i64 A, .int .i64 B, vg]] w fun e w' => e = .returned (.bool (sightOk D A B gs)) ∧ Ext w w' := by
  obtain ⟨r, hr⟩ : ∃ r, r = sightOk D A B gs := ⟨_, rfl⟩
  rw [← hr]
  rw [sight_alt] at hr
  have h0 := h
  obtain ⟨a, cap, rfl, m1, m2, _⟩ := h0
  have H := Lib.hid h
  clear h
  obtain ⟨n, hn⟩ : ∃ n, n = gs.length := ⟨_, rfl⟩
  rw [← hn] at m1 H hr ⊢
  have HN := Lib.hid hn
  clear hn
  obtain ⟨q, hq⟩ : ∃ q, q = gsOk (wrap64 (D - 1)) none gs := ⟨_, rfl⟩
  rw [← hq] at hr
  have hF : Hid (q = false → r = false) := fun e => by rw [hr, e]; rfl
  have hE : Hid (q = true → r = (inB 1 999 D && (inB 0 3000 A && (inB 0 3000 B && decide (n ≤ 20))))) := fun e => by rw [hr, e]; rfl
  have HQ := Lib.hid hq
  clear hr hq
  go_enter Try.func39, Try.ntmps39
  go_wp2
  have B0 := box_cell w #[.int .i64 D, .int .i64 A, .int .i64 B, .slice a n cap] 28 0 _ rfl
  have B1 := box_cell w #[.int .i64 D, .int .i64 A, .int .i64 B, .slice a n cap] 28 1 _ rfl
  have B2 := box_cell w #[.int .i64 D, .int .i64 A, .int .i64 B, .slice a n cap] 28 2 _ rfl
  have B3 := box_cell w #[.int .i64 D, .int .i64 A, .int .i64 B, .slice a n cap] 28 3 _ rfl
  have X0 := Ext.alloc w (.cells #[.int .i64 D, .int .i64 A, .int .i64 B, .slice a n cap] 28)
  generalize w.alloc (.cells #[.int .i64 D, .int .i64 A, .int .i64 B, .slice a n cap] 28) = w1 at *
  go_loopw [8] (fun t wr => ∃ k : Nat, k ≤ n ∧ t = .int .i64 k ∧ Ext w1 wr ∧ Hid (q = gsOk (wrap64 (D - 1)) (prevAt gs k) (gs.drop k))) (fun t _ => n - (intOf t).toNat)
  case atStart => exact ⟨0, by omega, rfl, Ext.refl _, HQ.out⟩
  case round =>
    obtain ⟨k, hk, rfl, hx, hT⟩ := hrel
    by_cases hlt : k < n
    · obtain ⟨b, o, g, rfl, hg, c0, c1⟩ := Grounds_at H.out hlt
      have hs := hT.out.trans (gsOk_drop hg.out)
      have C0 := hx.cell (X0.cell c0)
      have C1 := hx.cell (X0.cell c1)
      clear c0 c1 hT
      have hltI : (k : Int) < (n : Int) := by omega
      go_wp2
      have G0 := box_cell wr #[.int .i64 g.1, .int .i64 g.2] 61 0 _ rfl
      have G1 := box_cell wr #[.int .i64 g.1, .int .i64 g.2] 61 1 _ rfl
      have GX := hx.trans (Ext.alloc wr (.cells #[.int .i64 g.1, .int .i64 g.2] 61))
      have BB0 := (Ext.alloc wr (.cells #[.int .i64 g.1, .int .i64 g.2] 61)).cell (hx.cell B0)
      have BB3 := (Ext.alloc wr (.cells #[.int .i64 g.1, .int .i64 g.2] 61)).cell (hx.cell B3)
      generalize wr.alloc (.cells #[.int .i64 g.1, .int .i64 g.2] 61) = w2 at *
      have g0 := XT.cell G0
      have g1 := XT.cell G1
      have bb0 := XT.cell BB0
      have bb3 := XT.cell BB3
      clear G0 G1 BB0 BB3 C0 C1
      have hs2 := Lib.hid hs
      clear hs
      cases p1 : inB 1 (wrap64 (D - 1)) g.1
      · refine region_ext (by kernel_rfl) (by kernel_rfl) ?_
        repeat (go_big_quiet_step (((go_at_call 52; refine Calls.ext_same (l1In_c _ _ _ _)))))
        refine wpQuiet_nil ?_
        intro wq hxq
        go_wp2
        go_ret
        refine ⟨?_, X0.trans (GX.trans hxq)⟩
        rw [hF.out (by rw [hs2.out, p1]; rfl)]; rfl
      cases p2 : inB 0 3000 g.2
      · refine region_ext (by kernel_rfl) (by kernel_rfl) ?_
        repeat (go_big_quiet_step (((go_at_call 52; refine Calls.ext_same (l1In_c _ _ _ _)))))
        refine wpQuiet_nil ?_
        intro wq hxq
        go_wp2
        go_ret
        refine ⟨?_, X0.trans (GX.trans hxq)⟩
        rw [hF.out (by rw [hs2.out, p1, p2]; rfl)]; rfl
      by_cases hk0 : k = 0
      · have hkd : decide (0 < (k : Int)) = false := by simp [hk0]
        have hkd2 : decide (0 < k) = false := by simp [hk0]
        have hT2 : Hid (q = gsOk (wrap64 (D - 1)) (prevAt gs (k + 1)) (gs.drop (k + 1))) := by
          unfold Hid; rw [hs2.out, p1, p2, hk0]; rfl
        clear hk0 hs2
        refine region_ext (by kernel_rfl) (by kernel_rfl) ?_
        repeat (go_big_quiet_step (((go_at_call 52; refine Calls.ext_same (l1In_c _ _ _ _)))))
        refine wpQuiet_nil ?_
        intro wq hxq
        go_wp2
        go_roundw
        case rel => exact ⟨k + 1, by omega, by go_num, GX.trans hxq, hT2⟩
        case measure => simp [intOf]; omega
      · have hkd : decide (0 < (k : Int)) = true := by simp; omega
        have hkd2 : decide (0 < k) = true := by simp; omega
        obtain ⟨b', o', pg, hbo, hpg, q0, q1⟩ := Grounds_at H.out (k := k - 1) (by omega)
        simp only [Option.some.injEq, Addr.mk.injEq, and_true] at hbo
        obtain ⟨rfl, rfl⟩ := hbo
        have e0 := XT.cell (GX.cell (X0.cell q0))
        clear q0 q1
        have hpv : prevAt gs k = some pg.1 := by unfold prevAt; rw [if_neg hk0, hpg.out]; rfl
        have hk1 : (1 : Int) ≤ (k : Int) := by omega
        by_cases hlt2 : pg.1 < g.1
        · have hT2 : Hid (q = gsOk (wrap64 (D - 1)) (prevAt gs (k + 1)) (gs.drop (k + 1))) := by
            unfold Hid; rw [hs2.out, p1, p2, hpv]; simp [hlt2]
          clear hk0 hs2 hpv
          have hd1 : ¬ (g.1 ≤ pg.1) := by omega
          refine region_ext (by kernel_rfl) (by kernel_rfl) ?_
          repeat (go_big_quiet_step (((go_at_call 52; refine Calls.ext_same (l1In_c _ _ _ _)))))
          refine wpQuiet_nil ?_
          intro wq hxq
          go_wp2
          go_roundw
          case rel => exact ⟨k + 1, by omega, by go_num, GX.trans hxq, hT2⟩
          case measure => simp [intOf]; omega
        · have hT2 : Hid (q = false) := by
            unfold Hid; rw [hs2.out, p1, p2, hpv]; simp [hlt2]
          clear hk0 hs2 hpv
          have hd1 : g.1 ≤ pg.1 := by omega
          refine region_ext (by kernel_rfl) (by kernel_rfl) ?_
          repeat (go_big_quiet_step (((go_at_call 52; refine Calls.ext_same (l1In_c _ _ _ _)))))
          refine wpQuiet_nil ?_
          intro wq hxq
          go_wp2
          go_ret
          refine ⟨?_, X0.trans (GX.trans hxq)⟩
          rw [hF.out hT2.out]; rfl
    · have e1 : gs.drop k = [] := List.drop_eq_nil_of_le (by rw [← HN.out]; omega)
      have hs := hT.out
      rw [e1] at hs
      have hs1 := hE.out hs
      have e0 := hx.cell B0
      have e1 := hx.cell B1
      have e2 := hx.cell B2
      have e3 := hx.cell B3
      clear hs hT
      cases h1 : inB 1 999 D
      · have HS : Hid (r = false) := by unfold Hid; rw [hs1, h1]; rfl
        clear hs1
        go_wp2_with (go_at_call 52; refine (l1In_c _ _ _ _).mono ?_; rintro e w' ⟨rfl, rfl⟩)
        go_ret
        refine ⟨?_, X0.trans hx⟩
        rw [HS.out]; rfl
      cases h2 : inB 0 3000 A
      · have HS : Hid (r = false) := by unfold Hid; rw [hs1, h1, h2]; rfl
        clear hs1
        go_wp2_with (go_at_call 52; refine (l1In_c _ _ _ _).mono ?_; rintro e w' ⟨rfl, rfl⟩)
        go_ret
        refine ⟨?_, X0.trans hx⟩
        rw [HS.out]; rfl
      cases h3 : inB 0 3000 B
      · have HS : Hid (r = false) := by unfold Hid; rw [hs1, h1, h2, h3]; rfl
        clear hs1
        go_wp2_with (go_at_call 52; refine (l1In_c _ _ _ _).mono ?_; rintro e w' ⟨rfl, rfl⟩)
        go_ret
        refine ⟨?_, X0.trans hx⟩
        rw [HS.out]; rfl
      · have HS : Hid (r = decide ((n : Int) ≤ 20)) := by
          unfold Hid; rw [hs1, h1, h2, h3]; simp; omega
        clear hs1
        go_wp2_with (go_at_call 52; refine (l1In_c _ _ _ _).mono ?_; rintro e w' ⟨rfl, rfl⟩)
        go_ret
        refine ⟨?_, X0.trans hx⟩
        rw [HS.out]; rfl
end Go.Proofs.Ytnoagmjajhlmjaa
