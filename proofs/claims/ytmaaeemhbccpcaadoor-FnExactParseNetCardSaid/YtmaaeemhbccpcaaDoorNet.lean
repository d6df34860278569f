
/- Towers, links and nets: how they read; the laws' own helpers on them: sizes, copies, equality, marks. -/
import Derived.Test.YtmaaeemhbccpcaaDoorKeep
import Derived.Deep.RegionHeld3
namespace Go.Proofs.YtmaaeemhbccpcaaDoor
open Go.RowKit
/-- Tower: its cells are its fields. -/
abbrev TowerT := Int × Int × Int
def encTower (g : TowerT) : List Value := [.int .i64 g.1, .int .i64 g.2.1, .int .i64 g.2.2]
theorem encTower_len (g : TowerT) : (encTower g).length = 3 := rfl
abbrev Towers (w : World) (lo hi : Nat) (v : Value) (xs : List TowerT) : Prop := Row encTower 3 w lo hi v xs
theorem Towers_at {w : World} {lo hi n : Nat} {a : Option Addr} {cap : Nat} {xs : List TowerT} (h : Towers w lo hi (.slice a n cap) xs) {k : Nat} (hk : k < n) :
    ∃ b off g, a = some ⟨b, off, none⟩ ∧ Hid (xs[k]? = some g) ∧ w.cell? ⟨b, off + k * 3, none⟩ = some (.int .i64 g.1) ∧ w.cell? ⟨b, off + k * 3 + 1, none⟩ = some (.int .i64 g.2.1) ∧ w.cell? ⟨b, off + k * 3 + 2, none⟩ = some (.int .i64 g.2.2) := by
  obtain ⟨a', cap', hv, h1, h2, b, off, h3, h4⟩ := h
  simp only [Value.slice.injEq] at hv
  obtain ⟨rfl, rfl, rfl⟩ := hv
  obtain ⟨ha, _, _⟩ := h3 (by omega)
  have hg : xs[k]? = some xs[k] := List.getElem?_eq_getElem hk
  exact ⟨b, off, xs[k], ha, hg, h4 k _ 0 _ hg rfl, h4 k _ 1 _ hg rfl, h4 k _ 2 _ hg rfl⟩
set_option maxRecDepth 100000 in
theorem c_eqTower (a b c p q r : Int) (w : World) :
    Calls Tryd.prog 45 #[.agg #[.int .i64 a, .int .i64 b, .int .i64 c], .agg #[.int .i64 p, .int .i64 q, .int .i64 r]] w fun e w' => e = .returned (.bool (decide (((a, b, c) : TowerT) = (p, q, r)))) ∧ Ext w w' := by
  go_enter Tryd.func45, Tryd.ntmps45
  go_wp2
  all_goals
    go_ret
    refine ⟨by simp_all, ?_⟩
    repeat (first | exact Ext.refl _ | apply Ext.al | apply Ext.dr)
set_option maxRecDepth 100000 in
theorem c_toTower (a b c : Int) (w : World) :
    Calls Tryd.prog 38 #[.agg #[.int .i64 a, .int .i64 b, .int .i64 c]] w fun e w' => e = .returned (.agg #[.int .i64 a, .int .i64 b, .int .i64 c]) ∧ Ext w w' := by
  go_enter Tryd.func38, Tryd.ntmps38
  go_wp2
  refine bodyPost_ret (v := .agg #[.int .i64 a, .int .i64 b, .int .i64 c]) (by simp [results, Tryd.results38, go_sem]) rfl ⟨rfl, ?_⟩
  repeat (first | exact Ext.refl _ | apply Ext.al | apply Ext.dr | (refine Ext.st ?_ (by simp) _))
set_option maxRecDepth 100000 in
theorem c_eqTowerS (va vb : Value) (la ha lb hb : Nat) (xs ys : List TowerT) (w : World) (h1 : Towers w la ha va xs) (h2 : Towers w lb hb vb ys) :
    Calls Tryd.prog 24 #[va, vb] w fun e w' => e = .returned (.bool (decide (xs = ys))) ∧ Ext w w' := by
  have g1 := h1
  have g2 := h2
  obtain ⟨a, ca, rfl, m1, m2, _⟩ := g1
  obtain ⟨b, cb, rfl, m3, m4, _⟩ := g2
  have H1 := Lib.hid h1
  have H2 := Lib.hid h2
  clear h1 h2
  obtain ⟨r, hr⟩ : ∃ r, r = decide (xs = ys) := ⟨_, rfl⟩
  rw [← hr]
  have HR := Lib.hid hr
  clear hr
  by_cases hlen : xs.length = ys.length
  · have hl : ((xs.length : Int) != (ys.length : Int)) = false := by simp [hlen]
    obtain ⟨n, hn⟩ : ∃ n, n = xs.length := ⟨_, rfl⟩
    rw [← hlen] at m3 hl H2 ⊢
    rw [← hn] at m1 m3 hl H1 H2 ⊢
    have HN := Lib.hid hn
    have HL := Lib.hid hlen
    clear hn hlen
    go_enter Tryd.func24, Tryd.ntmps24
    go_wp2
    go_loopw [5] (fun t wr => ∃ k : Nat, k ≤ n ∧ t = .int .i64 k ∧ Ext w wr ∧ Hid (xs.take k = ys.take k)) (fun t _ => n - (intOf t).toNat)
    case atStart => exact ⟨0, by omega, rfl, Ext.refl _, by simp [Hid]⟩
    case round =>
      obtain ⟨k, hk, rfl, hx, hT⟩ := hrel
      by_cases hlt : k < n
      · obtain ⟨b1, o1, g1, rfl, hg1, c0, c1, c2⟩ := Towers_at H1.out hlt
        obtain ⟨b2, o2, g2, rfl, hg2, d0, d1, d2⟩ := Towers_at H2.out hlt
        have C0 := XT.cell (hx.cell c0)
        have D0 := XT.cell (hx.cell d0)
        have C1 := XT.cell (hx.cell c1)
        have D1 := XT.cell (hx.cell d1)
        have C2 := XT.cell (hx.cell c2)
        have D2 := XT.cell (hx.cell d2)
        clear c0 d0 c1 d1 c2 d2
        have hltI : (k : Int) < (n : Int) := by omega
        by_cases hgg : g1 = g2
        · have hgg2 := Lib.hid hgg
          have CE : Hid (∀ W, Calls Tryd.prog 45 #[.agg #[.int .i64 g1.1, .int .i64 g1.2.1, .int .i64 g1.2.2], .agg #[.int .i64 g2.1, .int .i64 g2.2.1, .int .i64 g2.2.2]] W fun e w' => e = .returned (.bool true) ∧ Ext W w') := fun W => by
            have hd : decide (g1 = g2) = true := by simp [hgg]
            rw [← hd]; exact c_eqTower _ _ _ _ _ _ W
          clear hgg
          go_wp2
          refine region_ext (by kernel_rfl) (by kernel_rfl) ?_
          repeat (go_big_quiet_step ((go_at_call 45; refine Calls.ext_of (CE.out _))))
          refine wpQuiet_nil ?_
          intro wq hxq
          go_wp2
          go_roundw
          case rel => exact ⟨k + 1, by omega, by go_num, hx.trans hxq, take_eq_succ hT.out hg1.out hg2.out hgg2.out⟩
          case measure => simp [intOf]; omega
        · have hgg2 := Lib.hid hgg
          have CE : Hid (∀ W, Calls Tryd.prog 45 #[.agg #[.int .i64 g1.1, .int .i64 g1.2.1, .int .i64 g1.2.2], .agg #[.int .i64 g2.1, .int .i64 g2.2.1, .int .i64 g2.2.2]] W fun e w' => e = .returned (.bool false) ∧ Ext W w') := fun W => by
            have hd : decide (g1 = g2) = false := by simp [hgg]
            rw [← hd]; exact c_eqTower _ _ _ _ _ _ W
          clear hgg
          go_wp2
          refine region_ext (by kernel_rfl) (by kernel_rfl) ?_
          repeat (go_big_quiet_step ((go_at_call 45; refine Calls.ext_of (CE.out _))))
          refine wpQuiet_nil ?_
          intro wq hxq
          go_wp2
          go_ret
          refine ⟨?_, hx.trans hxq⟩
          rw [HR.out, decide_eq_false (fun e => hgg2.out (by have := hg1.out; rw [e, hg2.out] at this; exact (Option.some.inj this).symm))]
          rfl
      · go_wp2
        go_ret
        refine ⟨?_, hx⟩
        have e := hT.out
        rw [List.take_of_length_le (by rw [← HN.out]; omega), List.take_of_length_le (by rw [← HL.out, ← HN.out]; omega)] at e
        rw [HR.out, decide_eq_true e]
        rfl
  · have hl : ((xs.length : Int) != (ys.length : Int)) = true := by rw [bne_iff_ne]; omega
    have HL := Lib.hid hlen
    clear hlen
    go_enter Tryd.func24, Tryd.ntmps24
    go_wp2
    go_ret
    refine ⟨?_, Ext.refl _⟩
    rw [HR.out, decide_eq_false (fun e => HL.out (by rw [e]))]
    rfl
theorem Tryd.info_Tower : (Tryd.prog.info? 51).map (fun i => (i.zero, i.size, i.bytes)) = some (some (.agg #[.int .i64 0, .int .i64 0, .int .i64 0]), 3, 24) := by kernel_rfl
set_option maxRecDepth 100000 in
theorem c_toTowerS (va : Value) (la ha : Nat) (xs : List TowerT) (w : World) (h1 : Towers w la ha va xs) (hn20 : xs.length ≤ 1048576) :
    Calls Tryd.prog 18 #[va] w fun e w' => ∃ v, e = .returned v ∧ w'.ownsRow w.heap.size 51 3 v xs.length (xs.flatMap encTower) ∧ Ext w w' := by
  obtain ⟨i0, hi, hz0, hz1, hz2⟩ := info_parts Tryd.info_Tower
  have g1 := h1
  obtain ⟨a, ca, rfl, m1, m2, _⟩ := g1
  have H1 := Lib.hid h1
  obtain ⟨n, hn⟩ : ∃ n, n = xs.length := ⟨_, rfl⟩
  rw [← hn] at m1 H1 hn20 ⊢
  have HN := Lib.hid hn
  clear h1 hn
  go_enter Tryd.func18, Tryd.ntmps18
  go_wp2_with (at_make; refine wpList_make_full _ rfl _ _ 29 rfl w.heap.size 51 i0 (.agg #[.int .i64 0, .int .i64 0, .int .i64 0]) 3 Tryd.underlying29 hi hz0 hz1 _ _ _ _ n rfl rfl rfl rfl (by rw [hz2]; omega) (by unfold maxLen; omega) (Nat.le_refl _) ?_; intro w1 hown hgrow)
  have hx1 : Ext w w1 := (Ext.refl w).gr hgrow (by simp)
  clear hgrow
  go_loopw [4] (fun t wr => ∃ (k : Nat) (L : List Value), k ≤ n ∧ t = .int .i64 k ∧ wr.ownsRow w.heap.size 51 3 (.slice (some ⟨w.heap.size, 0, none⟩) n n) n L ∧ Hid (L.take (k * 3) = (xs.take k).flatMap encTower) ∧ Ext w wr) (fun t _ => n - (intOf t).toNat)
  case atStart => exact ⟨0, _, by omega, rfl, hown, by simp [Hid], hx1⟩
  case round =>
    clear hown
    obtain ⟨k, L, hk, rfl, hown, hT, hx⟩ := hrel
    have hL : L.length = n * 3 := hown.1
    by_cases hlt : k < n
    · obtain ⟨b, o, g, rfl, hg, c0, c1, c2⟩ := Towers_at H1.out hlt
      have d0 := hx.cell c0
      have d1 := hx.cell c1
      have d2 := hx.cell c2
      clear c0 c1 c2
      obtain ⟨y0, hy0⟩ : ∃ y, L[k * 3]? = some y := ⟨_, List.getElem?_eq_getElem (by omega)⟩
      have Y0 := Lib.hid hy0
      obtain ⟨y1, hy1⟩ : ∃ y, L[k * 3 + 1]? = some y := ⟨_, List.getElem?_eq_getElem (by omega)⟩
      have Y1 := Lib.hid hy1
      obtain ⟨y2, hy2⟩ : ∃ y, L[k * 3 + 2]? = some y := ⟨_, List.getElem?_eq_getElem (by omega)⟩
      have Y2 := Lib.hid hy2
      clear hy0 hy1 hy2
      have HL := Lib.hid hL
      clear hL
      have hltI : (k : Int) < (n : Int) := by omega
      go_wp2_with (go_at_call 38; refine (c_toTower _ _ _ _).mono ?_; rintro e w2 ⟨rfl, hx2⟩; have o2 := own_ext hown hx2; have e0 := (o2.cellAt (k * 3) (by omega)).trans Y0.out; have e1 := (o2.cellAt (k * 3 + 1) (by omega)).trans Y1.out; have e2 := (o2.cellAt (k * 3 + 2) (by omega)).trans Y2.out; have z0 := o2.frozenAt (k * 3); have z1 := o2.frozenAt (k * 3 + 1); have z2 := o2.frozenAt (k * 3 + 2))
      obtain ⟨O0, gr0⟩ := o2.stored (k * 3) (.int .i64 g.1)
      obtain ⟨O1, gr1⟩ := O0.stored (k * 3 + 1) (.int .i64 g.2.1)
      obtain ⟨O2, gr2⟩ := O1.stored (k * 3 + 2) (.int .i64 g.2.2)
      go_roundw
      case rel => exact ⟨k + 1, _, by omega, by go_num, O2, by unfold Hid; rw [flatMap_snoc hg.out]; exact take_set3 hT.out (by have := HL.out; omega), ((((hx.trans hx2).st (Nat.le_refl _) _).st (Nat.le_refl _) _).st (Nat.le_refl _) _)⟩
      case measure => simp [intOf]; omega
    · have hT' : L = xs.flatMap encTower := by
        have e1 : k = n := by omega
        have e3 := hT.out
        rw [e1, List.take_of_length_le (by omega), List.take_of_length_le (by rw [HN.out]; exact Nat.le_refl _)] at e3
        exact e3
      have HT' := Lib.hid hT'
      clear hT' hL
      go_wp2
      go_ret
      exact ⟨_, rfl, by rw [← HT'.out]; exact hown, hx⟩
set_option maxRecDepth 100000 in
theorem c_markTowerS (v : Value) (n base : Nat) (L : List Value) (c : Int) (w : World) (hown : w.ownsRow base 51 3 v n L) (hc0 : 0 ≤ c) (hc1 : c ≤ 1099511627776) (hn20 : n ≤ 1099511627776) :
    Calls Tryd.prog 31 #[v, .int .i64 c] w fun e w' => e = .returned (.int .i64 (c + n * 3)) ∧ w'.ownsRow base 51 3 v n (marks c (n * 3)) ∧ w.grownBy w' v.ownBlock := by
  obtain ⟨a, cap, hv, ha, _, _⟩ := own_form hown
  have hownB := hown
  subst hv
  go_enter Tryd.func31, Tryd.ntmps31
  go_wp2
  go_loopw [1, 5] (fun q t wr => ∃ (k : Nat) (L2 : List Value), k ≤ n ∧ t = .int .i64 k ∧ q = .int .i64 (c + k * 3) ∧ wr.ownsRow base 51 3 (.slice a n cap) n L2 ∧ Hid (L2.take (k * 3) = marks c (k * 3)) ∧ w.grownBy wr (Value.slice a n cap).ownBlock) (fun _ t _ => n - (intOf t).toNat)
  case atStart => exact ⟨0, _, by omega, rfl, by simp, hown, by simp [Hid, marks], World.grownBy.refl _ _⟩
  case round =>
    clear hown hownB
    obtain ⟨k, L2, hk, rfl, rfl, hown, hT, hx⟩ := hrel
    have hL : L2.length = n * 3 := hown.1
    by_cases hlt : k < n
    · obtain ⟨b, rfl⟩ := ha (by omega)
      obtain ⟨y0, hy0⟩ : ∃ y, L2[k * 3]? = some y := ⟨_, List.getElem?_eq_getElem (by omega)⟩
      have Y0 := Lib.hid hy0
      obtain ⟨y1, hy1⟩ : ∃ y, L2[k * 3 + 1]? = some y := ⟨_, List.getElem?_eq_getElem (by omega)⟩
      have Y1 := Lib.hid hy1
      obtain ⟨y2, hy2⟩ : ∃ y, L2[k * 3 + 2]? = some y := ⟨_, List.getElem?_eq_getElem (by omega)⟩
      have Y2 := Lib.hid hy2
      clear hy0 hy1 hy2
      have e0 := (hown.cellAt (k * 3) (by omega)).trans Y0.out
      have e1 := (hown.cellAt (k * 3 + 1) (by omega)).trans Y1.out
      have e2 := (hown.cellAt (k * 3 + 2) (by omega)).trans Y2.out
      have z0 := hown.frozenAt (k * 3)
      have z1 := hown.frozenAt (k * 3 + 1)
      have z2 := hown.frozenAt (k * 3 + 2)
      have HL := Lib.hid hL
      clear hL
      have hltI : (k : Int) < (n : Int) := by omega
      go_wp2
      obtain ⟨O0, gr0⟩ := hown.stored (k * 3) (.int .i64 (c + k * 3))
      obtain ⟨O1, gr1⟩ := O0.stored (k * 3 + 1) (.int .i64 (c + k * 3 + 1))
      obtain ⟨O2, gr2⟩ := O1.stored (k * 3 + 2) (.int .i64 (c + k * 3 + 1 + 1))
      go_roundw
      case rel =>
        refine ⟨k + 1, _, by omega, by go_num, by go_num, by simpa using O2, ?_, by simpa using (grown_trans (grown_trans (grown_trans hx gr0) gr1) gr2)⟩
        unfold Hid
        rw [show (k + 1) * 3 = k * 3 + 3 by omega, marks_add]
        have e := take_set3 (a := .int .i64 (c + k * 3)) (b := .int .i64 (c + k * 3 + 1)) (c := .int .i64 (c + k * 3 + 1 + 1)) hT.out (by have := HL.out; omega)
        rw [show (k + 1) * 3 = k * 3 + 3 by omega] at e
        simpa [marks3, Int.add_assoc] using e
      case measure => simp [intOf]; omega
    · have e1 : k = n := by omega
      have e3 := hT.out
      rw [e1, List.take_of_length_le (by omega)] at e3
      have HT := Lib.hid e3
      have E1 := Lib.hid e1
      clear e3 e1 hL
      go_wp2
      go_ret
      refine ⟨?_, ?_, hx⟩
      · rw [E1.out]; rfl
      · rw [show marks c (n * 3) = L2 from by rw [HT.out]]; exact hown
set_option maxRecDepth 100000 in
theorem c_heldTowerS (v : Value) (n base : Nat) (c : Int) (w : World) (hown : w.ownsRow base 51 3 v n (marks c (n * 3))) (hc0 : 0 ≤ c) (hc1 : c ≤ 1099511627776) (hn20 : n ≤ 1099511627776) :
    Calls Tryd.prog 33 #[v, .int .i64 c] w fun e w' => e = .returned (.int .i64 (c + n * 3)) ∧ w = w' := by
  obtain ⟨a, cap, hv, ha, _, _⟩ := own_form hown
  subst hv
  have HO := Lib.hid hown
  clear hown
  go_enter Tryd.func33, Tryd.ntmps33
  go_wp2
  go_loop [1, 5] (fun q t => ∃ (k : Nat), k ≤ n ∧ t = .int .i64 k ∧ q = .int .i64 (c + k * 3)) (fun _ t => n - (intOf t).toNat)
  case atStart => exact ⟨0, by omega, rfl, by simp⟩
  case round =>
    obtain ⟨k, hk, rfl, rfl⟩ := hrel
    by_cases hlt : k < n
    · obtain ⟨b, rfl⟩ := ha (by omega)
      have e0 : w.cell? ⟨b, k * 3, none⟩ = some (.int .i64 (c + k * 3)) := by
        rw [HO.out.cellAt (k * 3) (by omega), marks_get _ _ _ (by omega)]
        exact congrArg (fun z => some (Value.int .i64 z)) (by omega)
      have e1 : w.cell? ⟨b, k * 3 + 1, none⟩ = some (.int .i64 (c + k * 3 + 1)) := by
        rw [HO.out.cellAt (k * 3 + 1) (by omega), marks_get _ _ _ (by omega)]
        exact congrArg (fun z => some (Value.int .i64 z)) (by omega)
      have e2 : w.cell? ⟨b, k * 3 + 2, none⟩ = some (.int .i64 (c + k * 3 + 2)) := by
        rw [HO.out.cellAt (k * 3 + 2) (by omega), marks_get _ _ _ (by omega)]
        exact congrArg (fun z => some (Value.int .i64 z)) (by omega)
      have hltI : (k : Int) < (n : Int) := by omega
      go_wp2
      go_round
      case rel => exact ⟨k + 1, by omega, by go_num, by go_num⟩
      case measure => simp [intOf]; omega
    · have e1 : k = n := by omega
      have E1 := Lib.hid e1
      clear e1
      go_wp2
      go_ret
      exact ⟨by rw [E1.out]; rfl, rfl⟩
/-- Link: its cells are its fields. -/
abbrev LinkT := Int × Int × Int
def encLink (g : LinkT) : List Value := [.int .i64 g.1, .int .i64 g.2.1, .int .i64 g.2.2]
theorem encLink_len (g : LinkT) : (encLink g).length = 3 := rfl
abbrev Links (w : World) (lo hi : Nat) (v : Value) (xs : List LinkT) : Prop := Row encLink 3 w lo hi v xs
theorem Links_at {w : World} {lo hi n : Nat} {a : Option Addr} {cap : Nat} {xs : List LinkT} (h : Links w lo hi (.slice a n cap) xs) {k : Nat} (hk : k < n) :
    ∃ b off g, a = some ⟨b, off, none⟩ ∧ Hid (xs[k]? = some g) ∧ w.cell? ⟨b, off + k * 3, none⟩ = some (.int .i64 g.1) ∧ w.cell? ⟨b, off + k * 3 + 1, none⟩ = some (.int .i64 g.2.1) ∧ w.cell? ⟨b, off + k * 3 + 2, none⟩ = some (.int .i64 g.2.2) := by
  obtain ⟨a', cap', hv, h1, h2, b, off, h3, h4⟩ := h
  simp only [Value.slice.injEq] at hv
  obtain ⟨rfl, rfl, rfl⟩ := hv
  obtain ⟨ha, _, _⟩ := h3 (by omega)
  have hg : xs[k]? = some xs[k] := List.getElem?_eq_getElem hk
  exact ⟨b, off, xs[k], ha, hg, h4 k _ 0 _ hg rfl, h4 k _ 1 _ hg rfl, h4 k _ 2 _ hg rfl⟩
set_option maxRecDepth 100000 in
theorem c_eqLink (a b c p q r : Int) (w : World) :
    Calls Tryd.prog 46 #[.agg #[.int .i64 a, .int .i64 b, .int .i64 c], .agg #[.int .i64 p, .int .i64 q, .int .i64 r]] w fun e w' => e = .returned (.bool (decide (((a, b, c) : LinkT) = (p, q, r)))) ∧ Ext w w' := by
  go_enter Tryd.func46, Tryd.ntmps46
  go_wp2
  all_goals
    go_ret
    refine ⟨by simp_all, ?_⟩
    repeat (first | exact Ext.refl _ | apply Ext.al | apply Ext.dr)
set_option maxRecDepth 100000 in
theorem c_toLink (a b c : Int) (w : World) :
    Calls Tryd.prog 39 #[.agg #[.int .i64 a, .int .i64 b, .int .i64 c]] w fun e w' => e = .returned (.agg #[.int .i64 a, .int .i64 b, .int .i64 c]) ∧ Ext w w' := by
  go_enter Tryd.func39, Tryd.ntmps39
  go_wp2
  refine bodyPost_ret (v := .agg #[.int .i64 a, .int .i64 b, .int .i64 c]) (by simp [results, Tryd.results39, go_sem]) rfl ⟨rfl, ?_⟩
  repeat (first | exact Ext.refl _ | apply Ext.al | apply Ext.dr | (refine Ext.st ?_ (by simp) _))
set_option maxRecDepth 100000 in
theorem c_eqLinkS (va vb : Value) (la ha lb hb : Nat) (xs ys : List LinkT) (w : World) (h1 : Links w la ha va xs) (h2 : Links w lb hb vb ys) :
    Calls Tryd.prog 25 #[va, vb] w fun e w' => e = .returned (.bool (decide (xs = ys))) ∧ Ext w w' := by
  have g1 := h1
  have g2 := h2
  obtain ⟨a, ca, rfl, m1, m2, _⟩ := g1
  obtain ⟨b, cb, rfl, m3, m4, _⟩ := g2
  have H1 := Lib.hid h1
  have H2 := Lib.hid h2
  clear h1 h2
  obtain ⟨r, hr⟩ : ∃ r, r = decide (xs = ys) := ⟨_, rfl⟩
  rw [← hr]
  have HR := Lib.hid hr
  clear hr
  by_cases hlen : xs.length = ys.length
  · have hl : ((xs.length : Int) != (ys.length : Int)) = false := by simp [hlen]
    obtain ⟨n, hn⟩ : ∃ n, n = xs.length := ⟨_, rfl⟩
    rw [← hlen] at m3 hl H2 ⊢
    rw [← hn] at m1 m3 hl H1 H2 ⊢
    have HN := Lib.hid hn
    have HL := Lib.hid hlen
    clear hn hlen
    go_enter Tryd.func25, Tryd.ntmps25
    go_wp2
    go_loopw [5] (fun t wr => ∃ k : Nat, k ≤ n ∧ t = .int .i64 k ∧ Ext w wr ∧ Hid (xs.take k = ys.take k)) (fun t _ => n - (intOf t).toNat)
    case atStart => exact ⟨0, by omega, rfl, Ext.refl _, by simp [Hid]⟩
    case round =>
      obtain ⟨k, hk, rfl, hx, hT⟩ := hrel
      by_cases hlt : k < n
      · obtain ⟨b1, o1, g1, rfl, hg1, c0, c1, c2⟩ := Links_at H1.out hlt
        obtain ⟨b2, o2, g2, rfl, hg2, d0, d1, d2⟩ := Links_at H2.out hlt
        have C0 := XT.cell (hx.cell c0)
        have D0 := XT.cell (hx.cell d0)
        have C1 := XT.cell (hx.cell c1)
        have D1 := XT.cell (hx.cell d1)
        have C2 := XT.cell (hx.cell c2)
        have D2 := XT.cell (hx.cell d2)
        clear c0 d0 c1 d1 c2 d2
        have hltI : (k : Int) < (n : Int) := by omega
        by_cases hgg : g1 = g2
        · have hgg2 := Lib.hid hgg
          have CE : Hid (∀ W, Calls Tryd.prog 46 #[.agg #[.int .i64 g1.1, .int .i64 g1.2.1, .int .i64 g1.2.2], .agg #[.int .i64 g2.1, .int .i64 g2.2.1, .int .i64 g2.2.2]] W fun e w' => e = .returned (.bool true) ∧ Ext W w') := fun W => by
            have hd : decide (g1 = g2) = true := by simp [hgg]
            rw [← hd]; exact c_eqLink _ _ _ _ _ _ W
          clear hgg
          go_wp2
          refine region_ext (by kernel_rfl) (by kernel_rfl) ?_
          repeat (go_big_quiet_step ((go_at_call 46; refine Calls.ext_of (CE.out _))))
          refine wpQuiet_nil ?_
          intro wq hxq
          go_wp2
          go_roundw
          case rel => exact ⟨k + 1, by omega, by go_num, hx.trans hxq, take_eq_succ hT.out hg1.out hg2.out hgg2.out⟩
          case measure => simp [intOf]; omega
        · have hgg2 := Lib.hid hgg
          have CE : Hid (∀ W, Calls Tryd.prog 46 #[.agg #[.int .i64 g1.1, .int .i64 g1.2.1, .int .i64 g1.2.2], .agg #[.int .i64 g2.1, .int .i64 g2.2.1, .int .i64 g2.2.2]] W fun e w' => e = .returned (.bool false) ∧ Ext W w') := fun W => by
            have hd : decide (g1 = g2) = false := by simp [hgg]
            rw [← hd]; exact c_eqLink _ _ _ _ _ _ W
          clear hgg
          go_wp2
          refine region_ext (by kernel_rfl) (by kernel_rfl) ?_
          repeat (go_big_quiet_step ((go_at_call 46; refine Calls.ext_of (CE.out _))))
          refine wpQuiet_nil ?_
          intro wq hxq
          go_wp2
          go_ret
          refine ⟨?_, hx.trans hxq⟩
          rw [HR.out, decide_eq_false (fun e => hgg2.out (by have := hg1.out; rw [e, hg2.out] at this; exact (Option.some.inj this).symm))]
          rfl
      · go_wp2
        go_ret
        refine ⟨?_, hx⟩
        have e := hT.out
        rw [List.take_of_length_le (by rw [← HN.out]; omega), List.take_of_length_le (by rw [← HL.out, ← HN.out]; omega)] at e
        rw [HR.out, decide_eq_true e]
        rfl
  · have hl : ((xs.length : Int) != (ys.length : Int)) = true := by rw [bne_iff_ne]; omega
    have HL := Lib.hid hlen
    clear hlen
    go_enter Tryd.func25, Tryd.ntmps25
    go_wp2
    go_ret
    refine ⟨?_, Ext.refl _⟩
    rw [HR.out, decide_eq_false (fun e => HL.out (by rw [e]))]
    rfl
theorem Tryd.info_Link : (Tryd.prog.info? 59).map (fun i => (i.zero, i.size, i.bytes)) = some (some (.agg #[.int .i64 0, .int .i64 0, .int .i64 0]), 3, 24) := by kernel_rfl
set_option maxRecDepth 100000 in
theorem c_toLinkS (va : Value) (la ha : Nat) (xs : List LinkT) (w : World) (h1 : Links w la ha va xs) (hn20 : xs.length ≤ 1048576) :
    Calls Tryd.prog 19 #[va] w fun e w' => ∃ v, e = .returned v ∧ w'.ownsRow w.heap.size 59 3 v xs.length (xs.flatMap encLink) ∧ Ext w w' := by
  obtain ⟨i0, hi, hz0, hz1, hz2⟩ := info_parts Tryd.info_Link
  have g1 := h1
  obtain ⟨a, ca, rfl, m1, m2, _⟩ := g1
  have H1 := Lib.hid h1
  obtain ⟨n, hn⟩ : ∃ n, n = xs.length := ⟨_, rfl⟩
  rw [← hn] at m1 H1 hn20 ⊢
  have HN := Lib.hid hn
  clear h1 hn
  go_enter Tryd.func19, Tryd.ntmps19
  go_wp2_with (at_make; refine wpList_make_full _ rfl _ _ 30 rfl w.heap.size 59 i0 (.agg #[.int .i64 0, .int .i64 0, .int .i64 0]) 3 Tryd.underlying30 hi hz0 hz1 _ _ _ _ n rfl rfl rfl rfl (by rw [hz2]; omega) (by unfold maxLen; omega) (Nat.le_refl _) ?_; intro w1 hown hgrow)
  have hx1 : Ext w w1 := (Ext.refl w).gr hgrow (by simp)
  clear hgrow
  go_loopw [4] (fun t wr => ∃ (k : Nat) (L : List Value), k ≤ n ∧ t = .int .i64 k ∧ wr.ownsRow w.heap.size 59 3 (.slice (some ⟨w.heap.size, 0, none⟩) n n) n L ∧ Hid (L.take (k * 3) = (xs.take k).flatMap encLink) ∧ Ext w wr) (fun t _ => n - (intOf t).toNat)
  case atStart => exact ⟨0, _, by omega, rfl, hown, by simp [Hid], hx1⟩
  case round =>
    clear hown
    obtain ⟨k, L, hk, rfl, hown, hT, hx⟩ := hrel
    have hL : L.length = n * 3 := hown.1
    by_cases hlt : k < n
    · obtain ⟨b, o, g, rfl, hg, c0, c1, c2⟩ := Links_at H1.out hlt
      have d0 := hx.cell c0
      have d1 := hx.cell c1
      have d2 := hx.cell c2
      clear c0 c1 c2
      obtain ⟨y0, hy0⟩ : ∃ y, L[k * 3]? = some y := ⟨_, List.getElem?_eq_getElem (by omega)⟩
      have Y0 := Lib.hid hy0
      obtain ⟨y1, hy1⟩ : ∃ y, L[k * 3 + 1]? = some y := ⟨_, List.getElem?_eq_getElem (by omega)⟩
      have Y1 := Lib.hid hy1
      obtain ⟨y2, hy2⟩ : ∃ y, L[k * 3 + 2]? = some y := ⟨_, List.getElem?_eq_getElem (by omega)⟩
      have Y2 := Lib.hid hy2
      clear hy0 hy1 hy2
      have HL := Lib.hid hL
      clear hL
      have hltI : (k : Int) < (n : Int) := by omega
      go_wp2_with (go_at_call 39; refine (c_toLink _ _ _ _).mono ?_; rintro e w2 ⟨rfl, hx2⟩; have o2 := own_ext hown hx2; have e0 := (o2.cellAt (k * 3) (by omega)).trans Y0.out; have e1 := (o2.cellAt (k * 3 + 1) (by omega)).trans Y1.out; have e2 := (o2.cellAt (k * 3 + 2) (by omega)).trans Y2.out; have z0 := o2.frozenAt (k * 3); have z1 := o2.frozenAt (k * 3 + 1); have z2 := o2.frozenAt (k * 3 + 2))
      obtain ⟨O0, gr0⟩ := o2.stored (k * 3) (.int .i64 g.1)
      obtain ⟨O1, gr1⟩ := O0.stored (k * 3 + 1) (.int .i64 g.2.1)
      obtain ⟨O2, gr2⟩ := O1.stored (k * 3 + 2) (.int .i64 g.2.2)
      go_roundw
      case rel => exact ⟨k + 1, _, by omega, by go_num, O2, by unfold Hid; rw [flatMap_snoc hg.out]; exact take_set3 hT.out (by have := HL.out; omega), ((((hx.trans hx2).st (Nat.le_refl _) _).st (Nat.le_refl _) _).st (Nat.le_refl _) _)⟩
      case measure => simp [intOf]; omega
    · have hT' : L = xs.flatMap encLink := by
        have e1 : k = n := by omega
        have e3 := hT.out
        rw [e1, List.take_of_length_le (by omega), List.take_of_length_le (by rw [HN.out]; exact Nat.le_refl _)] at e3
        exact e3
      have HT' := Lib.hid hT'
      clear hT' hL
      go_wp2
      go_ret
      exact ⟨_, rfl, by rw [← HT'.out]; exact hown, hx⟩
set_option maxRecDepth 100000 in
theorem c_markLinkS (v : Value) (n base : Nat) (L : List Value) (c : Int) (w : World) (hown : w.ownsRow base 59 3 v n L) (hc0 : 0 ≤ c) (hc1 : c ≤ 1099511627776) (hn20 : n ≤ 1099511627776) :
    Calls Tryd.prog 32 #[v, .int .i64 c] w fun e w' => e = .returned (.int .i64 (c + n * 3)) ∧ w'.ownsRow base 59 3 v n (marks c (n * 3)) ∧ w.grownBy w' v.ownBlock := by
  obtain ⟨a, cap, hv, ha, _, _⟩ := own_form hown
  have hownB := hown
  subst hv
  go_enter Tryd.func32, Tryd.ntmps32
  go_wp2
  go_loopw [1, 5] (fun q t wr => ∃ (k : Nat) (L2 : List Value), k ≤ n ∧ t = .int .i64 k ∧ q = .int .i64 (c + k * 3) ∧ wr.ownsRow base 59 3 (.slice a n cap) n L2 ∧ Hid (L2.take (k * 3) = marks c (k * 3)) ∧ w.grownBy wr (Value.slice a n cap).ownBlock) (fun _ t _ => n - (intOf t).toNat)
  case atStart => exact ⟨0, _, by omega, rfl, by simp, hown, by simp [Hid, marks], World.grownBy.refl _ _⟩
  case round =>
    clear hown hownB
    obtain ⟨k, L2, hk, rfl, rfl, hown, hT, hx⟩ := hrel
    have hL : L2.length = n * 3 := hown.1
    by_cases hlt : k < n
    · obtain ⟨b, rfl⟩ := ha (by omega)
      obtain ⟨y0, hy0⟩ : ∃ y, L2[k * 3]? = some y := ⟨_, List.getElem?_eq_getElem (by omega)⟩
      have Y0 := Lib.hid hy0
      obtain ⟨y1, hy1⟩ : ∃ y, L2[k * 3 + 1]? = some y := ⟨_, List.getElem?_eq_getElem (by omega)⟩
      have Y1 := Lib.hid hy1
      obtain ⟨y2, hy2⟩ : ∃ y, L2[k * 3 + 2]? = some y := ⟨_, List.getElem?_eq_getElem (by omega)⟩
      have Y2 := Lib.hid hy2
      clear hy0 hy1 hy2
      have e0 := (hown.cellAt (k * 3) (by omega)).trans Y0.out
      have e1 := (hown.cellAt (k * 3 + 1) (by omega)).trans Y1.out
      have e2 := (hown.cellAt (k * 3 + 2) (by omega)).trans Y2.out
      have z0 := hown.frozenAt (k * 3)
      have z1 := hown.frozenAt (k * 3 + 1)
      have z2 := hown.frozenAt (k * 3 + 2)
      have HL := Lib.hid hL
      clear hL
      have hltI : (k : Int) < (n : Int) := by omega
      go_wp2
      obtain ⟨O0, gr0⟩ := hown.stored (k * 3) (.int .i64 (c + k * 3))
      obtain ⟨O1, gr1⟩ := O0.stored (k * 3 + 1) (.int .i64 (c + k * 3 + 1))
      obtain ⟨O2, gr2⟩ := O1.stored (k * 3 + 2) (.int .i64 (c + k * 3 + 1 + 1))
      go_roundw
      case rel =>
        refine ⟨k + 1, _, by omega, by go_num, by go_num, by simpa using O2, ?_, by simpa using (grown_trans (grown_trans (grown_trans hx gr0) gr1) gr2)⟩
        unfold Hid
        rw [show (k + 1) * 3 = k * 3 + 3 by omega, marks_add]
        have e := take_set3 (a := .int .i64 (c + k * 3)) (b := .int .i64 (c + k * 3 + 1)) (c := .int .i64 (c + k * 3 + 1 + 1)) hT.out (by have := HL.out; omega)
        rw [show (k + 1) * 3 = k * 3 + 3 by omega] at e
        simpa [marks3, Int.add_assoc] using e
      case measure => simp [intOf]; omega
    · have e1 : k = n := by omega
      have e3 := hT.out
      rw [e1, List.take_of_length_le (by omega)] at e3
      have HT := Lib.hid e3
      have E1 := Lib.hid e1
      clear e3 e1 hL
      go_wp2
      go_ret
      refine ⟨?_, ?_, hx⟩
      · rw [E1.out]; rfl
      · rw [show marks c (n * 3) = L2 from by rw [HT.out]]; exact hown
set_option maxRecDepth 100000 in
theorem c_heldLinkS (v : Value) (n base : Nat) (c : Int) (w : World) (hown : w.ownsRow base 59 3 v n (marks c (n * 3))) (hc0 : 0 ≤ c) (hc1 : c ≤ 1099511627776) (hn20 : n ≤ 1099511627776) :
    Calls Tryd.prog 34 #[v, .int .i64 c] w fun e w' => e = .returned (.int .i64 (c + n * 3)) ∧ w = w' := by
  obtain ⟨a, cap, hv, ha, _, _⟩ := own_form hown
  subst hv
  have HO := Lib.hid hown
  clear hown
  go_enter Tryd.func34, Tryd.ntmps34
  go_wp2
  go_loop [1, 5] (fun q t => ∃ (k : Nat), k ≤ n ∧ t = .int .i64 k ∧ q = .int .i64 (c + k * 3)) (fun _ t => n - (intOf t).toNat)
  case atStart => exact ⟨0, by omega, rfl, by simp⟩
  case round =>
    obtain ⟨k, hk, rfl, rfl⟩ := hrel
    by_cases hlt : k < n
    · obtain ⟨b, rfl⟩ := ha (by omega)
      have e0 : w.cell? ⟨b, k * 3, none⟩ = some (.int .i64 (c + k * 3)) := by
        rw [HO.out.cellAt (k * 3) (by omega), marks_get _ _ _ (by omega)]
        exact congrArg (fun z => some (Value.int .i64 z)) (by omega)
      have e1 : w.cell? ⟨b, k * 3 + 1, none⟩ = some (.int .i64 (c + k * 3 + 1)) := by
        rw [HO.out.cellAt (k * 3 + 1) (by omega), marks_get _ _ _ (by omega)]
        exact congrArg (fun z => some (Value.int .i64 z)) (by omega)
      have e2 : w.cell? ⟨b, k * 3 + 2, none⟩ = some (.int .i64 (c + k * 3 + 2)) := by
        rw [HO.out.cellAt (k * 3 + 2) (by omega), marks_get _ _ _ (by omega)]
        exact congrArg (fun z => some (Value.int .i64 z)) (by omega)
      have hltI : (k : Int) < (n : Int) := by omega
      go_wp2
      go_round
      case rel => exact ⟨k + 1, by omega, by go_num, by go_num⟩
      case measure => simp [intOf]; omega
    · have e1 : k = n := by omega
      have E1 := Lib.hid e1
      clear e1
      go_wp2
      go_ret
      exact ⟨by rw [E1.out]; rfl, rfl⟩

/-- A slice of the call's own, in a block from lo on and below hi. -/
structure OwnG {α : Type} (enc : α → List Value) (sz : Nat) (e : TypeId) (w : World) (lo hi : Nat) (v : Value) (xs : List α) : Prop where
  own : w.ownsRow lo e sz v xs.length (xs.flatMap enc)
  lt : ∀ k, v.ownBlock = some k → k < hi
theorem OwnG.of {α : Type} {enc : α → List Value} {sz : Nat} {e : TypeId} {w : World} {lo : Nat} {v : Value} {xs : List α} (h : w.ownsRow lo e sz v xs.length (xs.flatMap enc)) : OwnG enc sz e w lo w.heap.size v xs := ⟨h, fun k hk => (h.lt k hk).2⟩
theorem OwnG.ext {α : Type} {enc : α → List Value} {sz : Nat} {e : TypeId} {w w' : World} {lo hi : Nat} {v : Value} {xs : List α} (h : OwnG enc sz e w lo hi v xs) (hx : Ext w w') : OwnG enc sz e w' lo hi v xs := ⟨own_ext h.own hx, h.lt⟩
theorem OwnG.mono {α : Type} {enc : α → List Value} {sz : Nat} {e : TypeId} {w : World} {lo hi lo' hi' : Nat} {v : Value} {xs : List α} (h : OwnG enc sz e w lo hi v xs) (h1 : lo' ≤ lo) (h2 : hi ≤ hi') : OwnG enc sz e w lo' hi' v xs := ⟨own_mono h.own h1, fun k hk => Nat.lt_of_lt_of_le (h.lt k hk) h2⟩
theorem OwnG.keepd {α : Type} {enc : α → List Value} {sz : Nat} {e : TypeId} {w w' : World} {lo hi lo2 hi2 : Nat} {v : Value} {xs : List α} (h : OwnG enc sz e w lo hi v xs) (hk : Keep lo2 hi2 w w') (hd : hi ≤ lo2 ∨ hi2 ≤ lo) : OwnG enc sz e w' lo hi v xs :=
  ⟨own_keep h.own hk (fun k e => by have := (h.own.lt k e).1; have := h.lt k e; omega), h.lt⟩
theorem OwnG.read {α : Type} {enc : α → List Value} {sz : Nat} {e : TypeId} {w : World} {lo hi : Nat} {v : Value} {xs : List α} (hen : ∀ x, (enc x).length = sz) (h : OwnG enc sz e w lo hi v xs) : Row enc sz w lo hi v xs := by
  obtain ⟨a, cap, e, h1, h2, b, off, h3, h4⟩ := Row.of_own hen h.own
  refine ⟨a, cap, e, h1, h2, b, off, fun hp => ?_, h4⟩
  obtain ⟨e1, e2, _⟩ := h3 hp
  exact ⟨e1, e2, h.lt b (by rw [e, e1]; rfl)⟩
theorem Row.form {α : Type} {enc : α → List Value} {sz : Nat} {w : World} {lo hi : Nat} {v : Value} {xs : List α} (h : Row enc sz w lo hi v xs) : ∃ a cap, v = .slice a xs.length cap ∧ xs.length ≤ cap ∧ cap ≤ 9223372036854775807 := by
  obtain ⟨a, cap, rfl, h2, h3, _⟩ := h
  exact ⟨a, cap, rfl, h2, h3⟩

abbrev NetT := List TowerT × List LinkT
/-- v is a net (by value) that reads as x. -/
def Nets (w : World) (lo hi : Nat) (v : Value) (x : NetT) : Prop := ∃ vt vl, v = .agg #[vt, vl] ∧ Towers w lo hi vt x.1 ∧ Links w lo hi vl x.2
theorem Nets.keep {w w' : World} {lo hi : Nat} {v : Value} {x : NetT} (h : Nets w lo hi v x) (hk : ∀ k, lo ≤ k → k < hi → w'.heap[k]? = w.heap[k]?) : Nets w' lo hi v x := by
  obtain ⟨vt, vl, e, h1, h2⟩ := h
  exact ⟨vt, vl, e, h1.keep hk, h2.keep hk⟩
theorem Nets.ext {w w' : World} {lo hi : Nat} {v : Value} {x : NetT} (h : Nets w lo hi v x) (hx : Ext w w') (hh : hi ≤ w.heap.size) : Nets w' lo hi v x := h.keep fun k _ hk => hx.block k (by omega)
theorem Nets.form {w : World} {lo hi : Nat} {v : Value} {x : NetT} (h : Nets w lo hi v x) : ∃ a ca b cb, v = .agg #[.slice a x.1.length ca, .slice b x.2.length cb] ∧ (x.1.length ≤ ca ∧ ca ≤ 9223372036854775807) ∧ x.2.length ≤ cb ∧ cb ≤ 9223372036854775807 := by
  obtain ⟨vt, vl, rfl, h1, h2⟩ := h
  obtain ⟨a, ca, rfl, m1, m2⟩ := h1.form
  obtain ⟨b, cb, rfl, m3, m4⟩ := h2.form
  exact ⟨a, ca, b, cb, rfl, ⟨m1, m2⟩, m3, m4⟩
theorem Nets.parts {w : World} {lo hi : Nat} {vt vl : Value} {x : NetT} (h : Nets w lo hi (.agg #[vt, vl]) x) : Towers w lo hi vt x.1 ∧ Links w lo hi vl x.2 := by
  obtain ⟨vt', vl', e, h1, h2⟩ := h
  simp only [Value.agg.injEq, Array.mk.injEq, List.cons.injEq, and_true] at e
  obtain ⟨rfl, rfl⟩ := e
  exact ⟨h1, h2⟩
/-- .. whose memory is the call's own. -/
def OwnNet (w : World) (lo hi : Nat) (v : Value) (x : NetT) : Prop := ∃ vt vl, v = .agg #[vt, vl] ∧ OwnG encTower 3 51 w lo hi vt x.1 ∧ OwnG encLink 3 59 w lo hi vl x.2 ∧ ∀ k, vt.ownBlock = some k → vl.ownBlock ≠ some k
theorem OwnNet.ext {w w' : World} {lo hi : Nat} {v : Value} {x : NetT} (h : OwnNet w lo hi v x) (hx : Ext w w') : OwnNet w' lo hi v x := by
  obtain ⟨vt, vl, e, h1, h2, h3⟩ := h
  exact ⟨vt, vl, e, h1.ext hx, h2.ext hx, h3⟩
theorem OwnNet.keepd {w w' : World} {lo hi lo2 hi2 : Nat} {v : Value} {x : NetT} (h : OwnNet w lo hi v x) (hk : Keep lo2 hi2 w w') (hd : hi ≤ lo2 ∨ hi2 ≤ lo) : OwnNet w' lo hi v x := by
  obtain ⟨vt, vl, e, h1, h2, h3⟩ := h
  exact ⟨vt, vl, e, h1.keepd hk hd, h2.keepd hk hd, h3⟩
theorem OwnNet.read {w : World} {lo hi : Nat} {v : Value} {x : NetT} (h : OwnNet w lo hi v x) : Nets w lo hi v x := by
  obtain ⟨vt, vl, e, h1, h2, _⟩ := h
  exact ⟨vt, vl, e, h1.read encTower_len, h2.read encLink_len⟩
theorem OwnNet.form {w : World} {lo hi : Nat} {v : Value} {x : NetT} (h : OwnNet w lo hi v x) : ∃ a ca b cb, v = .agg #[.slice a x.1.length ca, .slice b x.2.length cb] ∧ (x.1.length ≤ ca ∧ ca ≤ 9223372036854775807) ∧ x.2.length ≤ cb ∧ cb ≤ 9223372036854775807 := h.read.form

/-! ### Sizes -/
def szL (left n : Int) : Int := if n ≤ left then left - n else -1
theorem szL_pos {left n : Int} (h : n ≤ left) : szL left n = left - n := if_pos h
theorem szL_neg {left n : Int} (h : left < n) : szL left n = -1 := if_neg (by omega)
set_option maxRecDepth 100000 in
theorem c_szTowerS (a : Option Addr) (n cap : Nat) (left : Int) (w : World) (h0 : 0 ≤ left) (h1 : left ≤ 1048576) (hn : n ≤ 9223372036854775807) :
    Calls Tryd.prog 14 #[.slice a n cap, .int .i64 left] w fun e w' => e = .returned (.int .i64 (szL left n)) ∧ w = w' := by
  obtain ⟨r, hr⟩ : ∃ r, r = szL left n := ⟨_, rfl⟩
  rw [← hr]
  unfold szL at hr
  have HR := Lib.hid hr
  clear hr
  by_cases h : (n : Int) ≤ left
  all_goals
    go_enter Tryd.func14, Tryd.ntmps14
    go_wp2
    go_ret
    refine ⟨?_, rfl⟩
    rw [HR.out]
    first | (rw [if_pos h]; rfl) | (rw [if_neg (by omega)]; rfl)
set_option maxRecDepth 100000 in
theorem c_szLinkS (a : Option Addr) (n cap : Nat) (left : Int) (w : World) (h0 : 0 ≤ left) (h1 : left ≤ 1048576) (hn : n ≤ 9223372036854775807) :
    Calls Tryd.prog 15 #[.slice a n cap, .int .i64 left] w fun e w' => e = .returned (.int .i64 (szL left n)) ∧ w = w' := by
  obtain ⟨r, hr⟩ : ∃ r, r = szL left n := ⟨_, rfl⟩
  rw [← hr]
  unfold szL at hr
  have HR := Lib.hid hr
  clear hr
  by_cases h : (n : Int) ≤ left
  all_goals
    go_enter Tryd.func15, Tryd.ntmps15
    go_wp2
    go_ret
    refine ⟨?_, rfl⟩
    rw [HR.out]
    first | (rw [if_pos h]; rfl) | (rw [if_neg (by omega)]; rfl)
set_option maxRecDepth 100000 in
theorem c_szNet (v : Value) (la ha : Nat) (x : NetT) (left : Int) (w : World) (h : Nets w la ha v x) (h0 : 0 ≤ left) (h1 : left ≤ 1048576) :
    Calls Tryd.prog 5 #[v, .int .i64 left] w fun e w' => e = .returned (.int .i64 (szL left ((x.1.length + x.2.length : Nat) : Int))) ∧ Ext w w' := by
  obtain ⟨a, ca, b, cb, rfl, ⟨m1, m2⟩, m3, m4⟩ := h.form
  obtain ⟨r, hr⟩ : ∃ r, r = szL left ((x.1.length + x.2.length : Nat) : Int) := ⟨_, rfl⟩
  rw [← hr]
  have HR := Lib.hid hr
  obtain ⟨n, hn⟩ : ∃ n, n = x.1.length := ⟨_, rfl⟩
  obtain ⟨l, hl⟩ : ∃ n, n = x.2.length := ⟨_, rfl⟩
  rw [← hn] at m1 HR ⊢
  rw [← hl] at m3 HR ⊢
  clear h hr hn hl
  by_cases e1 : (n : Int) ≤ left
  · have C1 : Hid (∀ W, Calls Tryd.prog 14 #[.slice a n ca, .int .i64 left] W fun e w' => e = .returned (.int .i64 (left - n)) ∧ W = w') := fun W => by
      rw [← szL_pos e1]; exact c_szTowerS a n ca left W h0 h1 (by omega)
    have g1 : ¬ (left - (n : Int) < 0) := by omega
    by_cases e2 : (l : Int) ≤ left - n
    · have C2 : Hid (∀ W, Calls Tryd.prog 15 #[.slice b l cb, .int .i64 (left - n)] W fun e w' => e = .returned (.int .i64 (left - n - l)) ∧ W = w') := fun W => by
        rw [← szL_pos e2]; exact c_szLinkS b l cb (left - n) W (by omega) (by omega) (by omega)
      have g2 : ¬ (left - (n : Int) - (l : Int) < 0) := by omega
      have HS : Hid (r = left - n - l) := by unfold Hid; rw [HR.out, szL_pos (by omega)]; omega
      go_enter Tryd.func5, Tryd.ntmps5
      go_wp2_with (first | (go_at_call 14; refine (C1.out _).mono ?_; rintro e w' ⟨rfl, rfl⟩) | (go_at_call 15; refine (C2.out _).mono ?_; rintro e w' ⟨rfl, rfl⟩))
      go_ret
      exact ⟨by rw [HS.out]; rfl, Ext.alloc _ _⟩
    · have C2 : Hid (∀ W, Calls Tryd.prog 15 #[.slice b l cb, .int .i64 (left - n)] W fun e w' => e = .returned (.int .i64 (-1)) ∧ W = w') := fun W => by
        rw [← szL_neg (left := left - n) (n := l) (by omega)]; exact c_szLinkS b l cb (left - n) W (by omega) (by omega) (by omega)
      have HS : Hid (r = -1) := by unfold Hid; rw [HR.out, szL_neg (by omega)]
      go_enter Tryd.func5, Tryd.ntmps5
      go_wp2_with (first | (go_at_call 14; refine (C1.out _).mono ?_; rintro e w' ⟨rfl, rfl⟩) | (go_at_call 15; refine (C2.out _).mono ?_; rintro e w' ⟨rfl, rfl⟩))
      go_ret
      exact ⟨by rw [HS.out]; rfl, Ext.alloc _ _⟩
  · have C1 : Hid (∀ W, Calls Tryd.prog 14 #[.slice a n ca, .int .i64 left] W fun e w' => e = .returned (.int .i64 (-1)) ∧ W = w') := fun W => by
      rw [← szL_neg (left := left) (n := n) (by omega)]; exact c_szTowerS a n ca left W h0 h1 (by omega)
    have HS : Hid (r = -1) := by unfold Hid; rw [HR.out, szL_neg (by omega)]
    go_enter Tryd.func5, Tryd.ntmps5
    go_wp2_with (go_at_call 14; refine (C1.out _).mono ?_; rintro e w' ⟨rfl, rfl⟩)
    go_ret
    exact ⟨by rw [HS.out]; rfl, Ext.alloc _ _⟩
/-! ### Equality -/
set_option maxRecDepth 100000 in
set_option maxHeartbeats 1000000 in
theorem c_eqNet (va vb : Value) (la ha lb hb : Nat) (x y : NetT) (w : World) (h1 : Nets w la ha va x) (h2 : Nets w lb hb vb y) (hh1 : ha ≤ w.heap.size) (hh2 : hb ≤ w.heap.size) :
    Calls Tryd.prog 9 #[va, vb] w fun e w' => e = .returned (.bool (decide (x = y))) ∧ Ext w w' := by
  obtain ⟨r, hr⟩ : ∃ r, r = decide (x = y) := ⟨_, rfl⟩
  rw [← hr]
  have HR := Lib.hid hr
  obtain ⟨a, ca, b, cb, rfl, ⟨m1, m2⟩, m3, m4⟩ := h1.form
  obtain ⟨c, cc, d, cd, rfl, ⟨m5, m6⟩, m7, m8⟩ := h2.form
  obtain ⟨p1, p2⟩ := h1.parts
  obtain ⟨q1, q2⟩ := h2.parts
  obtain ⟨s, hs⟩ : ∃ s, s = decide (x.1 = y.1) := ⟨_, rfl⟩
  obtain ⟨t, ht⟩ : ∃ s, s = decide (x.2 = y.2) := ⟨_, rfl⟩
  have C1 : Hid (∀ W, Ext w W → Calls Tryd.prog 24 #[.slice a x.1.length ca, .slice c y.1.length cc] W fun e w' => e = .returned (.bool s) ∧ Ext W w') :=
    fun W hX => by rw [hs]; exact c_eqTowerS _ _ la ha lb hb x.1 y.1 W (p1.ext hX hh1) (q1.ext hX hh2)
  have C2 : Hid (∀ W, Ext w W → Calls Tryd.prog 25 #[.slice b x.2.length cb, .slice d y.2.length cd] W fun e w' => e = .returned (.bool t) ∧ Ext W w') :=
    fun W hX => by rw [ht]; exact c_eqLinkS _ _ la ha lb hb x.2 y.2 W (p2.ext hX hh1) (q2.ext hX hh2)
  have HRST : Hid (r = (s && t)) := by
    unfold Hid; rw [hr, hs, ht, Bool.eq_iff_iff]; simp [Prod.ext_iff]
  have X0 : Hid (Ext w ((w.alloc (.cells #[.slice a x.1.length ca, .slice b x.2.length cb] 32)).alloc (.cells #[.slice c y.1.length cc, .slice d y.2.length cd] 32))) := ((Ext.refl w).al _).al _
  clear h1 h2 hr hs ht p1 p2 q1 q2
  go_enter Tryd.func9, Tryd.ntmps9
  go_wp2_with fail
  obtain ⟨W1, hW1⟩ : ∃ W, W = ((w.alloc (.cells #[.slice a x.1.length ca, .slice b x.2.length cb] 32)).alloc (.cells #[.slice c y.1.length cc, .slice d y.2.length cd] 32)) := ⟨_, rfl⟩
  rw [← hW1] at X0 ⊢
  have B1 : W1.heap[w.heap.size]? = some (.cells #[.slice a x.1.length ca, .slice b x.2.length cb] 32) := by rw [hW1]; exact blk_old (blk_alloc _ _)
  have B2 : W1.heap[w.heap.size + 1]? = some (.cells #[.slice c y.1.length cc, .slice d y.2.length cd] 32) := by rw [hW1]; exact blk_alloc2 _ _ _
  clear hW1
  refine (C1.out _ X0.out).mono ?_
  rintro e W2 ⟨rfl, X2⟩
  have k1 := blk_cell (X2.blk B1) (j := 1) rfl
  have k2 := blk_cell (X2.blk B2) (j := 1) rfl
  cases s
  · go_wp2
    go_ret
    exact ⟨by rw [HRST.out]; rfl, X0.out.trans X2⟩
  · cases t
    all_goals
      go_wp2_with (go_at_call 25; refine (C2.out _ (X0.out.trans X2)).mono ?_; rintro e W3 ⟨rfl, X3⟩)
      go_ret
      exact ⟨by rw [HRST.out]; rfl, (X0.out.trans X2).trans X3⟩
/-! ### Marks -/
set_option maxRecDepth 100000 in
set_option maxHeartbeats 1000000 in
theorem c_markNet (v : Value) (lo hi : Nat) (x : NetT) (c : Int) (w : World) (h : OwnNet w lo hi v x) (hh : hi ≤ w.heap.size) (hc0 : 0 ≤ c) (hc1 : c ≤ 1048576) (hn20 : x.1.length + x.2.length ≤ 1048576) :
    Calls Tryd.prog 12 #[v, .int .i64 c] w fun e w' => e = .returned (.int .i64 (c + x.1.length * 3 + x.2.length * 3)) ∧ Keep lo hi w w' := by
  obtain ⟨a, ca, b, cb, rfl, ⟨m1, m2⟩, m3, m4⟩ := h.form
  obtain ⟨vt, vl, hv, h1, h2, h3⟩ := h
  simp only [Value.agg.injEq, Array.mk.injEq, List.cons.injEq, and_true] at hv
  obtain ⟨rfl, rfl⟩ := hv
  obtain ⟨W1, hW1⟩ : ∃ W, W = (w.alloc (.cells #[.slice a x.1.length ca, .slice b x.2.length cb] 32)) := ⟨_, rfl⟩
  have X1 : Ext w W1 := by rw [hW1]; exact Ext.alloc _ _
  have B1 : W1.heap[w.heap.size]? = some (.cells #[.slice a x.1.length ca, .slice b x.2.length cb] 32) := by rw [hW1]; exact blk_alloc _ _
  have HW1 := Lib.hid hW1
  have o1 := h1.ext X1
  have o2 := h2.ext X1
  have O1 := Lib.hid o1
  have O2 := Lib.hid o2
  have H3 := Lib.hid h3
  have C1 := Lib.hid (c_markTowerS _ x.1.length lo _ c W1 o1.own hc0 (by omega) (by omega))
  obtain ⟨n, hn⟩ : ∃ n, n = x.1.length := ⟨_, rfl⟩
  obtain ⟨l, hl⟩ : ∃ n, n = x.2.length := ⟨_, rfl⟩
  clear h1 h2 h3 hW1 o1 o2
  go_enter Tryd.func12, Tryd.ntmps12
  go_wp2_with fail
  rw [← HW1.out]
  refine C1.out.mono ?_
  rintro e W2 ⟨rfl, _, gr⟩
  have HGR := Lib.hid gr
  have K2 : Keep lo hi W1 W2 := Keep.of_grown gr (fun k hk => ⟨(O1.out.own.lt k hk).1, O1.out.lt k hk⟩)
  have HK2 := Lib.hid K2
  have o2 := O2.out.own.kept gr (by
    cases hb : (Value.slice b x.2.length cb).ownBlock with
    | none => exact .inl rfl
    | some k => exact .inr (fun e => H3.out k e.symm hb))
  have B2 : W2.heap[w.heap.size]? = some (.cells #[.slice a x.1.length ca, .slice b x.2.length cb] 32) := by
    rw [gr.block w.heap.size (Array.getElem?_eq_some_iff.1 B1).1 (fun e => by have := O1.out.lt w.heap.size e.symm; omega)]; exact B1
  have k1 := blk_cell B2 (j := 1) rfl
  have C2 := Lib.hid (c_markLinkS _ x.2.length lo _ (c + x.1.length * 3) W2 o2 (by omega) (by omega) (by omega))
  clear gr K2 o2 B2
  go_wp2_with (go_at_call 32; refine C2.out.mono ?_; rintro e W3 ⟨rfl, _, gr3⟩)
  go_ret
  refine ⟨rfl, (Keep.of_ext X1).trans (HK2.out.trans (Keep.of_grown gr3 (fun k hk => ⟨(O2.out.own.lt k hk).1, O2.out.lt k hk⟩)))⟩
/-! ### Copies -/
set_option maxRecDepth 100000 in
set_option maxHeartbeats 1000000 in
theorem c_toNet (v : Value) (la ha : Nat) (x : NetT) (w : World) (h : Nets w la ha v x) (hh : ha ≤ w.heap.size) (hn20 : x.1.length + x.2.length ≤ 1048576) :
    Calls Tryd.prog 7 #[v] w fun e w' => ∃ v', e = .returned v' ∧ OwnNet w' w.heap.size w'.heap.size v' x ∧ Ext w w' := by
  obtain ⟨a, ca, b, cb, rfl, ⟨m1, m2⟩, m3, m4⟩ := h.form
  obtain ⟨p1, p2⟩ := h.parts
  have P1 := Lib.hid p1
  have P2 := Lib.hid p2
  clear h p1 p2
  go_enter Tryd.func7, Tryd.ntmps7
  go_wp2_with fail
  obtain ⟨W1, hW1⟩ : ∃ W, W = w.alloc (.cells #[.slice a x.1.length ca, .slice b x.2.length cb] 25) := ⟨_, rfl⟩
  obtain ⟨W2, hW2⟩ : ∃ W, W = W1.alloc (.cells #[.slice none 0 0, .slice none 0 0] 32) := ⟨_, rfl⟩
  obtain ⟨W3, hW3⟩ : ∃ W, W = W2.alloc (.cells #[.slice none 0 0, .slice none 0 0] 32) := ⟨_, rfl⟩
  rw [← hW1, ← hW2, ← hW3]
  have s1 : W1.heap.size = w.heap.size + 1 := by rw [hW1, size_alloc]
  have s2 : W2.heap.size = w.heap.size + 2 := by rw [hW2, size_alloc, s1]
  have s3 : W3.heap.size = w.heap.size + 3 := by rw [hW3, size_alloc, s2]
  have X : Ext w W3 := by rw [hW3, hW2, hW1]; exact (((Ext.refl w).al _).al _).al _
  have B0 : W3.heap[w.heap.size]? = some (.cells #[.slice a x.1.length ca, .slice b x.2.length cb] 25) := by
    rw [hW3]; refine blk_old ?_; rw [hW2]; refine blk_old ?_; rw [hW1]; exact blk_alloc _ _
  have B1 : W3.heap[w.heap.size + 1]? = some (.cells #[.slice none 0 0, .slice none 0 0] 32) := by
    rw [hW3]; refine blk_old ?_; rw [hW2, ← s1]; exact blk_alloc _ _
  have B2 : W3.heap[w.heap.size + 2]? = some (.cells #[.slice none 0 0, .slice none 0 0] 32) := by
    rw [hW3, ← s2]; exact blk_alloc _ _
  clear hW1 hW2 hW3 s1 s2
  refine (c_toTowerS _ la ha x.1 W3 (P1.out.ext X hh) (by omega)).mono ?_
  rintro e W4 ⟨vt, rfl, ho4, X4⟩
  obtain ⟨at_, ct, rfl, _, _, _⟩ := own_form ho4
  have b0 := X4.blk B0
  have b1 := X4.blk B1
  have b2 := X4.blk B2
  rw [s3] at ho4
  have s4 := X4.size
  rw [s3] at s4
  have k01 := blk_cell b0 (j := 1) rfl
  have k20 := blk_cell b2 (j := 0) rfl
  have f2 := blk_free b2 0
  have X04 := X.trans X4
  have HO4 := Lib.hid ho4
  clear B0 B1 B2 X X4 ho4 s3
  go_wp2_with fail
  obtain ⟨W5, hW5⟩ : ∃ W, W = W4.setCell ⟨w.heap.size + 2, 0, none⟩ (.slice at_ x.1.length ct) := ⟨_, rfl⟩
  rw [← hW5]
  have c0 : W5.heap[w.heap.size]? = some (.cells #[.slice a x.1.length ca, .slice b x.2.length cb] 25) := by rw [hW5, heap_setCell_other _ _ _ _ (by show w.heap.size ≠ w.heap.size + 2; omega)]; exact b0
  have c1 : W5.heap[w.heap.size + 1]? = some (.cells #[.slice none 0 0, .slice none 0 0] 32) := by rw [hW5, heap_setCell_other _ _ _ _ (by show w.heap.size + 1 ≠ w.heap.size + 2; omega)]; exact b1
  have c2 : W5.heap[w.heap.size + 2]? = some (.cells #[.slice at_ x.1.length ct, .slice none 0 0] 32) := by rw [hW5, heap_setCell_same _ _ _ _ _ _ b2]; rfl
  have X05 : Ext w W5 := by rw [hW5]; exact X04.st (by dsimp only; omega) _
  have s5 : W5.heap.size = W4.heap.size := by rw [hW5]; simp [World.setCell]
  have ho5 : W5.ownsRow (w.heap.size + 3) 51 3 (.slice at_ x.1.length ct) x.1.length (x.1.flatMap encTower) := by
    rw [hW5]; exact ownsRow_setCell_below HO4.out (by dsimp only; omega) _
  clear hW5 b0 b1 b2 k01 k20 f2 X04 HO4
  refine (c_toLinkS _ la ha x.2 W5 (P2.out.ext X05 hh) (by omega)).mono ?_
  rintro e W6 ⟨vl, rfl, ho6, X6⟩
  obtain ⟨al_, cl, rfl, _, _, _⟩ := own_form ho6
  have b1 := X6.blk c1
  have b2 := X6.blk c2
  have k10 := blk_cell b1 (j := 0) rfl
  have k11 := blk_cell b1 (j := 1) rfl
  have k20 := blk_cell b2 (j := 0) rfl
  have k21 := blk_cell b2 (j := 1) rfl
  have f1 := fun j => blk_free b1 j
  have f2 := fun j => blk_free b2 j
  have X06 := X05.trans X6
  have HO4 := Lib.hid (own_ext ho5 X6)
  have HO6 := Lib.hid ho6
  have HD : Hid (∀ k, (Value.slice at_ x.1.length ct).ownBlock = some k → (Value.slice al_ x.2.length cl).ownBlock ≠ some k) := fun k hk hk2 => by
    have := (ho5.lt k hk).2
    have := (ho6.lt k hk2).1
    omega
  have HB1 := Lib.hid b1
  have HB2 := Lib.hid b2
  have s6 := X6.size
  clear c0 c1 c2 b1 b2 X05 X6 ho5 ho6
  go_wp2
  refine bodyPost_ret (v := .agg #[.slice at_ x.1.length ct, .slice al_ x.2.length cl]) (by simp [results, Tryd.results7, go_sem, *]) rfl ⟨_, rfl, ⟨_, _, rfl, ?_, ?_, HD.out⟩, ?_⟩
  · refine OwnG.mono (lo := w.heap.size + 3) (OwnG.of ?_) (by omega) (Nat.le_refl _)
    repeat (with_reducible refine ownsRow_setCell_below ?_ (by dsimp only; omega) _)
    exact HO4.out
  · refine OwnG.mono (lo := W5.heap.size) (OwnG.of ?_) (by omega) (Nat.le_refl _)
    repeat (with_reducible refine ownsRow_setCell_below ?_ (by dsimp only; omega) _)
    exact HO6.out
  · repeat (with_reducible refine Ext.st ?_ (by dsimp only; omega) _)
    exact X06
end Go.Proofs.YtmaaeemhbccpcaaDoor
