


/- BridgesOf of the program and of the reference: their contracts. -/
import Derived.Test.YtmaaeemhbccpcaaGreatDoorSubP
import Derived.Test.YtmaaeemhbccpcaaGreatDoorGG
import Derived.Test.YtmaaeemhbccpcaaGreatDoorReachS
import Derived.Test.YtmaaeemhbccpcaaGreatDoorReachI
namespace Go.Proofs.YtmaaeemhbccpcaaGreatDoor
open Go.RowKit
set_option maxRecDepth 100000 in
set_option maxHeartbeats 8000000 in
theorem c_reachBut (v : Value) (la ha : Nat) (x : NetT) (i : Int) (V : List Int) (bk : Nat) (u : Nat → Bool) (L' : List LinkT) (w : World) (h : Nets w la ha v x) (hn : netB x = true) (hi0 : 0 ≤ i) (hi1 : i < (x.1.length : Int))
    (hu : ∀ W (k : Nat), Ext w W → k < x.2.length → Calls Tryz.prog 34 #[.int .i64 k, .pointer (some ⟨bk, 0, none⟩)] W fun e w' => e = .returned (.bool (u k)) ∧ Ext W w')
    (hL' : ∀ y, y ∈ L' ↔ ∃ k, x.2[k]? = some y ∧ u k = true) (hV : IsReach x.1.length L' i V) :
    Calls Tryz.prog 33 #[v, .int .i64 i, .func (.func 34) #[] #[.pointer (some ⟨bk, 0, none⟩)]] w fun e w' => ∃ r, e = .returned r ∧ w'.ownsRow w.heap.size 3 1 r V.length (V.flatMap encI) ∧ Ext w w' := by
  obtain ⟨i0, hi0', hz0', hz1, hz2⟩ := info_parts Tryz.info_intC2
  obtain ⟨j0, hj0, hy0, hy1, hy2⟩ := info_parts Tryz.info_bool
  obtain ⟨ii, rfl⟩ := Int.eq_ofNat_of_zero_le hi0
  have hm16 : x.1.length ≤ 16 := by
    have h1 := hn
    simp only [netB, Bool.and_eq_true] at h1
    have := (inB_t h1.1).2; omega
  have HLK := Lib.hid (netB_links hn)
  have HV := Lib.hid hV
  have HU := Lib.hid hu
  have HL' := Lib.hid hL'
  obtain ⟨a, ca, b, cb, rfl, ⟨m1, m2⟩, m3, m4⟩ := h.form
  have HL := Lib.hid h.parts.2
  obtain ⟨m, hm⟩ : ∃ n, n = x.1.length := ⟨_, rfl⟩
  obtain ⟨l, hl⟩ : ∃ n, n = x.2.length := ⟨_, rfl⟩
  rw [← hm] at m1 hi1 hm16 HLK HV ⊢
  rw [← hl] at m3 HL HU ⊢
  have HM := Lib.hid hm
  have HLL := Lib.hid hl
  have him : ii < m := by omega
  clear h hm hl hn hV hu hL'
  go_enter Tryz.func33, Tryz.ntmps33
  go_wp2_with (at_make; refine wpList_make_full _ rfl _ _ 91 rfl (w.heap.size + 1) 4 j0 (.bool false) 1 Tryz.underlying91 hj0 hy0 hy1 _ _ _ _ m rfl rfl rfl rfl (by rw [hy2]; omega) (by unfold maxLen; omega) (by simp) ?_; intro w1 hown hgrow; rw [made_bools] at hown; rw [size_alloc] at hown ⊢; have hse : (List.replicate m false)[ii]? = some false := (by simp [him]); have e0 := own_cellB hown hse him; have z0 := hown.frozenAt ii; have HO1 := Lib.hid hown; have HG1 := Lib.hid hgrow; clear hse hown hgrow)
  obtain ⟨w2, hw2⟩ : ∃ W, W = w1.setCell ⟨w.heap.size + 1, ii, none⟩ (.bool true) := ⟨_, rfl⟩
  rw [← hw2]
  have X1 : Ext w w1 := (Ext.alloc w _).gr HG1.out (by simp)
  have B1 : w1.heap[w.heap.size]? = some (.cells #[.slice a m ca, .slice b l cb] 27) := by
    rw [HG1.out.block w.heap.size (by simp) (by simp)]; exact blk_alloc _ _
  have X2 : Ext w w2 := by rw [hw2]; exact X1.st (by dsimp only; omega) _
  have B2 : Hid (w2.heap[w.heap.size]? = some (.cells #[.slice a m ca, .slice b l cb] 27)) := by
    unfold Hid; rw [hw2, heap_setCell_other _ _ _ _ (by show w.heap.size ≠ w.heap.size + 1; omega)]; exact B1
  have O2 : Hid (w2.ownsRow (w.heap.size + 1) 4 1 (.slice (some ⟨w.heap.size + 1, 0, none⟩) m m) m (((List.replicate m false).set ii true).flatMap encB)) := by
    unfold Hid; rw [hw2]; exact own_setB HO1.out ii true
  have hS0 : Hid (SndB L' ii ((List.replicate m false).set ii true)) := by
    refine SndB.set (fun k hk => ?_) (ReachL.self _ _)
    rw [List.getElem?_replicate] at hk
    split at hk <;> simp at hk
  have hI0 : Hid (((List.replicate m false).set ii true).getD ii false = true) := by
    unfold Hid; rw [List.getD_eq_getElem?_getD, List.getElem?_set_self (by simp [him])]; rfl
  have hN0 : nF ((List.replicate m false).set ii true) + 1 ≤ m + 1 := by
    have := nF_le ((List.replicate m false).set ii true); simp at this; omega
  clear hw2 X1 B1 e0 z0 HO1 HG1
  go_loopg [8] (m + 1) (fun gg tg wr => ∃ (S : List Bool) (gr : Bool), tg = .bool gr ∧ wr.ownsRow (w.heap.size + 1) 4 1 (.slice (some ⟨w.heap.size + 1, 0, none⟩) m m) m (S.flatMap encB) ∧ nF S + (if gr then 1 else 0) ≤ gg ∧ Hid (SndB L' ii S) ∧ Hid (S.getD ii false = true) ∧
      Hid (gr = false → ∀ y ∈ L', S.getD y.1.toNat false = S.getD y.2.1.toNat false) ∧ Hid (wr.heap[w.heap.size]? = some (.cells #[.slice a m ca, .slice b l cb] 27)) ∧ Ext w wr)
  case atStart => exact ⟨_, true, rfl, O2.out, by simpa using hN0, hS0.out, hI0.out, (fun e => by cases e), B2.out, X2⟩
  case round =>
    obtain ⟨S, gr, rfl, hown, hgg, hS, hI, hC, HB, hx⟩ := hrel
    obtain ⟨wo, hwo⟩ : ∃ W, W = wr := ⟨_, rfl⟩
    subst hwo
    have hSl : S.length = m := by have := hown.1; rw [flat_mapB, List.length_map] at this; omega
    have HSL := Lib.hid hSl
    have HOWN := Lib.hid hown
    have HGG := Lib.hid hgg
    clear hSl hown hgg
    have n0 : wo.cell? ⟨w.heap.size, 0, none⟩ = some (.slice a m ca) := blk_cell HB.out (j := 0) rfl
    have n1 : wo.cell? ⟨w.heap.size, 1, none⟩ = some (.slice b l cb) := blk_cell HB.out (j := 1) rfl
    cases gr
    · have HSZ := Lib.hid hx.size
      go_wp2
      clear n0 n1
      go_loopw [11, 57] (fun vr tk wr3 => ∃ (k : Nat) (R : List Int), k ≤ m ∧ tk = .int .i64 k ∧ wr3.ownsRow wo.heap.size 3 1 vr R.length (R.flatMap encI) ∧ Hid (R = fupto (fun j => S.getD j false) k) ∧ Ext wo wr3) (fun _ tk _ => m - (intOf tk).toNat)
      case atStart => exact ⟨0, [], by omega, rfl, World.ownsRow_nil _ _ _ _, rfl, Ext.refl _⟩
      case round =>
        obtain ⟨k, R, hk, rfl, hown3, hR, hx3⟩ := hrel
        by_cases hlt : k < m
        · obtain ⟨s, hs⟩ : ∃ s, S[k]? = some s := ⟨_, List.getElem?_eq_getElem (by rw [HSL.out]; exact hlt)⟩
          have e0 := hx3.cell (own_cellB HOWN.out hs hlt)
          have hltI : (k : Int) < (m : Int) := by omega
          have hRl := fupto_len (fun j => S.getD j false) k
          rw [← hR.out] at hRl
          have hsn : Hid (fupto (fun j => S.getD j false) (k + 1) = R ++ (if s then [(k : Int)] else [])) := by
            unfold Hid
            rw [show fupto (fun j => S.getD j false) (k + 1) = fupto (fun j => S.getD j false) k ++ (if S.getD k false then [(k : Int)] else []) from rfl, ← hR.out, getD_of hs]
          have HO3 := Lib.hid hown3
          clear hs hown3
          cases s
          · go_wp2
            go_roundw
            case rel => exact ⟨k + 1, R, by omega, by go_num, HO3.out, (by unfold Hid; rw [hsn.out]; simp), hx3⟩
            case measure => simp [intOf]; omega
          · go_wp2_with (at_builtin; refine wpList_append_own _ rfl _ _ 31 rfl wo.heap.size 3 i0 (.int .i64 0) 1 8 Tryz.underlying31 hi0' hz0' hz1 hz2 rfl (by decide) _ _ _ rfl (HO3.out.alloc _) ⟨wr.heap.size, 0, none⟩ 1 1 [.int .i64 (k : Int)] rfl rfl (new_cells1 _ _ _) (by intro u hu; simp at hu; subst hu; rfl) (by unfold maxLen; omega) (by omega) (by have := hx3.size; simp; omega) ?_; intro v3 w6 hown4 hgrow4 _)
            go_roundw
            case rel => exact ⟨k + 1, _, by omega, by go_num, own_push hown4, (by unfold Hid; rw [hsn.out]; rfl), hx3.push HO3.out hgrow4 (Nat.le_refl _)⟩
            case measure => simp [intOf]; omega
        · have hge : ¬ ((k : Int) < (m : Int)) := by omega
          have hkm : k = m := by omega
          have HRV : Hid (R = V) := by
            unfold Hid
            rw [hR.out, hkm]
            exact seen_reach HV.out HSL.out (by rw [Int.toNat_natCast]; exact hI.out) hS.out (hC.out (by trivial))
          have HO := Lib.hid hown3
          obtain ⟨a9, c9, rfl, _, _, _⟩ := own_form hown3
          clear hown3 hkm
          go_wp2
          go_ret
          refine ⟨_, rfl, ?_, hx.trans hx3⟩
          rw [← HRV.out]
          exact own_mono HO.out HSZ.out
    · go_wp2
      clear n0 n1
      go_loopw [8, 25] (fun tg tk wr2 => ∃ (k : Nat) (S2 : List Bool) (g2 : Bool), k ≤ l ∧ tk = .int .i64 k ∧ tg = .bool g2 ∧ wr2.ownsRow (w.heap.size + 1) 4 1 (.slice (some ⟨w.heap.size + 1, 0, none⟩) m m) m (S2.flatMap encB) ∧ Hid (nF S2 + (if g2 then 1 else 0) ≤ nF S) ∧ Hid (SndB L' ii S2) ∧ Hid (S2.getD ii false = true) ∧
          Hid (g2 = false → ∀ (q : Nat) y, q < k → x.2[q]? = some y → u q = true → S2.getD y.1.toNat false = S2.getD y.2.1.toNat false) ∧ Hid (wr2.heap[w.heap.size]? = some (.cells #[.slice a m ca, .slice b l cb] 27)) ∧ Ext w wr2) (fun _ tk _ => l - (intOf tk).toNat)
      case atStart => exact ⟨0, S, false, by omega, rfl, rfl, HOWN.out, by simp [Hid], hS.out, hI.out, (fun _ q y h => by omega), HB.out, hx⟩
      case round =>
        obtain ⟨k, S2, g2, hk, rfl, rfl, hown2, hnf, hS2, hI2, hC2, HB2, hx2⟩ := hrel
        have hS2l : S2.length = m := by have := hown2.1; rw [flat_mapB, List.length_map] at this; omega
        have HO2 := Lib.hid hown2
        clear hown2
        by_cases hlt : k < l
        · obtain ⟨b9, o9, y, rfl, hy, c0, c1, c2⟩ := Links_at HL.out hlt
          have hlk := HLK.out y (List.mem_of_getElem? hy.out)
          simp only [lkB, Bool.and_eq_true, decide_eq_true_eq] at hlk
          obtain ⟨l1, l2, l3, _⟩ := hlk
          obtain ⟨y1, y2, y3⟩ := y
          simp only at l1 l2 l3 c0 c1 c2
          obtain ⟨p, rfl⟩ := Int.eq_ofNat_of_zero_le l1
          obtain ⟨q, rfl⟩ := Int.eq_ofNat_of_zero_le (show 0 ≤ y2 by omega)
          have hpm : p < m := by omega
          have hqm : q < m := by omega
          have hpq : p ≠ q := by omega
          obtain ⟨s1, hs1⟩ : ∃ s, S2[p]? = some s := ⟨_, List.getElem?_eq_getElem (by omega)⟩
          obtain ⟨s2, hs2⟩ : ∃ s, S2[q]? = some s := ⟨_, List.getElem?_eq_getElem (by omega)⟩
          have C0 := hx2.cell c0
          have C1 := hx2.cell c1
          have C2 := hx2.cell c2
          obtain ⟨t, ht⟩ : ∃ t, t = u k := ⟨_, rfl⟩
          have CU : Hid (∀ W, Ext w W → Calls Tryz.prog 34 #[.int .i64 k, .pointer (some ⟨bk, 0, none⟩)] W fun e w' => e = .returned (.bool t) ∧ Ext W w') := fun W hX => by rw [ht]; exact HU.out W k hX hlt
          have HT := Lib.hid ht
          have HS1 := Lib.hid hs1
          have HS2 := Lib.hid hs2
          have hltI : (k : Int) < (l : Int) := by omega
          have hpI : (p : Int) < (m : Int) := by omega
          have hqI : (q : Int) < (m : Int) := by omega
          have HCN : Hid (∀ S3 : List Bool, S3.getD p false = S3.getD q false ∨ t = false → (g2 = false → ∀ (q' : Nat) y, q' < k → x.2[q']? = some y → u q' = true → S3.getD y.1.toNat false = S3.getD y.2.1.toNat false) →
              g2 = false → ∀ (q' : Nat) y, q' < k + 1 → x.2[q']? = some y → u q' = true → S3.getD y.1.toNat false = S3.getD y.2.1.toNat false) := fun S3 h1 h2 h3 q' y' hq' hy' hu' => by
            by_cases e : q' = k
            · subst e
              rw [hy.out] at hy'
              simp only [Option.some.injEq] at hy'
              subst hy'
              rcases h1 with h1 | h1
              · simpa using h1
              · rw [← HT.out, h1] at hu'; cases hu'
            · exact h2 h3 q' y' (by omega) hy' hu'
          have HYL : Hid (t = true → (((p : Nat) : Int), ((q : Nat) : Int), y3) ∈ L') := fun e => (HL'.out _).2 ⟨k, hy.out, by rw [← HT.out]; exact e⟩
          clear c0 c1 c2 ht hs1 hs2 l1 l2 l3
          go_wp2
          obtain ⟨w5, hw5⟩ : ∃ W, W = wr.alloc (.cells #[.int .i64 (p : Int), .int .i64 (q : Int), .int .i64 y3] 42) := ⟨_, rfl⟩
          rw [← hw5]
          have BL : w5.heap[wr.heap.size]? = some (.cells #[.int .i64 (p : Int), .int .i64 (q : Int), .int .i64 y3] 42) := by rw [hw5]; exact blk_alloc _ _
          have X5 : Ext wr w5 := by rw [hw5]; exact Ext.alloc _ _
          have HB5 := Lib.hid (X5.blk HB2.out)
          have HO5 := Lib.hid (own_ext HO2.out X5)
          have HBL := Lib.hid BL
          have hsz2 := hx2.size
          have hbig : w.heap.size + 1 < wr.heap.size := (HO2.out.lt (w.heap.size + 1) rfl).2
          have g0 := XT.cell (blk_cell BL (j := 0) rfl)
          have g1 := XT.cell (blk_cell BL (j := 1) rfl)
          have f0 := XT.cell (own_cellB HO5.out HS1.out hpm)
          have f1 := XT.cell (own_cellB HO5.out HS2.out hqm)
          have XW := hx2.trans X5
          clear hw5 BL C0 C1 C2
          by_cases hne : s1 = s2
          · subst hne
            cases s1
            · refine region_ext (by kernel_rfl) (by kernel_rfl) ?_
              repeat (go_big_quiet_step (fail))
              refine wpQuiet_nil ?_
              intro wq hxq
              go_wp2
              go_roundw
              case rel => exact ⟨k + 1, S2, g2, by omega, by go_num, rfl, own_ext HO5.out hxq, hnf.out, hS2.out, hI2.out, HCN.out S2 (.inl (by rw [getD_of HS1.out, getD_of HS2.out])) hC2.out, hxq.blk HB5.out, XW.trans hxq⟩
              case measure => simp [intOf]; omega
            · refine region_ext (by kernel_rfl) (by kernel_rfl) ?_
              repeat (go_big_quiet_step (fail))
              refine wpQuiet_nil ?_
              intro wq hxq
              go_wp2
              go_roundw
              case rel => exact ⟨k + 1, S2, g2, by omega, by go_num, rfl, own_ext HO5.out hxq, hnf.out, hS2.out, hI2.out, HCN.out S2 (.inl (by rw [getD_of HS1.out, getD_of HS2.out])) hC2.out, hxq.blk HB5.out, XW.trans hxq⟩
              case measure => simp [intOf]; omega
          · have HNE := Lib.hid hne
            cases t
            · cases s1
              · cases s2
                · exact absurd rfl HNE.out
                · clear hne
                  refine region_ext (by kernel_rfl) (by kernel_rfl) ?_
                  repeat (go_big_quiet_step ((go_at_call 34; refine Calls.ext_of (CU.out _ (XW.trans (XT.prop _))))))
                  refine wpQuiet_nil ?_
                  intro wq hxq
                  go_wp2
                  go_roundw
                  case rel => exact ⟨k + 1, S2, g2, by omega, by go_num, rfl, own_ext HO5.out hxq, hnf.out, hS2.out, hI2.out, HCN.out S2 (.inr rfl) hC2.out, hxq.blk HB5.out, XW.trans hxq⟩
                  case measure => simp [intOf]; omega
              · cases s2
                · clear hne
                  refine region_ext (by kernel_rfl) (by kernel_rfl) ?_
                  repeat (go_big_quiet_step ((go_at_call 34; refine Calls.ext_of (CU.out _ (XW.trans (XT.prop _))))))
                  refine wpQuiet_nil ?_
                  intro wq hxq
                  go_wp2
                  go_roundw
                  case rel => exact ⟨k + 1, S2, g2, by omega, by go_num, rfl, own_ext HO5.out hxq, hnf.out, hS2.out, hI2.out, HCN.out S2 (.inr rfl) hC2.out, hxq.blk HB5.out, XW.trans hxq⟩
                  case measure => simp [intOf]; omega
                · exact absurd rfl HNE.out
            · cases s1
              · cases s2
                · exact absurd rfl HNE.out
                · clear hne
                  refine region_ext (by kernel_rfl) (by kernel_rfl) ?_
                  repeat (go_big_quiet_step ((go_at_call 34; refine Calls.ext_of (CU.out _ (XW.trans (XT.prop _))))))
                  refine wpQuiet_nil ?_
                  intro wq hxq
                  have oq := own_ext HO5.out hxq
                  have bq := hxq.blk HBL.out
                  have b6 : (wq.setCell ⟨w.heap.size + 1, p, none⟩ (.bool true)).heap[wr.heap.size]? = some (.cells #[.int .i64 (p : Int), .int .i64 (q : Int), .int .i64 y3] 42) := by
                    rw [heap_setCell_other _ _ _ _ (by show wr.heap.size ≠ w.heap.size + 1; omega)]; exact bq
                  have k0 := blk_cell bq (j := 0) rfl
                  have k1 := blk_cell bq (j := 1) rfl
                  have m0 := blk_cell b6 (j := 0) rfl
                  have m1 := blk_cell b6 (j := 1) rfl
                  have z0 := fun j => oq.frozenAt j
                  have o6 := own_setB oq p true
                  have z1 := fun j => o6.frozenAt j
                  have e0 := own_cellB oq HS1.out hpm
                  have e1 := own_cellB oq HS2.out hqm
                  have e2 := own_cellB o6 (j := q) (by rw [List.getElem?_set_ne hpq]; exact HS2.out) hqm
                  have HO7 := Lib.hid (own_ext (own_setB o6 q true) (Ext.drew _))
                  have HX7 := Lib.hid ((((XW.trans hxq).st (p := ⟨w.heap.size + 1, p, none⟩) (by dsimp only; omega) (.bool true)).st (p := ⟨w.heap.size + 1, q, none⟩) (by dsimp only; omega) (.bool true)).trans (Ext.drew _))
                  have HB7 : Hid ((((wq.setCell ⟨w.heap.size + 1, p, none⟩ (.bool true)).setCell ⟨w.heap.size + 1, q, none⟩ (.bool true)).drew).heap[w.heap.size]? = some (.cells #[.slice a m ca, .slice (some ⟨b9, o9, none⟩) l cb] 27)) := by
                    unfold Hid
                    refine (Ext.drew _).blk ?_
                    rw [heap_setCell_other _ _ _ _ (by show w.heap.size ≠ w.heap.size + 1; omega), heap_setCell_other _ _ _ _ (by show w.heap.size ≠ w.heap.size + 1; omega)]
                    exact hxq.blk HB5.out
                  have HN7 : Hid (nF ((S2.set p true).set q true) + 1 ≤ nF S) := Nat.le_trans (nF_two HS1.out HS2.out hpq HNE.out) (Nat.le_trans (Nat.le_add_right _ _) hnf.out)
                  have HS7 : Hid (SndB L' ii ((S2.set p true).set q true)) := hS2.out.two HS1.out HS2.out HNE.out (HYL.out rfl)
                  clear oq bq b6 o6 f0 f1 g0 g1
                  go_wp2_with fail
                  go_region
                  go_wp2
                  go_roundw
                  case rel => exact ⟨k + 1, (S2.set p true).set q true, true, by omega, by go_num, rfl, HO7.out, HN7.out, HS7.out, getD_keep (getD_keep hI2.out), (fun e => by cases e), HB7.out, HX7.out⟩
                  case measure => simp [intOf]; omega
              · cases s2
                · clear hne
                  refine region_ext (by kernel_rfl) (by kernel_rfl) ?_
                  repeat (go_big_quiet_step ((go_at_call 34; refine Calls.ext_of (CU.out _ (XW.trans (XT.prop _))))))
                  refine wpQuiet_nil ?_
                  intro wq hxq
                  have oq := own_ext HO5.out hxq
                  have bq := hxq.blk HBL.out
                  have b6 : (wq.setCell ⟨w.heap.size + 1, p, none⟩ (.bool true)).heap[wr.heap.size]? = some (.cells #[.int .i64 (p : Int), .int .i64 (q : Int), .int .i64 y3] 42) := by
                    rw [heap_setCell_other _ _ _ _ (by show wr.heap.size ≠ w.heap.size + 1; omega)]; exact bq
                  have k0 := blk_cell bq (j := 0) rfl
                  have k1 := blk_cell bq (j := 1) rfl
                  have m0 := blk_cell b6 (j := 0) rfl
                  have m1 := blk_cell b6 (j := 1) rfl
                  have z0 := fun j => oq.frozenAt j
                  have o6 := own_setB oq p true
                  have z1 := fun j => o6.frozenAt j
                  have e0 := own_cellB oq HS1.out hpm
                  have e1 := own_cellB oq HS2.out hqm
                  have e2 := own_cellB o6 (j := q) (by rw [List.getElem?_set_ne hpq]; exact HS2.out) hqm
                  have HO7 := Lib.hid (own_ext (own_setB o6 q true) (Ext.drew _))
                  have HX7 := Lib.hid ((((XW.trans hxq).st (p := ⟨w.heap.size + 1, p, none⟩) (by dsimp only; omega) (.bool true)).st (p := ⟨w.heap.size + 1, q, none⟩) (by dsimp only; omega) (.bool true)).trans (Ext.drew _))
                  have HB7 : Hid ((((wq.setCell ⟨w.heap.size + 1, p, none⟩ (.bool true)).setCell ⟨w.heap.size + 1, q, none⟩ (.bool true)).drew).heap[w.heap.size]? = some (.cells #[.slice a m ca, .slice (some ⟨b9, o9, none⟩) l cb] 27)) := by
                    unfold Hid
                    refine (Ext.drew _).blk ?_
                    rw [heap_setCell_other _ _ _ _ (by show w.heap.size ≠ w.heap.size + 1; omega), heap_setCell_other _ _ _ _ (by show w.heap.size ≠ w.heap.size + 1; omega)]
                    exact hxq.blk HB5.out
                  have HN7 : Hid (nF ((S2.set p true).set q true) + 1 ≤ nF S) := Nat.le_trans (nF_two HS1.out HS2.out hpq HNE.out) (Nat.le_trans (Nat.le_add_right _ _) hnf.out)
                  have HS7 : Hid (SndB L' ii ((S2.set p true).set q true)) := hS2.out.two HS1.out HS2.out HNE.out (HYL.out rfl)
                  clear oq bq b6 o6 f0 f1 g0 g1
                  go_wp2_with fail
                  go_region
                  go_wp2
                  go_roundw
                  case rel => exact ⟨k + 1, (S2.set p true).set q true, true, by omega, by go_num, rfl, HO7.out, HN7.out, HS7.out, getD_keep (getD_keep hI2.out), (fun e => by cases e), HB7.out, HX7.out⟩
                  case measure => simp [intOf]; omega
                · exact absurd rfl HNE.out
        · have hge : ¬ ((k : Int) < (l : Int)) := by omega
          have hkl : k = l := by omega
          have HCC : Hid (g2 = false → ∀ y ∈ L', S2.getD y.1.toNat false = S2.getD y.2.1.toNat false) := fun e y hy => by
            obtain ⟨q', h1, h2⟩ := (HL'.out y).1 hy
            refine hC2.out e q' y ?_ h1 h2
            have h3 := (List.getElem?_eq_some_iff.1 h1).1
            rw [← HLL.out] at h3; omega
          clear hkl
          have h1 : nF S + 1 ≤ _ := HGG.out
          have hms := Nat.lt_of_lt_of_le (Nat.lt_succ_of_le hnf.out) h1
          clear h1
          have HMS := Lib.hid hms
          clear hms
          go_wp2
          go_roundg (nF S2 + (if g2 then 1 else 0))
          case measure => exact HMS.out
          case rel => exact ⟨S2, g2, rfl, HO2.out, Nat.le_refl _, hS2.out, hI2.out, HCC.out, HB2.out, hx2⟩
set_option maxRecDepth 100000 in
theorem c_butFn (j : Int) (bk : Nat) (k : Int) (w : World) (h : w.cell? ⟨bk, 0, none⟩ = some (.int .i64 k)) :
    Calls Tryz.prog 34 #[.int .i64 j, .pointer (some ⟨bk, 0, none⟩)] w fun e w' => e = .returned (.bool (j != k)) ∧ Ext w w' := by
  go_enter Tryz.func34, Tryz.ntmps34
  go_wp2
  go_ret
  exact ⟨rfl, Ext.refl _⟩
/-- All links but one. -/
def butL (L : List LinkT) (k : Nat) : List LinkT := L.take k ++ L.drop (k + 1)
theorem butL_net {x : NetT} (h : netB x = true) (k : Nat) : netB (x.1, butL x.2 k) = true := netB_sub h (dropOne_sub x.2 k)
/-- Is link k one without which its ends are apart? -/
def BrF (x : NetT) (f : Nat → Bool) : Prop := ∀ k y, x.2[k]? = some y → ∃ V, IsReach x.1.length (butL x.2 k) y.1 V ∧ f k = !V.contains y.2.1
theorem exists_br (x : NetT) : ∃ f, BrF x f := by
  classical
  refine ⟨fun k => match x.2[k]? with | some y => !(Classical.choose (exists_reach x.1.length (butL x.2 k) y.1)).contains y.2.1 | none => false, fun k y hy => ?_⟩
  refine ⟨_, Classical.choose_spec (exists_reach x.1.length (butL x.2 k) y.1), ?_⟩
  simp only [hy]
theorem info_emptyL (w : World) : (w.alloc (.cells #[] 42)).ownsRow w.heap.size 42 3 (.slice (some ⟨w.heap.size, 0, none⟩) 0 0) 0 ([] : List Value) := own_lit3 w _
theorem grown_old {W w7 : World} {row : Option Nat} (hg : W.grownBy w7 row) {b : Nat} {o : Obj} (hb : W.heap[b]? = some o) (hr : row ≠ some b) : w7.heap[b]? = some o := by
  rw [hg.block b (Array.getElem?_eq_some_iff.1 hb).1 (fun e => hr e.symm)]; exact hb
theorem without_S {W : World} {b1 : Nat} {x y : Value} {t : TypeId} (h1 : W.heap[b1]? = some (.cells #[x, y] t (0, 0))) : W.cell? ⟨b1, 0, none⟩ = some x ∧ W.cell? ⟨b1, 1, none⟩ = some y :=
  ⟨blk_cell h1 (j := 0) rfl, blk_cell h1 (j := 1) rfl⟩
theorem without_S2 {W : World} {b1 b2 : Nat} {x y u z : Value} {t : TypeId} (h1 : W.heap[b1]? = some (.cells #[x, y] t (0, 0))) (hne : b1 ≠ b2) :
    ((W.setCell ⟨b2, 0, none⟩ u).setCell ⟨b2, 1, none⟩ z).cell? ⟨b1, 0, none⟩ = some x ∧ ((W.setCell ⟨b2, 0, none⟩ u).setCell ⟨b2, 1, none⟩ z).cell? ⟨b1, 1, none⟩ = some y :=
  without_S (t := t) (by rw [heap_setCell_other _ _ _ _ hne, heap_setCell_other _ _ _ _ hne]; exact h1)
set_option maxRecDepth 100000 in
set_option maxHeartbeats 4000000 in
theorem c_neWithout (v : Value) (la ha : Nat) (x : NetT) (k : Nat) (w : World) (h : Nets w la ha v x) (hh : ha ≤ w.heap.size) (hk : k < x.2.length) (hl40 : x.2.length ≤ 40) :
    Calls Tryz.prog 37 #[v, .int .i64 k] w fun e w' => ∃ v', e = .returned v' ∧ Nets w' 0 w'.heap.size v' (x.1, butL x.2 k) ∧ Ext w w' := by
  obtain ⟨l0, hl0, hlz0, hlz1, hlz2⟩ := info_parts Tryz.info_link
  obtain ⟨a, ca, b, cb, rfl, ⟨m1, m2⟩, m3, m4⟩ := h.form
  obtain ⟨p1, p2⟩ := h.parts
  obtain ⟨T, L⟩ := x
  simp only at m1 m3 hk hl40 p1 p2 ⊢
  have HT := Lib.hid p1
  have HL := Lib.hid p2
  obtain ⟨b9, o9, y9, rfl, _, _, _, _⟩ := Links_at p2 hk
  obtain ⟨m, hm⟩ : ∃ n, n = T.length := ⟨_, rfl⟩
  obtain ⟨l, hl⟩ : ∃ n, n = L.length := ⟨_, rfl⟩
  rw [← hm] at m1 HT ⊢
  rw [← hl] at m3 HL hk hl40 ⊢
  have HM := Lib.hid hm
  have HLL := Lib.hid hl
  clear h p1 p2 hm hl
  obtain ⟨n1, hn1⟩ : ∃ n, n = (L.take k).flatMap encLink := ⟨_, rfl⟩
  obtain ⟨n2, hn2⟩ : ∃ n, n = (L.drop (k + 1)).flatMap encLink := ⟨_, rfl⟩
  have hlen1 : n1.length = k * 3 := by rw [hn1, flat_len encLink_len, List.length_take]; rw [← HLL.out]; congr 1; omega
  have hlen2 : n2.length = (l - (k + 1)) * 3 := by rw [hn2, flat_len encLink_len, List.length_drop, ← HLL.out]
  have hsrc := row_src encLink_len HL.out (by omega)
  have hs1 : Hid (∀ W, Ext w W → ∀ t u, n1[t]? = some u → W.cell? ((⟨b9, o9, none⟩ : Addr).add t) = some u) := fun W hX t u hu => by
    rw [add_lit1]
    refine hX.cell (hsrc t u ?_)
    rw [hn1, flat_take encLink_len, List.getElem?_take] at hu
    split at hu
    · exact hu
    · cases hu
  obtain ⟨A, hA, hs2⟩ : ∃ A : Addr, (if cb = k + 1 then some (⟨b9, o9, none⟩ : Addr) else some ⟨b9, o9 + (k + 1) * 3, none⟩) = some A ∧ Hid (∀ W, Ext w W → ∀ t u, n2[t]? = some u → W.cell? (A.add t) = some u) := by
    by_cases hcp : cb = k + 1
    · refine ⟨⟨b9, o9, none⟩, by simp [hcp], fun W hX t u hu => ?_⟩
      have h0 : n2.length = 0 := by rw [hlen2]; omega
      rw [List.length_eq_zero_iff.1 h0] at hu
      simp at hu
    · refine ⟨⟨b9, o9 + (k + 1) * 3, none⟩, by simp [hcp], fun W hX t u hu => ?_⟩
      rw [add_lit1]
      have e1 : o9 + (k + 1) * 3 + t = o9 + ((k + 1) * 3 + t) := by omega
      rw [e1]
      refine hX.cell (hsrc _ u ?_)
      rw [hn2, flat_drop encLink_len, List.getElem?_drop] at hu
      exact hu
  have o1 : Hid (∀ u ∈ n1, u.oneCell' = true) := by unfold Hid; rw [hn1]; exact encLink_one _
  have o2 : Hid (∀ u ∈ n2, u.oneCell' = true) := by unfold Hid; rw [hn2]; exact encLink_one _
  have HN : Hid (n1 ++ n2 = (butL L k).flatMap encLink) := by unfold Hid butL; rw [hn1, hn2, List.flatMap_append]
  have HBL : Hid ((butL L k).length = k + (l - (k + 1))) := by unfold Hid butL; rw [List.length_append, List.length_take, List.length_drop, ← HLL.out]; omega
  have H1 := Lib.hid hlen1
  have H2 := Lib.hid hlen2
  have hkc : k ≤ cb := by omega
  have hkI : (k : Int) ≤ (l : Int) := by omega
  have hkI2 : (k : Int) + 1 ≤ (l : Int) := by omega
  have hwr : IntKind.i64.wrap ((k : Int) + 1) = (k : Int) + 1 := by rw [IntKind.wrap_i64]; omega
  have hp0 : (0 : Int) ≤ (k : Int) + 1 := by omega
  have hp2 : ((k : Int) + 1).toNat = k + 1 := by omega
  clear hlen1 hlen2 hsrc hn1 hn2
  go_enter Tryz.func37, Tryz.ntmps37
  go_wp2_with fail
  obtain ⟨W1, hW1⟩ : ∃ W, W = ((w.alloc (.cells #[.slice a m ca, .slice (some ⟨b9, o9, none⟩) l cb] 27)).alloc (.cells #[.slice none 0 0, .slice none 0 0] 27)) := ⟨_, rfl⟩
  rw [← hW1]
  have X1 : Ext w W1 := by rw [hW1]; exact ((Ext.refl w).al _).al _
  have B1 : W1.heap[w.heap.size]? = some (.cells #[.slice a m ca, .slice (some ⟨b9, o9, none⟩) l cb] 27) := by rw [hW1]; exact blk_old (blk_alloc _ _)
  have B2 : W1.heap[w.heap.size + 1]? = some (.cells #[.slice none 0 0, .slice none 0 0] 27) := by rw [hW1]; exact blk_alloc2 _ _ _
  have s1 : w.heap.size + 2 = W1.heap.size := by rw [hW1, size_alloc, size_alloc]
  have XD : Ext w (W1.alloc (.cells #[] 42)).drew := (X1.al _).dr
  clear hW1
  go_region_held3 (fun w' => w'.cell? ⟨w.heap.size, 0, none⟩ = some (.slice a m ca) ∧ w'.cell? ⟨w.heap.size, 1, none⟩ = some (.slice (some ⟨b9, o9, none⟩) l cb))
    (first | exact without_S2 b81 (by omega) | exact without_S b81 | exact without_S b71 | exact without_S (blk_old B1) | exact without_S B1)
    ((first
      | (refine step_append_own rfl (.tmp 7) (.tmp 11) 25 rfl W1.heap.size 42 l0 (.agg #[.int .i64 0, .int .i64 0, .int .i64 0]) 3 24 Tryz.underlying25 hl0 hlz0 hlz1 hlz2 rfl (by decide) (.slice (some ⟨W1.heap.size, 0, none⟩) 0 0) 0 [] (by simp [Act.eval, Act.put]) (own_ext (own_lit3 W1 _) (Ext.drew _)) ⟨b9, o9, none⟩ k cb n1 (by simp [Act.eval, Act.put]) H1.out (hs1.out _ XD) o1.out (by unfold maxLen; omega) (by omega) (by simp) ?_; intro v7 w7 hown7 hgr7; obtain ⟨a7, c7, rfl, _⟩ := own_form hown7; have b71 := grown_old hgr7 ((Ext.drew _).blk (blk_old B1)) (by simp [Value.ownBlock]; omega); have b72 := grown_old hgr7 ((Ext.drew _).blk (blk_old B2)) (by simp [Value.ownBlock]; omega); have XE : Ext w w7 := XD.gr hgr7 (by intro q hq; simp [Value.ownBlock] at hq; omega); have HO7 := Lib.hid hown7; clear hown7)
      | (refine step_append_own rfl (.tmp 12) (.tmp 17) 25 rfl W1.heap.size 42 l0 (.agg #[.int .i64 0, .int .i64 0, .int .i64 0]) 3 24 Tryz.underlying25 hl0 hlz0 hlz1 hlz2 rfl (by decide) (.slice a7 (0 + k) c7) (0 + k) ([] ++ n1) (by simp [Act.eval, Act.put]) HO7.out A (l - (k + 1)) (cb - (k + 1)) n2 (by simp [Act.eval, Act.put, hA]) H2.out (hs2.out _ XE) o2.out (by unfold maxLen; omega) (by omega) (by have := hgr7.size; simp at this; omega) ?_; intro v8 w8 hown8 hgr8; obtain ⟨a8, c8, rfl, _⟩ := own_form hown8; have b81 := grown_old hgr8 b71 (fun e => by have := (HO7.out.lt _ e).1; omega); have b82 := grown_old hgr8 b72 (fun e => by have := (HO7.out.lt _ e).1; omega); have XF : Ext w w8 := XE.gr hgr8 (fun q hq => by have := (HO7.out.lt q hq).1; omega); have HO8 := Lib.hid hown8; have e80 := blk_cell b82 (j := 0) rfl; have e81 := blk_cell b82 (j := 1) rfl; have f80 := blk_free b82 0; have f81 := blk_free b82 1; clear hown8)))
  go_wp2
  obtain ⟨w9, hw9⟩ : ∃ W, W = ((w8.setCell ⟨w.heap.size + 1, 0, none⟩ (.slice a m ca)).setCell ⟨w.heap.size + 1, 1, none⟩ (.slice a8 (k + (l - (k + 1))) c8)) := ⟨_, rfl⟩
  rw [← hw9]
  have g1 : (w8.setCell ⟨w.heap.size + 1, 0, none⟩ (.slice a m ca)).heap[w.heap.size + 1]? = some (.cells #[.slice a m ca, .slice none 0 0] 27) := by rw [heap_setCell_same _ _ _ _ _ _ b82]; rfl
  have g2 : w9.heap[w.heap.size + 1]? = some (.cells #[.slice a m ca, .slice a8 (k + (l - (k + 1))) c8] 27) := by rw [hw9, heap_setCell_same _ _ _ _ _ _ g1]; rfl
  have k90 := blk_cell g2 (j := 0) rfl
  have k91 := blk_cell g2 (j := 1) rfl
  have X9 : Hid (Ext w w9) := by unfold Hid; rw [hw9]; exact (XF.st (by dsimp only; omega) _).st (by dsimp only; omega) _
  have HO9 : Hid (w9.ownsRow W1.heap.size 42 3 (.slice a8 (k + (l - (k + 1))) c8) (butL L k).length ((butL L k).flatMap encLink)) := by
    unfold Hid
    have e9 := HO8.out
    rw [List.nil_append, HN.out, Nat.zero_add] at e9
    rw [hw9, HBL.out]
    exact ownsRow_setCell_below (ownsRow_setCell_below e9 (by dsimp only; omega) _) (by dsimp only; omega) _
  clear hw9 g1 g2
  refine bodyPost_ret (v := .agg #[.slice a m ca, .slice a8 (k + (l - (k + 1))) c8]) (by simp [results, Tryz.results37, go_sem, k90, k91]) rfl ⟨_, rfl, ⟨_, _, rfl, ?_, ?_⟩, X9.out⟩
  · exact Row.mono (HT.out.ext X9.out hh) (Nat.zero_le _) (Nat.le_trans hh X9.out.size)
  · have e9 := Row.of_own encLink_len HO9.out
    exact e9.mono (Nat.zero_le _) (Nat.le_refl _)
def brV (x : NetT) (f : Nat → Bool) : List Int := if netB x then fupto f x.2.length else []
theorem brV_len (x : NetT) (f : Nat → Bool) : (brV x f).length ≤ 1099511627776 := by
  unfold brV
  split
  · rename_i h
    simp only [netB, Bool.and_eq_true, decide_eq_true_eq] at h
    have := fupto_len f x.2.length
    omega
  · simp
set_option maxRecDepth 100000 in
set_option maxHeartbeats 4000000 in
theorem c_sBridges (v : Value) (la ha : Nat) (x : NetT) (f : Nat → Bool) (w : World) (h : Nets w la ha v x) (hh : ha ≤ w.heap.size) (hf : BrF x f) :
    Calls Tryz.prog 9 #[v] w fun e w' => ∃ r, e = .returned (.tuple #[r, .bool (netB x)]) ∧ w'.ownsRow w.heap.size 3 1 r (brV x f).length ((brV x f).flatMap encI) ∧ Ext w w' := by
  obtain ⟨i0, hi0, hz0', hz1, hz2⟩ := info_parts Tryz.info_intC2
  obtain ⟨Z, hZ⟩ : ∃ r, r = brV x f := ⟨_, rfl⟩
  obtain ⟨q, hq⟩ : ∃ q, q = netB x := ⟨_, rfl⟩
  rw [← hZ, ← hq]
  unfold brV at hZ
  rw [← hq] at hZ
  have C1 : Hid (∀ W, Ext w W → Calls Tryz.prog 30 #[v] W fun e w' => e = .returned (.bool q) ∧ Ext W w') := fun W hX => by rw [hq]; exact c_neGood v la ha x W (h.ext hX hh) (Nat.le_trans hh hX.size)
  have HQ := Lib.hid hq
  clear hq
  obtain ⟨a, ca, b, cb, rfl, ⟨m1, m2⟩, m3, m4⟩ := h.form
  have HNT := Lib.hid h
  have HL := Lib.hid h.parts.2
  obtain ⟨T, L⟩ := x
  simp only at m1 m3 C1 hZ HL HQ HNT ⊢
  obtain ⟨m, hm⟩ : ∃ n, n = T.length := ⟨_, rfl⟩
  obtain ⟨l, hl⟩ : ∃ n, n = L.length := ⟨_, rfl⟩
  rw [← hm] at m1 C1 HNT ⊢
  rw [← hl] at m3 C1 hZ HL HNT ⊢
  have HM := Lib.hid hm
  have HLL := Lib.hid hl
  have HF := Lib.hid hf
  clear h hm hl hf
  cases q
  · simp at hZ
    subst hZ
    go_enter Tryz.func9, Tryz.ntmps9
    go_wp2_with fail
    obtain ⟨W1, hW1⟩ : ∃ W, W = w.alloc (.cells #[.slice a m ca, .slice b l cb] 27) := ⟨_, rfl⟩
    rw [← hW1]
    have X1 : Ext w W1 := by rw [hW1]; exact Ext.alloc _ _
    have B1 : W1.heap[w.heap.size]? = some (.cells #[.slice a m ca, .slice b l cb] 27) := by rw [hW1]; exact blk_alloc _ _
    clear hW1
    refine (C1.out _ X1).mono ?_
    rintro e W2 ⟨rfl, X2⟩
    have k0 := blk_cell (X2.blk B1) (j := 0) rfl
    have k1 := blk_cell (X2.blk B1) (j := 1) rfl
    go_wp2
    go_ret2
    exact ⟨_, rfl, World.ownsRow_nil _ _ _ _, X1.trans X2⟩
  have hn : netB (T, L) = true := HQ.out.symm
  have HN := Lib.hid hn
  have HZ : Hid (Z = fupto f l) := hZ
  have hl40 : l ≤ 40 := by
    have h9 := hn
    simp only [netB, Bool.and_eq_true, decide_eq_true_eq] at h9
    rw [HLL.out]; omega
  clear hn hZ
  go_enter Tryz.func9, Tryz.ntmps9
  go_wp2_with fail
  obtain ⟨W1, hW1⟩ : ∃ W, W = w.alloc (.cells #[.slice a m ca, .slice b l cb] 27) := ⟨_, rfl⟩
  rw [← hW1]
  have X1 : Ext w W1 := by rw [hW1]; exact Ext.alloc _ _
  have B1 : W1.heap[w.heap.size]? = some (.cells #[.slice a m ca, .slice b l cb] 27) := by rw [hW1]; exact blk_alloc _ _
  clear hW1
  refine (C1.out _ X1).mono ?_
  rintro e W2 ⟨rfl, X2⟩
  have k0 := blk_cell (X2.blk B1) (j := 0) rfl
  have k1 := blk_cell (X2.blk B1) (j := 1) rfl
  have HB2 := Lib.hid (X2.blk B1)
  have XB := X1.trans X2
  have HSZ := Lib.hid XB.size
  clear B1
  go_wp2
  clear k0 k1 C1
  go_loopw [4, 13] (fun v t wr => ∃ (k : Nat) (U : List Int), k ≤ l ∧ t = .int .i64 k ∧ wr.ownsRow W2.heap.size 3 1 v U.length (U.flatMap encI) ∧ Hid (U = fupto f k) ∧ Ext W2 wr) (fun _ t _ => l - (intOf t).toNat)
  case atStart => exact ⟨0, [], by omega, rfl, World.ownsRow_nil _ _ _ _, rfl, Ext.refl _⟩
  case round =>
    obtain ⟨k, U, hk, rfl, hown, hU, hx⟩ := hrel
    have HOWN := Lib.hid hown
    have XW := XB.trans hx
    by_cases hlt : k < l
    · have hltI : (k : Int) < (l : Int) := by omega
      obtain ⟨b9, o9, y, rfl, hy, c0, c1, c2⟩ := Links_at (HL.out.ext XW hh) hlt
      obtain ⟨y1, y2, y3⟩ := y
      simp only at c0 c1 c2
      obtain ⟨V, hV, hfk⟩ := HF.out k _ hy.out
      have hlk := netB_links HN.out _ (List.mem_of_getElem? hy.out)
      simp only [lkB, Bool.and_eq_true, decide_eq_true_eq] at hlk
      obtain ⟨q1, q2, q3, _⟩ := hlk
      simp only at q1 q2 q3 hV hfk
      have hUl := fupto_len f k
      rw [← hU.out] at hUl
      have hsn : Hid (fupto f (k + 1) = U ++ (if f k then [(k : Int)] else [])) := by
        unfold Hid
        rw [show fupto f (k + 1) = fupto f k ++ (if f k then [(k : Int)] else []) from rfl, ← hU.out]
      rw [hfk] at hsn
      obtain ⟨t, ht⟩ : ∃ t, t = V.contains y2 := ⟨_, rfl⟩
      rw [← ht] at hsn
      have C4 : Hid (∀ W, Ext w W → Calls Tryz.prog 37 #[.agg #[.slice a m ca, .slice (some ⟨b9, o9, none⟩) l cb], .int .i64 k] W fun e w' => ∃ a1 c1 a2 n2 c2, e = .returned (.agg #[.slice a1 m c1, .slice a2 n2 c2]) ∧
          Hid (Nets w' 0 w'.heap.size (.agg #[.slice a1 m c1, .slice a2 n2 c2]) (T, butL L k)) ∧ Ext W w') := fun W hX => by
        refine (c_neWithout _ la ha (T, L) k W (HNT.out.ext hX hh) (Nat.le_trans hh hX.size) (by rw [← HLL.out]; exact hlt) (by rw [← HLL.out]; exact hl40)).mono fun e w' ⟨v', he, hN, hx⟩ => ?_
        obtain ⟨a1, c1, a2, c2, rfl, _⟩ := hN.form
        rw [HM.out]
        exact ⟨a1, c1, a2, _, c2, he, hN, hx⟩
      have C5 : Hid (∀ W vn, Hid (Nets W 0 W.heap.size vn (T, butL L k)) → Calls Tryz.prog 36 #[vn, .int .i64 y1] W fun e w' => ∃ a5 n5 c5, e = .returned (.slice a5 n5 c5) ∧ Hid (Ints w' W.heap.size w'.heap.size (.slice a5 n5 c5) V) ∧ Ext W w') := fun W vn hN => by
        refine (c_neReach vn 0 W.heap.size (T, butL L k) y1 V W hN.out (Nat.le_refl _) (butL_net HN.out k) q1 (by show y1 < (T.length : Int); omega) hV).mono fun e w' ⟨r, he, ho, hx⟩ => ?_
        have hr := Row.of_own encI_len ho
        obtain ⟨a5, c5, rfl, _⟩ := own_form ho
        exact ⟨a5, _, c5, he, hr, hx⟩
      have C6 : Hid (∀ W lo vl, Hid (Ints W lo W.heap.size vl V) → Calls Tryz.prog 35 #[vl, .int .i64 y2] W fun e w' => e = .returned (.bool t) ∧ W = w') := fun W lo vl hr => by
        rw [ht]; exact c_l1Has vl lo _ V y2 W hr.out
      have d0 := hx.cell (blk_cell HB2.out (j := 0) rfl)
      have d1 := hx.cell (blk_cell HB2.out (j := 1) rfl)
      clear hown ht hV hfk
      go_wp2_with fail
      obtain ⟨w5, hw5⟩ : ∃ W, W = wr.alloc (.cells #[.int .i64 y1, .int .i64 y2, .int .i64 y3] 42) := ⟨_, rfl⟩
      rw [← hw5]
      have BL : w5.heap[wr.heap.size]? = some (.cells #[.int .i64 y1, .int .i64 y2, .int .i64 y3] 42) := by rw [hw5]; exact blk_alloc _ _
      have X5 : Ext wr w5 := by rw [hw5]; exact Ext.alloc _ _
      have XW5 := XW.trans X5
      have n0 := X5.cell d0
      have n1 := X5.cell d1
      have e0 := blk_cell BL (j := 0) rfl
      have e1 := blk_cell BL (j := 1) rfl
      clear hw5 BL d0 d1 c0 c1 c2
      cases t
      all_goals
        go_region_held3 (fun w' => Ext w5 w' ∧ w'.cell? ⟨w.heap.size, 0, none⟩ = some (.slice a m ca) ∧ w'.cell? ⟨w.heap.size, 1, none⟩ = some (.slice (some ⟨b9, o9, none⟩) l cb) ∧ w'.cell? ⟨wr.heap.size, 0, none⟩ = some (.int .i64 y1) ∧ w'.cell? ⟨wr.heap.size, 1, none⟩ = some (.int .i64 y2))
          (first | exact ⟨Ext.drew _, n0, n1, e0, e1⟩ | exact ⟨hxb, hxb.cell n0, hxb.cell n1, hxb.cell e0, hxb.cell e1⟩ | exact ⟨hxa, hxa.cell n0, hxa.cell n1, hxa.cell e0, hxa.cell e1⟩)
          ((first
            | (go_at_call 37; refine (C4.out _ XW5.dr).mono ?_; rintro e w6 ⟨a1, c1, a2, n2, c2, rfl, hN6, hx6⟩; have hxa : Ext w5 w6 := (Ext.drew _).trans hx6)
            | (go_at_call 36; refine (C5.out _ _ hN6).mono ?_; rintro e w7 ⟨a5, n5, c5, rfl, hr7, hx7⟩; have hxb : Ext w5 w7 := hxa.trans hx7)
            | (go_at_call 35; refine (C6.out _ _ _ hr7).mono ?_; rintro e w' ⟨rfl, rfl⟩)))
        clear n0 n1 e0 e1
      · have hx57 := Lib.hid (X5.trans hxb)
        go_wp2_with (at_builtin; refine wpList_append_own _ rfl _ _ 31 rfl W2.heap.size 3 i0 (.int .i64 0) 1 8 Tryz.underlying31 hi0 hz0' hz1 hz2 rfl (by decide) _ _ _ rfl ((own_ext HOWN.out hx57.out).alloc _) ⟨w7.heap.size, 0, none⟩ 1 1 [.int .i64 (k : Int)] rfl rfl (new_cells1 _ _ _) (by intro u hu; simp at hu; subst hu; rfl) (by unfold maxLen; omega) (by omega) (by have := hx.size; have := hx57.out.size; simp; omega) ?_; intro v3 w9 hown3 hgrow3 _)
        go_roundw
        case rel => exact ⟨k + 1, _, by omega, by go_num, own_push hown3, (by unfold Hid; rw [hsn.out]; rfl), (hx.trans hx57.out).push (own_ext HOWN.out hx57.out) hgrow3 (Nat.le_refl _)⟩
        case measure => simp [intOf]; omega
      · have hx57 := Lib.hid (X5.trans hxb)
        go_wp2
        go_roundw
        case rel => exact ⟨k + 1, U, by omega, by go_num, own_ext HOWN.out hx57.out, (by unfold Hid; rw [hsn.out]; simp), hx.trans hx57.out⟩
        case measure => simp [intOf]; omega
    · have hge : ¬ ((k : Int) < (l : Int)) := by omega
      have hkl : k = l := by omega
      obtain ⟨a5, c5, rfl, _, _, _⟩ := own_form hown
      have HVZ : Hid (Z = U) := by unfold Hid; rw [HZ.out, hU.out, hkl]
      clear hown hkl
      go_wp2
      go_ret2
      refine ⟨_, rfl, ?_, XW⟩
      rw [HVZ.out]
      exact own_mono HOWN.out HSZ.out
end Go.Proofs.YtmaaeemhbccpcaaGreatDoor
