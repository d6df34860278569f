




/- JoinedAt of the program and of the reference: their contracts. -/
import Derived.Test.YtngnagicgheenaaFogL
import Derived.Test.YtngnagicgheenaaSubP
import Derived.Test.YtngnagicgheenaaApp2
import Derived.Test.YtngnagicgheenaaReachS
import Derived.Test.YtngnagicgheenaaReachI
namespace Go.Proofs.Ytngnagicgheenaa
open Go.RowKit
set_option maxRecDepth 100000 in
set_option maxHeartbeats 8000000 in
theorem c_joinAt (v : Value) (la ha : Nat) (x : NetT) (i : Int) (V : List Int) (bl bt : Nat) (u : Nat → Bool) (L' : List LinkT) (w : World) (h : Nets w la ha v x) (hn : netB x = true) (hi0 : 0 ≤ i) (hi1 : i < (x.1.length : Int))
    (hu : ∀ W (k : Nat), Ext w W → k < x.2.length → Calls Try.prog 68 #[.int .i64 k, .pointer (some ⟨bl, 0, none⟩), .pointer (some ⟨bt, 0, none⟩)] W fun e w' => e = .returned (.bool (u k)) ∧ Ext W w')
    (hL' : ∀ y, y ∈ L' ↔ ∃ k, x.2[k]? = some y ∧ u k = true) (hV : IsReach x.1.length L' i V) :
    Calls Try.prog 67 #[v, .int .i64 i, .func (.func 68) #[] #[.pointer (some ⟨bl, 0, none⟩), .pointer (some ⟨bt, 0, none⟩)]] w fun e w' => ∃ r, e = .returned r ∧ w'.ownsRow w.heap.size 3 1 r V.length (V.flatMap encI) ∧ Ext w w' := by
  obtain ⟨i0, hi0', hz0', hz1, hz2⟩ := info_parts Try.info_intC2
  obtain ⟨j0, hj0, hy0, hy1, hy2⟩ := info_parts Try.info_bool
  obtain ⟨ii, rfl⟩ := Int.eq_ofNat_of_zero_le hi0
  have hm16 : x.1.length ≤ 16 := by
    have h1 := hn
    simp only [netB, Bool.and_eq_true] at h1
    have := (inB_t h1.1).2; omega
  have HLK := Lib.hid (netB_links hn)
  have HV := Lib.hid hV
  have HU := Lib.hid hu
  have HL' := Lib.hid hL'
  obtain ⟨a, ca, b, cb, rfl, ⟨m1, m2⟩, m3, m4⟩ := h.form
  have HL := Lib.hid h.parts.2
  obtain ⟨m, hm⟩ : ∃ n, n = x.1.length := ⟨_, rfl⟩
  obtain ⟨l, hl⟩ : ∃ n, n = x.2.length := ⟨_, rfl⟩
  rw [← hm] at m1 hi1 hm16 HLK HV ⊢
  rw [← hl] at m3 HL HU ⊢
  have HM := Lib.hid hm
  have HLL := Lib.hid hl
  have him : ii < m := by omega
  clear h hm hl hn hV hu hL'
  go_enter Try.func67, Try.ntmps67
  go_wp2_with (at_make; refine wpList_make_full _ rfl _ _ 102 rfl (w.heap.size + 1) 4 j0 (.bool false) 1 Try.underlying102 hj0 hy0 hy1 _ _ _ _ m rfl rfl rfl rfl (by rw [hy2]; omega) (by unfold maxLen; omega) (by simp) ?_; intro w1 hown hgrow; rw [made_bools] at hown; rw [size_alloc] at hown ⊢; have hse : (List.replicate m false)[ii]? = some false := (by simp [him]); have e0 := own_cellB hown hse him; have z0 := hown.frozenAt ii; have HO1 := Lib.hid hown; have HG1 := Lib.hid hgrow; clear hse hown hgrow)
  obtain ⟨w2, hw2⟩ : ∃ W, W = w1.setCell ⟨w.heap.size + 1, ii, none⟩ (.bool true) := ⟨_, rfl⟩
  rw [← hw2]
  have X1 : Ext w w1 := (Ext.alloc w _).gr HG1.out (by simp)
  have B1 : w1.heap[w.heap.size]? = some (.cells #[.slice a m ca, .slice b l cb] 34) := by
    rw [HG1.out.block w.heap.size (by simp) (by simp)]; exact blk_alloc _ _
  have X2 : Ext w w2 := by rw [hw2]; exact X1.st (by dsimp only; omega) _
  have B2 : Hid (w2.heap[w.heap.size]? = some (.cells #[.slice a m ca, .slice b l cb] 34)) := by
    unfold Hid; rw [hw2, heap_setCell_other _ _ _ _ (by show w.heap.size ≠ w.heap.size + 1; omega)]; exact B1
  have O2 : Hid (w2.ownsRow (w.heap.size + 1) 4 1 (.slice (some ⟨w.heap.size + 1, 0, none⟩) m m) m (((List.replicate m false).set ii true).flatMap encB)) := by
    unfold Hid; rw [hw2]; exact own_setB HO1.out ii true
  have hS0 : Hid (SndB L' ii ((List.replicate m false).set ii true)) := by
    refine SndB.set (fun k hk => ?_) (ReachL.self _ _)
    rw [List.getElem?_replicate] at hk
    split at hk <;> simp at hk
  have hI0 : Hid (((List.replicate m false).set ii true).getD ii false = true) := by
    unfold Hid; rw [List.getD_eq_getElem?_getD, List.getElem?_set_self (by simp [him])]; rfl
  have hN0 : nF ((List.replicate m false).set ii true) + 1 ≤ m + 1 := by
    have := nF_le ((List.replicate m false).set ii true); simp at this; omega
  clear hw2 X1 B1 e0 z0 HO1 HG1
  go_loopg [8] (m + 1) (fun gg tg wr => ∃ (S : List Bool) (gr : Bool), tg = .bool gr ∧ wr.ownsRow (w.heap.size + 1) 4 1 (.slice (some ⟨w.heap.size + 1, 0, none⟩) m m) m (S.flatMap encB) ∧ nF S + (if gr then 1 else 0) ≤ gg ∧ Hid (SndB L' ii S) ∧ Hid (S.getD ii false = true) ∧
      Hid (gr = false → ∀ y ∈ L', S.getD y.1.toNat false = S.getD y.2.1.toNat false) ∧ Hid (wr.heap[w.heap.size]? = some (.cells #[.slice a m ca, .slice b l cb] 34)) ∧ Ext w wr)
  case atStart => exact ⟨_, true, rfl, O2.out, by simpa using hN0, hS0.out, hI0.out, (fun e => by cases e), B2.out, X2⟩
  case round =>
    obtain ⟨S, gr, rfl, hown, hgg, hS, hI, hC, HB, hx⟩ := hrel
    obtain ⟨wo, hwo⟩ : ∃ W, W = wr := ⟨_, rfl⟩
    subst hwo
    have hSl : S.length = m := by have := hown.1; rw [flat_mapB, List.length_map] at this; omega
    have HSL := Lib.hid hSl
    have HOWN := Lib.hid hown
    have HGG := Lib.hid hgg
    clear hSl hown hgg
    have n0 : wo.cell? ⟨w.heap.size, 0, none⟩ = some (.slice a m ca) := blk_cell HB.out (j := 0) rfl
    have n1 : wo.cell? ⟨w.heap.size, 1, none⟩ = some (.slice b l cb) := blk_cell HB.out (j := 1) rfl
    cases gr
    · have HSZ := Lib.hid hx.size
      go_wp2
      clear n0 n1
      go_loopw [11, 57] (fun vr tk wr3 => ∃ (k : Nat) (R : List Int), k ≤ m ∧ tk = .int .i64 k ∧ wr3.ownsRow wo.heap.size 3 1 vr R.length (R.flatMap encI) ∧ Hid (R = fupto (fun j => S.getD j false) k) ∧ Ext wo wr3) (fun _ tk _ => m - (intOf tk).toNat)
      case atStart => exact ⟨0, [], by omega, rfl, World.ownsRow_nil _ _ _ _, rfl, Ext.refl _⟩
      case round =>
        obtain ⟨k, R, hk, rfl, hown3, hR, hx3⟩ := hrel
        by_cases hlt : k < m
        · obtain ⟨s, hs⟩ : ∃ s, S[k]? = some s := ⟨_, List.getElem?_eq_getElem (by rw [HSL.out]; exact hlt)⟩
          have e0 := hx3.cell (own_cellB HOWN.out hs hlt)
          have hltI : (k : Int) < (m : Int) := by omega
          have hRl := fupto_len (fun j => S.getD j false) k
          rw [← hR.out] at hRl
          have hsn : Hid (fupto (fun j => S.getD j false) (k + 1) = R ++ (if s then [(k : Int)] else [])) := by
            unfold Hid
            rw [show fupto (fun j => S.getD j false) (k + 1) = fupto (fun j => S.getD j false) k ++ (if S.getD k false then [(k : Int)] else []) from rfl, ← hR.out, getD_of hs]
          have HO3 := Lib.hid hown3
          clear hs hown3
          cases s
          · go_wp2
            go_roundw
            case rel => exact ⟨k + 1, R, by omega, by go_num, HO3.out, (by unfold Hid; rw [hsn.out]; simp), hx3⟩
            case measure => simp [intOf]; omega
          · go_wp2_with (at_builtin; refine wpList_append_own _ rfl _ _ 49 rfl wo.heap.size 3 i0 (.int .i64 0) 1 8 Try.underlying49 hi0' hz0' hz1 hz2 rfl (by decide) _ _ _ rfl (HO3.out.alloc _) ⟨wr.heap.size, 0, none⟩ 1 1 [.int .i64 (k : Int)] rfl rfl (new_cells1 _ _ _) (by intro u hu; simp at hu; subst hu; rfl) (by unfold maxLen; omega) (by omega) (by have := hx3.size; simp; omega) ?_; intro v3 w6 hown4 hgrow4 _)
            go_roundw
            case rel => exact ⟨k + 1, _, by omega, by go_num, own_push hown4, (by unfold Hid; rw [hsn.out]; rfl), hx3.push HO3.out hgrow4 (Nat.le_refl _)⟩
            case measure => simp [intOf]; omega
        · have hge : ¬ ((k : Int) < (m : Int)) := by omega
          have hkm : k = m := by omega
          have HRV : Hid (R = V) := by
            unfold Hid
            rw [hR.out, hkm]
            exact seen_reach HV.out HSL.out (by rw [Int.toNat_natCast]; exact hI.out) hS.out (hC.out (by trivial))
          have HO := Lib.hid hown3
          obtain ⟨a9, c9, rfl, _, _, _⟩ := own_form hown3
          clear hown3 hkm
          go_wp2
          go_ret
          refine ⟨_, rfl, ?_, hx.trans hx3⟩
          rw [← HRV.out]
          exact own_mono HO.out HSZ.out
    · go_wp2
      clear n0 n1
      go_loopw [8, 25] (fun tg tk wr2 => ∃ (k : Nat) (S2 : List Bool) (g2 : Bool), k ≤ l ∧ tk = .int .i64 k ∧ tg = .bool g2 ∧ wr2.ownsRow (w.heap.size + 1) 4 1 (.slice (some ⟨w.heap.size + 1, 0, none⟩) m m) m (S2.flatMap encB) ∧ Hid (nF S2 + (if g2 then 1 else 0) ≤ nF S) ∧ Hid (SndB L' ii S2) ∧ Hid (S2.getD ii false = true) ∧
          Hid (g2 = false → ∀ (q : Nat) y, q < k → x.2[q]? = some y → u q = true → S2.getD y.1.toNat false = S2.getD y.2.1.toNat false) ∧ Hid (wr2.heap[w.heap.size]? = some (.cells #[.slice a m ca, .slice b l cb] 34)) ∧ Ext w wr2) (fun _ tk _ => l - (intOf tk).toNat)
      case atStart => exact ⟨0, S, false, by omega, rfl, rfl, HOWN.out, by simp [Hid], hS.out, hI.out, (fun _ q y h => by omega), HB.out, hx⟩
      case round =>
        obtain ⟨k, S2, g2, hk, rfl, rfl, hown2, hnf, hS2, hI2, hC2, HB2, hx2⟩ := hrel
        have hS2l : S2.length = m := by have := hown2.1; rw [flat_mapB, List.length_map] at this; omega
        have HO2 := Lib.hid hown2
        clear hown2
        by_cases hlt : k < l
        · obtain ⟨b9, o9, y, rfl, hy, c0, c1, c2⟩ := Links_at HL.out hlt
          have hlk := HLK.out y (List.mem_of_getElem? hy.out)
          simp only [lkB, Bool.and_eq_true, decide_eq_true_eq] at hlk
          obtain ⟨l1, l2, l3, _⟩ := hlk
          obtain ⟨y1, y2, y3⟩ := y
          simp only at l1 l2 l3 c0 c1 c2
          obtain ⟨p, rfl⟩ := Int.eq_ofNat_of_zero_le l1
          obtain ⟨q, rfl⟩ := Int.eq_ofNat_of_zero_le (show 0 ≤ y2 by omega)
          have hpm : p < m := by omega
          have hqm : q < m := by omega
          have hpq : p ≠ q := by omega
          obtain ⟨s1, hs1⟩ : ∃ s, S2[p]? = some s := ⟨_, List.getElem?_eq_getElem (by omega)⟩
          obtain ⟨s2, hs2⟩ : ∃ s, S2[q]? = some s := ⟨_, List.getElem?_eq_getElem (by omega)⟩
          have C0 := hx2.cell c0
          have C1 := hx2.cell c1
          have C2 := hx2.cell c2
          obtain ⟨t, ht⟩ : ∃ t, t = u k := ⟨_, rfl⟩
          have CU : Hid (∀ W, Ext w W → Calls Try.prog 68 #[.int .i64 k, .pointer (some ⟨bl, 0, none⟩), .pointer (some ⟨bt, 0, none⟩)] W fun e w' => e = .returned (.bool t) ∧ Ext W w') := fun W hX => by rw [ht]; exact HU.out W k hX hlt
          have HT := Lib.hid ht
          have HS1 := Lib.hid hs1
          have HS2 := Lib.hid hs2
          have hltI : (k : Int) < (l : Int) := by omega
          have hpI : (p : Int) < (m : Int) := by omega
          have hqI : (q : Int) < (m : Int) := by omega
          have HCN : Hid (∀ S3 : List Bool, S3.getD p false = S3.getD q false ∨ t = false → (g2 = false → ∀ (q' : Nat) y, q' < k → x.2[q']? = some y → u q' = true → S3.getD y.1.toNat false = S3.getD y.2.1.toNat false) →
              g2 = false → ∀ (q' : Nat) y, q' < k + 1 → x.2[q']? = some y → u q' = true → S3.getD y.1.toNat false = S3.getD y.2.1.toNat false) := fun S3 h1 h2 h3 q' y' hq' hy' hu' => by
            by_cases e : q' = k
            · subst e
              rw [hy.out] at hy'
              simp only [Option.some.injEq] at hy'
              subst hy'
              rcases h1 with h1 | h1
              · simpa using h1
              · rw [← HT.out, h1] at hu'; cases hu'
            · exact h2 h3 q' y' (by omega) hy' hu'
          have HYL : Hid (t = true → (((p : Nat) : Int), ((q : Nat) : Int), y3) ∈ L') := fun e => (HL'.out _).2 ⟨k, hy.out, by rw [← HT.out]; exact e⟩
          clear c0 c1 c2 ht hs1 hs2 l1 l2 l3
          go_wp2
          obtain ⟨w5, hw5⟩ : ∃ W, W = wr.alloc (.cells #[.int .i64 (p : Int), .int .i64 (q : Int), .int .i64 y3] 82) := ⟨_, rfl⟩
          rw [← hw5]
          have BL : w5.heap[wr.heap.size]? = some (.cells #[.int .i64 (p : Int), .int .i64 (q : Int), .int .i64 y3] 82) := by rw [hw5]; exact blk_alloc _ _
          have X5 : Ext wr w5 := by rw [hw5]; exact Ext.alloc _ _
          have HB5 := Lib.hid (X5.blk HB2.out)
          have HO5 := Lib.hid (own_ext HO2.out X5)
          have HBL := Lib.hid BL
          have hsz2 := hx2.size
          have hbig : w.heap.size + 1 < wr.heap.size := (HO2.out.lt (w.heap.size + 1) rfl).2
          have g0 := XT.cell (blk_cell BL (j := 0) rfl)
          have g1 := XT.cell (blk_cell BL (j := 1) rfl)
          have f0 := XT.cell (own_cellB HO5.out HS1.out hpm)
          have f1 := XT.cell (own_cellB HO5.out HS2.out hqm)
          have XW := hx2.trans X5
          clear hw5 BL C0 C1 C2
          by_cases hne : s1 = s2
          · subst hne
            cases s1
            · refine region_ext (by kernel_rfl) (by kernel_rfl) ?_
              repeat (go_big_quiet_step (fail))
              refine wpQuiet_nil ?_
              intro wq hxq
              go_wp2
              go_roundw
              case rel => exact ⟨k + 1, S2, g2, by omega, by go_num, rfl, own_ext HO5.out hxq, hnf.out, hS2.out, hI2.out, HCN.out S2 (.inl (by rw [getD_of HS1.out, getD_of HS2.out])) hC2.out, hxq.blk HB5.out, XW.trans hxq⟩
              case measure => simp [intOf]; omega
            · refine region_ext (by kernel_rfl) (by kernel_rfl) ?_
              repeat (go_big_quiet_step (fail))
              refine wpQuiet_nil ?_
              intro wq hxq
              go_wp2
              go_roundw
              case rel => exact ⟨k + 1, S2, g2, by omega, by go_num, rfl, own_ext HO5.out hxq, hnf.out, hS2.out, hI2.out, HCN.out S2 (.inl (by rw [getD_of HS1.out, getD_of HS2.out])) hC2.out, hxq.blk HB5.out, XW.trans hxq⟩
              case measure => simp [intOf]; omega
          · have HNE := Lib.hid hne
            cases t
            · cases s1
              · cases s2
                · exact absurd rfl HNE.out
                · clear hne
                  refine region_ext (by kernel_rfl) (by kernel_rfl) ?_
                  repeat (go_big_quiet_step ((go_at_call 68; refine Calls.ext_of (CU.out _ (XW.trans (XT.prop _))))))
                  refine wpQuiet_nil ?_
                  intro wq hxq
                  go_wp2
                  go_roundw
                  case rel => exact ⟨k + 1, S2, g2, by omega, by go_num, rfl, own_ext HO5.out hxq, hnf.out, hS2.out, hI2.out, HCN.out S2 (.inr rfl) hC2.out, hxq.blk HB5.out, XW.trans hxq⟩
                  case measure => simp [intOf]; omega
              · cases s2
                · clear hne
                  refine region_ext (by kernel_rfl) (by kernel_rfl) ?_
                  repeat (go_big_quiet_step ((go_at_call 68; refine Calls.ext_of (CU.out _ (XW.trans (XT.prop _))))))
                  refine wpQuiet_nil ?_
                  intro wq hxq
                  go_wp2
                  go_roundw
                  case rel => exact ⟨k + 1, S2, g2, by omega, by go_num, rfl, own_ext HO5.out hxq, hnf.out, hS2.out, hI2.out, HCN.out S2 (.inr rfl) hC2.out, hxq.blk HB5.out, XW.trans hxq⟩
                  case measure => simp [intOf]; omega
                · exact absurd rfl HNE.out
            · cases s1
              · cases s2
                · exact absurd rfl HNE.out
                · clear hne
                  refine region_ext (by kernel_rfl) (by kernel_rfl) ?_
                  repeat (go_big_quiet_step ((go_at_call 68; refine Calls.ext_of (CU.out _ (XW.trans (XT.prop _))))))
                  refine wpQuiet_nil ?_
                  intro wq hxq
                  have oq := own_ext HO5.out hxq
                  have bq := hxq.blk HBL.out
                  have b6 : (wq.setCell ⟨w.heap.size + 1, p, none⟩ (.bool true)).heap[wr.heap.size]? = some (.cells #[.int .i64 (p : Int), .int .i64 (q : Int), .int .i64 y3] 82) := by
                    rw [heap_setCell_other _ _ _ _ (by show wr.heap.size ≠ w.heap.size + 1; omega)]; exact bq
                  have k0 := blk_cell bq (j := 0) rfl
                  have k1 := blk_cell bq (j := 1) rfl
                  have m0 := blk_cell b6 (j := 0) rfl
                  have m1 := blk_cell b6 (j := 1) rfl
                  have z0 := fun j => oq.frozenAt j
                  have o6 := own_setB oq p true
                  have z1 := fun j => o6.frozenAt j
                  have e0 := own_cellB oq HS1.out hpm
                  have e1 := own_cellB oq HS2.out hqm
                  have e2 := own_cellB o6 (j := q) (by rw [List.getElem?_set_ne hpq]; exact HS2.out) hqm
                  have HO7 := Lib.hid (own_ext (own_setB o6 q true) (Ext.drew _))
                  have HX7 := Lib.hid ((((XW.trans hxq).st (p := ⟨w.heap.size + 1, p, none⟩) (by dsimp only; omega) (.bool true)).st (p := ⟨w.heap.size + 1, q, none⟩) (by dsimp only; omega) (.bool true)).trans (Ext.drew _))
                  have HB7 : Hid ((((wq.setCell ⟨w.heap.size + 1, p, none⟩ (.bool true)).setCell ⟨w.heap.size + 1, q, none⟩ (.bool true)).drew).heap[w.heap.size]? = some (.cells #[.slice a m ca, .slice (some ⟨b9, o9, none⟩) l cb] 34)) := by
                    unfold Hid
                    refine (Ext.drew _).blk ?_
                    rw [heap_setCell_other _ _ _ _ (by show w.heap.size ≠ w.heap.size + 1; omega), heap_setCell_other _ _ _ _ (by show w.heap.size ≠ w.heap.size + 1; omega)]
                    exact hxq.blk HB5.out
                  have HN7 : Hid (nF ((S2.set p true).set q true) + 1 ≤ nF S) := Nat.le_trans (nF_two HS1.out HS2.out hpq HNE.out) (Nat.le_trans (Nat.le_add_right _ _) hnf.out)
                  have HS7 : Hid (SndB L' ii ((S2.set p true).set q true)) := hS2.out.two HS1.out HS2.out HNE.out (HYL.out rfl)
                  clear oq bq b6 o6 f0 f1 g0 g1
                  go_wp2_with fail
                  go_region
                  go_wp2
                  go_roundw
                  case rel => exact ⟨k + 1, (S2.set p true).set q true, true, by omega, by go_num, rfl, HO7.out, HN7.out, HS7.out, getD_keep (getD_keep hI2.out), (fun e => by cases e), HB7.out, HX7.out⟩
                  case measure => simp [intOf]; omega
              · cases s2
                · clear hne
                  refine region_ext (by kernel_rfl) (by kernel_rfl) ?_
                  repeat (go_big_quiet_step ((go_at_call 68; refine Calls.ext_of (CU.out _ (XW.trans (XT.prop _))))))
                  refine wpQuiet_nil ?_
                  intro wq hxq
                  have oq := own_ext HO5.out hxq
                  have bq := hxq.blk HBL.out
                  have b6 : (wq.setCell ⟨w.heap.size + 1, p, none⟩ (.bool true)).heap[wr.heap.size]? = some (.cells #[.int .i64 (p : Int), .int .i64 (q : Int), .int .i64 y3] 82) := by
                    rw [heap_setCell_other _ _ _ _ (by show wr.heap.size ≠ w.heap.size + 1; omega)]; exact bq
                  have k0 := blk_cell bq (j := 0) rfl
                  have k1 := blk_cell bq (j := 1) rfl
                  have m0 := blk_cell b6 (j := 0) rfl
                  have m1 := blk_cell b6 (j := 1) rfl
                  have z0 := fun j => oq.frozenAt j
                  have o6 := own_setB oq p true
                  have z1 := fun j => o6.frozenAt j
                  have e0 := own_cellB oq HS1.out hpm
                  have e1 := own_cellB oq HS2.out hqm
                  have e2 := own_cellB o6 (j := q) (by rw [List.getElem?_set_ne hpq]; exact HS2.out) hqm
                  have HO7 := Lib.hid (own_ext (own_setB o6 q true) (Ext.drew _))
                  have HX7 := Lib.hid ((((XW.trans hxq).st (p := ⟨w.heap.size + 1, p, none⟩) (by dsimp only; omega) (.bool true)).st (p := ⟨w.heap.size + 1, q, none⟩) (by dsimp only; omega) (.bool true)).trans (Ext.drew _))
                  have HB7 : Hid ((((wq.setCell ⟨w.heap.size + 1, p, none⟩ (.bool true)).setCell ⟨w.heap.size + 1, q, none⟩ (.bool true)).drew).heap[w.heap.size]? = some (.cells #[.slice a m ca, .slice (some ⟨b9, o9, none⟩) l cb] 34)) := by
                    unfold Hid
                    refine (Ext.drew _).blk ?_
                    rw [heap_setCell_other _ _ _ _ (by show w.heap.size ≠ w.heap.size + 1; omega), heap_setCell_other _ _ _ _ (by show w.heap.size ≠ w.heap.size + 1; omega)]
                    exact hxq.blk HB5.out
                  have HN7 : Hid (nF ((S2.set p true).set q true) + 1 ≤ nF S) := Nat.le_trans (nF_two HS1.out HS2.out hpq HNE.out) (Nat.le_trans (Nat.le_add_right _ _) hnf.out)
                  have HS7 : Hid (SndB L' ii ((S2.set p true).set q true)) := hS2.out.two HS1.out HS2.out HNE.out (HYL.out rfl)
                  clear oq bq b6 o6 f0 f1 g0 g1
                  go_wp2_with fail
                  go_region
                  go_wp2
                  go_roundw
                  case rel => exact ⟨k + 1, (S2.set p true).set q true, true, by omega, by go_num, rfl, HO7.out, HN7.out, HS7.out, getD_keep (getD_keep hI2.out), (fun e => by cases e), HB7.out, HX7.out⟩
                  case measure => simp [intOf]; omega
                · exact absurd rfl HNE.out
        · have hge : ¬ ((k : Int) < (l : Int)) := by omega
          have hkl : k = l := by omega
          have HCC : Hid (g2 = false → ∀ y ∈ L', S2.getD y.1.toNat false = S2.getD y.2.1.toNat false) := fun e y hy => by
            obtain ⟨q', h1, h2⟩ := (HL'.out y).1 hy
            refine hC2.out e q' y ?_ h1 h2
            have h3 := (List.getElem?_eq_some_iff.1 h1).1
            rw [← HLL.out] at h3; omega
          clear hkl
          have h1 : nF S + 1 ≤ _ := HGG.out
          have hms := Nat.lt_of_lt_of_le (Nat.lt_succ_of_le hnf.out) h1
          clear h1
          have HMS := Lib.hid hms
          clear hms
          go_wp2
          go_roundg (nF S2 + (if g2 then 1 else 0))
          case measure => exact HMS.out
          case rel => exact ⟨S2, g2, rfl, HO2.out, Nat.le_refl _, hS2.out, hI2.out, HCC.out, HB2.out, hx2⟩
/-- The links that are clear. -/
def clearL (x : NetT) (F : List FogT) (t : Int) : List LinkT := keepL (fun k : Nat => clB F k t) x.2 x.2.length
theorem clearL_net {x : NetT} {F : List FogT} {t : Int} (h : netB x = true) : netB (x.1, clearL x F t) = true := by
  have h2 := keepL_sub (fun k : Nat => clB F k t) x.2 x.2.length
  rw [List.take_length] at h2
  exact netB_sub h h2
theorem clearL_mem {x : NetT} {F : List FogT} {t : Int} (y : LinkT) : y ∈ clearL x F t ↔ ∃ k : Nat, x.2[k]? = some y ∧ clB F k t = true := by
  unfold clearL
  rw [keepL_mem]
  constructor
  · rintro ⟨j, _, h1, h2⟩; exact ⟨j, h1, h2⟩
  · rintro ⟨j, h1, h2⟩; exact ⟨j, (List.getElem?_eq_some_iff.1 h1).1, h1, h2⟩
/-- What is reached by clear links. -/
def JaV (x : NetT) (F : List FogT) (t : Int) (V : List Int) : Prop := IsReach x.1.length (clearL x F t) 0 V
theorem exists_ja (x : NetT) (F : List FogT) (t : Int) : ∃ V, JaV x F t V := exists_reach _ _ _
theorem net_tow0 {x : NetT} (h : netB x = true) : (0 : Int) < (x.1.length : Int) ∧ x.1.length ≤ 16 := by
  simp only [netB, Bool.and_eq_true] at h
  have := inB_t h.1
  omega
set_option maxRecDepth 100000 in
theorem c_joinFn (i : Int) (bl bt : Nat) (vf : Value) (lb hb : Nat) (F : List FogT) (t : Int) (w : World) (h : Fogs w lb hb vf F) (hh : hb ≤ w.heap.size) (h1 : w.cell? ⟨bl, 0, none⟩ = some vf) (h2 : w.cell? ⟨bt, 0, none⟩ = some (.int .i64 t)) :
    Calls Try.prog 68 #[.int .i64 i, .pointer (some ⟨bl, 0, none⟩), .pointer (some ⟨bt, 0, none⟩)] w fun e w' => e = .returned (.bool (clB F i t)) ∧ Ext w w' := by
  have CC := Lib.hid (fun W (hX : Ext w W) => c_isClear vf lb hb F i t W (h.ext hX hh) (Nat.le_trans hh hX.size))
  obtain ⟨r, hr⟩ : ∃ r, r = clB F i t := ⟨_, rfl⟩
  rw [← hr] at CC ⊢
  obtain ⟨a, cap, rfl, m1, m2⟩ := Row.form h
  clear h hr
  go_enter Try.func68, Try.ntmps68
  go_wp2_with (go_at_call 59; refine (CC.out _ (Ext.refl _)).mono ?_; rintro e w5 ⟨rfl, hx5⟩)
  go_ret
  exact ⟨rfl, hx5⟩
set_option maxRecDepth 100000 in
set_option maxHeartbeats 4000000 in
theorem c_sJoinedAt (v : Value) (la ha : Nat) (x : NetT) (vf : Value) (lb hb : Nat) (F : List FogT) (t0 : Int) (V : List Int) (w : World) (h : Nets w la ha v x) (hh : ha ≤ w.heap.size) (h2 : Fogs w lb hb vf F) (hh2 : hb ≤ w.heap.size) (hV : JaV x F t0 V) :
    Calls Try.prog 36 #[v, vf, .int .i64 t0] w fun e w' => e = .returned (.tuple #[.bool (flOk x F t0 && decide (V.length = x.1.length)), .bool (flOk x F t0)]) ∧ Ext w w' := by
  obtain ⟨l0, hl0, hlz0, hlz1, hlz2⟩ := info_parts Try.info_link
  obtain ⟨q, hq⟩ : ∃ q, q = flOk x F t0 := ⟨_, rfl⟩
  obtain ⟨vn, hvn⟩ : ∃ n, n = V.length := ⟨_, rfl⟩
  obtain ⟨p, hp⟩ : ∃ p, p = (q && decide (V.length = x.1.length)) := ⟨_, rfl⟩
  rw [← hq, ← hp]
  have HN : Hid (q = true → netB x = true ∧ fogsB x.2.length F = true) := fun e => by
    have h8 := flOk_net (hq ▸ e : flOk x F t0 = true)
    exact ⟨h8.1, h8.2.1⟩
  unfold flOk at hq
  obtain ⟨q1, hq1⟩ : ∃ q, q = netB x := ⟨_, rfl⟩
  obtain ⟨q2, hq2⟩ : ∃ q, q = fogsB x.2.length F := ⟨_, rfl⟩
  rw [← hq1, ← hq2] at hq
  have C1 : Hid (∀ W, Ext w W → Calls Try.prog 40 #[v] W fun e w' => e = .returned (.bool q1) ∧ Ext W w') := fun W hX => by rw [hq1]; exact c_neGood v la ha x W (h.ext hX hh) (Nat.le_trans hh hX.size)
  have C2 : Hid (∀ W, Ext w W → Calls Try.prog 41 #[v, vf] W fun e w' => e = .returned (.bool q2) ∧ Ext W w') := fun W hX => by rw [hq2]; exact c_fgGood v vf la ha lb hb x F W (h.ext hX hh) (Nat.le_trans hh hX.size) (h2.ext hX hh2) (Nat.le_trans hh2 hX.size)
  clear hq1 hq2
  have CR0 : Hid (q = true → ∀ W vt vl vl0 lo, v = .agg #[vt, vl0] → Ext w W → Row encLink 3 W lo W.heap.size vl (clearL x F t0) → Calls Try.prog 66 #[.agg #[vt, vl], .int .i64 0] W fun e w' => ∃ a5 c5, e = .returned (.slice a5 vn c5) ∧ Ext W w') := fun hqt W vt vl vl0 lo hv hX hr => by
    obtain ⟨hn, _⟩ := HN.out hqt
    subst hv
    obtain ⟨p1, _⟩ := h.parts
    have hN : Nets W 0 W.heap.size (.agg #[vt, vl]) (x.1, clearL x F t0) := ⟨vt, vl, rfl, Row.mono (p1.ext hX hh) (Nat.zero_le _) (Nat.le_trans hh hX.size), hr.mono (Nat.zero_le _) (Nat.le_refl _)⟩
    obtain ⟨b1, b2⟩ := net_tow0 hn
    rw [hvn]
    exact (c_neReach _ 0 W.heap.size (x.1, clearL x F t0) 0 V W hN (Nat.le_refl _) (clearL_net hn) (by omega) b1 hV).mono fun e w' ⟨r, he, ho, hx⟩ => by
      obtain ⟨a5, c5, rfl, _⟩ := own_form ho
      exact ⟨a5, c5, he, hx⟩
  have CC0 : Hid (q = true → ∀ (k : Nat) W, Ext w W → Calls Try.prog 58 #[vf, .int .i64 k, .int .i64 t0] W fun e w' => e = .returned (.bool (clB F k t0)) ∧ Ext W w') := fun hqt k W hX =>
    c_fgClear vf lb hb x.2.length F k t0 W (h2.ext hX hh2) (fogsB_mem (HN.out hqt).2)
  have hl40 : q = true → x.2.length ≤ 40 := fun e => net_links (HN.out e).1
  have HL := Lib.hid (fun vt vl (e : v = .agg #[vt, vl]) => (by subst e; exact h.parts.2 : Links w la ha vl x.2))
  rw [← hvn] at hp
  unfold clearL at CR0
  clear hV hvn HN
  obtain ⟨a, ca, b, cb, rfl, ⟨m1, m2⟩, m3, m4⟩ := h.form
  obtain ⟨a2, ca2, rfl, m5, m6⟩ := Row.form h2
  obtain ⟨T, L⟩ := x
  clear h h2
  dsimp only at *
  generalize T.length = m at *
  generalize L.length = l at *
  generalize F.length = n at *
  have HLL := Lib.hid (HL.out _ _ rfl)
  have CR1 := Lib.hid (fun hqt W vl lo => CR0.out hqt W _ vl _ lo rfl)
  clear HL CR0
  cases q1
  · subst hq
    rw [show p = false from hp]
    go_enter Try.func36, Try.ntmps36
    go_wp2_with fail
    obtain ⟨W1, hW1⟩ : ∃ W, W = w.alloc (.cells #[.slice a m ca, .slice b l cb] 34) := ⟨_, rfl⟩
    rw [← hW1]
    have XX : Ext w W1 := by rw [hW1]; exact Ext.alloc _ _
    have k0 : W1.cell? ⟨w.heap.size, 0, none⟩ = some (.slice a m ca) := by rw [hW1]; exact box_cell _ _ _ 0 _ rfl
    have k1 : W1.cell? ⟨w.heap.size, 1, none⟩ = some (.slice b l cb) := by rw [hW1]; exact box_cell _ _ _ 1 _ rfl
    clear hW1
    refine ((C1).out _ XX).mono ?_
    rintro e wN ⟨rfl, hxN⟩
    replace k0 := hxN.cell k0
    replace k1 := hxN.cell k1
    replace XX := XX.trans hxN
    clear hxN
    go_wp2_with (fail)
    go_ret2
    exact ⟨rfl, XX⟩
  cases q2
  · subst hq
    rw [show p = false from hp]
    go_enter Try.func36, Try.ntmps36
    go_wp2_with fail
    obtain ⟨W1, hW1⟩ : ∃ W, W = w.alloc (.cells #[.slice a m ca, .slice b l cb] 34) := ⟨_, rfl⟩
    rw [← hW1]
    have XX : Ext w W1 := by rw [hW1]; exact Ext.alloc _ _
    have k0 : W1.cell? ⟨w.heap.size, 0, none⟩ = some (.slice a m ca) := by rw [hW1]; exact box_cell _ _ _ 0 _ rfl
    have k1 : W1.cell? ⟨w.heap.size, 1, none⟩ = some (.slice b l cb) := by rw [hW1]; exact box_cell _ _ _ 1 _ rfl
    clear hW1
    refine ((C1).out _ XX).mono ?_
    rintro e wN ⟨rfl, hxN⟩
    replace k0 := hxN.cell k0
    replace k1 := hxN.cell k1
    replace XX := XX.trans hxN
    clear hxN
    go_wp2_with ((go_at_call 41; refine ((C2).out _ XX).mono ?_; rintro e wN ⟨rfl, hxN⟩; replace k0 := hxN.cell k0; replace k1 := hxN.cell k1; replace XX := XX.trans hxN; clear hxN))
    go_ret2
    exact ⟨rfl, XX⟩
  cases q3 : inB 0 10000 t0
  · rw [q3] at hq
    subst hq
    rw [show p = false from hp]
    go_enter Try.func36, Try.ntmps36
    go_wp2_with fail
    obtain ⟨W1, hW1⟩ : ∃ W, W = w.alloc (.cells #[.slice a m ca, .slice b l cb] 34) := ⟨_, rfl⟩
    rw [← hW1]
    have XX : Ext w W1 := by rw [hW1]; exact Ext.alloc _ _
    have k0 : W1.cell? ⟨w.heap.size, 0, none⟩ = some (.slice a m ca) := by rw [hW1]; exact box_cell _ _ _ 0 _ rfl
    have k1 : W1.cell? ⟨w.heap.size, 1, none⟩ = some (.slice b l cb) := by rw [hW1]; exact box_cell _ _ _ 1 _ rfl
    clear hW1
    refine ((C1).out _ XX).mono ?_
    rintro e wN ⟨rfl, hxN⟩
    replace k0 := hxN.cell k0
    replace k1 := hxN.cell k1
    replace XX := XX.trans hxN
    clear hxN
    go_wp2_with ((first | (go_at_call 41; refine ((C2).out _ XX).mono ?_; rintro e wN ⟨rfl, hxN⟩; replace k0 := hxN.cell k0; replace k1 := hxN.cell k1; replace XX := XX.trans hxN; clear hxN) | (go_at_call 51; refine (c_fgTime _ _).mono ?_; rintro e w' ⟨rfl, rfl⟩)))
    go_ret2
    exact ⟨rfl, XX⟩
  · rw [q3] at hq
    subst hq
    have CL := Lib.hid (CC0.out rfl)
    have CR := Lib.hid (CR1.out rfl)
    have hl41 := hl40 rfl
    have hpI : ((vn : Int) == (m : Int)) = p := by rw [hp, Bool.true_and, Bool.true_and, Bool.true_and, Bool.eq_iff_iff, beq_iff_eq, decide_eq_true_eq]; omega
    obtain ⟨u, hu⟩ : ∃ u : Nat → Bool, u = fun k : Nat => clB F k t0 := ⟨_, rfl⟩
    have HU : Hid (∀ k : Nat, clB F k t0 = u k) := fun k => by rw [hu]
    rw [← hu] at CR
    have HPI := Lib.hid hpI
    clear CC0 CR1 hl40 hp hu hpI
    go_enter Try.func36, Try.ntmps36
    go_wp2_with fail
    obtain ⟨W1, hW1⟩ : ∃ W, W = w.alloc (.cells #[.slice a m ca, .slice b l cb] 34) := ⟨_, rfl⟩
    rw [← hW1]
    have XX : Ext w W1 := by rw [hW1]; exact Ext.alloc _ _
    have k0 : W1.cell? ⟨w.heap.size, 0, none⟩ = some (.slice a m ca) := by rw [hW1]; exact box_cell _ _ _ 0 _ rfl
    have k1 : W1.cell? ⟨w.heap.size, 1, none⟩ = some (.slice b l cb) := by rw [hW1]; exact box_cell _ _ _ 1 _ rfl
    clear hW1
    refine ((C1).out _ XX).mono ?_
    rintro e wN ⟨rfl, hxN⟩
    replace k0 := hxN.cell k0
    replace k1 := hxN.cell k1
    replace XX := XX.trans hxN
    clear hxN
    go_wp2_with (first | (go_at_call 41; refine ((C2).out _ XX).mono ?_; rintro e wM ⟨rfl, hxN⟩; replace k0 := hxN.cell k0; replace k1 := hxN.cell k1; replace XX := XX.trans hxN; have g1 := (Ext.alloc wM (.cells #[.slice a m ca, .slice none 0 0] 34)).cell k1; clear hxN) | (go_at_call 51; refine (c_fgTime _ _).mono ?_; rintro e w' ⟨rfl, rfl⟩))
    obtain ⟨W0, hW0⟩ : ∃ W, W = wM.alloc (.cells #[.slice a m ca, .slice none 0 0] 34) := ⟨_, rfl⟩
    rw [← hW0]
    have B0 : W0.heap[wM.heap.size]? = some (.cells #[.slice a m ca, .slice none 0 0] 34) := by rw [hW0]; exact blk_alloc _ _
    have XM : Ext wM W0 := by rw [hW0]; exact Ext.alloc _ _
    have HB0 := Lib.hid B0
    have HSZ := Lib.hid XX.size
    have K0 := Lib.hid k0
    have K1 := Lib.hid k1
    clear hW0 B0 k0 k1 g1 C1 C2
    go_loopw [31] (fun tk wr => ∃ (k : Nat) (a6 : Option Addr) (c6 : Nat) (U : List LinkT), k ≤ l ∧ tk = .int .i64 k ∧ Hid (wr.heap[wM.heap.size]? = some (.cells #[.slice a m ca, .slice a6 U.length c6] 34)) ∧
        wr.ownsRow (wM.heap.size + 1) 82 3 (.slice a6 U.length c6) U.length (U.flatMap encLink) ∧ Hid (U = keepL u L k) ∧ Ext wM wr) (fun tk _ => l - (intOf tk).toNat)
    case atStart => exact ⟨0, none, 0, [], by omega, rfl, HB0.out, World.ownsRow_nil _ _ _ _, rfl, XM⟩
    case round =>
      clear HB0 XM
      obtain ⟨k, a6, c6, U, hk, rfl, hB, hown, hU, hx⟩ := hrel
      have HOWN := Lib.hid hown
      have XW := XX.trans hx
      have hUl := keepL_len u L k
      rw [← hU.out] at hUl
      clear hown
      by_cases hlt : k < l
      · have hltI : (k : Int) < (l : Int) := by omega
        obtain ⟨b9, o9, y, rfl, hy, c0, c1, c2⟩ := Links_at (HLL.out.ext XW hh) hlt
        have hsn := Lib.hid (keepL_succ (u := u) hy.out)
        obtain ⟨z, hz⟩ : ∃ z, z = u k := ⟨_, rfl⟩
        rw [← hz] at hsn
        have n1 := hx.cell K1.out
        go_wp2_with fail
        obtain ⟨w5, hw5⟩ : ∃ W, W = wr.alloc (.cells #[.int .i64 y.1, .int .i64 y.2.1, .int .i64 y.2.2] 82) := ⟨_, rfl⟩
        rw [← hw5]
        have BL : w5.heap[wr.heap.size]? = some (.cells #[.int .i64 y.1, .int .i64 y.2.1, .int .i64 y.2.2] 82) := by rw [hw5]; exact blk_alloc _ _
        have X5 : Ext wr w5 := by rw [hw5]; exact Ext.alloc _ _
        have CZ := CL.out k _ (XW.trans X5)
        rw [HU.out, ← hz] at CZ
        have HBL := Lib.hid BL
        have HU2 := Lib.hid (hU.out)
        clear hw5 BL c0 c1 c2 n1 hz
        refine CZ.mono ?_
        rintro e w7 ⟨rfl, hx7⟩
        have X7 := X5.trans hx7
        have bl := hx7.blk HBL.out
        have bs := X7.blk hB.out
        have d0 := blk_cell bl (j := 0) rfl
        have d1 := blk_cell bl (j := 1) rfl
        have d2 := blk_cell bl (j := 2) rfl
        have s1 := blk_cell bs (j := 1) rfl
        have HO7 := Lib.hid (own_ext HOWN.out X7)
        have HBS := Lib.hid bs
        have hs7 := (hx.trans X7).size
        have hlt7 : wM.heap.size < w7.heap.size := (Array.getElem?_eq_some_iff.1 bs).1
        clear CZ bl bs
        cases z
        · go_wp2
          go_roundw
          case rel => exact ⟨k + 1, a6, c6, U, by omega, by go_num, HBS.out, HO7.out, (by unfold Hid; rw [hsn.out, ← HU2.out]; simp), hx.trans X7⟩
          case measure => simp [intOf]; omega
        · go_wp2_with
            (at_builtin; refine wpList_append_own _ rfl _ _ 32 rfl (wM.heap.size + 1) 82 l0 (.agg #[.int .i64 0, .int .i64 0, .int .i64 0]) 3 24 Try.underlying32 hl0 hlz0 hlz1 hlz2 rfl (by decide) _ _ _ rfl ((HO7.out).alloc _) ⟨w7.heap.size, 0, none⟩ 1 1 [.int .i64 (y.1), .int .i64 (y.2.1), .int .i64 (y.2.2)] rfl rfl (new_cells3 _ _ _ _ _) (by intro u hu; simp at hu; rcases hu with rfl | rfl | rfl <;> rfl) (by unfold maxLen; omega) (by omega) (by simp; omega) ?_; intro v6 w6 hown6 hgrow6 _; obtain ⟨a8, c8, rfl, _, _, _⟩ := own_form hown6; have hb6 := grown_box HBS.out (HO7.out) hgrow6 (Nat.lt_succ_self _); have e61 := blk_cell hb6 (j := 1) rfl; have f61 := blk_free hb6 1)
          have h61 := Lib.hid (own_set_box (j := 1) (z := .slice a8 (U.length + 1) c8) hown6 (Nat.lt_succ_self wM.heap.size))
          have h62 := Lib.hid (box_set1 (z := .slice a8 (U.length + 1) c8) hb6)
          have h63 := Lib.hid (((hx.trans X7).push HO7.out hgrow6 (Nat.le_succ _)).st (p := ⟨wM.heap.size, 1, none⟩) (Nat.le_refl _) (.slice a8 (U.length + 1) c8))
          clear hown6 hgrow6 hb6 e61 f61
          go_roundw
          case rel => exact ⟨k + 1, a8, c8, U ++ [y], by omega, by go_num, (by rw [List.length_append]; exact h62.out), (by rw [List.length_append, ← link_snoc]; exact h61.out), (by unfold Hid; rw [hsn.out, ← HU2.out]; rfl), h63.out⟩
          case measure => simp [intOf]; omega
      · have hge : ¬ ((k : Int) < (l : Int)) := by omega
        have hkl : k = l := by omega
        have hU3 : U = keepL u L l := by rw [hU.out, hkl]
        have hb4 := hB.out
        have CW : Hid (∀ W, Ext wr W → Calls Try.prog 66 #[.agg #[.slice a m ca, .slice a6 U.length c6], .int .i64 0] W fun e w' => ∃ a5 c5, e = .returned (.slice a5 vn c5) ∧ Ext wr w') := fun W hX => by
          have hr := Row.of_own encLink_len (own_ext HOWN.out hX)
          rw [hU3] at hr ⊢
          exact (CR.out W _ _ (XW.trans hX) hr).mono fun e w' ⟨a5, c5, he, hx⟩ => ⟨a5, c5, he, hX.trans hx⟩
        have k0 := hx.cell K0.out
        have k1 := hx.cell K1.out
        have s0 := blk_cell hb4 (j := 0) rfl
        have s1 := blk_cell hb4 (j := 1) rfl
        have hpI := HPI.out
        clear hkl hU3 hb4
        go_wp2_with fail
        go_region_held3 (fun w' => Ext wr w' ∧ w'.cell? ⟨w.heap.size, 0, none⟩ = some (.slice a m ca) ∧ w'.cell? ⟨w.heap.size, 1, none⟩ = some (.slice b l cb) ∧ w'.cell? ⟨wM.heap.size, 0, none⟩ = some (.slice a m ca) ∧ w'.cell? ⟨wM.heap.size, 1, none⟩ = some (.slice a6 U.length c6))
          (first | exact ⟨Ext.drew _, k0, k1, s0, s1⟩ | exact ⟨hxs, hxs.cell k0, hxs.cell k1, hxs.cell s0, hxs.cell s1⟩)
          ((go_at_call 66; refine (CW.out _ (Ext.drew _)).mono ?_; rintro e w5 ⟨a5, c5, rfl, hxs⟩))
        go_wp2
        go_ret2
        exact ⟨rfl, XW.trans hxs⟩
set_option maxRecDepth 100000 in
set_option maxHeartbeats 4000000 in
theorem c_iJoinedAt (v : Value) (la ha : Nat) (x : NetT) (vf : Value) (lb hb : Nat) (F : List FogT) (t0 : Int) (V : List Int) (w : World) (h : Nets w la ha v x) (hh : ha ≤ w.heap.size) (h2 : Fogs w lb hb vf F) (hh2 : hb ≤ w.heap.size) (hV : JaV x F t0 V) :
    Calls Try.prog 37 #[v, vf, .int .i64 t0] w fun e w' => e = .returned (.tuple #[.bool (flOk x F t0 && decide (V.length = x.1.length)), .bool (flOk x F t0)]) ∧ Ext w w' := by
  obtain ⟨q, hq⟩ : ∃ q, q = flOk x F t0 := ⟨_, rfl⟩
  obtain ⟨vn, hvn⟩ : ∃ n, n = V.length := ⟨_, rfl⟩
  obtain ⟨p, hp⟩ : ∃ p, p = (q && decide (V.length = x.1.length)) := ⟨_, rfl⟩
  rw [← hq, ← hp]
  have HN : Hid (q = true → netB x = true ∧ fogsB x.2.length F = true) := fun e => by
    have h8 := flOk_net (hq ▸ e : flOk x F t0 = true)
    exact ⟨h8.1, h8.2.1⟩
  unfold flOk at hq
  obtain ⟨q1, hq1⟩ : ∃ q, q = netB x := ⟨_, rfl⟩
  obtain ⟨q2, hq2⟩ : ∃ q, q = fogsB x.2.length F := ⟨_, rfl⟩
  rw [← hq1, ← hq2] at hq
  have C1 : Hid (∀ W, Ext w W → Calls Try.prog 45 #[v] W fun e w' => e = .returned (.bool q1) ∧ Ext W w') := fun W hX => by rw [hq1]; exact c_IsNet v la ha x W (h.ext hX hh) (Nat.le_trans hh hX.size)
  have C2 : Hid (∀ W, Ext w W → Calls Try.prog 46 #[v, vf] W fun e w' => e = .returned (.bool q2) ∧ Ext W w') := fun W hX => by rw [hq2]; exact c_areFogs v vf la ha lb hb x F W (h.ext hX hh) (Nat.le_trans hh hX.size) (h2.ext hX hh2) (Nat.le_trans hh2 hX.size)
  clear hq1 hq2
  have CR0 : Hid (q = true → ∀ W bl bt, Ext w W → W.cell? ⟨bl, 0, none⟩ = some vf → W.cell? ⟨bt, 0, none⟩ = some (.int .i64 t0) →
      Calls Try.prog 67 #[v, .int .i64 0, .func (.func 68) #[] #[.pointer (some ⟨bl, 0, none⟩), .pointer (some ⟨bt, 0, none⟩)]] W fun e w' => ∃ a5 c5, e = .returned (.slice a5 vn c5) ∧ Ext W w') := fun hqt W bl bt hX hc1 hc2 => by
    obtain ⟨hn, _⟩ := HN.out hqt
    obtain ⟨b1, b2⟩ := net_tow0 hn
    rw [hvn]
    exact (c_joinAt v la ha x 0 V bl bt (fun k : Nat => clB F k t0) (clearL x F t0) W (h.ext hX hh) hn (by omega) b1 (fun W2 k hX2 _ => c_joinFn k bl bt vf lb hb F t0 W2 (h2.ext (hX.trans hX2) hh2) (Nat.le_trans hh2 (hX.trans hX2).size) (hX2.cell hc1) (hX2.cell hc2)) (fun y => clearL_mem y) hV).mono fun e w' ⟨r, he, ho, hx⟩ => by
      obtain ⟨a5, c5, rfl, _⟩ := own_form ho
      exact ⟨a5, c5, he, hx⟩
  rw [← hvn] at hp
  clear hV hvn HN
  obtain ⟨a, ca, b, cb, rfl, ⟨m1, m2⟩, m3, m4⟩ := h.form
  obtain ⟨a2, ca2, rfl, m5, m6⟩ := Row.form h2
  obtain ⟨T, L⟩ := x
  clear h h2
  dsimp only at *
  generalize T.length = m at *
  generalize L.length = l at *
  generalize F.length = n at *
  cases q1
  · subst hq
    rw [show p = false from hp]
    go_enter Try.func37, Try.ntmps37
    go_wp2_with fail
    obtain ⟨W1, hW1⟩ : ∃ W, W = ((w.alloc (.cells #[.slice a m ca, .slice b l cb] 34)).alloc (.cells #[.slice a2 n ca2] 36)).alloc (.cells #[.int .i64 t0] 3) := ⟨_, rfl⟩
    rw [← hW1]
    have XX : Ext w W1 := by rw [hW1]; exact (((Ext.refl w).al _).al _).al _
    have k0 : W1.cell? ⟨w.heap.size, 0, none⟩ = some (.slice a m ca) := by rw [hW1]; exact blk_cell (blk_old (blk_old (blk_alloc _ _))) (j := 0) rfl
    have k1 : W1.cell? ⟨w.heap.size, 1, none⟩ = some (.slice b l cb) := by rw [hW1]; exact blk_cell (blk_old (blk_old (blk_alloc _ _))) (j := 1) rfl
    have k2 : W1.cell? ⟨w.heap.size + 1, 0, none⟩ = some (.slice a2 n ca2) := by rw [hW1]; exact blk_cell (blk_old (blk_alloc2 _ _ _)) (j := 0) rfl
    have k3 : W1.cell? ⟨w.heap.size + 2, 0, none⟩ = some (.int .i64 t0) := by rw [hW1]; exact blk_cell (blk_alloc3 _ _ _ _) (j := 0) rfl
    clear hW1
    refine ((C1).out _ XX).mono ?_
    rintro e wN ⟨rfl, hxN⟩
    replace k0 := hxN.cell k0
    replace k1 := hxN.cell k1
    replace k2 := hxN.cell k2
    replace k3 := hxN.cell k3
    replace XX := XX.trans hxN
    clear hxN
    go_wp2_with (fail)
    go_ret2
    exact ⟨rfl, XX⟩
  cases q2
  · subst hq
    rw [show p = false from hp]
    go_enter Try.func37, Try.ntmps37
    go_wp2_with fail
    obtain ⟨W1, hW1⟩ : ∃ W, W = ((w.alloc (.cells #[.slice a m ca, .slice b l cb] 34)).alloc (.cells #[.slice a2 n ca2] 36)).alloc (.cells #[.int .i64 t0] 3) := ⟨_, rfl⟩
    rw [← hW1]
    have XX : Ext w W1 := by rw [hW1]; exact (((Ext.refl w).al _).al _).al _
    have k0 : W1.cell? ⟨w.heap.size, 0, none⟩ = some (.slice a m ca) := by rw [hW1]; exact blk_cell (blk_old (blk_old (blk_alloc _ _))) (j := 0) rfl
    have k1 : W1.cell? ⟨w.heap.size, 1, none⟩ = some (.slice b l cb) := by rw [hW1]; exact blk_cell (blk_old (blk_old (blk_alloc _ _))) (j := 1) rfl
    have k2 : W1.cell? ⟨w.heap.size + 1, 0, none⟩ = some (.slice a2 n ca2) := by rw [hW1]; exact blk_cell (blk_old (blk_alloc2 _ _ _)) (j := 0) rfl
    have k3 : W1.cell? ⟨w.heap.size + 2, 0, none⟩ = some (.int .i64 t0) := by rw [hW1]; exact blk_cell (blk_alloc3 _ _ _ _) (j := 0) rfl
    clear hW1
    refine ((C1).out _ XX).mono ?_
    rintro e wN ⟨rfl, hxN⟩
    replace k0 := hxN.cell k0
    replace k1 := hxN.cell k1
    replace k2 := hxN.cell k2
    replace k3 := hxN.cell k3
    replace XX := XX.trans hxN
    clear hxN
    go_wp2_with ((go_at_call 46; refine ((C2).out _ XX).mono ?_; rintro e wN ⟨rfl, hxN⟩; replace k0 := hxN.cell k0; replace k1 := hxN.cell k1; replace k2 := hxN.cell k2; replace k3 := hxN.cell k3; replace XX := XX.trans hxN; clear hxN))
    go_ret2
    exact ⟨rfl, XX⟩
  cases q3 : inB 0 10000 t0
  · rw [q3] at hq
    subst hq
    rw [show p = false from hp]
    go_enter Try.func37, Try.ntmps37
    go_wp2_with fail
    obtain ⟨W1, hW1⟩ : ∃ W, W = ((w.alloc (.cells #[.slice a m ca, .slice b l cb] 34)).alloc (.cells #[.slice a2 n ca2] 36)).alloc (.cells #[.int .i64 t0] 3) := ⟨_, rfl⟩
    rw [← hW1]
    have XX : Ext w W1 := by rw [hW1]; exact (((Ext.refl w).al _).al _).al _
    have k0 : W1.cell? ⟨w.heap.size, 0, none⟩ = some (.slice a m ca) := by rw [hW1]; exact blk_cell (blk_old (blk_old (blk_alloc _ _))) (j := 0) rfl
    have k1 : W1.cell? ⟨w.heap.size, 1, none⟩ = some (.slice b l cb) := by rw [hW1]; exact blk_cell (blk_old (blk_old (blk_alloc _ _))) (j := 1) rfl
    have k2 : W1.cell? ⟨w.heap.size + 1, 0, none⟩ = some (.slice a2 n ca2) := by rw [hW1]; exact blk_cell (blk_old (blk_alloc2 _ _ _)) (j := 0) rfl
    have k3 : W1.cell? ⟨w.heap.size + 2, 0, none⟩ = some (.int .i64 t0) := by rw [hW1]; exact blk_cell (blk_alloc3 _ _ _ _) (j := 0) rfl
    clear hW1
    refine ((C1).out _ XX).mono ?_
    rintro e wN ⟨rfl, hxN⟩
    replace k0 := hxN.cell k0
    replace k1 := hxN.cell k1
    replace k2 := hxN.cell k2
    replace k3 := hxN.cell k3
    replace XX := XX.trans hxN
    clear hxN
    go_wp2_with ((first | (go_at_call 46; refine ((C2).out _ XX).mono ?_; rintro e wN ⟨rfl, hxN⟩; replace k0 := hxN.cell k0; replace k1 := hxN.cell k1; replace k2 := hxN.cell k2; replace k3 := hxN.cell k3; replace XX := XX.trans hxN; clear hxN) | (go_at_call 55; refine (within_c _ _ _ _).mono ?_; rintro e w' ⟨rfl, rfl⟩)))
    go_ret2
    exact ⟨rfl, XX⟩
  · rw [q3] at hq
    subst hq
    have CR := Lib.hid (CR0.out rfl)
    have hpI : ((vn : Int) == (m : Int)) = p := by rw [hp, Bool.true_and, Bool.true_and, Bool.true_and, Bool.eq_iff_iff, beq_iff_eq, decide_eq_true_eq]; omega
    clear CR0 hp
    go_enter Try.func37, Try.ntmps37
    go_wp2_with fail
    obtain ⟨W1, hW1⟩ : ∃ W, W = ((w.alloc (.cells #[.slice a m ca, .slice b l cb] 34)).alloc (.cells #[.slice a2 n ca2] 36)).alloc (.cells #[.int .i64 t0] 3) := ⟨_, rfl⟩
    rw [← hW1]
    have XX : Ext w W1 := by rw [hW1]; exact (((Ext.refl w).al _).al _).al _
    have k0 : W1.cell? ⟨w.heap.size, 0, none⟩ = some (.slice a m ca) := by rw [hW1]; exact blk_cell (blk_old (blk_old (blk_alloc _ _))) (j := 0) rfl
    have k1 : W1.cell? ⟨w.heap.size, 1, none⟩ = some (.slice b l cb) := by rw [hW1]; exact blk_cell (blk_old (blk_old (blk_alloc _ _))) (j := 1) rfl
    have k2 : W1.cell? ⟨w.heap.size + 1, 0, none⟩ = some (.slice a2 n ca2) := by rw [hW1]; exact blk_cell (blk_old (blk_alloc2 _ _ _)) (j := 0) rfl
    have k3 : W1.cell? ⟨w.heap.size + 2, 0, none⟩ = some (.int .i64 t0) := by rw [hW1]; exact blk_cell (blk_alloc3 _ _ _ _) (j := 0) rfl
    clear hW1
    refine ((C1).out _ XX).mono ?_
    rintro e wN ⟨rfl, hxN⟩
    replace k0 := hxN.cell k0
    replace k1 := hxN.cell k1
    replace k2 := hxN.cell k2
    replace k3 := hxN.cell k3
    replace XX := XX.trans hxN
    clear hxN
    go_wp2_with (first | (go_at_call 46; refine ((C2).out _ XX).mono ?_; rintro e wN ⟨rfl, hxN⟩; replace k0 := hxN.cell k0; replace k1 := hxN.cell k1; replace k2 := hxN.cell k2; replace k3 := hxN.cell k3; replace XX := XX.trans hxN; clear hxN) | (go_at_call 55; refine (within_c _ _ _ _).mono ?_; rintro e w' ⟨rfl, rfl⟩))
    refine (CR.out _ _ _ XX k2 k3).mono ?_
    rintro e w9 ⟨a5, c5, rfl, hx9⟩
    replace k0 := hx9.cell k0
    go_wp2
    go_ret2
    exact ⟨rfl, XX.trans hx9⟩
end Go.Proofs.Ytngnagicgheenaa
