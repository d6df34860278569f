


/- What can be reached by some of the links: the program's loop, walked. -/
import Derived.Test.YtmaaeemhbccpcaaGreatDoorReachB
namespace Go.Proofs.YtmaaeemhbccpcaaGreatDoor
open Go.RowKit
theorem getD_keep {S : List Bool} {i p : Nat} (h : S.getD i false = true) : (S.set p true).getD i false = true := by
  rw [List.getD_eq_getElem?_getD] at h ⊢
  by_cases e : p = i
  · subst e
    cases hs : S[p]? with
    | none => rw [hs] at h; simp at h
    | some b => rw [List.getElem?_set_self (List.getElem?_eq_some_iff.1 hs).1]; rfl
  · rw [List.getElem?_set_ne e]; exact h
theorem getD_of {S : List Bool} {p : Nat} {s : Bool} (h : S[p]? = some s) : S.getD p false = s := by
  rw [List.getD_eq_getElem?_getD, h]; rfl
theorem nF_two {S : List Bool} {p q : Nat} {s1 s2 : Bool} (h1 : S[p]? = some s1) (h2 : S[q]? = some s2) (hpq : p ≠ q) (hne : s1 ≠ s2) : nF ((S.set p true).set q true) + 1 ≤ nF S := by
  cases s1
  · have := nF_set_lt S p h1
    have := nF_set (S.set p true) q
    omega
  · cases s2
    · have := nF_set S p
      have := nF_set_lt (S.set p true) q (by rw [List.getElem?_set_ne hpq]; exact h2)
      omega
    · exact absurd rfl hne
theorem SndB.two {L : List LinkT} {i : Int} {S : List Bool} {p q : Nat} {s1 s2 : Bool} {d : Int} (h : SndB L i S) (h1 : S[p]? = some s1) (h2 : S[q]? = some s2) (hne : s1 ≠ s2) (hy : (((p : Nat) : Int), ((q : Nat) : Int), d) ∈ L) : SndB L i ((S.set p true).set q true) := by
  have hst := ReachL.step (i := i) hy
  simp only at hst
  cases s1
  · cases s2
    · exact absurd rfl hne
    · have r := h q h2
      exact (h.set (hst.2 r)).set r
  · have r := h p h1
    exact (h.set r).set (hst.1 r)
set_option maxRecDepth 100000 in
set_option maxHeartbeats 8000000 in
theorem c_reachFrom (v : Value) (la ha : Nat) (x : NetT) (i : Int) (V : List Int)  (u : Nat → Bool) (L' : List LinkT) (w : World) (h : Nets w la ha v x) (hn : netB x = true) (hi0 : 0 ≤ i) (hi1 : i < (x.1.length : Int))
    (hu : ∀ W (k : Nat), Ext w W → k < x.2.length → Calls Tryz.prog 48 #[.int .i64 k] W fun e w' => e = .returned (.bool (u k)) ∧ Ext W w')
    (hL' : ∀ y, y ∈ L' ↔ ∃ k, x.2[k]? = some y ∧ u k = true) (hV : IsReach x.1.length L' i V) :
    Calls Tryz.prog 33 #[v, .int .i64 i, .func (.func 48) #[] #[]] w fun e w' => ∃ r, e = .returned r ∧ w'.ownsRow w.heap.size 3 1 r V.length (V.flatMap encI) ∧ Ext w w' := by
  obtain ⟨i0, hi0', hz0', hz1, hz2⟩ := info_parts Tryz.info_intC2
  obtain ⟨j0, hj0, hy0, hy1, hy2⟩ := info_parts Tryz.info_bool
  obtain ⟨ii, rfl⟩ := Int.eq_ofNat_of_zero_le hi0
  have hm16 : x.1.length ≤ 16 := by
    have h1 := hn
    simp only [netB, Bool.and_eq_true] at h1
    have := (inB_t h1.1).2; omega
  have HLK := Lib.hid (netB_links hn)
  have HV := Lib.hid hV
  have HU := Lib.hid hu
  have HL' := Lib.hid hL'
  obtain ⟨a, ca, b, cb, rfl, ⟨m1, m2⟩, m3, m4⟩ := h.form
  have HL := Lib.hid h.parts.2
  obtain ⟨m, hm⟩ : ∃ n, n = x.1.length := ⟨_, rfl⟩
  obtain ⟨l, hl⟩ : ∃ n, n = x.2.length := ⟨_, rfl⟩
  rw [← hm] at m1 hi1 hm16 HLK HV ⊢
  rw [← hl] at m3 HL HU ⊢
  have HM := Lib.hid hm
  have HLL := Lib.hid hl
  have him : ii < m := by omega
  clear h hm hl hn hV hu hL'
  go_enter Tryz.func33, Tryz.ntmps33
  go_wp2_with (at_make; refine wpList_make_full _ rfl _ _ 91 rfl (w.heap.size + 1) 4 j0 (.bool false) 1 Tryz.underlying91 hj0 hy0 hy1 _ _ _ _ m rfl rfl rfl rfl (by rw [hy2]; omega) (by unfold maxLen; omega) (by simp) ?_; intro w1 hown hgrow; rw [made_bools] at hown; rw [size_alloc] at hown ⊢; have hse : (List.replicate m false)[ii]? = some false := (by simp [him]); have e0 := own_cellB hown hse him; have z0 := hown.frozenAt ii; have HO1 := Lib.hid hown; have HG1 := Lib.hid hgrow; clear hse hown hgrow)
  obtain ⟨w2, hw2⟩ : ∃ W, W = w1.setCell ⟨w.heap.size + 1, ii, none⟩ (.bool true) := ⟨_, rfl⟩
  rw [← hw2]
  have X1 : Ext w w1 := (Ext.alloc w _).gr HG1.out (by simp)
  have B1 : w1.heap[w.heap.size]? = some (.cells #[.slice a m ca, .slice b l cb] 27) := by
    rw [HG1.out.block w.heap.size (by simp) (by simp)]; exact blk_alloc _ _
  have X2 : Ext w w2 := by rw [hw2]; exact X1.st (by dsimp only; omega) _
  have B2 : Hid (w2.heap[w.heap.size]? = some (.cells #[.slice a m ca, .slice b l cb] 27)) := by
    unfold Hid; rw [hw2, heap_setCell_other _ _ _ _ (by show w.heap.size ≠ w.heap.size + 1; omega)]; exact B1
  have O2 : Hid (w2.ownsRow (w.heap.size + 1) 4 1 (.slice (some ⟨w.heap.size + 1, 0, none⟩) m m) m (((List.replicate m false).set ii true).flatMap encB)) := by
    unfold Hid; rw [hw2]; exact own_setB HO1.out ii true
  have hS0 : Hid (SndB L' ii ((List.replicate m false).set ii true)) := by
    refine SndB.set (fun k hk => ?_) (ReachL.self _ _)
    rw [List.getElem?_replicate] at hk
    split at hk <;> simp at hk
  have hI0 : Hid (((List.replicate m false).set ii true).getD ii false = true) := by
    unfold Hid; rw [List.getD_eq_getElem?_getD, List.getElem?_set_self (by simp [him])]; rfl
  have hN0 : nF ((List.replicate m false).set ii true) + 1 ≤ m + 1 := by
    have := nF_le ((List.replicate m false).set ii true); simp at this; omega
  clear hw2 X1 B1 e0 z0 HO1 HG1
  go_loopg [8] (m + 1) (fun gg tg wr => ∃ (S : List Bool) (gr : Bool), tg = .bool gr ∧ wr.ownsRow (w.heap.size + 1) 4 1 (.slice (some ⟨w.heap.size + 1, 0, none⟩) m m) m (S.flatMap encB) ∧ nF S + (if gr then 1 else 0) ≤ gg ∧ Hid (SndB L' ii S) ∧ Hid (S.getD ii false = true) ∧
      Hid (gr = false → ∀ y ∈ L', S.getD y.1.toNat false = S.getD y.2.1.toNat false) ∧ Hid (wr.heap[w.heap.size]? = some (.cells #[.slice a m ca, .slice b l cb] 27)) ∧ Ext w wr)
  case atStart => exact ⟨_, true, rfl, O2.out, by simpa using hN0, hS0.out, hI0.out, (fun e => by cases e), B2.out, X2⟩
  case round =>
    obtain ⟨S, gr, rfl, hown, hgg, hS, hI, hC, HB, hx⟩ := hrel
    obtain ⟨wo, hwo⟩ : ∃ W, W = wr := ⟨_, rfl⟩
    subst hwo
    have hSl : S.length = m := by have := hown.1; rw [flat_mapB, List.length_map] at this; omega
    have HSL := Lib.hid hSl
    have HOWN := Lib.hid hown
    have HGG := Lib.hid hgg
    clear hSl hown hgg
    have n0 : wo.cell? ⟨w.heap.size, 0, none⟩ = some (.slice a m ca) := blk_cell HB.out (j := 0) rfl
    have n1 : wo.cell? ⟨w.heap.size, 1, none⟩ = some (.slice b l cb) := blk_cell HB.out (j := 1) rfl
    cases gr
    · have HSZ := Lib.hid hx.size
      go_wp2
      clear n0 n1
      go_loopw [11, 57] (fun vr tk wr3 => ∃ (k : Nat) (R : List Int), k ≤ m ∧ tk = .int .i64 k ∧ wr3.ownsRow wo.heap.size 3 1 vr R.length (R.flatMap encI) ∧ Hid (R = fupto (fun j => S.getD j false) k) ∧ Ext wo wr3) (fun _ tk _ => m - (intOf tk).toNat)
      case atStart => exact ⟨0, [], by omega, rfl, World.ownsRow_nil _ _ _ _, rfl, Ext.refl _⟩
      case round =>
        obtain ⟨k, R, hk, rfl, hown3, hR, hx3⟩ := hrel
        by_cases hlt : k < m
        · obtain ⟨s, hs⟩ : ∃ s, S[k]? = some s := ⟨_, List.getElem?_eq_getElem (by rw [HSL.out]; exact hlt)⟩
          have e0 := hx3.cell (own_cellB HOWN.out hs hlt)
          have hltI : (k : Int) < (m : Int) := by omega
          have hRl := fupto_len (fun j => S.getD j false) k
          rw [← hR.out] at hRl
          have hsn : Hid (fupto (fun j => S.getD j false) (k + 1) = R ++ (if s then [(k : Int)] else [])) := by
            unfold Hid
            rw [show fupto (fun j => S.getD j false) (k + 1) = fupto (fun j => S.getD j false) k ++ (if S.getD k false then [(k : Int)] else []) from rfl, ← hR.out, getD_of hs]
          have HO3 := Lib.hid hown3
          clear hs hown3
          cases s
          · go_wp2
            go_roundw
            case rel => exact ⟨k + 1, R, by omega, by go_num, HO3.out, (by unfold Hid; rw [hsn.out]; simp), hx3⟩
            case measure => simp [intOf]; omega
          · go_wp2_with (at_builtin; refine wpList_append_own _ rfl _ _ 31 rfl wo.heap.size 3 i0 (.int .i64 0) 1 8 Tryz.underlying31 hi0' hz0' hz1 hz2 rfl (by decide) _ _ _ rfl (HO3.out.alloc _) ⟨wr.heap.size, 0, none⟩ 1 1 [.int .i64 (k : Int)] rfl rfl (new_cells1 _ _ _) (by intro u hu; simp at hu; subst hu; rfl) (by unfold maxLen; omega) (by omega) (by have := hx3.size; simp; omega) ?_; intro v3 w6 hown4 hgrow4 _)
            go_roundw
            case rel => exact ⟨k + 1, _, by omega, by go_num, own_push hown4, (by unfold Hid; rw [hsn.out]; rfl), hx3.push HO3.out hgrow4 (Nat.le_refl _)⟩
            case measure => simp [intOf]; omega
        · have hge : ¬ ((k : Int) < (m : Int)) := by omega
          have hkm : k = m := by omega
          have HRV : Hid (R = V) := by
            unfold Hid
            rw [hR.out, hkm]
            exact seen_reach HV.out HSL.out (by rw [Int.toNat_natCast]; exact hI.out) hS.out (hC.out (by trivial))
          have HO := Lib.hid hown3
          obtain ⟨a9, c9, rfl, _, _, _⟩ := own_form hown3
          clear hown3 hkm
          go_wp2
          go_ret
          refine ⟨_, rfl, ?_, hx.trans hx3⟩
          rw [← HRV.out]
          exact own_mono HO.out HSZ.out
    · go_wp2
      clear n0 n1
      go_loopw [8, 25] (fun tg tk wr2 => ∃ (k : Nat) (S2 : List Bool) (g2 : Bool), k ≤ l ∧ tk = .int .i64 k ∧ tg = .bool g2 ∧ wr2.ownsRow (w.heap.size + 1) 4 1 (.slice (some ⟨w.heap.size + 1, 0, none⟩) m m) m (S2.flatMap encB) ∧ Hid (nF S2 + (if g2 then 1 else 0) ≤ nF S) ∧ Hid (SndB L' ii S2) ∧ Hid (S2.getD ii false = true) ∧
          Hid (g2 = false → ∀ (q : Nat) y, q < k → x.2[q]? = some y → u q = true → S2.getD y.1.toNat false = S2.getD y.2.1.toNat false) ∧ Hid (wr2.heap[w.heap.size]? = some (.cells #[.slice a m ca, .slice b l cb] 27)) ∧ Ext w wr2) (fun _ tk _ => l - (intOf tk).toNat)
      case atStart => exact ⟨0, S, false, by omega, rfl, rfl, HOWN.out, by simp [Hid], hS.out, hI.out, (fun _ q y h => by omega), HB.out, hx⟩
      case round =>
        obtain ⟨k, S2, g2, hk, rfl, rfl, hown2, hnf, hS2, hI2, hC2, HB2, hx2⟩ := hrel
        have hS2l : S2.length = m := by have := hown2.1; rw [flat_mapB, List.length_map] at this; omega
        have HO2 := Lib.hid hown2
        clear hown2
        by_cases hlt : k < l
        · obtain ⟨b9, o9, y, rfl, hy, c0, c1, c2⟩ := Links_at HL.out hlt
          have hlk := HLK.out y (List.mem_of_getElem? hy.out)
          simp only [lkB, Bool.and_eq_true, decide_eq_true_eq] at hlk
          obtain ⟨l1, l2, l3, _⟩ := hlk
          obtain ⟨y1, y2, y3⟩ := y
          simp only at l1 l2 l3 c0 c1 c2
          obtain ⟨p, rfl⟩ := Int.eq_ofNat_of_zero_le l1
          obtain ⟨q, rfl⟩ := Int.eq_ofNat_of_zero_le (show 0 ≤ y2 by omega)
          have hpm : p < m := by omega
          have hqm : q < m := by omega
          have hpq : p ≠ q := by omega
          obtain ⟨s1, hs1⟩ : ∃ s, S2[p]? = some s := ⟨_, List.getElem?_eq_getElem (by omega)⟩
          obtain ⟨s2, hs2⟩ : ∃ s, S2[q]? = some s := ⟨_, List.getElem?_eq_getElem (by omega)⟩
          have C0 := hx2.cell c0
          have C1 := hx2.cell c1
          have C2 := hx2.cell c2
          obtain ⟨t, ht⟩ : ∃ t, t = u k := ⟨_, rfl⟩
          have CU : Hid (∀ W, Ext w W → Calls Tryz.prog 48 #[.int .i64 k] W fun e w' => e = .returned (.bool t) ∧ Ext W w') := fun W hX => by rw [ht]; exact HU.out W k hX hlt
          have HT := Lib.hid ht
          have HS1 := Lib.hid hs1
          have HS2 := Lib.hid hs2
          have hltI : (k : Int) < (l : Int) := by omega
          have hpI : (p : Int) < (m : Int) := by omega
          have hqI : (q : Int) < (m : Int) := by omega
          have HCN : Hid (∀ S3 : List Bool, S3.getD p false = S3.getD q false ∨ t = false → (g2 = false → ∀ (q' : Nat) y, q' < k → x.2[q']? = some y → u q' = true → S3.getD y.1.toNat false = S3.getD y.2.1.toNat false) →
              g2 = false → ∀ (q' : Nat) y, q' < k + 1 → x.2[q']? = some y → u q' = true → S3.getD y.1.toNat false = S3.getD y.2.1.toNat false) := fun S3 h1 h2 h3 q' y' hq' hy' hu' => by
            by_cases e : q' = k
            · subst e
              rw [hy.out] at hy'
              simp only [Option.some.injEq] at hy'
              subst hy'
              rcases h1 with h1 | h1
              · simpa using h1
              · rw [← HT.out, h1] at hu'; cases hu'
            · exact h2 h3 q' y' (by omega) hy' hu'
          have HYL : Hid (t = true → (((p : Nat) : Int), ((q : Nat) : Int), y3) ∈ L') := fun e => (HL'.out _).2 ⟨k, hy.out, by rw [← HT.out]; exact e⟩
          clear c0 c1 c2 ht hs1 hs2 l1 l2 l3
          go_wp2
          obtain ⟨w5, hw5⟩ : ∃ W, W = wr.alloc (.cells #[.int .i64 (p : Int), .int .i64 (q : Int), .int .i64 y3] 42) := ⟨_, rfl⟩
          rw [← hw5]
          have BL : w5.heap[wr.heap.size]? = some (.cells #[.int .i64 (p : Int), .int .i64 (q : Int), .int .i64 y3] 42) := by rw [hw5]; exact blk_alloc _ _
          have X5 : Ext wr w5 := by rw [hw5]; exact Ext.alloc _ _
          have HB5 := Lib.hid (X5.blk HB2.out)
          have HO5 := Lib.hid (own_ext HO2.out X5)
          have HBL := Lib.hid BL
          have hsz2 := hx2.size
          have hbig : w.heap.size + 1 < wr.heap.size := (HO2.out.lt (w.heap.size + 1) rfl).2
          have g0 := XT.cell (blk_cell BL (j := 0) rfl)
          have g1 := XT.cell (blk_cell BL (j := 1) rfl)
          have f0 := XT.cell (own_cellB HO5.out HS1.out hpm)
          have f1 := XT.cell (own_cellB HO5.out HS2.out hqm)
          have XW := hx2.trans X5
          clear hw5 BL C0 C1 C2
          by_cases hne : s1 = s2
          · subst hne
            cases s1
            · refine region_ext (by kernel_rfl) (by kernel_rfl) ?_
              repeat (go_big_quiet_step (fail))
              refine wpQuiet_nil ?_
              intro wq hxq
              go_wp2
              go_roundw
              case rel => exact ⟨k + 1, S2, g2, by omega, by go_num, rfl, own_ext HO5.out hxq, hnf.out, hS2.out, hI2.out, HCN.out S2 (.inl (by rw [getD_of HS1.out, getD_of HS2.out])) hC2.out, hxq.blk HB5.out, XW.trans hxq⟩
              case measure => simp [intOf]; omega
            · refine region_ext (by kernel_rfl) (by kernel_rfl) ?_
              repeat (go_big_quiet_step (fail))
              refine wpQuiet_nil ?_
              intro wq hxq
              go_wp2
              go_roundw
              case rel => exact ⟨k + 1, S2, g2, by omega, by go_num, rfl, own_ext HO5.out hxq, hnf.out, hS2.out, hI2.out, HCN.out S2 (.inl (by rw [getD_of HS1.out, getD_of HS2.out])) hC2.out, hxq.blk HB5.out, XW.trans hxq⟩
              case measure => simp [intOf]; omega
          · have HNE := Lib.hid hne
            cases t
            · cases s1
              · cases s2
                · exact absurd rfl HNE.out
                · clear hne
                  refine region_ext (by kernel_rfl) (by kernel_rfl) ?_
                  repeat (go_big_quiet_step ((go_at_call 48; refine Calls.ext_of (CU.out _ (XW.trans (XT.prop _))))))
                  refine wpQuiet_nil ?_
                  intro wq hxq
                  go_wp2
                  go_roundw
                  case rel => exact ⟨k + 1, S2, g2, by omega, by go_num, rfl, own_ext HO5.out hxq, hnf.out, hS2.out, hI2.out, HCN.out S2 (.inr rfl) hC2.out, hxq.blk HB5.out, XW.trans hxq⟩
                  case measure => simp [intOf]; omega
              · cases s2
                · clear hne
                  refine region_ext (by kernel_rfl) (by kernel_rfl) ?_
                  repeat (go_big_quiet_step ((go_at_call 48; refine Calls.ext_of (CU.out _ (XW.trans (XT.prop _))))))
                  refine wpQuiet_nil ?_
                  intro wq hxq
                  go_wp2
                  go_roundw
                  case rel => exact ⟨k + 1, S2, g2, by omega, by go_num, rfl, own_ext HO5.out hxq, hnf.out, hS2.out, hI2.out, HCN.out S2 (.inr rfl) hC2.out, hxq.blk HB5.out, XW.trans hxq⟩
                  case measure => simp [intOf]; omega
                · exact absurd rfl HNE.out
            · cases s1
              · cases s2
                · exact absurd rfl HNE.out
                · clear hne
                  refine region_ext (by kernel_rfl) (by kernel_rfl) ?_
                  repeat (go_big_quiet_step ((go_at_call 48; refine Calls.ext_of (CU.out _ (XW.trans (XT.prop _))))))
                  refine wpQuiet_nil ?_
                  intro wq hxq
                  have oq := own_ext HO5.out hxq
                  have bq := hxq.blk HBL.out
                  have b6 : (wq.setCell ⟨w.heap.size + 1, p, none⟩ (.bool true)).heap[wr.heap.size]? = some (.cells #[.int .i64 (p : Int), .int .i64 (q : Int), .int .i64 y3] 42) := by
                    rw [heap_setCell_other _ _ _ _ (by show wr.heap.size ≠ w.heap.size + 1; omega)]; exact bq
                  have k0 := blk_cell bq (j := 0) rfl
                  have k1 := blk_cell bq (j := 1) rfl
                  have m0 := blk_cell b6 (j := 0) rfl
                  have m1 := blk_cell b6 (j := 1) rfl
                  have z0 := fun j => oq.frozenAt j
                  have o6 := own_setB oq p true
                  have z1 := fun j => o6.frozenAt j
                  have e0 := own_cellB oq HS1.out hpm
                  have e1 := own_cellB oq HS2.out hqm
                  have e2 := own_cellB o6 (j := q) (by rw [List.getElem?_set_ne hpq]; exact HS2.out) hqm
                  have HO7 := Lib.hid (own_ext (own_setB o6 q true) (Ext.drew _))
                  have HX7 := Lib.hid ((((XW.trans hxq).st (p := ⟨w.heap.size + 1, p, none⟩) (by dsimp only; omega) (.bool true)).st (p := ⟨w.heap.size + 1, q, none⟩) (by dsimp only; omega) (.bool true)).trans (Ext.drew _))
                  have HB7 : Hid ((((wq.setCell ⟨w.heap.size + 1, p, none⟩ (.bool true)).setCell ⟨w.heap.size + 1, q, none⟩ (.bool true)).drew).heap[w.heap.size]? = some (.cells #[.slice a m ca, .slice (some ⟨b9, o9, none⟩) l cb] 27)) := by
                    unfold Hid
                    refine (Ext.drew _).blk ?_
                    rw [heap_setCell_other _ _ _ _ (by show w.heap.size ≠ w.heap.size + 1; omega), heap_setCell_other _ _ _ _ (by show w.heap.size ≠ w.heap.size + 1; omega)]
                    exact hxq.blk HB5.out
                  have HN7 : Hid (nF ((S2.set p true).set q true) + 1 ≤ nF S) := Nat.le_trans (nF_two HS1.out HS2.out hpq HNE.out) (Nat.le_trans (Nat.le_add_right _ _) hnf.out)
                  have HS7 : Hid (SndB L' ii ((S2.set p true).set q true)) := hS2.out.two HS1.out HS2.out HNE.out (HYL.out rfl)
                  clear oq bq b6 o6 f0 f1 g0 g1
                  go_wp2_with fail
                  go_region
                  go_wp2
                  go_roundw
                  case rel => exact ⟨k + 1, (S2.set p true).set q true, true, by omega, by go_num, rfl, HO7.out, HN7.out, HS7.out, getD_keep (getD_keep hI2.out), (fun e => by cases e), HB7.out, HX7.out⟩
                  case measure => simp [intOf]; omega
              · cases s2
                · clear hne
                  refine region_ext (by kernel_rfl) (by kernel_rfl) ?_
                  repeat (go_big_quiet_step ((go_at_call 48; refine Calls.ext_of (CU.out _ (XW.trans (XT.prop _))))))
                  refine wpQuiet_nil ?_
                  intro wq hxq
                  have oq := own_ext HO5.out hxq
                  have bq := hxq.blk HBL.out
                  have b6 : (wq.setCell ⟨w.heap.size + 1, p, none⟩ (.bool true)).heap[wr.heap.size]? = some (.cells #[.int .i64 (p : Int), .int .i64 (q : Int), .int .i64 y3] 42) := by
                    rw [heap_setCell_other _ _ _ _ (by show wr.heap.size ≠ w.heap.size + 1; omega)]; exact bq
                  have k0 := blk_cell bq (j := 0) rfl
                  have k1 := blk_cell bq (j := 1) rfl
                  have m0 := blk_cell b6 (j := 0) rfl
                  have m1 := blk_cell b6 (j := 1) rfl
                  have z0 := fun j => oq.frozenAt j
                  have o6 := own_setB oq p true
                  have z1 := fun j => o6.frozenAt j
                  have e0 := own_cellB oq HS1.out hpm
                  have e1 := own_cellB oq HS2.out hqm
                  have e2 := own_cellB o6 (j := q) (by rw [List.getElem?_set_ne hpq]; exact HS2.out) hqm
                  have HO7 := Lib.hid (own_ext (own_setB o6 q true) (Ext.drew _))
                  have HX7 := Lib.hid ((((XW.trans hxq).st (p := ⟨w.heap.size + 1, p, none⟩) (by dsimp only; omega) (.bool true)).st (p := ⟨w.heap.size + 1, q, none⟩) (by dsimp only; omega) (.bool true)).trans (Ext.drew _))
                  have HB7 : Hid ((((wq.setCell ⟨w.heap.size + 1, p, none⟩ (.bool true)).setCell ⟨w.heap.size + 1, q, none⟩ (.bool true)).drew).heap[w.heap.size]? = some (.cells #[.slice a m ca, .slice (some ⟨b9, o9, none⟩) l cb] 27)) := by
                    unfold Hid
                    refine (Ext.drew _).blk ?_
                    rw [heap_setCell_other _ _ _ _ (by show w.heap.size ≠ w.heap.size + 1; omega), heap_setCell_other _ _ _ _ (by show w.heap.size ≠ w.heap.size + 1; omega)]
                    exact hxq.blk HB5.out
                  have HN7 : Hid (nF ((S2.set p true).set q true) + 1 ≤ nF S) := Nat.le_trans (nF_two HS1.out HS2.out hpq HNE.out) (Nat.le_trans (Nat.le_add_right _ _) hnf.out)
                  have HS7 : Hid (SndB L' ii ((S2.set p true).set q true)) := hS2.out.two HS1.out HS2.out HNE.out (HYL.out rfl)
                  clear oq bq b6 o6 f0 f1 g0 g1
                  go_wp2_with fail
                  go_region
                  go_wp2
                  go_roundw
                  case rel => exact ⟨k + 1, (S2.set p true).set q true, true, by omega, by go_num, rfl, HO7.out, HN7.out, HS7.out, getD_keep (getD_keep hI2.out), (fun e => by cases e), HB7.out, HX7.out⟩
                  case measure => simp [intOf]; omega
                · exact absurd rfl HNE.out
        · have hge : ¬ ((k : Int) < (l : Int)) := by omega
          have hkl : k = l := by omega
          have HCC : Hid (g2 = false → ∀ y ∈ L', S2.getD y.1.toNat false = S2.getD y.2.1.toNat false) := fun e y hy => by
            obtain ⟨q', h1, h2⟩ := (HL'.out y).1 hy
            refine hC2.out e q' y ?_ h1 h2
            have h3 := (List.getElem?_eq_some_iff.1 h1).1
            rw [← HLL.out] at h3; omega
          clear hkl
          have h1 : nF S + 1 ≤ _ := HGG.out
          have hms := Nat.lt_of_lt_of_le (Nat.lt_succ_of_le hnf.out) h1
          clear h1
          have HMS := Lib.hid hms
          clear hms
          go_wp2
          go_roundg (nF S2 + (if g2 then 1 else 0))
          case measure => exact HMS.out
          case rel => exact ⟨S2, g2, rfl, HO2.out, Nat.le_refl _, hS2.out, hI2.out, HCC.out, HB2.out, hx2⟩
end Go.Proofs.YtmaaeemhbccpcaaGreatDoor
