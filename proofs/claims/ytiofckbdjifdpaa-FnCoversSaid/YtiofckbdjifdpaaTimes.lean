
/- How often each spot is seen, and whether all are: the program's and the reference's. -/
import Derived.Test.YtiofckbdjifdpaaSites
import Derived.Test.YtiofckbdjifdpaaSet
namespace Go.Proofs.Ytiofckbdjifdpaa
open Go.RowKit

set_option maxRecDepth 100000 in
set_option maxHeartbeats 1000000 in
theorem c_stTimes (va vb : Value) (la ha lb hb : Nat) (xss : List (List Int)) (n : Nat) (ch : List Int) (w : World) (h : Intss w la ha va xss) (hh : ha ≤ w.heap.size) (h2 : Ints w lb hb vb ch) (hh2 : hb ≤ w.heap.size) (gs : GoodS xss n) (gc : GoodC xss.length ch) :
    Calls Try.prog 65 #[va, .int .i64 n, vb] w fun e w' => ∃ v, e = .returned v ∧ OwnI w' w.heap.size w'.heap.size v (timesL xss n ch) ∧ Ext w w' := by
  obtain ⟨i0, hi0, hz0, hz1, hz2⟩ := info_parts Try.info_intC
  obtain ⟨a, cap, rfl, m1, m2⟩ := h.form
  obtain ⟨a2, cap2, rfl, m3, m4⟩ := h2.form
  have H := Lib.hid h
  have H2 := Lib.hid h2
  have GS := Lib.hid gs
  have n1 := gs.n1
  have n16 := gs.n16
  have GM : Hid (∀ (k : Nat) (i : Int), ch[k]? = some i → 0 ≤ i ∧ i < (xss.length : Int)) := fun k i hk => gc.mem i (List.mem_of_getElem? hk)
  have hc12 := gc.len
  obtain ⟨Z, hZ⟩ : ∃ Z, Z = timesL xss n ch := ⟨_, rfl⟩
  rw [← hZ]
  obtain ⟨s, hs⟩ : ∃ s, s = xss.length := ⟨_, rfl⟩
  obtain ⟨m, hm⟩ : ∃ m, m = ch.length := ⟨_, rfl⟩
  rw [← hs] at m1 H GM ⊢
  rw [← hm] at m3 H2 hc12 ⊢
  have HZ := Lib.hid hZ
  have HM := Lib.hid hm
  clear h h2 gs gc hs hm hZ
  have n1I : (1 : Int) ≤ (n : Int) := by omega
  have n16I : (n : Int) ≤ 16 := by omega
  go_enter Try.func65, Try.ntmps65
  go_wp2_with (at_make; refine wpList_make_full _ rfl _ _ 24 rfl w.heap.size 3 i0 (.int .i64 0) 1 Try.underlying24 hi0 hz0 hz1 _ _ _ _ n rfl rfl rfl rfl (by rw [hz2]; omega) (by unfold maxLen; omega) (Nat.le_refl _) ?_; intro w1 hown hgrow)
  rw [made_ints] at hown
  have hx1 : Ext w w1 := (Ext.refl w).gr hgrow (by simp)
  have hOWN := Lib.hid hown
  clear hgrow hown
  go_loopw [16] (fun t wr => ∃ (k : Nat) (T : List Int), k ≤ m ∧ t = .int .i64 k ∧ wr.ownsRow w.heap.size 3 1 (.slice (some ⟨w.heap.size, 0, none⟩) n n) n (T.flatMap encI) ∧ Hid (T = timesF xss (List.replicate n 0) (ch.take k)) ∧ Hid (bdL (100 * k) T) ∧ Ext w wr) (fun t _ => m - (intOf t).toNat)
  case atStart => exact ⟨0, _, by omega, rfl, hOWN.out, rfl, (fun x hx => by simp at hx; omega), hx1⟩
  case round =>
    clear hOWN
    obtain ⟨k, T, hk, rfl, hown, hT, hB, hx⟩ := hrel
    by_cases hlt : k < m
    · obtain ⟨b, o, i, rfl, hg, c0⟩ := Ints_at H2.out hlt
      obtain ⟨i1, i2⟩ := GM.out k i hg.out
      obtain ⟨j, rfl⟩ := Int.eq_ofNat_of_zero_le i1
      obtain ⟨b', o', a3, c3, l, rfl, hl, c1, HL, q1, q2⟩ := Intss_at H.out (k := j) (by omega)
      have hlm := List.mem_of_getElem? hl.out
      have hl16 := GS.out.len l hlm
      have HLM := Lib.hid hlm
      have d0 := hx.cell c0
      have d1 := hx.cell c1
      have hltI : (k : Int) < (m : Int) := by omega
      obtain ⟨nl, hnl⟩ : ∃ nl, nl = l.length := ⟨_, rfl⟩
      rw [← hnl] at hl16 q1 HL d1
      have HNL := Lib.hid hnl
      have HOWN := Lib.hid hown
      have hjs : ((j : Nat) : Int) < (s : Int) := i2
      clear c0 c1 hlm hnl hown
      go_wp2
      go_loopw [25] (fun t wr2 => ∃ (q : Nat) (U : List Int), q ≤ nl ∧ t = .int .i64 q ∧ wr2.ownsRow w.heap.size 3 1 (.slice (some ⟨w.heap.size, 0, none⟩) n n) n (U.flatMap encI) ∧ Hid (U = bumps T (l.take q)) ∧ Hid (bdL (100 * k + q) U) ∧ Ext w wr2) (fun t _ => nl - (intOf t).toNat)
      case atStart => exact ⟨0, T, by omega, rfl, HOWN.out, rfl, hB.out.mono (by omega), hx⟩
      case round =>
        obtain ⟨q, U, hq, rfl, hown2, hU, hB2, hx2⟩ := hrel
        by_cases hlt2 : q < nl
        · have HRD := HL.out.ext hx2 hh
          obtain ⟨b3, o3, sp, rfl, hsp, c2⟩ := Ints_at HRD hlt2
          obtain ⟨s1, s2⟩ := GS.out.mem l HLM.out sp (List.mem_of_getElem? hsp.out)
          obtain ⟨p, rfl⟩ := Int.eq_ofNat_of_zero_le s1
          have hUl : U.length = n := by have := hown2.1; rw [flat_map, List.length_map] at this; omega
          obtain ⟨y, hy⟩ : ∃ y, U[p]? = some y := ⟨_, List.getElem?_eq_getElem (by omega)⟩
          obtain ⟨y1, y2⟩ := hB2.out.get hy
          have hpn : p < n := by omega
          have e0 := own_cellv hown2 hy hpn
          have z0 := hown2.frozenAt p
          have HY := Lib.hid hy
          have HOWN2 := Lib.hid hown2
          have hlt2I : (q : Int) < (nl : Int) := by omega
          have hUU : Hid (U.set p (y + 1) = bumps T (l.take (q + 1))) := by
            unfold Hid
            rw [bumps_snoc hsp.out, ← hU.out]
            unfold bump
            rw [List.getD_eq_getElem?_getD, Int.toNat_natCast, hy]; rfl
          have hBB : Hid (bdL (100 * k + (q + 1 : Nat)) (U.set p (y + 1))) := by
            have h9 := bump_bd hB2.out (by omega) (p : Int)
            unfold bump at h9
            rw [List.getD_eq_getElem?_getD, Int.toNat_natCast, hy] at h9
            exact h9.mono (by omega)
          have hy63 : y + 1 ≤ 9223372036854775807 := by omega
          have hy0 : 0 ≤ y + 1 := by omega
          clear hy hown2 hUl HRD y2
          go_wp2
          go_roundw
          case rel => exact ⟨q + 1, _, by omega, by go_num, own_set HOWN2.out p (y + 1), hUU.out, hBB.out, hx2.st (Nat.le_refl _) _⟩
          case measure => simp [intOf]; omega
        · have hge : ¬ ((q : Int) < (nl : Int)) := by omega
          have hTT : Hid (U = timesF xss (List.replicate n 0) (ch.take (k + 1))) := by
            unfold Hid
            rw [timesF_snoc hg.out, ← hT.out, List.getD_eq_getElem?_getD, Int.toNat_natCast, hl.out, hU.out, List.take_of_length_le (by rw [← HNL.out]; omega)]; rfl
          have hBB : Hid (bdL (100 * (k + 1 : Nat)) U) := hB2.out.mono (by omega)
          have HOWN2 := Lib.hid hown2
          clear hown2
          go_wp2
          go_roundw
          case rel => exact ⟨k + 1, U, by omega, by go_num, HOWN2.out, hTT.out, hBB.out, hx2⟩
          case measure => simp [intOf]; omega
    · have hge : ¬ ((k : Int) < (m : Int)) := by omega
      have hTZ : Hid (T = Z) := by
        unfold Hid
        rw [HZ.out, hT.out, List.take_of_length_le (by rw [← HM.out]; omega)]; rfl
      have hTl : T.length = n := by have := hown.1; rw [flat_map, List.length_map] at this; omega
      have HTL := Lib.hid hTl
      have HOWN := Lib.hid hown
      clear hown hTl
      go_wp2
      go_ret
      refine ⟨_, rfl, OwnI.of ?_, hx⟩
      rw [← hTZ.out, HTL.out]
      exact HOWN.out
set_option maxRecDepth 100000 in
set_option maxHeartbeats 1000000 in
theorem c_seenTimes (va vb : Value) (la ha lb hb : Nat) (xss : List (List Int)) (n : Nat) (ch : List Int) (w : World) (h : Intss w la ha va xss) (hh : ha ≤ w.heap.size) (h2 : Ints w lb hb vb ch) (hh2 : hb ≤ w.heap.size) (gs : GoodS xss n) (gc : GoodC xss.length ch) :
    Calls Try.prog 66 #[va, .int .i64 n, vb] w fun e w' => ∃ v, e = .returned v ∧ OwnI w' w.heap.size w'.heap.size v (timesL xss n ch) ∧ Ext w w' := by
  obtain ⟨i0, hi0, hz0, hz1, hz2⟩ := info_parts Try.info_intC
  obtain ⟨a, cap, rfl, m1, m2⟩ := h.form
  obtain ⟨a2, cap2, rfl, m3, m4⟩ := h2.form
  have H := Lib.hid h
  have H2 := Lib.hid h2
  have GS := Lib.hid gs
  have n1 := gs.n1
  have n16 := gs.n16
  have GM : Hid (∀ (k : Nat) (i : Int), ch[k]? = some i → 0 ≤ i ∧ i < (xss.length : Int)) := fun k i hk => gc.mem i (List.mem_of_getElem? hk)
  have hc12 := gc.len
  obtain ⟨Z, hZ⟩ : ∃ Z, Z = timesL xss n ch := ⟨_, rfl⟩
  rw [← hZ]
  obtain ⟨s, hs⟩ : ∃ s, s = xss.length := ⟨_, rfl⟩
  obtain ⟨m, hm⟩ : ∃ m, m = ch.length := ⟨_, rfl⟩
  rw [← hs] at m1 H GM ⊢
  rw [← hm] at m3 H2 hc12 ⊢
  have HZ := Lib.hid hZ
  have HM := Lib.hid hm
  clear h h2 gs gc hs hm hZ
  have n1I : (1 : Int) ≤ (n : Int) := by omega
  have n16I : (n : Int) ≤ 16 := by omega
  go_enter Try.func66, Try.ntmps66
  go_wp2_with (at_make; refine wpList_make_full _ rfl _ _ 24 rfl w.heap.size 3 i0 (.int .i64 0) 1 Try.underlying24 hi0 hz0 hz1 _ _ _ _ n rfl rfl rfl rfl (by rw [hz2]; omega) (by unfold maxLen; omega) (Nat.le_refl _) ?_; intro w1 hown hgrow)
  rw [made_ints] at hown
  have hx1 : Ext w w1 := (Ext.refl w).gr hgrow (by simp)
  have hOWN := Lib.hid hown
  clear hgrow hown
  go_loopw [16] (fun t wr => ∃ (k : Nat) (T : List Int), k ≤ m ∧ t = .int .i64 k ∧ wr.ownsRow w.heap.size 3 1 (.slice (some ⟨w.heap.size, 0, none⟩) n n) n (T.flatMap encI) ∧ Hid (T = timesF xss (List.replicate n 0) (ch.take k)) ∧ Hid (bdL (100 * k) T) ∧ Ext w wr) (fun t _ => m - (intOf t).toNat)
  case atStart => exact ⟨0, _, by omega, rfl, hOWN.out, rfl, (fun x hx => by simp at hx; omega), hx1⟩
  case round =>
    clear hOWN
    obtain ⟨k, T, hk, rfl, hown, hT, hB, hx⟩ := hrel
    by_cases hlt : k < m
    · obtain ⟨b, o, i, rfl, hg, c0⟩ := Ints_at H2.out hlt
      obtain ⟨i1, i2⟩ := GM.out k i hg.out
      obtain ⟨j, rfl⟩ := Int.eq_ofNat_of_zero_le i1
      obtain ⟨b', o', a3, c3, l, rfl, hl, c1, HL, q1, q2⟩ := Intss_at H.out (k := j) (by omega)
      have hlm := List.mem_of_getElem? hl.out
      have hl16 := GS.out.len l hlm
      have HLM := Lib.hid hlm
      have d0 := hx.cell c0
      have d1 := hx.cell c1
      have hltI : (k : Int) < (m : Int) := by omega
      obtain ⟨nl, hnl⟩ : ∃ nl, nl = l.length := ⟨_, rfl⟩
      rw [← hnl] at hl16 q1 HL d1
      have HNL := Lib.hid hnl
      have HOWN := Lib.hid hown
      have hjs : ((j : Nat) : Int) < (s : Int) := i2
      clear c0 c1 hlm hnl hown
      go_wp2
      go_loopw [25] (fun t wr2 => ∃ (q : Nat) (U : List Int), q ≤ nl ∧ t = .int .i64 q ∧ wr2.ownsRow w.heap.size 3 1 (.slice (some ⟨w.heap.size, 0, none⟩) n n) n (U.flatMap encI) ∧ Hid (U = bumps T (l.take q)) ∧ Hid (bdL (100 * k + q) U) ∧ Ext w wr2) (fun t _ => nl - (intOf t).toNat)
      case atStart => exact ⟨0, T, by omega, rfl, HOWN.out, rfl, hB.out.mono (by omega), hx⟩
      case round =>
        obtain ⟨q, U, hq, rfl, hown2, hU, hB2, hx2⟩ := hrel
        by_cases hlt2 : q < nl
        · have HRD := HL.out.ext hx2 hh
          obtain ⟨b3, o3, sp, rfl, hsp, c2⟩ := Ints_at HRD hlt2
          obtain ⟨s1, s2⟩ := GS.out.mem l HLM.out sp (List.mem_of_getElem? hsp.out)
          obtain ⟨p, rfl⟩ := Int.eq_ofNat_of_zero_le s1
          have hUl : U.length = n := by have := hown2.1; rw [flat_map, List.length_map] at this; omega
          obtain ⟨y, hy⟩ : ∃ y, U[p]? = some y := ⟨_, List.getElem?_eq_getElem (by omega)⟩
          obtain ⟨y1, y2⟩ := hB2.out.get hy
          have hpn : p < n := by omega
          have e0 := own_cellv hown2 hy hpn
          have z0 := hown2.frozenAt p
          have HY := Lib.hid hy
          have HOWN2 := Lib.hid hown2
          have hlt2I : (q : Int) < (nl : Int) := by omega
          have hUU : Hid (U.set p (y + 1) = bumps T (l.take (q + 1))) := by
            unfold Hid
            rw [bumps_snoc hsp.out, ← hU.out]
            unfold bump
            rw [List.getD_eq_getElem?_getD, Int.toNat_natCast, hy]; rfl
          have hBB : Hid (bdL (100 * k + (q + 1 : Nat)) (U.set p (y + 1))) := by
            have h9 := bump_bd hB2.out (by omega) (p : Int)
            unfold bump at h9
            rw [List.getD_eq_getElem?_getD, Int.toNat_natCast, hy] at h9
            exact h9.mono (by omega)
          have hy63 : y + 1 ≤ 9223372036854775807 := by omega
          have hy0 : 0 ≤ y + 1 := by omega
          clear hy hown2 hUl HRD y2
          go_wp2
          go_roundw
          case rel => exact ⟨q + 1, _, by omega, by go_num, own_set HOWN2.out p (y + 1), hUU.out, hBB.out, hx2.st (Nat.le_refl _) _⟩
          case measure => simp [intOf]; omega
        · have hge : ¬ ((q : Int) < (nl : Int)) := by omega
          have hTT : Hid (U = timesF xss (List.replicate n 0) (ch.take (k + 1))) := by
            unfold Hid
            rw [timesF_snoc hg.out, ← hT.out, List.getD_eq_getElem?_getD, Int.toNat_natCast, hl.out, hU.out, List.take_of_length_le (by rw [← HNL.out]; omega)]; rfl
          have hBB : Hid (bdL (100 * (k + 1 : Nat)) U) := hB2.out.mono (by omega)
          have HOWN2 := Lib.hid hown2
          clear hown2
          go_wp2
          go_roundw
          case rel => exact ⟨k + 1, U, by omega, by go_num, HOWN2.out, hTT.out, hBB.out, hx2⟩
          case measure => simp [intOf]; omega
    · have hge : ¬ ((k : Int) < (m : Int)) := by omega
      have hTZ : Hid (T = Z) := by
        unfold Hid
        rw [HZ.out, hT.out, List.take_of_length_le (by rw [← HM.out]; omega)]; rfl
      have hTl : T.length = n := by have := hown.1; rw [flat_map, List.length_map] at this; omega
      have HTL := Lib.hid hTl
      have HOWN := Lib.hid hown
      clear hown hTl
      go_wp2
      go_ret
      refine ⟨_, rfl, OwnI.of ?_, hx⟩
      rw [← hTZ.out, HTL.out]
      exact HOWN.out
end Go.Proofs.Ytiofckbdjifdpaa
