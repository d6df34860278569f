

/- BridgesOf of the program: its contract. -/
import Derived.Test.YtmaaeemhbccpcaaGreatDoorBridge
namespace Go.Proofs.YtmaaeemhbccpcaaGreatDoor
open Go.RowKit
set_option maxRecDepth 100000 in
set_option maxHeartbeats 4000000 in
theorem c_iBridges (v : Value) (la ha : Nat) (x : NetT) (f : Nat → Bool) (w : World) (h : Nets w la ha v x) (hh : ha ≤ w.heap.size) (hf : BrF x f) :
    Calls Tryz.prog 8 #[v] w fun e w' => ∃ r, e = .returned (.tuple #[r, .bool (netB x)]) ∧ w'.ownsRow w.heap.size 3 1 r (brV x f).length ((brV x f).flatMap encI) ∧ Ext w w' := by
  obtain ⟨i0, hi0, hz0', hz1, hz2⟩ := info_parts Tryz.info_intC2
  obtain ⟨Z, hZ⟩ : ∃ r, r = brV x f := ⟨_, rfl⟩
  obtain ⟨q, hq⟩ : ∃ q, q = netB x := ⟨_, rfl⟩
  rw [← hZ, ← hq]
  unfold brV at hZ
  rw [← hq] at hZ
  have C1 : Hid (∀ W, Ext w W → Calls Tryz.prog 13 #[v] W fun e w' => e = .returned (.bool q) ∧ Ext W w') := fun W hX => by rw [hq]; exact c_IsNet v la ha x W (h.ext hX hh) (Nat.le_trans hh hX.size)
  have HQ := Lib.hid hq
  clear hq
  obtain ⟨a, ca, b, cb, rfl, ⟨m1, m2⟩, m3, m4⟩ := h.form
  have HNT := Lib.hid h
  have HL := Lib.hid h.parts.2
  obtain ⟨T, L⟩ := x
  simp only at m1 m3 C1 hZ HL HQ HNT ⊢
  obtain ⟨m, hm⟩ : ∃ n, n = T.length := ⟨_, rfl⟩
  obtain ⟨l, hl⟩ : ∃ n, n = L.length := ⟨_, rfl⟩
  rw [← hm] at m1 C1 HNT ⊢
  rw [← hl] at m3 C1 hZ HL HNT ⊢
  have HM := Lib.hid hm
  have HLL := Lib.hid hl
  have HF := Lib.hid hf
  clear h hm hl hf
  cases q
  · simp at hZ
    subst hZ
    go_enter Tryz.func8, Tryz.ntmps8
    go_wp2_with fail
    obtain ⟨W1, hW1⟩ : ∃ W, W = w.alloc (.cells #[.slice a m ca, .slice b l cb] 27) := ⟨_, rfl⟩
    rw [← hW1]
    have X1 : Ext w W1 := by rw [hW1]; exact Ext.alloc _ _
    have B1 : W1.heap[w.heap.size]? = some (.cells #[.slice a m ca, .slice b l cb] 27) := by rw [hW1]; exact blk_alloc _ _
    clear hW1
    refine (C1.out _ X1).mono ?_
    rintro e W2 ⟨rfl, X2⟩
    have k0 := blk_cell (X2.blk B1) (j := 0) rfl
    have k1 := blk_cell (X2.blk B1) (j := 1) rfl
    go_wp2
    go_ret2
    exact ⟨_, rfl, World.ownsRow_nil _ _ _ _, X1.trans X2⟩
  have hn : netB (T, L) = true := HQ.out.symm
  have HN := Lib.hid hn
  have HZ : Hid (Z = fupto f l) := hZ
  have hl40 : l ≤ 40 := by
    have h9 := hn
    simp only [netB, Bool.and_eq_true, decide_eq_true_eq] at h9
    rw [HLL.out]; omega
  clear hn hZ
  go_enter Tryz.func8, Tryz.ntmps8
  go_wp2_with fail
  obtain ⟨W1, hW1⟩ : ∃ W, W = w.alloc (.cells #[.slice a m ca, .slice b l cb] 27) := ⟨_, rfl⟩
  rw [← hW1]
  have X1 : Ext w W1 := by rw [hW1]; exact Ext.alloc _ _
  have B1 : W1.heap[w.heap.size]? = some (.cells #[.slice a m ca, .slice b l cb] 27) := by rw [hW1]; exact blk_alloc _ _
  clear hW1
  refine (C1.out _ X1).mono ?_
  rintro e W2 ⟨rfl, X2⟩
  have k0 := blk_cell (X2.blk B1) (j := 0) rfl
  have k1 := blk_cell (X2.blk B1) (j := 1) rfl
  have HB2 := Lib.hid (X2.blk B1)
  have XB := X1.trans X2
  have HSZ := Lib.hid XB.size
  clear B1
  go_wp2
  clear k0 k1 C1
  go_loopw [4, 13] (fun v t wr => ∃ (k : Nat) (U : List Int), k ≤ l ∧ t = .int .i64 k ∧ wr.ownsRow W2.heap.size 3 1 v U.length (U.flatMap encI) ∧ Hid (U = fupto f k) ∧ Ext W2 wr) (fun _ t _ => l - (intOf t).toNat)
  case atStart => exact ⟨0, [], by omega, rfl, World.ownsRow_nil _ _ _ _, rfl, Ext.refl _⟩
  case round =>
    obtain ⟨k, U, hk, rfl, hown, hU, hx⟩ := hrel
    have HOWN := Lib.hid hown
    have XW := XB.trans hx
    by_cases hlt : k < l
    · have hltI : (k : Int) < (l : Int) := by omega
      obtain ⟨b9, o9, y, rfl, hy, c0, c1, c2⟩ := Links_at (HL.out.ext XW hh) hlt
      obtain ⟨y1, y2, y3⟩ := y
      simp only at c0 c1 c2
      obtain ⟨V, hV, hfk⟩ := HF.out k _ hy.out
      have hlk := netB_links HN.out _ (List.mem_of_getElem? hy.out)
      simp only [lkB, Bool.and_eq_true, decide_eq_true_eq] at hlk
      obtain ⟨q1, q2, q3, _⟩ := hlk
      simp only at q1 q2 q3 hV hfk
      have hUl := fupto_len f k
      rw [← hU.out] at hUl
      have hsn : Hid (fupto f (k + 1) = U ++ (if f k then [(k : Int)] else [])) := by
        unfold Hid
        rw [show fupto f (k + 1) = fupto f k ++ (if f k then [(k : Int)] else []) from rfl, ← hU.out]
      rw [hfk] at hsn
      obtain ⟨t, ht⟩ : ∃ t, t = V.contains y2 := ⟨_, rfl⟩
      rw [← ht] at hsn
      have C5 : Hid (∀ W bk, Ext w W → W.cell? ⟨bk, 0, none⟩ = some (.int .i64 k) → Calls Tryz.prog 33 #[.agg #[.slice a m ca, .slice (some ⟨b9, o9, none⟩) l cb], .int .i64 y1, .func (.func 34) #[] #[.pointer (some ⟨bk, 0, none⟩)]] W
          fun e w' => ∃ a5 n5 c5, e = .returned (.slice a5 n5 c5) ∧ Hid (Ints w' W.heap.size w'.heap.size (.slice a5 n5 c5) V) ∧ Ext W w') := fun W bk hX hc => by
        refine (c_reachBut _ la ha (T, L) y1 V bk (fun j : Nat => ((j : Int) != (k : Int))) (butL L k) W (HNT.out.ext hX hh) HN.out q1 (by show y1 < (T.length : Int); omega) (fun W2 j hX2 _ => c_butFn j bk k W2 (hX2.cell hc)) (fun y => ?_) hV).mono fun e w' ⟨r, he, ho, hx⟩ => ?_
        · show y ∈ L.take k ++ L.drop (k + 1) ↔ _
          rw [dropOne_mem]
          constructor
          · rintro ⟨j, h1, h2⟩
            exact ⟨j, h1, by simp at h2 ⊢; omega⟩
          · rintro ⟨j, h1, h2⟩
            exact ⟨j, h1, by simp at h2 ⊢; omega⟩
        · have hr := Row.of_own encI_len ho
          obtain ⟨a5, c5, rfl, _⟩ := own_form ho
          exact ⟨a5, _, c5, he, hr, hx⟩
      have C6 : Hid (∀ W lo vl, Hid (Ints W lo W.heap.size vl V) → Calls Tryz.prog 32 #[vl, .int .i64 y2] W fun e w' => e = .returned (.bool t) ∧ W = w') := fun W lo vl hr => by
        rw [ht]; exact c_Contains vl lo _ V y2 W hr.out
      have d0 := hx.cell (blk_cell HB2.out (j := 0) rfl)
      have d1 := hx.cell (blk_cell HB2.out (j := 1) rfl)
      clear hown ht hV hfk
      go_wp2_with fail
      obtain ⟨w5, hw5⟩ : ∃ W, W = (wr.alloc (.cells #[.int .i64 k] 3)).alloc (.cells #[.int .i64 y1, .int .i64 y2, .int .i64 y3] 42) := ⟨_, rfl⟩
      rw [← hw5]
      have BK : w5.heap[wr.heap.size]? = some (.cells #[.int .i64 k] 3) := by rw [hw5]; exact blk_old (blk_alloc _ _)
      have BL : w5.heap[wr.heap.size + 1]? = some (.cells #[.int .i64 y1, .int .i64 y2, .int .i64 y3] 42) := by rw [hw5]; exact blk_alloc2 _ _ _
      have X5 : Ext wr w5 := by rw [hw5]; exact ((Ext.refl _).al _).al _
      have XW5 := XW.trans X5
      have n0 := X5.cell d0
      have n1 := X5.cell d1
      have e0 := blk_cell BL (j := 0) rfl
      have e1 := blk_cell BL (j := 1) rfl
      have g0 := blk_cell BK (j := 0) rfl
      clear hw5 BL BK d0 d1 c0 c1 c2
      cases t
      all_goals
        go_region_held3 (fun w' => Ext w5 w' ∧ w'.cell? ⟨w.heap.size, 0, none⟩ = some (.slice a m ca) ∧ w'.cell? ⟨w.heap.size, 1, none⟩ = some (.slice (some ⟨b9, o9, none⟩) l cb) ∧ w'.cell? ⟨wr.heap.size + 1, 0, none⟩ = some (.int .i64 y1) ∧ w'.cell? ⟨wr.heap.size + 1, 1, none⟩ = some (.int .i64 y2))
          (first | exact ⟨Ext.drew _, n0, n1, e0, e1⟩ | exact ⟨hxb, hxb.cell n0, hxb.cell n1, hxb.cell e0, hxb.cell e1⟩)
          ((first
            | (go_at_call 33; refine (C5.out _ _ XW5.dr ((Ext.drew _).cell g0)).mono ?_; rintro e w7 ⟨a5, n5, c5, rfl, hr7, hx7⟩; have hxb : Ext w5 w7 := (Ext.drew _).trans hx7)
            | (go_at_call 32; refine (C6.out _ _ _ hr7).mono ?_; rintro e w' ⟨rfl, rfl⟩)))
        clear n0 n1 e0 e1
      · have hx57 := Lib.hid (X5.trans hxb)
        have g7 := hxb.cell g0
        clear g0
        go_wp2_with (at_builtin; refine wpList_append_own _ rfl _ _ 31 rfl W2.heap.size 3 i0 (.int .i64 0) 1 8 Tryz.underlying31 hi0 hz0' hz1 hz2 rfl (by decide) _ _ _ rfl ((own_ext HOWN.out hx57.out).alloc _) ⟨w7.heap.size, 0, none⟩ 1 1 [.int .i64 (k : Int)] rfl rfl (new_cells1 _ _ _) (by intro u hu; simp at hu; subst hu; rfl) (by unfold maxLen; omega) (by omega) (by have := hx.size; have := hx57.out.size; simp; omega) ?_; intro v3 w9 hown3 hgrow3 _)
        go_roundw
        case rel => exact ⟨k + 1, _, by omega, by go_num, own_push hown3, (by unfold Hid; rw [hsn.out]; rfl), (hx.trans hx57.out).push (own_ext HOWN.out hx57.out) hgrow3 (Nat.le_refl _)⟩
        case measure => simp [intOf]; omega
      · have hx57 := Lib.hid (X5.trans hxb)
        clear g0
        go_wp2
        go_roundw
        case rel => exact ⟨k + 1, U, by omega, by go_num, own_ext HOWN.out hx57.out, (by unfold Hid; rw [hsn.out]; simp), hx.trans hx57.out⟩
        case measure => simp [intOf]; omega
    · have hge : ¬ ((k : Int) < (l : Int)) := by omega
      have hkl : k = l := by omega
      obtain ⟨a5, c5, rfl, _, _, _⟩ := own_form hown
      have HVZ : Hid (Z = U) := by unfold Hid; rw [HZ.out, hU.out, hkl]
      clear hown hkl
      go_wp2
      go_ret2
      refine ⟨_, rfl, ?_, XW⟩
      rw [HVZ.out]
      exact own_mono HOWN.out HSZ.out
end Go.Proofs.YtmaaeemhbccpcaaGreatDoor
