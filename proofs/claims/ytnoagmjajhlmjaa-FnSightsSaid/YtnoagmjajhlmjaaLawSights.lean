

/- FnSights: for all arguments the call returns true. No condition. -/
import Derived.Test.YtnoagmjajhlmjaaDrawBu
import Derived.Test.YtnoagmjajhlmjaaQS
import Derived.Test.YtnoagmjajhlmjaaQ
import Derived.Test.YtnoagmjajhlmjaaRevI
import Derived.Test.YtnoagmjajhlmjaaArgBytes
import Derived.Deep.DeepCutAuto
namespace Go.Proofs.Ytnoagmjajhlmjaa
open Go.ChangeShapes Go.WideShapes Go.ChangeAt Go.RowKit
open Go.ChangeMaps (open_string shut_string)
set_option linter.unusedVariables false
set_option linter.unusedSimpArgs false
abbrev GR (w : World) (v : Value) (gs : List GroundT) : Prop := Grounds w 0 w.heap.size v gs
abbrev IntsR (w : World) (v : Value) (xs : List Int) : Prop := Ints w 0 w.heap.size v xs
theorem GR.adv {w w' : World} {v : Value} {gs : List GroundT} (h : GR w v gs) (hx : Ext w w') : GR w' v gs := (h.ext hx (Nat.le_refl _)).mono (Nat.le_refl _) hx.size
theorem IntsR.adv {w w' : World} {v : Value} {xs : List Int} (h : IntsR w v xs) (hx : Ext w w') : IntsR w' v xs := (h.ext hx (Nat.le_refl _)).mono (Nat.le_refl _) hx.size
theorem IntsR.of_own {w : World} {base : Nat} {v : Value} {xs : List Int} (h : w.ownsRow base 3 1 v xs.length (xs.flatMap encI)) : IntsR w v xs := (Row.of_own encI_len h).mono (Nat.zero_le _) (Nat.le_refl _)
theorem GR.of_own {w : World} {base : Nat} {v : Value} {gs : List GroundT} (h : w.ownsRow base 61 2 v gs.length (gs.flatMap encGround)) : GR w v gs := (Row.of_own encGround_len h).mono (Nat.zero_le _) (Nat.le_refl _)
theorem comb3 {su z mb : Bool} (g1 : su = true → z = true) (g2 : z = true → mb = true) : (su = false ∧ z = false) ∨ (su = false ∧ z = true ∧ mb = true) ∨ (su = true ∧ z = true ∧ mb = true) := by
  cases su <;> cases z <;> cases mb <;> simp_all
set_option maxRecDepth 100000 in
set_option maxHeartbeats 16000000 in
theorem law_Sights (v0 : Value) (bs : List Int) (v1 : Value) (cs : List Int) (w : World) (h0 : ArgBytes w v0 bs) (h1 : ArgBytes w v1 cs) :
    Calls Try.prog 5 #[v0, v1] w fun e w' => e = .returned (.bool true) ∧ Ext w w' := by
  obtain ⟨hB0, hY0⟩ := h0
  obtain ⟨hB1, hY1⟩ := h1
  obtain ⟨a0, p0, rfl, n0, n0b, _⟩ := id hB0
  obtain ⟨a1, p1, rfl, n1, n1b, _⟩ := id hB1
  have HB0 : Hid (Bytes w 0 w.heap.size _ bs) := ⟨hB0, hY0⟩
  have HB1 : Hid (Bytes w 0 w.heap.size _ cs) := ⟨hB1, hY1⟩
  obtain ⟨l0, hl0⟩ : ∃ n, n = bs.length := ⟨_, rfl⟩
  obtain ⟨l1, hl1⟩ : ∃ n, n = cs.length := ⟨_, rfl⟩
  rw [← hl0] at HB0 n0 ⊢
  rw [← hl1] at HB1 n1 ⊢
  clear hB0 hY0 hB1 hY1 hl0 hl1
  have X := Lib.hid (Ext.refl w)
  by_cases hbig : (1048576 : Int) < wrap64 ((l0 : Int) + (l1 : Int))
  ·
    go_enter Try.func5, Try.ntmps5
    go_wp2_with fail
    go_ret
    exact ⟨rfl, Ext.refl _⟩
  go_enter Try.func5, Try.ntmps5
  go_wp2_with fail
  refine (c_DrawSeesAt _ 0 w.heap.size bs w HB0.out (Nat.le_refl _)).mono ?_
  rintro e w1 ⟨vx, ⟨D, A, B, gs⟩, n, rfl, ⟨ax, cx, rfl, ho, hlt⟩, hl, nn0, nn1, hx⟩
  simp only at ho hl hlt
  have HG : Hid (GR w1 (.slice ax gs.length cx) gs) := GR.of_own ho
  obtain ⟨gn, hgn⟩ : ∃ k, k = gs.length := ⟨_, rfl⟩
  rw [← hgn] at HG ⊢
  have T__ := Lib.hid (X.out.trans hx)
  clear X
  have X := T__
  clear T__
  clear ho hlt hl hgn hx
  go_wp2_with fail
  obtain ⟨w2, hw9⟩ : ∃ W, W = w1.alloc (.cells #[.int .i64 D, .int .i64 A, .int .i64 B, .slice ax gn cx] 28) := ⟨_, rfl⟩
  rw [← hw9]
  have hx : Ext w1 w2 := by rw [hw9]; exact Ext.alloc _ _
  have B5 : Hid (w2.heap[w1.heap.size]? = some (.cells #[.int .i64 D, .int .i64 A, .int .i64 B, .slice ax gn cx] 28)) := by unfold Hid; rw [hw9]; exact blk_alloc _ _
  clear hw9
  have T__ := Lib.hid (X.out.trans hx)
  clear X
  have X := T__
  clear T__
  have T__ := Lib.hid (GR.adv HG.out hx)
  clear HG
  have HG := T__
  clear T__
  clear hx
  obtain ⟨sees, hse⟩ : ∃ x, x = seesV D A B n gs := ⟨_, rfl⟩
  obtain ⟨ok, hok⟩ : ∃ x, x = askedB D A B n gs := ⟨_, rfl⟩
  have HSE := Lib.hid hse
  have HOK := Lib.hid hok
  have CI := Lib.hid (c_iSeesAt D A B n _ _ _ gs w2 HG.out (Nat.le_refl _))
  rw [← hse, ← hok] at CI
  refine CI.out.mono ?_
  rintro e w3 ⟨rfl, hx⟩
  have T__ := Lib.hid (X.out.trans hx)
  clear X
  have X := T__
  clear T__
  have T__ := Lib.hid (GR.adv HG.out hx)
  clear HG
  have HG := T__
  clear T__
  have T__ := Lib.hid ((hx).blk B5.out)
  clear B5
  have B5 := T__
  clear T__
  clear hx CI
  have k0 := blk_cell B5.out (j := 0) (v := .int .i64 D) rfl
  have k1 := blk_cell B5.out (j := 1) (v := .int .i64 A) rfl
  have k2 := blk_cell B5.out (j := 2) (v := .int .i64 B) rfl
  have k3 := blk_cell B5.out (j := 3) (v := .slice ax gn cx) rfl
  have CI := Lib.hid (c_sSeesAt D A B n _ _ _ gs w3 HG.out (Nat.le_refl _))
  rw [← hse, ← hok] at CI
  clear hse hok
  go_wp2_with fail
  refine CI.out.mono ?_
  rintro e w4 ⟨rfl, hx⟩
  have T__ := Lib.hid (X.out.trans hx)
  clear X
  have X := T__
  clear T__
  have T__ := Lib.hid (GR.adv HG.out hx)
  clear HG
  have HG := T__
  clear T__
  have T__ := Lib.hid ((hx).blk B5.out)
  clear B5
  have B5 := T__
  clear T__
  clear hx CI k0 k1 k2 k3
  have k0 := blk_cell B5.out (j := 0) (v := .int .i64 D) rfl
  have k1 := blk_cell B5.out (j := 1) (v := .int .i64 A) rfl
  have k2 := blk_cell B5.out (j := 2) (v := .int .i64 B) rfl
  have k3 := blk_cell B5.out (j := 3) (v := .slice ax gn cx) rfl
  obtain ⟨L, hL⟩ : ∃ x, x = bbV D A B n gs := ⟨_, rfl⟩
  have HBL := Lib.hid hL
  have CI := Lib.hid (c_iBlockedBy D A B n _ _ _ gs w4 HG.out (Nat.le_refl _))
  rw [← HOK.out, ← hL] at CI
  go_wp2_with fail
  refine CI.out.mono ?_
  rintro e w5 ⟨r5, rfl, ho, hx⟩
  obtain ⟨a5, c5, rfl, _, _, _⟩ := own_form ho
  have HL1 : Hid (IntsR w5 _ L) := IntsR.of_own ho
  obtain ⟨nL, hnL⟩ : ∃ x, x = L.length := ⟨_, rfl⟩
  rw [← hnL] at HL1 ⊢
  have HNL := Lib.hid hnL
  have T__ := Lib.hid (X.out.trans hx)
  clear X
  have X := T__
  clear T__
  have T__ := Lib.hid (GR.adv HG.out hx)
  clear HG
  have HG := T__
  clear T__
  have T__ := Lib.hid ((hx).blk B5.out)
  clear B5
  have B5 := T__
  clear T__
  clear hx CI k0 k1 k2 k3 ho hnL
  have k0 := blk_cell B5.out (j := 0) (v := .int .i64 D) rfl
  have k1 := blk_cell B5.out (j := 1) (v := .int .i64 A) rfl
  have k2 := blk_cell B5.out (j := 2) (v := .int .i64 B) rfl
  have k3 := blk_cell B5.out (j := 3) (v := .slice ax gn cx) rfl
  have CI := Lib.hid (c_sBlockedBy D A B n _ _ _ gs w5 HG.out (Nat.le_refl _))
  rw [← HOK.out, ← hL, ← HNL.out] at CI
  clear hL
  go_wp2_with fail
  refine CI.out.mono ?_
  rintro e w6 ⟨r6, rfl, ho, hx⟩
  obtain ⟨a6, c6, rfl, _, _, _⟩ := own_form ho
  have HL2 : Hid (IntsR w6 (.slice a6 nL c6) L) := by
    rw [HNL.out] at ho ⊢
    exact IntsR.of_own ho
  have T__ := Lib.hid (X.out.trans hx)
  clear X
  have X := T__
  clear T__
  have T__ := Lib.hid (GR.adv HG.out hx)
  clear HG
  have HG := T__
  clear T__
  have T__ := Lib.hid (IntsR.adv HL1.out hx)
  clear HL1
  have HL1 := T__
  clear T__
  have T__ := Lib.hid ((hx).blk B5.out)
  clear B5
  have B5 := T__
  clear T__
  clear hx CI k0 k1 k2 k3 ho
  have k0 := blk_cell B5.out (j := 0) (v := .int .i64 D) rfl
  have k1 := blk_cell B5.out (j := 1) (v := .int .i64 A) rfl
  have k2 := blk_cell B5.out (j := 2) (v := .int .i64 B) rfl
  have k3 := blk_cell B5.out (j := 3) (v := .slice ax gn cx) rfl
  obtain ⟨tp, htp⟩ : ∃ x, x = clX D A B n gs := ⟨_, rfl⟩
  obtain ⟨bt, hbt⟩ : ∃ x, x = clY D A B n gs := ⟨_, rfl⟩
  obtain ⟨three, hth⟩ : ∃ x, x = clAsk D A B n gs := ⟨_, rfl⟩
  have HCL : Hid (three = true → ok = true ∧ 1 ≤ bt ∧ decide (0 ≤ tp) = sees) := by
    intro h9
    rw [hth] at h9
    rw [htp, hbt, HOK.out, HSE.out]
    exact cl_facts h9
  have CI := Lib.hid (c_iClearance D A B n _ _ _ gs w6 HG.out (Nat.le_refl _))
  rw [← htp, ← hbt, ← hth] at CI
  go_wp2_with fail
  refine CI.out.mono ?_
  rintro e w7 ⟨rfl, hx⟩
  have T__ := Lib.hid (X.out.trans hx)
  clear X
  have X := T__
  clear T__
  have T__ := Lib.hid (GR.adv HG.out hx)
  clear HG
  have HG := T__
  clear T__
  have T__ := Lib.hid (IntsR.adv HL1.out hx)
  clear HL1
  have HL1 := T__
  clear T__
  have T__ := Lib.hid (IntsR.adv HL2.out hx)
  clear HL2
  have HL2 := T__
  clear T__
  have T__ := Lib.hid ((hx).blk B5.out)
  clear B5
  have B5 := T__
  clear T__
  clear hx CI k0 k1 k2 k3
  have k0 := blk_cell B5.out (j := 0) (v := .int .i64 D) rfl
  have k1 := blk_cell B5.out (j := 1) (v := .int .i64 A) rfl
  have k2 := blk_cell B5.out (j := 2) (v := .int .i64 B) rfl
  have k3 := blk_cell B5.out (j := 3) (v := .slice ax gn cx) rfl
  have CI := Lib.hid (c_sClearance D A B n _ _ _ gs w7 HG.out (Nat.le_refl _))
  rw [← htp, ← hbt, ← hth] at CI
  clear htp hbt hth
  go_wp2_with fail
  refine CI.out.mono ?_
  rintro e w8 ⟨rfl, hx⟩
  have T__ := Lib.hid (X.out.trans hx)
  clear X
  have X := T__
  clear T__
  have T__ := Lib.hid (IntsR.adv HL1.out hx)
  clear HL1
  have HL1 := T__
  clear T__
  have T__ := Lib.hid (IntsR.adv HL2.out hx)
  clear HL2
  have HL2 := T__
  clear T__
  have HBB : Hid (ok = true → ((nL : Int) == 0) = sees) := by
    intro h9
    rw [HOK.out] at h9
    rw [HNL.out, HBL.out, HSE.out]
    exact blocked_sees h9
  clear hx CI k0 k1 k2 k3 HG B5 HSE HOK HBL HNL
  go_wp2_with fail
  refine (c_DrawSightBounds _ 0 w.heap.size cs w8 (HB1.out.ext X.out (Nat.le_refl _)) X.out.size).mono ?_
  rintro e w9 ⟨vx, ⟨D2, A2, C2, gs2⟩, rfl, ⟨ax2, cx2, rfl, ho, hlt⟩, hl, hx⟩
  simp only at ho hl hlt
  have HG : Hid (GR w9 (.slice ax2 gs2.length cx2) gs2) := GR.of_own ho
  obtain ⟨gn2, hgn⟩ : ∃ k, k = gs2.length := ⟨_, rfl⟩
  rw [← hgn] at HG ⊢
  have HGN2 := Lib.hid hgn
  have T__ := Lib.hid (X.out.trans hx)
  clear X
  have X := T__
  clear T__
  have T__ := Lib.hid (IntsR.adv HL1.out hx)
  clear HL1
  have HL1 := T__
  clear T__
  have T__ := Lib.hid (IntsR.adv HL2.out hx)
  clear HL2
  have HL2 := T__
  clear T__
  clear ho hlt hl hgn hx
  go_wp2_with fail
  obtain ⟨w10, hw9⟩ : ∃ W, W = w9.alloc (.cells #[.int .i64 D2, .int .i64 A2, .int .i64 C2, .slice ax2 gn2 cx2] 28) := ⟨_, rfl⟩
  rw [← hw9]
  have hx : Ext w9 w10 := by rw [hw9]; exact Ext.alloc _ _
  have B21 : Hid (w10.heap[w9.heap.size]? = some (.cells #[.int .i64 D2, .int .i64 A2, .int .i64 C2, .slice ax2 gn2 cx2] 28)) := by unfold Hid; rw [hw9]; exact blk_alloc _ _
  clear hw9
  have T__ := Lib.hid (X.out.trans hx)
  clear X
  have X := T__
  clear T__
  have T__ := Lib.hid (GR.adv HG.out hx)
  clear HG
  have HG := T__
  clear T__
  have T__ := Lib.hid (IntsR.adv HL1.out hx)
  clear HL1
  have HL1 := T__
  clear T__
  have T__ := Lib.hid (IntsR.adv HL2.out hx)
  clear HL2
  have HL2 := T__
  clear T__
  clear hx
  obtain ⟨su, hsu⟩ : ∃ x, x = bdA D2 A2 C2 gs2 := ⟨_, rfl⟩
  obtain ⟨mb, hmb⟩ : ∃ x, x = bdS D2 A2 C2 gs2 := ⟨_, rfl⟩
  obtain ⟨five, hfi⟩ : ∃ x, x = sightOk D2 A2 C2 gs2 := ⟨_, rfl⟩
  have HSU := Lib.hid hsu
  have HMB := Lib.hid hmb
  have HFI := Lib.hid hfi
  have CI := Lib.hid (c_iSightBounds D2 A2 C2 _ _ _ gs2 w10 HG.out (Nat.le_refl _))
  rw [← hsu, ← hmb, ← hfi] at CI
  refine CI.out.mono ?_
  rintro e w11 ⟨rfl, hx⟩
  have T__ := Lib.hid (X.out.trans hx)
  clear X
  have X := T__
  clear T__
  have T__ := Lib.hid (GR.adv HG.out hx)
  clear HG
  have HG := T__
  clear T__
  have T__ := Lib.hid (IntsR.adv HL1.out hx)
  clear HL1
  have HL1 := T__
  clear T__
  have T__ := Lib.hid (IntsR.adv HL2.out hx)
  clear HL2
  have HL2 := T__
  clear T__
  have T__ := Lib.hid ((hx).blk B21.out)
  clear B21
  have B21 := T__
  clear T__
  clear hx CI
  have k0 := blk_cell B21.out (j := 0) (v := .int .i64 D2) rfl
  have k1 := blk_cell B21.out (j := 1) (v := .int .i64 A2) rfl
  have k2 := blk_cell B21.out (j := 2) (v := .int .i64 C2) rfl
  have k3 := blk_cell B21.out (j := 3) (v := .slice ax2 gn2 cx2) rfl
  have CI := Lib.hid (c_sSightBounds D2 A2 C2 _ _ _ gs2 w11 HG.out (Nat.le_refl _))
  rw [← hsu, ← hmb, ← hfi] at CI
  clear hsu hmb hfi
  go_wp2_with fail
  refine CI.out.mono ?_
  rintro e w12 ⟨rfl, hx⟩
  have T__ := Lib.hid (X.out.trans hx)
  clear X
  have X := T__
  clear T__
  have T__ := Lib.hid (GR.adv HG.out hx)
  clear HG
  have HG := T__
  clear T__
  have T__ := Lib.hid (IntsR.adv HL1.out hx)
  clear HL1
  have HL1 := T__
  clear T__
  have T__ := Lib.hid (IntsR.adv HL2.out hx)
  clear HL2
  have HL2 := T__
  clear T__
  have T__ := Lib.hid ((hx).blk B21.out)
  clear B21
  have B21 := T__
  clear T__
  clear hx CI k0 k1 k2 k3
  have k0 := blk_cell B21.out (j := 0) (v := .int .i64 D2) rfl
  have k1 := blk_cell B21.out (j := 1) (v := .int .i64 A2) rfl
  have k2 := blk_cell B21.out (j := 2) (v := .int .i64 C2) rfl
  have k3 := blk_cell B21.out (j := 3) (v := .slice ax2 gn2 cx2) rfl
  obtain ⟨⟨tD, tA, tB, tg⟩, hT⟩ : ∃ x, x = rvV D2 A2 C2 gs2 := ⟨_, rfl⟩
  obtain ⟨tn, htn⟩ : ∃ x, x = tg.length := ⟨_, rfl⟩
  have HT := Lib.hid hT
  have HTN := Lib.hid htn
  clear htn
  have CI := Lib.hid (c_iReverse D2 A2 C2 _ _ _ gs2 w12 HG.out (Nat.le_refl _))
  rw [← HFI.out, ← hT] at CI
  go_wp2_with fail
  refine CI.out.mono ?_
  rintro e w13 ⟨r13, rfl, ⟨a13, c13, rfl, ho, _⟩, hx⟩
  simp only at ho
  have HT1 : Hid (GR w13 (.slice a13 tg.length c13) tg) := GR.of_own ho
  rw [← HTN.out] at HT1 ⊢
  have T__ := Lib.hid (X.out.trans hx)
  clear X
  have X := T__
  clear T__
  have T__ := Lib.hid (GR.adv HG.out hx)
  clear HG
  have HG := T__
  clear T__
  have T__ := Lib.hid (IntsR.adv HL1.out hx)
  clear HL1
  have HL1 := T__
  clear T__
  have T__ := Lib.hid (IntsR.adv HL2.out hx)
  clear HL2
  have HL2 := T__
  clear T__
  have T__ := Lib.hid ((hx).blk B21.out)
  clear B21
  have B21 := T__
  clear T__
  clear hx CI ho k0 k1 k2 k3
  have B21a := Lib.hid ((Ext.alloc w13 (.cells #[.int .i64 tD, .int .i64 tA, .int .i64 tB, .slice a13 tn c13] 28)).blk B21.out)
  have k0 := blk_cell B21a.out (j := 0) (v := .int .i64 D2) rfl
  have k1 := blk_cell B21a.out (j := 1) (v := .int .i64 A2) rfl
  have k2 := blk_cell B21a.out (j := 2) (v := .int .i64 C2) rfl
  have k3 := blk_cell B21a.out (j := 3) (v := .slice ax2 gn2 cx2) rfl
  go_wp2_with fail
  clear B21a k0 k1 k2 k3
  obtain ⟨w14, hw9⟩ : ∃ W, W = w13.alloc (.cells #[.int .i64 tD, .int .i64 tA, .int .i64 tB, .slice a13 tn c13] 28) := ⟨_, rfl⟩
  rw [← hw9]
  have hx : Ext w13 w14 := by rw [hw9]; exact Ext.alloc _ _
  have B28 : Hid (w14.heap[w13.heap.size]? = some (.cells #[.int .i64 tD, .int .i64 tA, .int .i64 tB, .slice a13 tn c13] 28)) := by unfold Hid; rw [hw9]; exact blk_alloc _ _
  clear hw9
  have T__ := Lib.hid (X.out.trans hx)
  clear X
  have X := T__
  clear T__
  have T__ := Lib.hid (GR.adv HG.out hx)
  clear HG
  have HG := T__
  clear T__
  have T__ := Lib.hid (GR.adv HT1.out hx)
  clear HT1
  have HT1 := T__
  clear T__
  have T__ := Lib.hid (IntsR.adv HL1.out hx)
  clear HL1
  have HL1 := T__
  clear T__
  have T__ := Lib.hid (IntsR.adv HL2.out hx)
  clear HL2
  have HL2 := T__
  clear T__
  have T__ := Lib.hid ((hx).blk B21.out)
  clear B21
  have B21 := T__
  clear T__
  clear hx
  have CI := Lib.hid (c_sReverse D2 A2 C2 _ _ _ gs2 w14 HG.out (Nat.le_refl _))
  rw [← HFI.out, ← hT] at CI
  clear hT
  refine CI.out.mono ?_
  rintro e w15 ⟨r15, rfl, ⟨a15, c15, rfl, ho, _⟩, hx⟩
  simp only at ho
  have HT2 : Hid (GR w15 (.slice a15 tg.length c15) tg) := GR.of_own ho
  rw [← HTN.out] at HT2 ⊢
  have T__ := Lib.hid (X.out.trans hx)
  clear X
  have X := T__
  clear T__
  have T__ := Lib.hid (GR.adv HG.out hx)
  clear HG
  have HG := T__
  clear T__
  have T__ := Lib.hid (GR.adv HT1.out hx)
  clear HT1
  have HT1 := T__
  clear T__
  have T__ := Lib.hid (IntsR.adv HL1.out hx)
  clear HL1
  have HL1 := T__
  clear T__
  have T__ := Lib.hid (IntsR.adv HL2.out hx)
  clear HL2
  have HL2 := T__
  clear T__
  have T__ := Lib.hid ((hx).blk B21.out)
  clear B21
  have B21 := T__
  clear T__
  have T__ := Lib.hid ((hx).blk B28.out)
  clear B28
  have B28 := T__
  clear T__
  clear hx CI ho HTN
  go_wp2_with fail
  obtain ⟨w16, hw9⟩ : ∃ W, W = w15.alloc (.cells #[.int .i64 tD, .int .i64 tA, .int .i64 tB, .slice a15 tn c15] 28) := ⟨_, rfl⟩
  rw [← hw9]
  have hx : Ext w15 w16 := by rw [hw9]; exact Ext.alloc _ _
  have B30 : Hid (w16.heap[w15.heap.size]? = some (.cells #[.int .i64 tD, .int .i64 tA, .int .i64 tB, .slice a15 tn c15] 28)) := by unfold Hid; rw [hw9]; exact blk_alloc _ _
  clear hw9
  have T__ := Lib.hid (X.out.trans hx)
  clear X
  have X := T__
  clear T__
  have T__ := Lib.hid (GR.adv HG.out hx)
  clear HG
  have HG := T__
  clear T__
  have T__ := Lib.hid (GR.adv HT1.out hx)
  clear HT1
  have HT1 := T__
  clear T__
  have T__ := Lib.hid (GR.adv HT2.out hx)
  clear HT2
  have HT2 := T__
  clear T__
  have T__ := Lib.hid (IntsR.adv HL1.out hx)
  clear HL1
  have HL1 := T__
  clear T__
  have T__ := Lib.hid (IntsR.adv HL2.out hx)
  clear HL2
  have HL2 := T__
  clear T__
  have T__ := Lib.hid ((hx).blk B21.out)
  clear B21
  have B21 := T__
  clear T__
  have T__ := Lib.hid ((hx).blk B28.out)
  clear B28
  have B28 := T__
  clear T__
  clear hx
  refine (c_DrawBulgeAt _ 0 w.heap.size cs w16 (HB1.out.ext X.out (Nat.le_refl _)) X.out.size).mono ?_
  rintro e w17 ⟨d, at_, bd, rfl, dd0, dd1, at0, at1, bd0, bd1, hx⟩
  have T__ := Lib.hid (X.out.trans hx)
  clear X
  have X := T__
  clear T__
  have T__ := Lib.hid (GR.adv HG.out hx)
  clear HG
  have HG := T__
  clear T__
  have T__ := Lib.hid (GR.adv HT1.out hx)
  clear HT1
  have HT1 := T__
  clear T__
  have T__ := Lib.hid (GR.adv HT2.out hx)
  clear HT2
  have HT2 := T__
  clear T__
  have T__ := Lib.hid (IntsR.adv HL1.out hx)
  clear HL1
  have HL1 := T__
  clear T__
  have T__ := Lib.hid (IntsR.adv HL2.out hx)
  clear HL2
  have HL2 := T__
  clear T__
  have T__ := Lib.hid ((hx).blk B21.out)
  clear B21
  have B21 := T__
  clear T__
  have T__ := Lib.hid ((hx).blk B28.out)
  clear B28
  have B28 := T__
  clear T__
  have T__ := Lib.hid ((hx).blk B30.out)
  clear B30
  have B30 := T__
  clear T__
  clear hx
  obtain ⟨bu, hbu⟩ : ∃ x, x = bulgeV d at_ bd := ⟨_, rfl⟩
  obtain ⟨nine, hni⟩ : ∃ x, x = bulgeOk d at_ bd := ⟨_, rfl⟩
  have HBU := Lib.hid hbu
  have HNI := Lib.hid hni
  have CI := c_iBulgeAt d at_ bd w17
  have CS := c_sBulgeAt d at_ bd w17
  rw [← hbu, ← hni] at CI CS
  have HCI := Lib.hid CI
  have HCS := Lib.hid CS
  clear hbu hni CI CS
  go_wp2_with fail
  refine HCI.out.mono ?_
  rintro e w' ⟨rfl, rfl⟩
  go_wp2_with fail
  refine HCS.out.mono ?_
  rintro e w' ⟨rfl, rfl⟩
  clear HCI HCS
  have CE := Lib.hid (c_qInts _ _ _ _ _ _ L L w17 HL1.out HL2.out)
  rw [decide_eq_true rfl] at CE
  have CQ : Hid (∀ W, Ext w17 W → Calls Try.prog 36 #[.agg #[.int .i64 tD, .int .i64 tA, .int .i64 tB, .slice a13 tn c13], .agg #[.int .i64 tD, .int .i64 tA, .int .i64 tB, .slice a15 tn c15]] W fun e w' => e = .returned (.bool true) ∧ Ext W w') := fun W hX =>
    c_qSight tD tA tB _ _ _ _ _ _ tg W (HT1.out.adv hX) (HT2.out.adv hX) (Nat.le_refl _) (Nat.le_refl _)
  have CG : Hid (∀ W, Ext w17 W → Calls Try.prog 37 #[.agg #[.int .i64 D2, .int .i64 A2, .int .i64 C2, .slice ax2 gn2 cx2]] W fun e w' => e = .returned (.bool five) ∧ Ext W w') := fun W hX => by
    rw [HFI.out]; exact c_IsSight D2 A2 C2 _ _ _ gs2 W (HG.out.adv hX)
  go_upto_region 18 with fail
  go_cut [235] from 143 to 235 (fun v wx => v = .bool false ∧ Ext w17 wx)
  case first =>
    cases three
    ·
      go_wp2_with fail
      refine CE.out.mono ?_
      rintro e w18 ⟨rfl, hx18⟩
      have B28r := Lib.hid (hx18.blk B28.out)
      have B30r := Lib.hid (hx18.blk B30.out)
      have k0 := blk_cell B28r.out (j := 0) (v := .int .i64 tD) rfl
      have k1 := blk_cell B28r.out (j := 1) (v := .int .i64 tA) rfl
      have k2 := blk_cell B28r.out (j := 2) (v := .int .i64 tB) rfl
      have k3 := blk_cell B28r.out (j := 3) (v := .slice a13 tn c13) rfl
      have q0 := blk_cell B30r.out (j := 0) (v := .int .i64 tD) rfl
      have q1 := blk_cell B30r.out (j := 1) (v := .int .i64 tA) rfl
      have q2 := blk_cell B30r.out (j := 2) (v := .int .i64 tB) rfl
      have q3 := blk_cell B30r.out (j := 3) (v := .slice a15 tn c15) rfl
      go_wp2_with fail
      refine (CQ.out _ hx18).mono ?_
      rintro e w19 ⟨rfl, hx⟩
      have hx19 := hx18.trans hx
      clear k0 k1 k2 k3 q0 q1 q2 q3 B28r B30r hx
      have B21r := Lib.hid (hx19.blk B21.out)
      have k0 := blk_cell B21r.out (j := 0) (v := .int .i64 D2) rfl
      have k1 := blk_cell B21r.out (j := 1) (v := .int .i64 A2) rfl
      have k2 := blk_cell B21r.out (j := 2) (v := .int .i64 C2) rfl
      have k3 := blk_cell B21r.out (j := 3) (v := .slice ax2 gn2 cx2) rfl
      go_wp2_with fail
      refine (CG.out _ hx19).mono ?_
      rintro e w20 ⟨rfl, hx⟩
      have hx20 := hx19.trans hx
      clear k0 k1 k2 k3 B21r hx
      go_wp2
      go_meet
      exact ⟨rfl, hx20⟩
    · have hok1 := (HCL.out rfl).1
      subst hok1
      go_wp2_with fail
      refine CE.out.mono ?_
      rintro e w18 ⟨rfl, hx18⟩
      have B28r := Lib.hid (hx18.blk B28.out)
      have B30r := Lib.hid (hx18.blk B30.out)
      have k0 := blk_cell B28r.out (j := 0) (v := .int .i64 tD) rfl
      have k1 := blk_cell B28r.out (j := 1) (v := .int .i64 tA) rfl
      have k2 := blk_cell B28r.out (j := 2) (v := .int .i64 tB) rfl
      have k3 := blk_cell B28r.out (j := 3) (v := .slice a13 tn c13) rfl
      have q0 := blk_cell B30r.out (j := 0) (v := .int .i64 tD) rfl
      have q1 := blk_cell B30r.out (j := 1) (v := .int .i64 tA) rfl
      have q2 := blk_cell B30r.out (j := 2) (v := .int .i64 tB) rfl
      have q3 := blk_cell B30r.out (j := 3) (v := .slice a15 tn c15) rfl
      go_wp2_with fail
      refine (CQ.out _ hx18).mono ?_
      rintro e w19 ⟨rfl, hx⟩
      have hx19 := hx18.trans hx
      clear k0 k1 k2 k3 q0 q1 q2 q3 B28r B30r hx
      have B21r := Lib.hid (hx19.blk B21.out)
      have k0 := blk_cell B21r.out (j := 0) (v := .int .i64 D2) rfl
      have k1 := blk_cell B21r.out (j := 1) (v := .int .i64 A2) rfl
      have k2 := blk_cell B21r.out (j := 2) (v := .int .i64 C2) rfl
      have k3 := blk_cell B21r.out (j := 3) (v := .slice ax2 gn2 cx2) rfl
      go_wp2_with fail
      refine (CG.out _ hx19).mono ?_
      rintro e w20 ⟨rfl, hx⟩
      have hx20 := hx19.trans hx
      clear k0 k1 k2 k3 B21r hx
      go_wp2
      go_meet
      exact ⟨rfl, hx20⟩
  case rest =>
    obtain ⟨rfl, hx⟩ := hcut
    obtain ⟨w20, hw20⟩ : ∃ W, W = wc := ⟨_, rfl⟩
    subst hw20
    have T__ := Lib.hid (X.out.trans hx)
    clear X
    have X := T__
    clear T__
    have T__ := Lib.hid (GR.adv HG.out hx)
    clear HG
    have HG := T__
    clear T__
    have T__ := Lib.hid (GR.adv HT1.out hx)
    clear HT1
    have HT1 := T__
    clear T__
    have T__ := Lib.hid ((hx).blk B21.out)
    clear B21
    have B21 := T__
    clear T__
    have T__ := Lib.hid ((hx).blk B28.out)
    clear B28
    have B28 := T__
    clear T__
    clear hx CE CQ CG HT2 B30 HL1 HL2
    go_upto_if 236 with fail
    go_cut [] from 237 to 237 (fun wx => Ext w20 wx)
    case first =>
      cases five
      · go_wp2
        go_meet
        case rel => exact Ext.refl _
      · have hfi := HFI.out.symm
        have hT := HT.out
        unfold rvV at hT
        rw [hfi, if_pos rfl] at hT
        simp only [Prod.mk.injEq] at hT
        obtain ⟨e1, e2, e3, e4⟩ := hT
        have CSE : Hid (∀ k : Int, 0 ≤ k → k ≤ 3 → ∃ z : Bool, ((su = false ∧ z = false) ∨ (su = false ∧ z = true ∧ mb = true) ∨ (su = true ∧ z = true ∧ mb = true)) ∧
            (∀ W, Ext w20 W → Calls Try.prog 22 #[.agg #[.int .i64 D2, .int .i64 A2, .int .i64 C2, .slice ax2 gn2 cx2], .int .i64 k] W fun e w' => e = .returned (.tuple #[.bool z, .bool true]) ∧ Ext W w') ∧
            (∀ W, Ext w20 W → Calls Try.prog 24 #[.agg #[.int .i64 D2, .int .i64 A2, .int .i64 C2, .slice ax2 gn2 cx2], .int .i64 k] W fun e w' => e = .returned (.tuple #[.bool z, .bool true]) ∧ Ext W w') ∧
            (∀ W, Ext w20 W → Calls Try.prog 22 #[.agg #[.int .i64 tD, .int .i64 tA, .int .i64 tB, .slice a13 tn c13], .int .i64 k] W fun e w' => e = .returned (.tuple #[.bool z, .bool true]) ∧ Ext W w')) := by
          intro k hk0 hk3
          obtain ⟨f1, f2, f3, f4⟩ := asked_flip hfi (inB_iff.2 ⟨hk0, hk3⟩ : inB 0 3 k = true)
          refine ⟨seesB D2 A2 C2 k gs2, ?_, fun W hX => ?_, fun W hX => ?_, fun W hX => ?_⟩
          · have g1 : su = true → seesB D2 A2 C2 k gs2 = true := fun h9 => by
              rw [HSU.out] at h9
              unfold bdA at h9
              rw [hfi, Bool.true_and] at h9
              exact sees_monoN hfi hk0 h9
            have g2 : seesB D2 A2 C2 k gs2 = true → mb = true := fun h9 => by
              rw [HMB.out]
              unfold bdS
              rw [hfi, Bool.true_and]
              exact sees_monoN hfi hk3 h9
            exact comb3 g1 g2
          · have h9 := c_iSeesAt D2 A2 C2 k _ _ _ gs2 W (HG.out.adv hX) (Nat.le_refl _)
            rw [f1, f4] at h9
            exact h9
          · have h9 := c_sSeesAt D2 A2 C2 k _ _ _ gs2 W (HG.out.adv hX) (Nat.le_refl _)
            rw [f1, f4] at h9
            exact h9
          · have h9 := c_iSeesAt tD tA tB k _ _ _ tg W (HT1.out.adv hX) (Nat.le_refl _)
            rw [show askedB tD tA tB k tg = true by rw [e1, e2, e3, e4]; exact f2, show seesV tD tA tB k tg = seesB D2 A2 C2 k gs2 by rw [e1, e2, e3, e4, f3, f4]] at h9
            exact h9
        have CRV : Hid (∀ W, Ext w20 W → Calls Try.prog 9 #[.agg #[.int .i64 tD, .int .i64 tA, .int .i64 tB, .slice a13 tn c13]] W fun e w' => ∃ a c, e = .returned (.tuple #[.agg #[.int .i64 D2, .int .i64 A2, .int .i64 C2, .slice a gn2 c], .bool true]) ∧ GR w' (.slice a gn2 c) gs2 ∧ Ext W w') := by
          intro W hX
          refine (c_iReverse tD tA tB _ _ _ tg W (HT1.out.adv hX) (Nat.le_refl _)).mono fun e w' hh => ?_
          have h8 : sightOk tD tA tB tg = true := by rw [e1, e2, e3, e4]; exact ok_flip hfi
          have h7 : rvV tD tA tB tg = (D2, A2, C2, gs2) := by
            unfold rvV
            rw [h8, if_pos rfl, e1, e2, e3, e4, rvG_rvG]
          rw [h8, h7] at hh
          obtain ⟨r, rfl, ⟨a, c, rfl, ho, _⟩, hx⟩ := hh
          simp only at ho
          refine ⟨a, c, ?_, ?_, hx⟩
          · rw [HGN2.out]
          · rw [HGN2.out]; exact GR.of_own ho
        have CQ : Hid (∀ W a c, Ext w20 W → GR W (.slice a gn2 c) gs2 → Calls Try.prog 36 #[.agg #[.int .i64 D2, .int .i64 A2, .int .i64 C2, .slice a gn2 c], .agg #[.int .i64 D2, .int .i64 A2, .int .i64 C2, .slice ax2 gn2 cx2]] W fun e w' => e = .returned (.bool true) ∧ Ext W w') := fun W a c hX hg =>
          c_qSight D2 A2 C2 _ _ _ _ _ _ gs2 W hg (HG.out.adv hX) (Nat.le_refl _) (Nat.le_refl _)
        clear hfi e1 e2 e3 e4 HFI HT HSU HMB HG HT1 HGN2
        go_wp2_with fail
        go_loopg [39] 5 (fun gg v wr => ∃ k : Nat, v = .int .i64 k ∧ k ≤ 4 ∧ 4 ≤ k + gg ∧ Ext w20 wr)
        case atStart => exact ⟨0, rfl, by omega, by omega, Ext.refl _⟩
        case round =>
          obtain ⟨k, rfl, hk4, hkg, hxr⟩ := hrel
          by_cases hk3 : (k : Int) ≤ 3
          · obtain ⟨z, hcomb, K1, K2, K3⟩ := CSE.out (k : Int) (by omega) hk3
            have K1 := Lib.hid (K1 wr hxr)
            have K2 := Lib.hid K2
            have K3 := Lib.hid K3
            have HCB := Lib.hid hcomb
            have B21r := Lib.hid (hxr.blk B21.out)
            have k0 := blk_cell B21r.out (j := 0) (v := .int .i64 D2) rfl
            have k1 := blk_cell B21r.out (j := 1) (v := .int .i64 A2) rfl
            have k2 := blk_cell B21r.out (j := 2) (v := .int .i64 C2) rfl
            have k3 := blk_cell B21r.out (j := 3) (v := .slice ax2 gn2 cx2) rfl
            clear hcomb
            go_wp2_with fail
            refine K1.out.mono ?_
            rintro e w21 ⟨rfl, hx⟩
            have hx21 := hxr.trans hx
            clear k0 k1 k2 k3 B21r hx K1
            have B21r := Lib.hid (hx21.blk B21.out)
            have k0 := blk_cell B21r.out (j := 0) (v := .int .i64 D2) rfl
            have k1 := blk_cell B21r.out (j := 1) (v := .int .i64 A2) rfl
            have k2 := blk_cell B21r.out (j := 2) (v := .int .i64 C2) rfl
            have k3 := blk_cell B21r.out (j := 3) (v := .slice ax2 gn2 cx2) rfl
            go_wp2_with fail
            refine (K2.out _ hx21).mono ?_
            rintro e w22 ⟨rfl, hx⟩
            have hx22 := hx21.trans hx
            clear k0 k1 k2 k3 B21r hx K2
            have B28r := Lib.hid (hx22.blk B28.out)
            have k0 := blk_cell B28r.out (j := 0) (v := .int .i64 tD) rfl
            have k1 := blk_cell B28r.out (j := 1) (v := .int .i64 tA) rfl
            have k2 := blk_cell B28r.out (j := 2) (v := .int .i64 tB) rfl
            have k3 := blk_cell B28r.out (j := 3) (v := .slice a13 tn c13) rfl
            go_wp2_with fail
            refine (K3.out _ hx22).mono ?_
            rintro e w23 ⟨rfl, hx⟩
            have hx23 := hx22.trans hx
            clear k0 k1 k2 k3 B28r hx K3
            go_upto_region 27 with fail
            go_cut [292] from 259 to 292 (fun v wx => v = .bool false ∧ w23 = wx)
            case first =>
              rcases HCB.out with ⟨rfl, rfl⟩ | ⟨rfl, rfl, rfl⟩ | ⟨rfl, rfl, rfl⟩
              all_goals go_wp2
              all_goals (go_meet; exact ⟨rfl, rfl⟩)
            case rest =>
              obtain ⟨rfl, rfl⟩ := hcut
              go_wp2
              go_roundg (4 - (k + 1))
              case measure => omega
              case rel => exact ⟨k + 1, by go_num, by omega, by omega, hx23⟩
          · have B28r := Lib.hid (hxr.blk B28.out)
            have k0 := blk_cell B28r.out (j := 0) (v := .int .i64 tD) rfl
            have k1 := blk_cell B28r.out (j := 1) (v := .int .i64 tA) rfl
            have k2 := blk_cell B28r.out (j := 2) (v := .int .i64 tB) rfl
            have k3 := blk_cell B28r.out (j := 3) (v := .slice a13 tn c13) rfl
            go_wp2_with fail
            refine (CRV.out _ hxr).mono ?_
            rintro e w24 ⟨a46, c46, rfl, hg46, hx⟩
            have hx24 := hxr.trans hx
            have HG46 := Lib.hid (hg46.adv (Ext.alloc w24 (.cells #[.int .i64 D2, .int .i64 A2, .int .i64 C2, .slice a46 gn2 c46] 28)))
            have HX25 := Lib.hid (hx24.trans (Ext.alloc w24 (.cells #[.int .i64 D2, .int .i64 A2, .int .i64 C2, .slice a46 gn2 c46] 28)))
            clear k0 k1 k2 k3 B28r hx CRV hg46 hx24
            have B21r := Lib.hid (HX25.out.blk B21.out)
            have B46 := Lib.hid (blk_alloc w24 (.cells #[.int .i64 D2, .int .i64 A2, .int .i64 C2, .slice a46 gn2 c46] 28))
            have k0 := blk_cell B21r.out (j := 0) (v := .int .i64 D2) rfl
            have k1 := blk_cell B21r.out (j := 1) (v := .int .i64 A2) rfl
            have k2 := blk_cell B21r.out (j := 2) (v := .int .i64 C2) rfl
            have k3 := blk_cell B21r.out (j := 3) (v := .slice ax2 gn2 cx2) rfl
            have q0 := blk_cell B46.out (j := 0) (v := .int .i64 D2) rfl
            have q1 := blk_cell B46.out (j := 1) (v := .int .i64 A2) rfl
            have q2 := blk_cell B46.out (j := 2) (v := .int .i64 C2) rfl
            have q3 := blk_cell B46.out (j := 3) (v := .slice a46 gn2 c46) rfl
            go_wp2_with fail
            refine (CQ.out _ _ _ HX25.out HG46.out).mono ?_
            rintro e w26 ⟨rfl, hx⟩
            have hx26 := HX25.out.trans hx
            clear k0 k1 k2 k3 q0 q1 q2 q3 hx B21r B46
            go_wp2
            go_meet
            case rel => exact hx26
    case rest =>
      clear HFI HT HSU HMB HG HT1 HGN2 B21 B28
      obtain ⟨w30, hw30⟩ : ∃ W, W = wc := ⟨_, rfl⟩
      subst hw30
      have hx := hcut
      have T__ := Lib.hid (X.out.trans hx)
      clear X
      have X := T__
      clear T__
      clear hx hcut
      go_upto_if 306 with fail
      go_cut [] from 307 to 307 (fun wx => w30 = wx)
      case first =>
        cases nine
        · go_wp2
          go_meet
          case rel => exact rfl
        · obtain ⟨b1, b2, b3⟩ := bulge_facts HNI.out.symm
          have CB := c_iBulgeAt d (d - at_) bd w30
          rw [b1, b2, ← HBU.out] at CB
          rw [← HBU.out] at b3
          have HCB := Lib.hid CB
          have hb0 : ¬ bu < 0 := by omega
          clear b1 b2 CB
          go_wp2_with fail
          refine HCB.out.mono ?_
          rintro e w' ⟨rfl, rfl⟩
          go_wp2
          go_meet
          case rel => exact rfl
      case rest =>
        subst hcut
        clear HNI HBU
        cases ok
        · go_wp2
          go_ret
          exact ⟨rfl, X.out⟩
        · have hbb := HBB.out rfl
          cases three
          · cases sees
            all_goals go_wp2
            all_goals (go_ret; exact ⟨rfl, X.out⟩)
          · obtain ⟨_, hbt, htp⟩ := HCL.out rfl
            have HTP := Lib.hid htp
            clear htp
            by_cases h0p : 0 ≤ tp
            · have hse : sees = true := by rw [← HTP.out]; exact decide_eq_true h0p
              subst hse
              go_wp2
              go_ret
              exact ⟨rfl, X.out⟩
            · have hse : sees = false := by rw [← HTP.out]; exact decide_eq_false h0p
              subst hse
              go_wp2
              go_ret
              exact ⟨rfl, X.out⟩
set_option maxRecDepth 100000 in
theorem lifted_FnSights (os : Os) (started : os.Started) (H : Type) (enc : TypeId × Value → H) :
    ReturnsInHanded {} Try.checked os 5 .any (Rows.fnSightsSpec.pre6 enc Try.prog Try.f5 Rows.fnSightsRow.domain false) (Rows.fnSightsSpec.post enc Try.prog Try.f5 false true false false) := by
  refine returnsInHanded_of_change (C := Try.checked) own_Ytnoagmjajhlmjaa started (by kernel_rfl) Try.func5
    (ChangeSpec.witness6 (enc := enc) (C := Try.checked) false ⟨#[], #[.slice none 0 0, .slice none 0 0], []⟩ 8 (by kernel_rfl) (by kernel_rfl) (by kernel_rfl) (by kernel_rfl)) ?_
  intro W base args ds gs before hval0 hW hcnd _
  have hval : ∀ (j : Nat) t v, Try.f5.params[j]? = some t → args[j]? = some v → Value.okWide Try.prog W .any base t v := hval0
  have hW' := hW
  obtain ⟨p, q, hA0, hV, rfl, hfz, hnd⟩ := hW
  have hA : DataW.TrodAll enc Try.prog W 0 (fun _ => true) true Try.f5.params.toList args.toList ds p := hA0
  rw [Try.params5] at hA hval
  obtain ⟨v0, vs0, d0, ds0, p0, q0, hargs, rfl, rfl, h0, r0⟩ := trodAll_cons hA
  obtain ⟨v1, vs1, d1, ds1, p1, q1, rfl, rfl, rfl, h1, r1⟩ := trodAll_cons r0
  obtain ⟨rfl, rfl, rfl⟩ := trodAll_nil r1
  obtain rfl : args = #[v0, v1] := by cases args; simp_all
  obtain ⟨rfl, rfl⟩ := trodVars_none hV
  have k0 := h0
  have lt0 : ∀ x ∈ p0, x.block < W.heap.size := by obtain ⟨m, hm⟩ := k0; exact DataW.trod_lt m _ _ _ hm
  obtain ⟨x0, w0⟩ := arg_bytes (hval 0 35 v0 rfl rfl) h0
  have k1 := h1
  have lt1 : ∀ x ∈ p1, x.block < W.heap.size := by obtain ⟨m, hm⟩ := k1; exact DataW.trod_lt m _ _ _ hm
  obtain ⟨x1, w1⟩ := arg_bytes (hval 1 35 v1 rfl rfl) h1
  clear hA0 hval0
  refine (law_Sights v0 x0 v1 x1 W w0 w1).mono fun e W' ⟨he, bel⟩ => ?_
  subst he
  exact ⟨_, rfl, _, _, _, [], _, [], hW', trodAll_mk1 (shut_bool Try.underlying4 _), (trodAll_cons_mk (Below.trod laidOut_Ytnoagmjajhlmjaa (by kernel_rfl) (of_decide_eq_true (by kernel_rfl)) k0 bel lt0) (trodAll_cons_mk (Below.trod laidOut_Ytnoagmjajhlmjaa (by kernel_rfl) (of_decide_eq_true (by kernel_rfl)) k1 bel lt1) trodAll_mk0)), rfl, bel.frame _, fun h => by cases h⟩

theorem holds_FnSights : Rows.FnSightsSaid :=
  OpenClaim.holds_of_wide 5 Try.f5 rfl rfl rfl rfl rfl rfl rfl ⟨rfl, rfl, rfl, rfl, rfl⟩ rfl rfl rfl rfl rfl (by kernel_rfl) Try.func5 (by kernel_rfl)
    (of_decide_eq_true (by kernel_rfl)) (by unfold Func.isWrapper; first | (rw [if_pos (by decide +kernel)]; kernel_rfl) | (rw [if_neg (by decide +kernel)]; exact ⟨rfl, rfl⟩))
    (fun os started H enc _ => lifted_FnSights os started H enc)
end Go.Proofs.Ytnoagmjajhlmjaa
