

/- FnNets: for all arguments the call returns true, where the library's tables and its two errors hold what its text lays ('laid'). -/
import Derived.Test.YtmaaeemhbccpcaaGreatDoorDrawY
import Derived.Test.YtmaaeemhbccpcaaGreatDoorNetsP
import Derived.Test.YtmaaeemhbccpcaaGreatDoorNcQ
import Derived.Test.YtmaaeemhbccpcaaGreatDoorTextN
import Derived.Test.YtmaaeemhbccpcaaGreatDoorBridge2
import Derived.Test.YtmaaeemhbccpcaaGreatDoorPnS
import Derived.Test.YtmaaeemhbccpcaaGreatDoorGF
import Derived.Test.YtmaaeemhbccpcaaGreatDoorCards
import Derived.Test.YtmaaeemhbccpcaaGreatDoorTie
import Derived.Deep.DeepHandedRow
import Derived.Deep.DeepLaidRun
import Derived.Lib.LaidTab
import Derived.Stop.LaidErr
namespace Go.Proofs.YtmaaeemhbccpcaaGreatDoor
open Go.ChangeShapes Go.WideShapes Go.ChangeAt Go.RowKit
open Go.ChangeMaps (open_string shut_string)
set_option linter.unusedVariables false
set_option linter.unusedSimpArgs false
abbrev NetR (w : World) (v : Value) (x : NetT) : Prop := Nets w 0 w.heap.size v x
theorem Nets.wider {w : World} {lo hi lo' hi' : Nat} {v : Value} {x : NetT} (h : Nets w lo hi v x) (h1 : lo' ≤ lo) (h2 : hi ≤ hi') : Nets w lo' hi' v x := by
  obtain ⟨vt, vl, e, r1, r2⟩ := h
  exact ⟨vt, vl, e, Row.mono r1 h1 h2, Row.mono r2 h1 h2⟩
theorem NetR.adv {w w' : World} {v : Value} {x : NetT} (h : NetR w v x) (hx : Ext w w') : NetR w' v x := (h.ext hx (Nat.le_refl _)).wider (Nat.le_refl _) hx.size
theorem OwnNet.netR {w : World} {lo : Nat} {v : Value} {x : NetT} (h : OwnNet w lo w.heap.size v x) : NetR w v x := h.read.wider (Nat.zero_le _) (Nat.le_refl _)
set_option maxRecDepth 100000 in
set_option maxHeartbeats 8000000 in
theorem law_Nets (v0 : Value) (bs : List Int) (v1 : Value) (cs : List Int) (w : World) (h0 : ArgBytes w v0 bs) (h1 : ArgBytes w v1 cs) (ht : PnW w) :
    Calls Tryz.prog 3 #[v0, v1] w fun e w' => e = .returned (.bool true) ∧ Ext w w' := by
  obtain ⟨hB0, hY0⟩ := h0
  obtain ⟨hB1, hY1⟩ := h1
  obtain ⟨a0, p0, rfl, n0, n0b, _⟩ := id hB0
  obtain ⟨a1, p1, rfl, n1, n1b, _⟩ := id hB1
  have HB0 : Hid (Bytes w 0 w.heap.size _ bs) := ⟨hB0, hY0⟩
  have HB1 : Hid (Bytes w 0 w.heap.size _ cs) := ⟨hB1, hY1⟩
  obtain ⟨l0, hl0⟩ : ∃ n, n = bs.length := ⟨_, rfl⟩
  obtain ⟨l1, hl1⟩ : ∃ n, n = cs.length := ⟨_, rfl⟩
  rw [← hl0] at HB0 n0 ⊢
  rw [← hl1] at HB1 n1 ⊢
  clear hB0 hY0 hB1 hY1 hl0 hl1
  have X := Lib.hid (Ext.refl w)
  have HPN : Hid (∀ W, Ext w W → PnW W) := fun W hX => ht.ext hX
  have CB := Lib.hid (c_big a0 a1 l0 l1 p0 p1 w (by omega) (by omega))
  obtain ⟨big, hbig⟩ : ∃ b, b = bigB l0 l1 := ⟨_, rfl⟩
  rw [← hbig] at CB
  clear hbig ht
  cases big
  case true =>
    go_enter Tryz.func3, Tryz.ntmps3
    go_wp2_with fail
    refine CB.out.mono ?_
    rintro e w' ⟨rfl, rfl⟩
    go_wp2
    go_ret
    exact ⟨rfl, Ext.refl _⟩
  go_enter Tryz.func3, Tryz.ntmps3
  go_wp2_with fail
  refine CB.out.mono ?_
  rintro e w' ⟨rfl, rfl⟩
  clear CB
  go_wp2_with fail
  refine (c_DrawNetText _ 0 w.heap.size bs w (HB0.out.ext X.out (Nat.le_refl _)) X.out.size).mono ?_
  rintro e w1 ⟨vt0, x,  rfl, hG⟩
  obtain ⟨at0, ct0, bt0, dt0, rfl, hN, hT17t0, hL41t0, hx⟩ := hG
  have Ht0 : Hid (NetR w1 _ x) := hN.wider (Nat.zero_le _) (Nat.le_refl _)
  clear hN
  have T__ := Lib.hid (X.out.trans hx)
  clear X
  have X := T__
  clear T__
  clear hx
  obtain ⟨f, hf⟩ := exists_br x
  obtain ⟨V, hV⟩ := exists_rs x 0
  have HBR := Lib.hid hf
  have HRS := Lib.hid hV
  clear hf hV
  obtain ⟨ok, hok⟩ : ∃ b, b = netB x := ⟨_, rfl⟩
  have HOK := Lib.hid hok
  obtain ⟨tx, htx⟩ : ∃ b, b = (if netB x then txtL x else []) := ⟨_, rfl⟩
  have HTX := Lib.hid htx
  obtain ⟨jj, hjj⟩ : ∃ b, b = (netB x && decide (V.length = x.1.length)) := ⟨_, rfl⟩
  have HJJ := Lib.hid hjj
  obtain ⟨br9, hbr9⟩ : ∃ b, b = brV x f := ⟨_, rfl⟩
  have HBR9 := Lib.hid hbr9
  clear hok htx hjj hbr9
  go_wp2_with fail
  obtain ⟨pB5, hp9⟩ : ∃ n, n = w1.heap.size := ⟨_, rfl⟩
  obtain ⟨w2, hw9⟩ : ∃ W, W = w1.alloc (.cells #[.slice at0 x.1.length ct0, .slice bt0 x.2.length dt0] 27) := ⟨_, rfl⟩
  rw [← hw9, ← hp9]
  have hx : Ext w1 w2 := by rw [hw9]; exact Ext.alloc _ _
  have B5 : Hid (w2.heap[pB5]? = some (.cells #[.slice at0 x.1.length ct0, .slice bt0 x.2.length dt0] 27)) := by unfold Hid; rw [hw9, hp9]; exact blk_alloc _ _
  have T__ := Lib.hid (X.out.trans hx)
  clear X
  have X := T__
  clear T__
  have T__ := Lib.hid (NetR.adv Ht0.out hx)
  clear Ht0
  have Ht0 := T__
  clear T__
  clear hp9 hw9 hx
  have C := c_iNetText _ 0 w2.heap.size x w2 Ht0.out (Nat.le_refl _) (HPN.out _ X.out).t10
  rw [← HTX.out, ← HOK.out] at C
  refine (C).mono ?_
  rintro e w3 ⟨rfl, hx⟩
  have T__ := Lib.hid (X.out.trans hx)
  clear X
  have X := T__
  clear T__
  have T__ := Lib.hid (NetR.adv Ht0.out hx)
  clear Ht0
  have Ht0 := T__
  clear T__
  have T__ := Lib.hid (hx.blk B5.out)
  clear B5
  have B5 := T__
  clear T__
  clear hx
  clear C
  have kB50 := blk_cell B5.out (j := 0) (v := .slice at0 x.1.length ct0) rfl
  have kB51 := blk_cell B5.out (j := 1) (v := .slice bt0 x.2.length dt0) rfl
  go_wp2_with fail
  have C := c_sNetText _ 0 w3.heap.size x w3 Ht0.out (Nat.le_refl _)
  rw [← HTX.out, ← HOK.out] at C
  refine (C).mono ?_
  clear kB50 kB51
  rintro e w4 ⟨rfl, hx⟩
  have T__ := Lib.hid (X.out.trans hx)
  clear X
  have X := T__
  clear T__
  have T__ := Lib.hid (NetR.adv Ht0.out hx)
  clear Ht0
  have Ht0 := T__
  clear T__
  have T__ := Lib.hid (hx.blk B5.out)
  clear B5
  have B5 := T__
  clear T__
  clear hx
  clear C
  have kB50 := blk_cell B5.out (j := 0) (v := .slice at0 x.1.length ct0) rfl
  have kB51 := blk_cell B5.out (j := 1) (v := .slice bt0 x.2.length dt0) rfl
  go_wp2_with fail
  have C := c_iBridges _ 0 w4.heap.size x f w4 Ht0.out (Nat.le_refl _) HBR.out
  rw [← HBR9.out, ← HOK.out] at C
  refine (C).mono ?_
  clear kB50 kB51
  rintro e w5 ⟨r10, rfl, ho, hx⟩
  obtain ⟨a10, c10, rfl, _, _, _⟩ := own_form ho
  have HI10 : Hid (Ints w5 0 w5.heap.size (.slice a10 br9.length c10) br9) := (Row.of_own encI_len ho).mono (Nat.zero_le _) (Nat.le_refl _)
  clear ho
  have T__ := Lib.hid (X.out.trans hx)
  clear X
  have X := T__
  clear T__
  have T__ := Lib.hid (NetR.adv Ht0.out hx)
  clear Ht0
  have Ht0 := T__
  clear T__
  have T__ := Lib.hid (hx.blk B5.out)
  clear B5
  have B5 := T__
  clear T__
  clear hx
  clear C
  have kB50 := blk_cell B5.out (j := 0) (v := .slice at0 x.1.length ct0) rfl
  have kB51 := blk_cell B5.out (j := 1) (v := .slice bt0 x.2.length dt0) rfl
  go_wp2_with fail
  have C := c_sBridges _ 0 w5.heap.size x f w5 Ht0.out (Nat.le_refl _) HBR.out
  rw [← HBR9.out, ← HOK.out] at C
  refine (C).mono ?_
  clear kB50 kB51
  rintro e w6 ⟨r12, rfl, ho, hx⟩
  obtain ⟨a12, c12, rfl, _, _, _⟩ := own_form ho
  have HI12 : Hid (Ints w6 0 w6.heap.size (.slice a12 br9.length c12) br9) := (Row.of_own encI_len ho).mono (Nat.zero_le _) (Nat.le_refl _)
  clear ho
  have T__ := Lib.hid (X.out.trans hx)
  clear X
  have X := T__
  clear T__
  have T__ := Lib.hid (NetR.adv Ht0.out hx)
  clear Ht0
  have Ht0 := T__
  clear T__
  have T__ := Lib.hid (hx.blk B5.out)
  clear B5
  have B5 := T__
  clear T__
  have T__ := Lib.hid ((HI10.out.ext hx (Nat.le_refl _)).mono (Nat.le_refl _) hx.size)
  clear HI10
  have HI10 := T__
  clear T__
  clear hx
  clear C
  have kB50 := blk_cell B5.out (j := 0) (v := .slice at0 x.1.length ct0) rfl
  have kB51 := blk_cell B5.out (j := 1) (v := .slice bt0 x.2.length dt0) rfl
  go_wp2_with fail
  have C := c_iJoined _ 0 w6.heap.size x V w6 Ht0.out (Nat.le_refl _) HRS.out
  rw [← HJJ.out, ← HOK.out] at C
  refine (C).mono ?_
  clear kB50 kB51
  rintro e w7 ⟨rfl, hx⟩
  have T__ := Lib.hid (X.out.trans hx)
  clear X
  have X := T__
  clear T__
  have T__ := Lib.hid (NetR.adv Ht0.out hx)
  clear Ht0
  have Ht0 := T__
  clear T__
  have T__ := Lib.hid (hx.blk B5.out)
  clear B5
  have B5 := T__
  clear T__
  have T__ := Lib.hid ((HI10.out.ext hx (Nat.le_refl _)).mono (Nat.le_refl _) hx.size)
  clear HI10
  have HI10 := T__
  clear T__
  have T__ := Lib.hid ((HI12.out.ext hx (Nat.le_refl _)).mono (Nat.le_refl _) hx.size)
  clear HI12
  have HI12 := T__
  clear T__
  clear hx
  clear C
  have kB50 := blk_cell B5.out (j := 0) (v := .slice at0 x.1.length ct0) rfl
  have kB51 := blk_cell B5.out (j := 1) (v := .slice bt0 x.2.length dt0) rfl
  go_wp2_with fail
  have C := c_sJoined _ 0 w7.heap.size x V w7 Ht0.out (Nat.le_refl _) HRS.out
  rw [← HJJ.out, ← HOK.out] at C
  refine (C).mono ?_
  clear kB50 kB51
  rintro e w8 ⟨rfl, hx⟩
  have T__ := Lib.hid (X.out.trans hx)
  clear X
  have X := T__
  clear T__
  have T__ := Lib.hid (NetR.adv Ht0.out hx)
  clear Ht0
  have Ht0 := T__
  clear T__
  have T__ := Lib.hid (hx.blk B5.out)
  clear B5
  have B5 := T__
  clear T__
  have T__ := Lib.hid ((HI10.out.ext hx (Nat.le_refl _)).mono (Nat.le_refl _) hx.size)
  clear HI10
  have HI10 := T__
  clear T__
  have T__ := Lib.hid ((HI12.out.ext hx (Nat.le_refl _)).mono (Nat.le_refl _) hx.size)
  clear HI12
  have HI12 := T__
  clear T__
  clear hx
  clear C
  have hne1 : (ok != ok) = false := by cases ok <;> rfl
  have hne2 : (jj != jj) = false := by cases jj <;> rfl
  have hne3 : (tx != tx) = false := by simp
  have kB50 := blk_cell B5.out (j := 0) (v := .slice at0 x.1.length ct0) rfl
  have kB51 := blk_cell B5.out (j := 1) (v := .slice bt0 x.2.length dt0) rfl
  go_wp2_with fail
  have CE := c_sameInts _ _ _ _ _ _ br9 br9 w8 HI10.out HI12.out
  rw [decide_eq_true rfl] at CE
  refine CE.mono ?_
  clear kB50 kB51
  rintro e w9 ⟨rfl, hx⟩
  clear CE
  have T__ := Lib.hid (X.out.trans hx)
  clear X
  have X := T__
  clear T__
  have T__ := Lib.hid (NetR.adv Ht0.out hx)
  clear Ht0
  have Ht0 := T__
  clear T__
  have T__ := Lib.hid (hx.blk B5.out)
  clear B5
  have B5 := T__
  clear T__
  have T__ := Lib.hid ((HI10.out.ext hx (Nat.le_refl _)).mono (Nat.le_refl _) hx.size)
  clear HI10
  have HI10 := T__
  clear T__
  have T__ := Lib.hid ((HI12.out.ext hx (Nat.le_refl _)).mono (Nat.le_refl _) hx.size)
  clear HI12
  have HI12 := T__
  clear T__
  clear hx
  have kB50 := blk_cell B5.out (j := 0) (v := .slice at0 x.1.length ct0) rfl
  have kB51 := blk_cell B5.out (j := 1) (v := .slice bt0 x.2.length dt0) rfl
  go_wp2_with fail
  have C := c_IsNet _ 0 w9.heap.size x w9 Ht0.out (Nat.le_refl _)
  rw [← HOK.out] at C
  refine (C).mono ?_
  clear kB50 kB51
  rintro e w10 ⟨rfl, hx⟩
  have T__ := Lib.hid (X.out.trans hx)
  clear X
  have X := T__
  clear T__
  have T__ := Lib.hid (NetR.adv Ht0.out hx)
  clear Ht0
  have Ht0 := T__
  clear T__
  have T__ := Lib.hid (hx.blk B5.out)
  clear B5
  have B5 := T__
  clear T__
  have T__ := Lib.hid ((HI10.out.ext hx (Nat.le_refl _)).mono (Nat.le_refl _) hx.size)
  clear HI10
  have HI10 := T__
  clear T__
  have T__ := Lib.hid ((HI12.out.ext hx (Nat.le_refl _)).mono (Nat.le_refl _) hx.size)
  clear HI12
  have HI12 := T__
  clear T__
  clear hx
  clear C
  have kB50 := blk_cell B5.out (j := 0) (v := .slice at0 x.1.length ct0) rfl
  have kB51 := blk_cell B5.out (j := 1) (v := .slice bt0 x.2.length dt0) rfl
  go_upto_if 129 with fail
  clear kB50 kB51
  clear hne1 hne2 hne3
  go_cut [18, 19, 20, 21, 22, 23, 24, 25, 26, 27] from 130 to 221 (fun _ _ _ _ _ _ _ _ _ _ wx => Ext w10 wx)
  case first =>
    cases ok
    · go_wp2
      go_meet
      case rel => exact Ext.refl _
    ·
      have HNB : Hid (netB x = true) := HOK.out.symm
      have HTT : Hid (tx = txtL x) := by unfold Hid; rw [HTX.out, if_pos HNB.out]
      have HIM : Hid (imOk tx = some x) := by unfold Hid; rw [HTT.out]; exact im_complete HNB.out
      have hl20 : tx.length ≤ 1048576 := by rw [HTT.out]; exact Nat.le_trans (txt_len (net_nums HNB.out)) (by omega)
      have HTREE : Hid (jj = true → (x.2.length : Int) = (x.1.length : Int) - 1 → br9.length = x.2.length) := fun e1 e2 => by
        rw [HJJ.out, HNB.out, Bool.true_and, decide_eq_true_eq] at e1
        rw [HBR9.out]
        exact tree_bridges HNB.out HBR.out HRS.out e1 e2
      have HX5 := Lib.hid (Ext.refl w10)
      have kB50 := blk_cell B5.out (j := 0) (v := .slice at0 x.1.length ct0) rfl
      have kB51 := blk_cell B5.out (j := 1) (v := .slice bt0 x.2.length dt0) rfl
      go_wp2_with fail
      have C := c_iParse tx w10 hl20 (HPN.out _ X.out)
      rw [HIM.out] at C
      simp only [Option.isSome_some, Option.getD_some] at C
      refine (C).mono ?_
      clear kB50 kB51
      rintro e w11 ⟨vt18, rfl, ho, hx⟩
      obtain ⟨at18, ct18, bt18, dt18, rfl, ⟨_, _⟩, _, _⟩ := ho.form
      have Ht18 : Hid (NetR w11 _ x) := ho.netR
      clear ho
      have T__ := Lib.hid (X.out.trans hx)
      clear X
      have X := T__
      clear T__
      have T__ := Lib.hid (NetR.adv Ht0.out hx)
      clear Ht0
      have Ht0 := T__
      clear T__
      have T__ := Lib.hid (hx.blk B5.out)
      clear B5
      have B5 := T__
      clear T__
      have T__ := Lib.hid ((HI10.out.ext hx (Nat.le_refl _)).mono (Nat.le_refl _) hx.size)
      clear HI10
      have HI10 := T__
      clear T__
      have T__ := Lib.hid ((HI12.out.ext hx (Nat.le_refl _)).mono (Nat.le_refl _) hx.size)
      clear HI12
      have HI12 := T__
      clear T__
      have T__ := Lib.hid (HX5.out.trans hx)
      clear HX5
      have HX5 := T__
      clear T__
      clear hx
      clear C
      have kB50 := blk_cell B5.out (j := 0) (v := .slice at0 x.1.length ct0) rfl
      have kB51 := blk_cell B5.out (j := 1) (v := .slice bt0 x.2.length dt0) rfl
      have kB50n := (Ext.alloc (w11) (.cells #[.slice at18 x.1.length ct18, .slice bt18 x.2.length dt18] 27)).cell kB50
      have kB51n := (Ext.alloc (w11) (.cells #[.slice at18 x.1.length ct18, .slice bt18 x.2.length dt18] 27)).cell kB51
      go_wp2_with fail
      obtain ⟨pB18, hp9⟩ : ∃ n, n = w11.heap.size := ⟨_, rfl⟩
      obtain ⟨w12, hw9⟩ : ∃ W, W = w11.alloc (.cells #[.slice at18 x.1.length ct18, .slice bt18 x.2.length dt18] 27) := ⟨_, rfl⟩
      rw [← hw9, ← hp9]
      have hx : Ext w11 w12 := by rw [hw9]; exact Ext.alloc _ _
      have B18 : Hid (w12.heap[pB18]? = some (.cells #[.slice at18 x.1.length ct18, .slice bt18 x.2.length dt18] 27)) := by unfold Hid; rw [hw9, hp9]; exact blk_alloc _ _
      clear kB50 kB51 kB50n kB51n
      have T__ := Lib.hid (X.out.trans hx)
      clear X
      have X := T__
      clear T__
      have T__ := Lib.hid (NetR.adv Ht0.out hx)
      clear Ht0
      have Ht0 := T__
      clear T__
      have T__ := Lib.hid (hx.blk B5.out)
      clear B5
      have B5 := T__
      clear T__
      have T__ := Lib.hid ((HI10.out.ext hx (Nat.le_refl _)).mono (Nat.le_refl _) hx.size)
      clear HI10
      have HI10 := T__
      clear T__
      have T__ := Lib.hid ((HI12.out.ext hx (Nat.le_refl _)).mono (Nat.le_refl _) hx.size)
      clear HI12
      have HI12 := T__
      clear T__
      have T__ := Lib.hid (HX5.out.trans hx)
      clear HX5
      have HX5 := T__
      clear T__
      have T__ := Lib.hid (NetR.adv Ht18.out hx)
      clear Ht18
      have Ht18 := T__
      clear T__
      clear hp9 hw9 hx
      refine (c_pSameNet _ _ 0 w12.heap.size 0 w12.heap.size x w12 Ht18.out Ht0.out (Nat.le_refl _) (Nat.le_refl _)).mono ?_
      rintro e w13 ⟨rfl, hx⟩
      have T__ := Lib.hid (X.out.trans hx)
      clear X
      have X := T__
      clear T__
      have T__ := Lib.hid (NetR.adv Ht0.out hx)
      clear Ht0
      have Ht0 := T__
      clear T__
      have T__ := Lib.hid (hx.blk B5.out)
      clear B5
      have B5 := T__
      clear T__
      have T__ := Lib.hid ((HI10.out.ext hx (Nat.le_refl _)).mono (Nat.le_refl _) hx.size)
      clear HI10
      have HI10 := T__
      clear T__
      have T__ := Lib.hid ((HI12.out.ext hx (Nat.le_refl _)).mono (Nat.le_refl _) hx.size)
      clear HI12
      have HI12 := T__
      clear T__
      have T__ := Lib.hid (HX5.out.trans hx)
      clear HX5
      have HX5 := T__
      clear T__
      have T__ := Lib.hid (NetR.adv Ht18.out hx)
      clear Ht18
      have Ht18 := T__
      clear T__
      have T__ := Lib.hid (hx.blk B18.out)
      clear B18
      have B18 := T__
      clear T__
      clear hx
      have kB50 := blk_cell B5.out (j := 0) (v := .slice at0 x.1.length ct0) rfl
      have kB51 := blk_cell B5.out (j := 1) (v := .slice bt0 x.2.length dt0) rfl
      have kB180 := blk_cell B18.out (j := 0) (v := .slice at18 x.1.length ct18) rfl
      have kB181 := blk_cell B18.out (j := 1) (v := .slice bt18 x.2.length dt18) rfl
      go_wp2_with fail
      clear kB50 kB51 kB180 kB181
      clear HI10
      have HXL := Lib.hid (Ext.refl w13)
      go_loopw [146] (fun t wr => ∃ k : Nat, k ≤ x.2.length ∧ t = .int .i64 k ∧ Ext w13 wr) (fun t _ => x.2.length - (intOf t).toNat)
      case atStart => exact ⟨0, by omega, rfl, Ext.refl _⟩
      case round =>
        obtain ⟨k, hk, rfl, hxr⟩ := hrel
        obtain ⟨wo, hwo⟩ : ∃ W, W = wr := ⟨_, rfl⟩
        subst hwo
        have hx := hxr
        have T__ := Lib.hid (X.out.trans hx)
        clear X
        have X := T__
        clear T__
        have T__ := Lib.hid (NetR.adv Ht0.out hx)
        clear Ht0
        have Ht0 := T__
        clear T__
        have T__ := Lib.hid (hx.blk B5.out)
        clear B5
        have B5 := T__
        clear T__
        have T__ := Lib.hid ((HI12.out.ext hx (Nat.le_refl _)).mono (Nat.le_refl _) hx.size)
        clear HI12
        have HI12 := T__
        clear T__
        have T__ := Lib.hid (HX5.out.trans hx)
        clear HX5
        have HX5 := T__
        clear T__
        have T__ := Lib.hid (NetR.adv Ht18.out hx)
        clear Ht18
        have Ht18 := T__
        clear T__
        have T__ := Lib.hid (hx.blk B18.out)
        clear B18
        have B18 := T__
        clear T__
        have T__ := Lib.hid (HXL.out.trans hx)
        clear HXL
        have HXL := T__
        clear T__
        clear hx
        by_cases hlt : k < x.2.length
        · obtain ⟨b8, o8, ⟨z1, z2, z3⟩, rfl, hz, q0, q1, q2⟩ := Links_at Ht0.out.two.2 hlt
          simp only at q0 q1 q2
          have hltI : (k : Int) < (x.2.length : Int) := by omega
          have hk0 : (0 : Int) ≤ (k : Int) := by omega
          obtain ⟨e1, e2⟩ := link_at HNB.out hz.out
          obtain ⟨e3, e4⟩ := near_has HNB.out hz.out
          simp only at e1 e2 e3 e4
          obtain ⟨M, hM⟩ : ∃ M, M = nbV x z1 := ⟨_, rfl⟩
          rw [← hM] at e4
          have E1 := Lib.hid e1
          have E2 := Lib.hid e2
          have E3 := Lib.hid e3
          have E4 := Lib.hid e4
          have HM := Lib.hid hM
          clear e1 e2 e3 e4 hM
          have kB50 := blk_cell B5.out (j := 0) (v := .slice at0 x.1.length ct0) rfl
          have kB51 := blk_cell B5.out (j := 1) (v := .slice (some ⟨b8, o8, none⟩) x.2.length dt0) rfl
          have kB180 := blk_cell B18.out (j := 0) (v := .slice at18 x.1.length ct18) rfl
          have kB181 := blk_cell B18.out (j := 1) (v := .slice bt18 x.2.length dt18) rfl
          have kB50n := (Ext.alloc (wo) (.cells #[.int .i64 z1, .int .i64 z2, .int .i64 z3] 42)).cell kB50
          have kB51n := (Ext.alloc (wo) (.cells #[.int .i64 z1, .int .i64 z2, .int .i64 z3] 42)).cell kB51
          have kB180n := (Ext.alloc (wo) (.cells #[.int .i64 z1, .int .i64 z2, .int .i64 z3] 42)).cell kB180
          have kB181n := (Ext.alloc (wo) (.cells #[.int .i64 z1, .int .i64 z2, .int .i64 z3] 42)).cell kB181
          go_wp2_with fail
          obtain ⟨pB21, hp9⟩ : ∃ n, n = wo.heap.size := ⟨_, rfl⟩
          obtain ⟨w14, hw9⟩ : ∃ W, W = wo.alloc (.cells #[.int .i64 z1, .int .i64 z2, .int .i64 z3] 42) := ⟨_, rfl⟩
          rw [← hw9, ← hp9]
          have hx : Ext wo w14 := by rw [hw9]; exact Ext.alloc _ _
          have B21 : Hid (w14.heap[pB21]? = some (.cells #[.int .i64 z1, .int .i64 z2, .int .i64 z3] 42)) := by unfold Hid; rw [hw9, hp9]; exact blk_alloc _ _
          clear kB50 kB51 kB180 kB181 kB50n kB51n kB180n kB181n
          have T__ := Lib.hid (X.out.trans hx)
          clear X
          have X := T__
          clear T__
          have T__ := Lib.hid (NetR.adv Ht0.out hx)
          clear Ht0
          have Ht0 := T__
          clear T__
          have T__ := Lib.hid (hx.blk B5.out)
          clear B5
          have B5 := T__
          clear T__
          have T__ := Lib.hid ((HI12.out.ext hx (Nat.le_refl _)).mono (Nat.le_refl _) hx.size)
          clear HI12
          have HI12 := T__
          clear T__
          have T__ := Lib.hid (HX5.out.trans hx)
          clear HX5
          have HX5 := T__
          clear T__
          have T__ := Lib.hid (NetR.adv Ht18.out hx)
          clear Ht18
          have Ht18 := T__
          clear T__
          have T__ := Lib.hid (hx.blk B18.out)
          clear B18
          have B18 := T__
          clear T__
          have T__ := Lib.hid (HXL.out.trans hx)
          clear HXL
          have HXL := T__
          clear T__
          clear hp9 hw9 hx
          clear q0 q1 q2
          have C := c_iLinkBetween _ 0 w14.heap.size x z2 z1 w14 Ht0.out (Nat.le_refl _)
          rw [E1.out, E2.out] at C
          refine (C).mono ?_
          rintro e w15 ⟨rfl, hx⟩
          have T__ := Lib.hid (X.out.trans hx)
          clear X
          have X := T__
          clear T__
          have T__ := Lib.hid (NetR.adv Ht0.out hx)
          clear Ht0
          have Ht0 := T__
          clear T__
          have T__ := Lib.hid (hx.blk B5.out)
          clear B5
          have B5 := T__
          clear T__
          have T__ := Lib.hid ((HI12.out.ext hx (Nat.le_refl _)).mono (Nat.le_refl _) hx.size)
          clear HI12
          have HI12 := T__
          clear T__
          have T__ := Lib.hid (HX5.out.trans hx)
          clear HX5
          have HX5 := T__
          clear T__
          have T__ := Lib.hid (NetR.adv Ht18.out hx)
          clear Ht18
          have Ht18 := T__
          clear T__
          have T__ := Lib.hid (hx.blk B18.out)
          clear B18
          have B18 := T__
          clear T__
          have T__ := Lib.hid (HXL.out.trans hx)
          clear HXL
          have HXL := T__
          clear T__
          have T__ := Lib.hid (hx.blk B21.out)
          clear B21
          have B21 := T__
          clear T__
          clear hx
          clear C
          have kB50 := blk_cell B5.out (j := 0) (v := .slice at0 x.1.length ct0) rfl
          have kB51 := blk_cell B5.out (j := 1) (v := .slice (some ⟨b8, o8, none⟩) x.2.length dt0) rfl
          have kB180 := blk_cell B18.out (j := 0) (v := .slice at18 x.1.length ct18) rfl
          have kB181 := blk_cell B18.out (j := 1) (v := .slice bt18 x.2.length dt18) rfl
          have kB210 := blk_cell B21.out (j := 0) (v := .int .i64 z1) rfl
          have kB211 := blk_cell B21.out (j := 1) (v := .int .i64 z2) rfl
          have kB212 := blk_cell B21.out (j := 2) (v := .int .i64 z3) rfl
          go_wp2_with fail
          have C := c_iNeighbours _ 0 w15.heap.size x z1 w15 Ht0.out (Nat.le_refl _)
          rw [← HM.out, E3.out] at C
          refine (C).mono ?_
          clear kB50 kB51 kB180 kB181 kB210 kB211 kB212
          rintro e w16 ⟨r24, rfl, ho, hx⟩
          obtain ⟨a24, c24, rfl, _, _, _⟩ := own_form ho
          have HI24 : Hid (Ints w16 0 w16.heap.size (.slice a24 M.length c24) M) := (Row.of_own encI_len ho).mono (Nat.zero_le _) (Nat.le_refl _)
          clear ho
          have T__ := Lib.hid (X.out.trans hx)
          clear X
          have X := T__
          clear T__
          have T__ := Lib.hid (NetR.adv Ht0.out hx)
          clear Ht0
          have Ht0 := T__
          clear T__
          have T__ := Lib.hid (hx.blk B5.out)
          clear B5
          have B5 := T__
          clear T__
          have T__ := Lib.hid ((HI12.out.ext hx (Nat.le_refl _)).mono (Nat.le_refl _) hx.size)
          clear HI12
          have HI12 := T__
          clear T__
          have T__ := Lib.hid (HX5.out.trans hx)
          clear HX5
          have HX5 := T__
          clear T__
          have T__ := Lib.hid (NetR.adv Ht18.out hx)
          clear Ht18
          have Ht18 := T__
          clear T__
          have T__ := Lib.hid (hx.blk B18.out)
          clear B18
          have B18 := T__
          clear T__
          have T__ := Lib.hid (HXL.out.trans hx)
          clear HXL
          have HXL := T__
          clear T__
          have T__ := Lib.hid (hx.blk B21.out)
          clear B21
          have B21 := T__
          clear T__
          clear hx
          clear C
          have kB50 := blk_cell B5.out (j := 0) (v := .slice at0 x.1.length ct0) rfl
          have kB51 := blk_cell B5.out (j := 1) (v := .slice (some ⟨b8, o8, none⟩) x.2.length dt0) rfl
          have kB180 := blk_cell B18.out (j := 0) (v := .slice at18 x.1.length ct18) rfl
          have kB181 := blk_cell B18.out (j := 1) (v := .slice bt18 x.2.length dt18) rfl
          have kB210 := blk_cell B21.out (j := 0) (v := .int .i64 z1) rfl
          have kB211 := blk_cell B21.out (j := 1) (v := .int .i64 z2) rfl
          have kB212 := blk_cell B21.out (j := 2) (v := .int .i64 z3) rfl
          go_wp2_with fail
          have C := c_sNeighbours _ 0 w16.heap.size x z1 w16 Ht0.out (Nat.le_refl _)
          rw [← HM.out, E3.out] at C
          refine (C).mono ?_
          clear kB50 kB51 kB180 kB181 kB210 kB211 kB212
          rintro e w17 ⟨r26, rfl, ho, hx⟩
          obtain ⟨a26, c26, rfl, _, _, _⟩ := own_form ho
          have HI26 : Hid (Ints w17 0 w17.heap.size (.slice a26 M.length c26) M) := (Row.of_own encI_len ho).mono (Nat.zero_le _) (Nat.le_refl _)
          clear ho
          have T__ := Lib.hid (X.out.trans hx)
          clear X
          have X := T__
          clear T__
          have T__ := Lib.hid (NetR.adv Ht0.out hx)
          clear Ht0
          have Ht0 := T__
          clear T__
          have T__ := Lib.hid (hx.blk B5.out)
          clear B5
          have B5 := T__
          clear T__
          have T__ := Lib.hid ((HI12.out.ext hx (Nat.le_refl _)).mono (Nat.le_refl _) hx.size)
          clear HI12
          have HI12 := T__
          clear T__
          have T__ := Lib.hid (HX5.out.trans hx)
          clear HX5
          have HX5 := T__
          clear T__
          have T__ := Lib.hid (NetR.adv Ht18.out hx)
          clear Ht18
          have Ht18 := T__
          clear T__
          have T__ := Lib.hid (hx.blk B18.out)
          clear B18
          have B18 := T__
          clear T__
          have T__ := Lib.hid (HXL.out.trans hx)
          clear HXL
          have HXL := T__
          clear T__
          have T__ := Lib.hid (hx.blk B21.out)
          clear B21
          have B21 := T__
          clear T__
          have T__ := Lib.hid ((HI24.out.ext hx (Nat.le_refl _)).mono (Nat.le_refl _) hx.size)
          clear HI24
          have HI24 := T__
          clear T__
          clear hx
          clear C
          have hkk : ((k : Int) != (k : Int)) = false := by simp
          have kB50 := blk_cell B5.out (j := 0) (v := .slice at0 x.1.length ct0) rfl
          have kB51 := blk_cell B5.out (j := 1) (v := .slice (some ⟨b8, o8, none⟩) x.2.length dt0) rfl
          have kB180 := blk_cell B18.out (j := 0) (v := .slice at18 x.1.length ct18) rfl
          have kB181 := blk_cell B18.out (j := 1) (v := .slice bt18 x.2.length dt18) rfl
          have kB210 := blk_cell B21.out (j := 0) (v := .int .i64 z1) rfl
          have kB211 := blk_cell B21.out (j := 1) (v := .int .i64 z2) rfl
          have kB212 := blk_cell B21.out (j := 2) (v := .int .i64 z3) rfl
          go_wp2_with fail
          have CE := c_sameInts _ _ _ _ _ _ M M w17 HI24.out HI26.out
          rw [decide_eq_true rfl] at CE
          refine CE.mono ?_
          clear kB50 kB51 kB180 kB181 kB210 kB211 kB212
          rintro e w18 ⟨rfl, hx⟩
          clear CE
          have T__ := Lib.hid (X.out.trans hx)
          clear X
          have X := T__
          clear T__
          have T__ := Lib.hid (NetR.adv Ht0.out hx)
          clear Ht0
          have Ht0 := T__
          clear T__
          have T__ := Lib.hid (hx.blk B5.out)
          clear B5
          have B5 := T__
          clear T__
          have T__ := Lib.hid ((HI12.out.ext hx (Nat.le_refl _)).mono (Nat.le_refl _) hx.size)
          clear HI12
          have HI12 := T__
          clear T__
          have T__ := Lib.hid (HX5.out.trans hx)
          clear HX5
          have HX5 := T__
          clear T__
          have T__ := Lib.hid (NetR.adv Ht18.out hx)
          clear Ht18
          have Ht18 := T__
          clear T__
          have T__ := Lib.hid (hx.blk B18.out)
          clear B18
          have B18 := T__
          clear T__
          have T__ := Lib.hid (HXL.out.trans hx)
          clear HXL
          have HXL := T__
          clear T__
          have T__ := Lib.hid (hx.blk B21.out)
          clear B21
          have B21 := T__
          clear T__
          have T__ := Lib.hid ((HI24.out.ext hx (Nat.le_refl _)).mono (Nat.le_refl _) hx.size)
          clear HI24
          have HI24 := T__
          clear T__
          have T__ := Lib.hid ((HI26.out.ext hx (Nat.le_refl _)).mono (Nat.le_refl _) hx.size)
          clear HI26
          have HI26 := T__
          clear T__
          clear hx
          have kB50 := blk_cell B5.out (j := 0) (v := .slice at0 x.1.length ct0) rfl
          have kB51 := blk_cell B5.out (j := 1) (v := .slice (some ⟨b8, o8, none⟩) x.2.length dt0) rfl
          have kB180 := blk_cell B18.out (j := 0) (v := .slice at18 x.1.length ct18) rfl
          have kB181 := blk_cell B18.out (j := 1) (v := .slice bt18 x.2.length dt18) rfl
          have kB210 := blk_cell B21.out (j := 0) (v := .int .i64 z1) rfl
          have kB211 := blk_cell B21.out (j := 1) (v := .int .i64 z2) rfl
          have kB212 := blk_cell B21.out (j := 2) (v := .int .i64 z3) rfl
          go_wp2_with fail
          have C := c_pIn _ _ _ M z2 w18 HI26.out
          rw [decide_eq_true E4.out] at C
          refine (C).mono ?_
          clear kB50 kB51 kB180 kB181 kB210 kB211 kB212
          rintro e w19 ⟨rfl, hx⟩
          have T__ := Lib.hid (X.out.trans hx)
          clear X
          have X := T__
          clear T__
          have T__ := Lib.hid (NetR.adv Ht0.out hx)
          clear Ht0
          have Ht0 := T__
          clear T__
          have T__ := Lib.hid (hx.blk B5.out)
          clear B5
          have B5 := T__
          clear T__
          have T__ := Lib.hid ((HI12.out.ext hx (Nat.le_refl _)).mono (Nat.le_refl _) hx.size)
          clear HI12
          have HI12 := T__
          clear T__
          have T__ := Lib.hid (HX5.out.trans hx)
          clear HX5
          have HX5 := T__
          clear T__
          have T__ := Lib.hid (NetR.adv Ht18.out hx)
          clear Ht18
          have Ht18 := T__
          clear T__
          have T__ := Lib.hid (hx.blk B18.out)
          clear B18
          have B18 := T__
          clear T__
          have T__ := Lib.hid (HXL.out.trans hx)
          clear HXL
          have HXL := T__
          clear T__
          have T__ := Lib.hid (hx.blk B21.out)
          clear B21
          have B21 := T__
          clear T__
          have T__ := Lib.hid ((HI24.out.ext hx (Nat.le_refl _)).mono (Nat.le_refl _) hx.size)
          clear HI24
          have HI24 := T__
          clear T__
          have T__ := Lib.hid ((HI26.out.ext hx (Nat.le_refl _)).mono (Nat.le_refl _) hx.size)
          clear HI26
          have HI26 := T__
          clear T__
          clear hx
          clear C
          have kB50 := blk_cell B5.out (j := 0) (v := .slice at0 x.1.length ct0) rfl
          have kB51 := blk_cell B5.out (j := 1) (v := .slice (some ⟨b8, o8, none⟩) x.2.length dt0) rfl
          have kB180 := blk_cell B18.out (j := 0) (v := .slice at18 x.1.length ct18) rfl
          have kB181 := blk_cell B18.out (j := 1) (v := .slice bt18 x.2.length dt18) rfl
          have kB210 := blk_cell B21.out (j := 0) (v := .int .i64 z1) rfl
          have kB211 := blk_cell B21.out (j := 1) (v := .int .i64 z2) rfl
          have kB212 := blk_cell B21.out (j := 2) (v := .int .i64 z3) rfl
          go_wp2
          go_roundw
          case rel => exact ⟨k + 1, by omega, by go_num, HXL.out⟩
          case measure => simp [intOf]; omega
        · have hge : ¬ ((k : Int) < (x.2.length : Int)) := by omega
          have hw9 : IntKind.i64.wrap ((x.1.length : Int) - 1) = (x.1.length : Int) - 1 := by rw [IntKind.wrap_i64]; omega
          have kB50 := blk_cell B5.out (j := 0) (v := .slice at0 x.1.length ct0) rfl
          have kB51 := blk_cell B5.out (j := 1) (v := .slice bt0 x.2.length dt0) rfl
          have kB180 := blk_cell B18.out (j := 0) (v := .slice at18 x.1.length ct18) rfl
          have kB181 := blk_cell B18.out (j := 1) (v := .slice bt18 x.2.length dt18) rfl
          cases jj
          · go_wp2
            go_meet
            case rel => exact HX5.out
          · by_cases hlt2 : (x.2.length : Int) = (x.1.length : Int) - 1
            · have hb9 : ((br9.length : Int) != (x.2.length : Int)) = false := by rw [HTREE.out rfl hlt2]; simp
              have hb8 : ((x.2.length : Int) == (x.1.length : Int) - 1) = true := by simpa using hlt2
              clear hlt2
              go_wp2
              go_meet
              case rel => exact HX5.out
            · have hb8 : ((x.2.length : Int) == (x.1.length : Int) - 1) = false := by simpa using hlt2
              clear hlt2
              go_wp2
              go_meet
              case rel => exact HX5.out
  case rest =>
    obtain ⟨w20, hw⟩ : ∃ W, W = wc := ⟨_, rfl⟩
    subst hw
    have hx := hcut
    clear Ht0 B5 HI10 HI12
    have T__ := Lib.hid (X.out.trans hx)
    clear X
    have X := T__
    clear T__
    clear hx hcut
    clear HOK HTX HJJ HBR9 HBR HRS
    go_wp2_with fail
    refine (c_DrawReachFrom _ 0 w.heap.size cs w20 (HB1.out.ext X.out (Nat.le_refl _)) X.out.size).mono ?_
    rintro e w21 ⟨vt28, u, i, rfl, hG⟩
    obtain ⟨at28, ct28, bt28, dt28, rfl, hN, hT17t28, hL41t28, hx⟩ := hG
    have Ht28 : Hid (NetR w21 _ u) := hN.wider (Nat.zero_le _) (Nat.le_refl _)
    clear hN
    have T__ := Lib.hid (X.out.trans hx)
    clear X
    have X := T__
    clear T__
    clear hx
    obtain ⟨R, hR⟩ := exists_rs u i
    have HRS := Lib.hid hR
    clear hR
    obtain ⟨ok, hok⟩ : ∃ b, b = hasT u i := ⟨_, rfl⟩
    have HOK := Lib.hid hok
    clear hok
    go_wp2_with fail
    obtain ⟨pB28, hp9⟩ : ∃ n, n = w21.heap.size := ⟨_, rfl⟩
    obtain ⟨w22, hw9⟩ : ∃ W, W = w21.alloc (.cells #[.slice at28 u.1.length ct28, .slice bt28 u.2.length dt28] 27) := ⟨_, rfl⟩
    rw [← hw9, ← hp9]
    have hx : Ext w21 w22 := by rw [hw9]; exact Ext.alloc _ _
    have B28 : Hid (w22.heap[pB28]? = some (.cells #[.slice at28 u.1.length ct28, .slice bt28 u.2.length dt28] 27)) := by unfold Hid; rw [hw9, hp9]; exact blk_alloc _ _
    have T__ := Lib.hid (X.out.trans hx)
    clear X
    have X := T__
    clear T__
    have T__ := Lib.hid (NetR.adv Ht28.out hx)
    clear Ht28
    have Ht28 := T__
    clear T__
    clear hp9 hw9 hx
    have C := c_iReachFrom _ 0 w22.heap.size u i R w22 Ht28.out (Nat.le_refl _) HRS.out
    rw [← HOK.out] at C
    refine (C).mono ?_
    rintro e w23 ⟨r30, rfl, ho, hx⟩
    obtain ⟨a30, c30, rfl, _, _, _⟩ := own_form ho
    have HI30 : Hid (Ints w23 0 w23.heap.size (.slice a30 R.length c30) R) := (Row.of_own encI_len ho).mono (Nat.zero_le _) (Nat.le_refl _)
    clear ho
    have T__ := Lib.hid (X.out.trans hx)
    clear X
    have X := T__
    clear T__
    have T__ := Lib.hid (NetR.adv Ht28.out hx)
    clear Ht28
    have Ht28 := T__
    clear T__
    have T__ := Lib.hid (hx.blk B28.out)
    clear B28
    have B28 := T__
    clear T__
    clear hx
    clear C
    have kB280 := blk_cell B28.out (j := 0) (v := .slice at28 u.1.length ct28) rfl
    have kB281 := blk_cell B28.out (j := 1) (v := .slice bt28 u.2.length dt28) rfl
    go_wp2_with fail
    have C := c_sReachFrom _ 0 w23.heap.size u i R w23 Ht28.out (Nat.le_refl _) HRS.out
    rw [← HOK.out] at C
    refine (C).mono ?_
    clear kB280 kB281
    rintro e w24 ⟨r32, rfl, ho, hx⟩
    obtain ⟨a32, c32, rfl, _, _, _⟩ := own_form ho
    have HI32 : Hid (Ints w24 0 w24.heap.size (.slice a32 R.length c32) R) := (Row.of_own encI_len ho).mono (Nat.zero_le _) (Nat.le_refl _)
    clear ho
    have T__ := Lib.hid (X.out.trans hx)
    clear X
    have X := T__
    clear T__
    have T__ := Lib.hid (NetR.adv Ht28.out hx)
    clear Ht28
    have Ht28 := T__
    clear T__
    have T__ := Lib.hid (hx.blk B28.out)
    clear B28
    have B28 := T__
    clear T__
    have T__ := Lib.hid ((HI30.out.ext hx (Nat.le_refl _)).mono (Nat.le_refl _) hx.size)
    clear HI30
    have HI30 := T__
    clear T__
    clear hx
    clear C
    have hne1 : (ok != ok) = false := by cases ok <;> rfl
    have kB280 := blk_cell B28.out (j := 0) (v := .slice at28 u.1.length ct28) rfl
    have kB281 := blk_cell B28.out (j := 1) (v := .slice bt28 u.2.length dt28) rfl
    go_wp2_with fail
    have CE := c_sameInts _ _ _ _ _ _ R R w24 HI30.out HI32.out
    rw [decide_eq_true rfl] at CE
    refine CE.mono ?_
    clear kB280 kB281
    rintro e w25 ⟨rfl, hx⟩
    clear CE
    have T__ := Lib.hid (X.out.trans hx)
    clear X
    have X := T__
    clear T__
    have T__ := Lib.hid (NetR.adv Ht28.out hx)
    clear Ht28
    have Ht28 := T__
    clear T__
    have T__ := Lib.hid (hx.blk B28.out)
    clear B28
    have B28 := T__
    clear T__
    have T__ := Lib.hid ((HI30.out.ext hx (Nat.le_refl _)).mono (Nat.le_refl _) hx.size)
    clear HI30
    have HI30 := T__
    clear T__
    have T__ := Lib.hid ((HI32.out.ext hx (Nat.le_refl _)).mono (Nat.le_refl _) hx.size)
    clear HI32
    have HI32 := T__
    clear T__
    clear hx
    have kB280 := blk_cell B28.out (j := 0) (v := .slice at28 u.1.length ct28) rfl
    have kB281 := blk_cell B28.out (j := 1) (v := .slice bt28 u.2.length dt28) rfl
    go_upto_if 248 with fail
    clear kB280 kB281
    clear hne1
    go_cut [35, 36, 37] from 249 to 269 (fun _ _ _ wx => Ext w25 wx)
    case first =>
      cases ok
      · go_wp2
        go_meet
        case rel => exact Ext.refl _
      ·
        have HX5 := Lib.hid (Ext.refl w25)
        have kB280 := blk_cell B28.out (j := 0) (v := .slice at28 u.1.length ct28) rfl
        have kB281 := blk_cell B28.out (j := 1) (v := .slice bt28 u.2.length dt28) rfl
        go_wp2_with fail
        clear kB280 kB281
        clear HI30
        have HXL := Lib.hid (Ext.refl w25)
        go_loopw [251] (fun t wr => ∃ k : Nat, k ≤ R.length ∧ t = .int .i64 k ∧ Ext w25 wr) (fun t _ => R.length - (intOf t).toNat)
        case atStart => exact ⟨0, by omega, rfl, Ext.refl _⟩
        case round =>
          obtain ⟨k, hk, rfl, hxr⟩ := hrel
          obtain ⟨wo, hwo⟩ : ∃ W, W = wr := ⟨_, rfl⟩
          subst hwo
          have hx := hxr
          have T__ := Lib.hid (X.out.trans hx)
          clear X
          have X := T__
          clear T__
          have T__ := Lib.hid (NetR.adv Ht28.out hx)
          clear Ht28
          have Ht28 := T__
          clear T__
          have T__ := Lib.hid (hx.blk B28.out)
          clear B28
          have B28 := T__
          clear T__
          have T__ := Lib.hid ((HI32.out.ext hx (Nat.le_refl _)).mono (Nat.le_refl _) hx.size)
          clear HI32
          have HI32 := T__
          clear T__
          have T__ := Lib.hid (HX5.out.trans hx)
          clear HX5
          have HX5 := T__
          clear T__
          have T__ := Lib.hid (HXL.out.trans hx)
          clear HXL
          have HXL := T__
          clear T__
          clear hx
          by_cases hlt : k < R.length
          · obtain ⟨b8, o8, y, rfl, hy, q0⟩ := Ints_at HI32.out hlt
            have hltI : (k : Int) < (R.length : Int) := by omega
            have hk0 : (0 : Int) ≤ (k : Int) := by omega
            obtain ⟨e1, e2⟩ := rs_same HRS.out HOK.out.symm (List.mem_of_getElem? hy.out)
            have E1 := Lib.hid e1
            have E2 := Lib.hid e2
            clear e1 e2
            have kB280 := blk_cell B28.out (j := 0) (v := .slice at28 u.1.length ct28) rfl
            have kB281 := blk_cell B28.out (j := 1) (v := .slice bt28 u.2.length dt28) rfl
            go_wp2_with fail
            clear q0
            have C := c_iReachFrom _ 0 wo.heap.size u y R wo Ht28.out (Nat.le_refl _) E1.out
            rw [E2.out] at C
            refine (C).mono ?_
            clear kB280 kB281
            rintro e w26 ⟨r36, rfl, ho, hx⟩
            obtain ⟨a36, c36, rfl, _, _, _⟩ := own_form ho
            have HI36 : Hid (Ints w26 0 w26.heap.size (.slice a36 R.length c36) R) := (Row.of_own encI_len ho).mono (Nat.zero_le _) (Nat.le_refl _)
            clear ho
            have T__ := Lib.hid (X.out.trans hx)
            clear X
            have X := T__
            clear T__
            have T__ := Lib.hid (NetR.adv Ht28.out hx)
            clear Ht28
            have Ht28 := T__
            clear T__
            have T__ := Lib.hid (hx.blk B28.out)
            clear B28
            have B28 := T__
            clear T__
            have T__ := Lib.hid ((HI32.out.ext hx (Nat.le_refl _)).mono (Nat.le_refl _) hx.size)
            clear HI32
            have HI32 := T__
            clear T__
            have T__ := Lib.hid (HX5.out.trans hx)
            clear HX5
            have HX5 := T__
            clear T__
            have T__ := Lib.hid (HXL.out.trans hx)
            clear HXL
            have HXL := T__
            clear T__
            clear hx
            clear C
            have kB280 := blk_cell B28.out (j := 0) (v := .slice at28 u.1.length ct28) rfl
            have kB281 := blk_cell B28.out (j := 1) (v := .slice bt28 u.2.length dt28) rfl
            go_wp2_with fail
            have CE := c_sameInts _ _ _ _ _ _ R R w26 HI36.out HI32.out
            rw [decide_eq_true rfl] at CE
            refine CE.mono ?_
            clear kB280 kB281
            rintro e w27 ⟨rfl, hx⟩
            clear CE
            have T__ := Lib.hid (X.out.trans hx)
            clear X
            have X := T__
            clear T__
            have T__ := Lib.hid (NetR.adv Ht28.out hx)
            clear Ht28
            have Ht28 := T__
            clear T__
            have T__ := Lib.hid (hx.blk B28.out)
            clear B28
            have B28 := T__
            clear T__
            have T__ := Lib.hid ((HI32.out.ext hx (Nat.le_refl _)).mono (Nat.le_refl _) hx.size)
            clear HI32
            have HI32 := T__
            clear T__
            have T__ := Lib.hid (HX5.out.trans hx)
            clear HX5
            have HX5 := T__
            clear T__
            have T__ := Lib.hid (HXL.out.trans hx)
            clear HXL
            have HXL := T__
            clear T__
            have T__ := Lib.hid ((HI36.out.ext hx (Nat.le_refl _)).mono (Nat.le_refl _) hx.size)
            clear HI36
            have HI36 := T__
            clear T__
            clear hx
            have kB280 := blk_cell B28.out (j := 0) (v := .slice at28 u.1.length ct28) rfl
            have kB281 := blk_cell B28.out (j := 1) (v := .slice bt28 u.2.length dt28) rfl
            go_wp2
            go_roundw
            case rel => exact ⟨k + 1, by omega, by go_num, HXL.out⟩
            case measure => simp [intOf]; omega
          · have hge : ¬ ((k : Int) < (R.length : Int)) := by omega
            go_wp2
            go_meet
            case rel => exact HX5.out
    case rest =>
      obtain ⟨w28, hw⟩ : ∃ W, W = wc := ⟨_, rfl⟩
      subst hw
      have hx := hcut
      clear Ht28 B28 HI30 HI32
      have T__ := Lib.hid (X.out.trans hx)
      clear X
      have X := T__
      clear T__
      clear hx hcut
      clear HOK HRS
      go_wp2_with fail
      refine (c_DrawParseNet _ 0 w.heap.size cs w28 (HB1.out.ext X.out (Nat.le_refl _)) X.out.size).mono ?_
      rintro e w29 ⟨z, rfl, hz20, hx⟩
      have T__ := Lib.hid (X.out.trans hx)
      clear X
      have X := T__
      clear T__
      clear hx
      obtain ⟨ok, hok⟩ : ∃ b, b = (imOk z).isSome := ⟨_, rfl⟩
      have HOK := Lib.hid hok
      obtain ⟨y, hy⟩ : ∃ b, b = ((imOk z).getD ([], [])) := ⟨_, rfl⟩
      have HY := Lib.hid hy
      clear hok hy
      have hyl : y.1.length + y.2.length ≤ 1048576 := by rw [HY.out]; exact imOk_bound z
      go_wp2_with fail
      have C := c_iParse z w29 hz20 (HPN.out _ X.out)
      rw [← HOK.out, ← HY.out] at C
      refine (C).mono ?_
      rintro e w30 ⟨vt39, rfl, ho, hx⟩
      obtain ⟨at39, ct39, bt39, dt39, rfl, ⟨_, _⟩, _, _⟩ := ho.form
      have Ht39 : Hid (NetR w30 _ y) := ho.netR
      clear ho
      have T__ := Lib.hid (X.out.trans hx)
      clear X
      have X := T__
      clear T__
      clear hx
      clear C
      go_wp2_with fail
      obtain ⟨pB39, hp9⟩ : ∃ n, n = w30.heap.size := ⟨_, rfl⟩
      obtain ⟨w31, hw9⟩ : ∃ W, W = w30.alloc (.cells #[.slice at39 y.1.length ct39, .slice bt39 y.2.length dt39] 27) := ⟨_, rfl⟩
      rw [← hw9, ← hp9]
      have hx : Ext w30 w31 := by rw [hw9]; exact Ext.alloc _ _
      have B39 : Hid (w31.heap[pB39]? = some (.cells #[.slice at39 y.1.length ct39, .slice bt39 y.2.length dt39] 27)) := by unfold Hid; rw [hw9, hp9]; exact blk_alloc _ _
      have T__ := Lib.hid (X.out.trans hx)
      clear X
      have X := T__
      clear T__
      have T__ := Lib.hid (NetR.adv Ht39.out hx)
      clear Ht39
      have Ht39 := T__
      clear T__
      clear hp9 hw9 hx
      have C := c_sParse z w31 hz20
      rw [← HOK.out, ← HY.out] at C
      refine (C).mono ?_
      rintro e w32 ⟨vt41, rfl, ho, hx⟩
      obtain ⟨at41, ct41, bt41, dt41, rfl, ⟨_, _⟩, _, _⟩ := ho.form
      have Ht41 : Hid (NetR w32 _ y) := ho.netR
      clear ho
      have T__ := Lib.hid (X.out.trans hx)
      clear X
      have X := T__
      clear T__
      have T__ := Lib.hid (NetR.adv Ht39.out hx)
      clear Ht39
      have Ht39 := T__
      clear T__
      have T__ := Lib.hid (hx.blk B39.out)
      clear B39
      have B39 := T__
      clear T__
      clear hx
      clear C
      have kB390 := blk_cell B39.out (j := 0) (v := .slice at39 y.1.length ct39) rfl
      have kB391 := blk_cell B39.out (j := 1) (v := .slice bt39 y.2.length dt39) rfl
      have kB390n := (Ext.alloc (w32) (.cells #[.slice at41 y.1.length ct41, .slice bt41 y.2.length dt41] 27)).cell kB390
      have kB391n := (Ext.alloc (w32) (.cells #[.slice at41 y.1.length ct41, .slice bt41 y.2.length dt41] 27)).cell kB391
      go_wp2_with fail
      obtain ⟨pB41, hp9⟩ : ∃ n, n = w32.heap.size := ⟨_, rfl⟩
      obtain ⟨w33, hw9⟩ : ∃ W, W = w32.alloc (.cells #[.slice at41 y.1.length ct41, .slice bt41 y.2.length dt41] 27) := ⟨_, rfl⟩
      rw [← hw9, ← hp9]
      have hx : Ext w32 w33 := by rw [hw9]; exact Ext.alloc _ _
      have B41 : Hid (w33.heap[pB41]? = some (.cells #[.slice at41 y.1.length ct41, .slice bt41 y.2.length dt41] 27)) := by unfold Hid; rw [hw9, hp9]; exact blk_alloc _ _
      clear kB390 kB391 kB390n kB391n
      have T__ := Lib.hid (X.out.trans hx)
      clear X
      have X := T__
      clear T__
      have T__ := Lib.hid (NetR.adv Ht39.out hx)
      clear Ht39
      have Ht39 := T__
      clear T__
      have T__ := Lib.hid (hx.blk B39.out)
      clear B39
      have B39 := T__
      clear T__
      have T__ := Lib.hid (NetR.adv Ht41.out hx)
      clear Ht41
      have Ht41 := T__
      clear T__
      clear hp9 hw9 hx
      refine (c_DrawNeighboursOf _ 0 w.heap.size cs w33 (HB1.out.ext X.out (Nat.le_refl _)) X.out.size).mono ?_
      rintro e w34 ⟨vt43, q, i, rfl, hG⟩
      obtain ⟨at43, ct43, bt43, dt43, rfl, hN, hT17t43, hL41t43, hx⟩ := hG
      have Ht43 : Hid (NetR w34 _ q) := hN.wider (Nat.zero_le _) (Nat.le_refl _)
      clear hN
      have T__ := Lib.hid (X.out.trans hx)
      clear X
      have X := T__
      clear T__
      have T__ := Lib.hid (NetR.adv Ht39.out hx)
      clear Ht39
      have Ht39 := T__
      clear T__
      have T__ := Lib.hid (hx.blk B39.out)
      clear B39
      have B39 := T__
      clear T__
      have T__ := Lib.hid (NetR.adv Ht41.out hx)
      clear Ht41
      have Ht41 := T__
      clear T__
      have T__ := Lib.hid (hx.blk B41.out)
      clear B41
      have B41 := T__
      clear T__
      clear hx
      obtain ⟨oj, hoj⟩ : ∃ b, b = hasT q i := ⟨_, rfl⟩
      have HOJ := Lib.hid hoj
      obtain ⟨m, hm⟩ : ∃ b, b = nbV q i := ⟨_, rfl⟩
      have HM := Lib.hid hm
      clear hoj hm
      have kB390 := blk_cell B39.out (j := 0) (v := .slice at39 y.1.length ct39) rfl
      have kB391 := blk_cell B39.out (j := 1) (v := .slice bt39 y.2.length dt39) rfl
      have kB410 := blk_cell B41.out (j := 0) (v := .slice at41 y.1.length ct41) rfl
      have kB411 := blk_cell B41.out (j := 1) (v := .slice bt41 y.2.length dt41) rfl
      have kB390n := (Ext.alloc (w34) (.cells #[.slice at43 q.1.length ct43, .slice bt43 q.2.length dt43] 27)).cell kB390
      have kB391n := (Ext.alloc (w34) (.cells #[.slice at43 q.1.length ct43, .slice bt43 q.2.length dt43] 27)).cell kB391
      have kB410n := (Ext.alloc (w34) (.cells #[.slice at43 q.1.length ct43, .slice bt43 q.2.length dt43] 27)).cell kB410
      have kB411n := (Ext.alloc (w34) (.cells #[.slice at43 q.1.length ct43, .slice bt43 q.2.length dt43] 27)).cell kB411
      go_wp2_with fail
      obtain ⟨pB43, hp9⟩ : ∃ n, n = w34.heap.size := ⟨_, rfl⟩
      obtain ⟨w35, hw9⟩ : ∃ W, W = w34.alloc (.cells #[.slice at43 q.1.length ct43, .slice bt43 q.2.length dt43] 27) := ⟨_, rfl⟩
      rw [← hw9, ← hp9]
      have hx : Ext w34 w35 := by rw [hw9]; exact Ext.alloc _ _
      have B43 : Hid (w35.heap[pB43]? = some (.cells #[.slice at43 q.1.length ct43, .slice bt43 q.2.length dt43] 27)) := by unfold Hid; rw [hw9, hp9]; exact blk_alloc _ _
      clear kB390 kB391 kB410 kB411 kB390n kB391n kB410n kB411n
      have T__ := Lib.hid (X.out.trans hx)
      clear X
      have X := T__
      clear T__
      have T__ := Lib.hid (NetR.adv Ht39.out hx)
      clear Ht39
      have Ht39 := T__
      clear T__
      have T__ := Lib.hid (hx.blk B39.out)
      clear B39
      have B39 := T__
      clear T__
      have T__ := Lib.hid (NetR.adv Ht41.out hx)
      clear Ht41
      have Ht41 := T__
      clear T__
      have T__ := Lib.hid (hx.blk B41.out)
      clear B41
      have B41 := T__
      clear T__
      have T__ := Lib.hid (NetR.adv Ht43.out hx)
      clear Ht43
      have Ht43 := T__
      clear T__
      clear hp9 hw9 hx
      have C := c_iNeighbours _ 0 w35.heap.size q i w35 Ht43.out (Nat.le_refl _)
      rw [← HM.out, ← HOJ.out] at C
      refine (C).mono ?_
      rintro e w36 ⟨r45, rfl, ho, hx⟩
      obtain ⟨a45, c45, rfl, _, _, _⟩ := own_form ho
      have HI45 : Hid (Ints w36 0 w36.heap.size (.slice a45 m.length c45) m) := (Row.of_own encI_len ho).mono (Nat.zero_le _) (Nat.le_refl _)
      clear ho
      have T__ := Lib.hid (X.out.trans hx)
      clear X
      have X := T__
      clear T__
      have T__ := Lib.hid (NetR.adv Ht39.out hx)
      clear Ht39
      have Ht39 := T__
      clear T__
      have T__ := Lib.hid (hx.blk B39.out)
      clear B39
      have B39 := T__
      clear T__
      have T__ := Lib.hid (NetR.adv Ht41.out hx)
      clear Ht41
      have Ht41 := T__
      clear T__
      have T__ := Lib.hid (hx.blk B41.out)
      clear B41
      have B41 := T__
      clear T__
      have T__ := Lib.hid (NetR.adv Ht43.out hx)
      clear Ht43
      have Ht43 := T__
      clear T__
      have T__ := Lib.hid (hx.blk B43.out)
      clear B43
      have B43 := T__
      clear T__
      clear hx
      clear C
      have kB390 := blk_cell B39.out (j := 0) (v := .slice at39 y.1.length ct39) rfl
      have kB391 := blk_cell B39.out (j := 1) (v := .slice bt39 y.2.length dt39) rfl
      have kB410 := blk_cell B41.out (j := 0) (v := .slice at41 y.1.length ct41) rfl
      have kB411 := blk_cell B41.out (j := 1) (v := .slice bt41 y.2.length dt41) rfl
      have kB430 := blk_cell B43.out (j := 0) (v := .slice at43 q.1.length ct43) rfl
      have kB431 := blk_cell B43.out (j := 1) (v := .slice bt43 q.2.length dt43) rfl
      go_wp2_with fail
      have C := c_sNeighbours _ 0 w36.heap.size q i w36 Ht43.out (Nat.le_refl _)
      rw [← HM.out, ← HOJ.out] at C
      refine (C).mono ?_
      clear kB390 kB391 kB410 kB411 kB430 kB431
      rintro e w37 ⟨r47, rfl, ho, hx⟩
      obtain ⟨a47, c47, rfl, _, _, _⟩ := own_form ho
      have HI47 : Hid (Ints w37 0 w37.heap.size (.slice a47 m.length c47) m) := (Row.of_own encI_len ho).mono (Nat.zero_le _) (Nat.le_refl _)
      clear ho
      have T__ := Lib.hid (X.out.trans hx)
      clear X
      have X := T__
      clear T__
      have T__ := Lib.hid (NetR.adv Ht39.out hx)
      clear Ht39
      have Ht39 := T__
      clear T__
      have T__ := Lib.hid (hx.blk B39.out)
      clear B39
      have B39 := T__
      clear T__
      have T__ := Lib.hid (NetR.adv Ht41.out hx)
      clear Ht41
      have Ht41 := T__
      clear T__
      have T__ := Lib.hid (hx.blk B41.out)
      clear B41
      have B41 := T__
      clear T__
      have T__ := Lib.hid (NetR.adv Ht43.out hx)
      clear Ht43
      have Ht43 := T__
      clear T__
      have T__ := Lib.hid (hx.blk B43.out)
      clear B43
      have B43 := T__
      clear T__
      have T__ := Lib.hid ((HI45.out.ext hx (Nat.le_refl _)).mono (Nat.le_refl _) hx.size)
      clear HI45
      have HI45 := T__
      clear T__
      clear hx
      clear C
      have e4 : (ok == ok) = true := by simp
      have e5 : (oj == oj) = true := by simp
      have kB390 := blk_cell B39.out (j := 0) (v := .slice at39 y.1.length ct39) rfl
      have kB391 := blk_cell B39.out (j := 1) (v := .slice bt39 y.2.length dt39) rfl
      have kB410 := blk_cell B41.out (j := 0) (v := .slice at41 y.1.length ct41) rfl
      have kB411 := blk_cell B41.out (j := 1) (v := .slice bt41 y.2.length dt41) rfl
      have kB430 := blk_cell B43.out (j := 0) (v := .slice at43 q.1.length ct43) rfl
      have kB431 := blk_cell B43.out (j := 1) (v := .slice bt43 q.2.length dt43) rfl
      go_wp2_with fail
      refine (c_pSameNet _ _ 0 w37.heap.size 0 w37.heap.size y w37 Ht39.out Ht41.out (Nat.le_refl _) (Nat.le_refl _)).mono ?_
      clear kB390 kB391 kB410 kB411 kB430 kB431
      rintro e w38 ⟨rfl, hx⟩
      have T__ := Lib.hid (X.out.trans hx)
      clear X
      have X := T__
      clear T__
      have T__ := Lib.hid (NetR.adv Ht39.out hx)
      clear Ht39
      have Ht39 := T__
      clear T__
      have T__ := Lib.hid (hx.blk B39.out)
      clear B39
      have B39 := T__
      clear T__
      have T__ := Lib.hid (NetR.adv Ht41.out hx)
      clear Ht41
      have Ht41 := T__
      clear T__
      have T__ := Lib.hid (hx.blk B41.out)
      clear B41
      have B41 := T__
      clear T__
      have T__ := Lib.hid (NetR.adv Ht43.out hx)
      clear Ht43
      have Ht43 := T__
      clear T__
      have T__ := Lib.hid (hx.blk B43.out)
      clear B43
      have B43 := T__
      clear T__
      have T__ := Lib.hid ((HI45.out.ext hx (Nat.le_refl _)).mono (Nat.le_refl _) hx.size)
      clear HI45
      have HI45 := T__
      clear T__
      have T__ := Lib.hid ((HI47.out.ext hx (Nat.le_refl _)).mono (Nat.le_refl _) hx.size)
      clear HI47
      have HI47 := T__
      clear T__
      clear hx
      have kB390 := blk_cell B39.out (j := 0) (v := .slice at39 y.1.length ct39) rfl
      have kB391 := blk_cell B39.out (j := 1) (v := .slice bt39 y.2.length dt39) rfl
      have kB410 := blk_cell B41.out (j := 0) (v := .slice at41 y.1.length ct41) rfl
      have kB411 := blk_cell B41.out (j := 1) (v := .slice bt41 y.2.length dt41) rfl
      have kB430 := blk_cell B43.out (j := 0) (v := .slice at43 q.1.length ct43) rfl
      have kB431 := blk_cell B43.out (j := 1) (v := .slice bt43 q.2.length dt43) rfl
      go_wp2_with fail
      have CE := c_sameInts _ _ _ _ _ _ m m w38 HI45.out HI47.out
      rw [decide_eq_true rfl] at CE
      refine CE.mono ?_
      clear kB390 kB391 kB410 kB411 kB430 kB431
      rintro e w39 ⟨rfl, hx⟩
      clear CE
      have T__ := Lib.hid (X.out.trans hx)
      clear X
      have X := T__
      clear T__
      have T__ := Lib.hid (NetR.adv Ht39.out hx)
      clear Ht39
      have Ht39 := T__
      clear T__
      have T__ := Lib.hid (hx.blk B39.out)
      clear B39
      have B39 := T__
      clear T__
      have T__ := Lib.hid (NetR.adv Ht41.out hx)
      clear Ht41
      have Ht41 := T__
      clear T__
      have T__ := Lib.hid (hx.blk B41.out)
      clear B41
      have B41 := T__
      clear T__
      have T__ := Lib.hid (NetR.adv Ht43.out hx)
      clear Ht43
      have Ht43 := T__
      clear T__
      have T__ := Lib.hid (hx.blk B43.out)
      clear B43
      have B43 := T__
      clear T__
      have T__ := Lib.hid ((HI45.out.ext hx (Nat.le_refl _)).mono (Nat.le_refl _) hx.size)
      clear HI45
      have HI45 := T__
      clear T__
      have T__ := Lib.hid ((HI47.out.ext hx (Nat.le_refl _)).mono (Nat.le_refl _) hx.size)
      clear HI47
      have HI47 := T__
      clear T__
      clear hx
      have kB390 := blk_cell B39.out (j := 0) (v := .slice at39 y.1.length ct39) rfl
      have kB391 := blk_cell B39.out (j := 1) (v := .slice bt39 y.2.length dt39) rfl
      have kB410 := blk_cell B41.out (j := 0) (v := .slice at41 y.1.length ct41) rfl
      have kB411 := blk_cell B41.out (j := 1) (v := .slice bt41 y.2.length dt41) rfl
      have kB430 := blk_cell B43.out (j := 0) (v := .slice at43 q.1.length ct43) rfl
      have kB431 := blk_cell B43.out (j := 1) (v := .slice bt43 q.2.length dt43) rfl
      go_wp2
      go_ret
      exact ⟨rfl, X.out⟩
theorem gES : Tryz.prog.globalNamed "strconv.ErrSyntax" = some 2 := by kernel_rfl
theorem gER : Tryz.prog.globalNamed "strconv.ErrRange" = some 3 := by kernel_rfl
theorem tES : (Tryz.prog.globals[2]?).map (·.type) = some 56 := by kernel_rfl
theorem tER : (Tryz.prog.globals[3]?).map (·.type) = some 56 := by kernel_rfl
theorem starES : "*" ++ "errors.errorString" = "*errors.errorString" := by decide
theorem rowES (u : TypeId) (h : Tryz.prog.typeName? 3 u = some "*errors.errorString") : u = 150 :=
  typeName_ptr_named (nm := "errors.errorString") (by rw [starES]; kernel_rfl) (by kernel_rfl) (by decide) u (by rw [starES]; exact h)
theorem cellsES : Tryz.prog.cellsOf 152 = 1 := by kernel_rfl
theorem cellsStr : Tryz.prog.cellsOf 9 = 1 := by kernel_rfl
/-- What the row's list says. -/
theorem pnw_laid {W : World} (h : laidMetH Tryz.prog Rows.fnNetsRow.laid W) (hs : W.ShapedOpen Tryz.prog) : PnW W := by
  have h9 : laidMet Tryz.prog Rows.fnNetsRow.laid W := h
  have hT : Tab10 W := by
    obtain ⟨ps, hv, _⟩ := h9
    obtain ⟨_, _, _, _, _, _, _, _, _, _, hv2, _⟩ := hv
    obtain ⟨_, _, _, _, _, _, _, _, _, _, hv3, _⟩ := hv2
    obtain ⟨g', t', cs, fuel, p, q, hg', ht', hvar, hd, _, _⟩ := hv3
    have e1 := Option.some.inj (gTab10.symm.trans hg')
    subst e1
    have e2 := Option.some.inj ((show (Tryz.prog.globals[1]?).map (·.type) = some 134 by kernel_rfl).symm.trans ht')
    subst e2
    have hd9 : DataW.trod (fun _ => ()) Tryz.prog W 0 (fun _ => true) false fuel 134 cs.toList = some (Lib.tabData .u64 Lib.pow10Tab, p) := hd
    show Lib.TabIs Tryz.prog W "internal/strconv.uint64pow10" .u64 Lib.pow10Tab
    unfold Lib.TabIs
    rw [hvar, ← Lib.cells_of_tab Tryz.underlying134 Tryz.underlying77 (by kernel_rfl) (by kernel_rfl) hd9]
  have h4 : laidMet Tryz.prog [("strconv.ErrRange", Rows.laid_strconv_ErrRange), ("strconv.ErrSyntax", Rows.laid_strconv_ErrSyntax), ("unicode/utf8.first", Rows.laid_unicode_utf8_first)] W := h9.tail.tail.tail.tail
  obtain ⟨a0, s0, hv0, -, -, -⟩ := laid_sentinel h4 gER tER Tryz.underlying56 rowES Tryz.underlying150 Tryz.underlying152 rfl rfl Tryz.underlying9 cellsES cellsStr
  obtain ⟨a1, s1, hv1, -, -, -⟩ := laid_sentinel h4.tail gES tES Tryz.underlying56 rowES Tryz.underlying150 Tryz.underlying152 rfl rfl Tryz.underlying9 cellsES cellsStr
  obtain ⟨m, hm⟩ := sh_laysM146.s1_3 W hs
  exact ⟨hT, ⟨m, hm⟩, ⟨_, (by have h0 := World.var?_cell gES hv1 0; simpa using h0), Or.inr ⟨_, _, rfl⟩⟩, ⟨_, (by have h0 := World.var?_cell gER hv0 0; simpa using h0), Or.inr ⟨_, _, rfl⟩⟩⟩
/-- The cells of a table that is listed. -/
def lit1 : DataW Unit → List Value
  | .lit (.int k z) => [Value.int k z]
  | .agg ds => ds.filterMap fun
    | .lit (.int k z) => some (Value.int k z)
    | _ => none
  | _ => []
def litCells : DataW Unit → Array Value
  | .agg ds => (ds.flatMap lit1).toArray
  | _ => #[]
def tabPut (d : DataW Unit) : Obj → Obj
  | .cells _ t frozen => .cells (litCells d) t frozen
  | o => o
abbrev synS : ByteArray := { data := #[105, 110, 118, 97, 108, 105, 100, 32, 115, 121, 110, 116, 97, 120] }
abbrev rngS : ByteArray := { data := #[118, 97, 108, 117, 101, 32, 111, 117, 116, 32, 111, 102, 32, 114, 97, 110, 103, 101] }
/-- So many blocks has the settled world. -/
noncomputable def lowPN : Nat := (World.holding Tryz.prog default ⟨#[], #[], []⟩).heap.size
def errPut (N : Nat) : Obj → Obj
  | .cells _ t frozen => .cells #[.iface 150 (.pointer (some ⟨N, 0, none⟩))] t frozen
  | o => o
/-- A world for the witness: the settled one, the tables and the two errors as their initialisers lay them. -/
noncomputable def laidWorldPN (os : Os) : World :=
  { World.holding Tryz.prog os ⟨#[.cells #[.string synS] 152, .cells #[.string rngS] 152], #[], []⟩ with heap := ((((((((World.holding Tryz.prog os ⟨#[.cells #[.string synS] 152, .cells #[.string rngS] 152], #[], []⟩).heap.modify 6 (tabPut Rows.laid_math_bits_deBruijn32tab)).modify 7 (tabPut Rows.laid_math_bits_deBruijn64tab)).modify 1 (tabPut Rows.laid_internal_strconv_uint64pow10)).modify 5 (tabPut Rows.laid_unicode_utf8_acceptRanges)).modify 3 (errPut (lowPN + 1))).modify 2 (errPut lowPN)).modify 4 (tabPut Rows.laid_unicode_utf8_first)) }
theorem laidMetPN (os : Os) : laidMet Tryz.prog Rows.fnNetsRow.laid ((laidWorldPN os).forCall (fun _ _ => 0) ⟨#[], #[.slice none 0 0, .slice none 0 0], []⟩).memory :=
  laidMet_of_run3 8 (by kernel_rfl) (by kernel_rfl) (by kernel_rfl)
theorem readsPN (os : Os) {H : Type} (enc : TypeId × Value → H) : ∃ places, DataW.whole enc Tryz.prog ((laidWorldPN os).forCall (fun _ _ => 0) ⟨#[], #[.slice none 0 0, .slice none 0 0], []⟩).memory Tryz.f3.params.toList Rows.fnNetsSpec.vars false #[Value.slice none 0 0, Value.slice none 0 0].toList 8 = some ([.nil, .nil], [], places) :=
  ⟨[], by kernel_rfl⟩
set_option maxRecDepth 100000 in
theorem lifted_FnNets (os : Os) (started : os.Started) (H : Type) (enc : TypeId × Value → H) (F : Stop.Interp) :
    ReturnsInHanded {} Tryz.checked os 3 .any ((OpenSpec.ofChange Rows.fnNetsSpec).preRow enc Tryz.prog Tryz.f3 Rows.fnNetsRow.domain false Rows.fnNetsRow.laid) (((OpenSpec.ofChange Rows.fnNetsSpec).at F).post enc Tryz.prog Tryz.f3 false true false false) := by
  obtain ⟨places, hx⟩ := readsPN os enc
  refine returnsInHanded_of_row (C := Tryz.checked) (s := OpenSpec.ofChange Rows.fnNetsSpec) own_YtmaaeemhbccpcaaGreatDoor started (by kernel_rfl) Tryz.func3
    (witness_row_at (enc := enc) (C := Tryz.checked) false (laidWorldPN os) #[.slice none 0 0, .slice none 0 0] rfl (by kernel_rfl) (by kernel_rfl) (by kernel_rfl)
      (OpenSpec.preRow_of_cond 8 hx (by kernel_rfl) (fun k hk => by cases hk) (by kernel_rfl) (laidMetPN os))) ?_
  intro W base args ds gs before hval0 hW _ _ _ hL hsh _
  have hval : ∀ (j : Nat) t v, Tryz.f3.params[j]? = some t → args[j]? = some v → Value.okWide Tryz.prog W .any base t v := hval0
  have hW' := hW
  obtain ⟨p, q, hA0, hV, rfl, hfz, hnd⟩ := hW'
  have hA : DataW.TrodAll enc Tryz.prog W 0 (fun _ => true) true Tryz.f3.params.toList args.toList ds p := hA0
  rw [Tryz.params3] at hA hval
  obtain ⟨v0, vs0, d0, ds0, p0, q0, hargs, rfl, rfl, h0, r0⟩ := trodAll_cons hA
  obtain ⟨v1, vs1, d1, ds1, p1, q1, rfl, rfl, rfl, h1, r1⟩ := trodAll_cons r0
  obtain ⟨rfl, rfl, rfl⟩ := trodAll_nil r1
  obtain rfl : args = #[v0, v1] := by cases args; simp_all
  obtain ⟨rfl, rfl⟩ := trodVars_none hV
  have k0 := h0
  have lt0 : ∀ x ∈ p0, x.block < W.heap.size := by obtain ⟨m, hm⟩ := k0; exact DataW.trod_lt m _ _ _ hm
  have k1 := h1
  have lt1 : ∀ x ∈ p1, x.block < W.heap.size := by obtain ⟨m, hm⟩ := k1; exact DataW.trod_lt m _ _ _ hm
  obtain ⟨x0, w0⟩ := arg_bytes (hval 0 22 v0 rfl rfl) h0
  obtain ⟨x1, w1⟩ := arg_bytes (hval 1 22 v1 rfl rfl) h1
  clear hA0 hval0
  refine (law_Nets v0 x0 v1 x1 W w0 w1 (pnw_laid hL hsh)).mono fun e W' ⟨he, bel⟩ => ?_
  subst he
  have hp : Rows.fnNetsSpec.post enc Tryz.prog Tryz.f3 false true false false W #[v0, v1] (.bool true) W' :=
    ⟨_, _, _, [], _, [], hW, trodAll_mk1 (shut_bool Tryz.underlying4 _), (trodAll_cons_mk (Below.trod laidOut_YtmaaeemhbccpcaaGreatDoor (by kernel_rfl) (of_decide_eq_true (by kernel_rfl)) k0 bel lt0) (trodAll_cons_mk (Below.trod laidOut_YtmaaeemhbccpcaaGreatDoor (by kernel_rfl) (of_decide_eq_true (by kernel_rfl)) k1 bel lt1) trodAll_mk0)), rfl, bel.frame _, fun h => by cases h⟩
  exact ⟨_, rfl, hp⟩
theorem said_FnNets : Rows.FnNetsSaid :=
  OpenClaim.holds_of_cond 3 Tryz.f3 rfl rfl rfl rfl rfl rfl rfl ⟨rfl, rfl, rfl, rfl, rfl⟩ rfl rfl rfl rfl rfl (by kernel_rfl) Tryz.func3 (by kernel_rfl)
    (of_decide_eq_true (by kernel_rfl)) (by unfold Func.isWrapper; first | (rw [if_pos (by decide +kernel)]; kernel_rfl) | (rw [if_neg (by decide +kernel)]; exact ⟨rfl, rfl⟩))
    (fun os started H enc _ F => by rw [OpenClaim.pre_eq_preRow]; exact lifted_FnNets os started H enc F)
theorem plainPN (f : FuncId) (fn : Func) (hf : Tryz.pinned.checked.prog.funcNamed "loop.example/g00940/laws.FnNets" = some f) (hfn : Tryz.pinned.checked.prog.funcs[f]? = some fn) :
    true = Tryz.pinned.checked.prog.looks [] ∧ ∀ (j : Nat) t, fn.params[j]? = some t → Tryz.pinned.checked.prog.wantsStandIn t = false := by
  obtain rfl : f = 3 := Option.some.inj ((show Tryz.prog.funcNamed "loop.example/g00940/laws.FnNets" = some 3 by kernel_rfl).symm.trans hf) |>.symm
  obtain rfl : fn = Tryz.f3 := (Option.some.inj (Tryz.func3.symm.trans hfn)).symm
  refine ⟨by kernel_rfl, fun j t ht => ?_⟩
  rw [Tryz.params3] at ht
  obtain rfl : t = 22 := by simpa using Array.mem_of_getElem? ht
  exact (show Tryz.prog.wantsStandIn 22 = false by kernel_rfl)
theorem holds_FnNets : Rows.FnNetsCardSaid :=
  Claim7.holds_tied_plain_at .later [] _ _ _ _ said_FnNets (fun _ h => by cases h) (by kernel_rfl) (fun _ h => by cases h) fnNets_row_tie rfl ⟨rfl, rfl⟩ (by kernel_rfl) rfl plainPN (by kernel_rfl)
end Go.Proofs.YtmaaeemhbccpcaaGreatDoor
