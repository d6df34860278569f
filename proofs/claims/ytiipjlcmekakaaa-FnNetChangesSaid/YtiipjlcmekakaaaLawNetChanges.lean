

/- FnNetChanges: for all arguments the call returns true. No condition. -/
import Derived.Test.YtiipjlcmekakaaaDrawP
import Derived.Test.YtiipjlcmekakaaaNcP
import Derived.Test.YtiipjlcmekakaaaNcQ
import Derived.Test.YtiipjlcmekakaaaAddI
import Derived.Test.YtiipjlcmekakaaaArgBytes
namespace Go.Proofs.Ytiipjlcmekakaaa
open Go.ChangeShapes Go.WideShapes Go.ChangeAt Go.RowKit
open Go.ChangeMaps (open_string shut_string)
set_option linter.unusedVariables false
set_option linter.unusedSimpArgs false
abbrev NetR (w : World) (v : Value) (x : NetT) : Prop := Nets w 0 w.heap.size v x
theorem Nets.wider {w : World} {lo hi lo' hi' : Nat} {v : Value} {x : NetT} (h : Nets w lo hi v x) (h1 : lo' ≤ lo) (h2 : hi ≤ hi') : Nets w lo' hi' v x := by
  obtain ⟨vt, vl, e, r1, r2⟩ := h
  exact ⟨vt, vl, e, Row.mono r1 h1 h2, Row.mono r2 h1 h2⟩
theorem NetR.adv {w w' : World} {v : Value} {x : NetT} (h : NetR w v x) (hx : Ext w w') : NetR w' v x := (h.ext hx (Nat.le_refl _)).wider (Nat.le_refl _) hx.size
theorem OwnNet.netR {w : World} {lo : Nat} {v : Value} {x : NetT} (h : OwnNet w lo w.heap.size v x) : NetR w v x := h.read.wider (Nat.zero_le _) (Nat.le_refl _)
set_option maxRecDepth 100000 in
set_option maxHeartbeats 8000000 in
theorem law_NetChanges (v0 : Value) (bs : List Int) (v1 : Value) (cs : List Int) (w : World) (h0 : ArgBytes w v0 bs) (h1 : ArgBytes w v1 cs) :
    Calls Try.prog 3 #[v0, v1] w fun e w' => e = .returned (.bool true) ∧ Ext w w' := by
  obtain ⟨hB0, hY0⟩ := h0
  obtain ⟨hB1, hY1⟩ := h1
  obtain ⟨a0, p0, rfl, n0, n0b, _⟩ := id hB0
  obtain ⟨a1, p1, rfl, n1, n1b, _⟩ := id hB1
  have HB0 : Hid (Bytes w 0 w.heap.size _ bs) := ⟨hB0, hY0⟩
  have HB1 : Hid (Bytes w 0 w.heap.size _ cs) := ⟨hB1, hY1⟩
  obtain ⟨l0, hl0⟩ : ∃ n, n = bs.length := ⟨_, rfl⟩
  obtain ⟨l1, hl1⟩ : ∃ n, n = cs.length := ⟨_, rfl⟩
  rw [← hl0] at HB0 n0 ⊢
  rw [← hl1] at HB1 n1 ⊢
  clear hB0 hY0 hB1 hY1 hl0 hl1
  have X := Lib.hid (Ext.refl w)
  have CB := Lib.hid (c_big a0 a1 l0 l1 p0 p1 w (by omega) (by omega))
  obtain ⟨big, hbig⟩ : ∃ b, b = bigB l0 l1 := ⟨_, rfl⟩
  rw [← hbig] at CB
  clear hbig
  cases big
  case true =>
    go_enter Try.func3, Try.ntmps3
    go_wp2_with fail
    refine CB.out.mono ?_
    rintro e w' ⟨rfl, rfl⟩
    go_wp2
    go_ret
    exact ⟨rfl, Ext.refl _⟩
  go_enter Try.func3, Try.ntmps3
  go_wp2_with fail
  refine CB.out.mono ?_
  rintro e w' ⟨rfl, rfl⟩
  clear CB
  go_wp2_with fail
  refine (c_DrawAddLink _ 0 w.heap.size bs w (HB0.out.ext X.out (Nat.le_refl _)) X.out.size).mono ?_
  rintro e w1 ⟨vt0, x, y1, y2, y3, rfl, hG⟩
  obtain ⟨at0, ct0, bt0, dt0, rfl, hN, hT17t0, hL41t0, hx⟩ := hG
  have Ht0 : Hid (NetR w1 _ x) := hN.wider (Nat.zero_le _) (Nat.le_refl _)
  clear hN
  have T__ := Lib.hid (X.out.trans hx)
  clear X
  have X := T__
  clear T__
  clear hx
  go_wp2_with fail
  obtain ⟨p5, hp9⟩ : ∃ n, n = w1.heap.size := ⟨_, rfl⟩
  obtain ⟨w2, hw9⟩ : ∃ W, W = (w1.alloc (.cells #[.slice at0 x.1.length ct0, .slice bt0 x.2.length dt0] 27)).alloc (.cells #[.int .i64 y1, .int .i64 y2, .int .i64 y3] 29) := ⟨_, rfl⟩
  rw [← hw9, ← hp9]
  have hx : Ext w1 w2 := by rw [hw9]; exact ((Ext.refl _).al _).al _
  have B5 : Hid (w2.heap[p5]? = some (.cells #[.slice at0 x.1.length ct0, .slice bt0 x.2.length dt0] 27)) := by unfold Hid; rw [hw9, hp9]; exact blk_old (blk_alloc _ _)
  have B6 : Hid (w2.heap[p5 + 1]? = some (.cells #[.int .i64 y1, .int .i64 y2, .int .i64 y3] 29)) := by unfold Hid; rw [hw9, hp9]; exact blk_alloc2 _ _ _
  have T__ := Lib.hid (X.out.trans hx)
  clear X
  have X := T__
  clear T__
  have T__ := Lib.hid (NetR.adv Ht0.out hx)
  clear Ht0
  have Ht0 := T__
  clear T__
  clear hp9 hw9 hx
  obtain ⟨ok1, hok⟩ : ∃ b, b = adOk x (y1, y2, y3) := ⟨_, rfl⟩
  obtain ⟨V1, hv⟩ : ∃ N, N = adV x (y1, y2, y3) := ⟨_, rfl⟩
  have HOK1 := Lib.hid hok
  have HV1 := Lib.hid hv
  have HLAW : Hid (ok1 = true → netB V1 = true ∧ lbOk V1 y1 y2 = true ∧ (∃ k : Nat, lbV V1 y1 y2 = k ∧ V1.2[k]? = some (y1, y2, y3)) ∧ V1.2.length = x.2.length + 1) := fun e => by rw [hv]; exact add_law (hok ▸ e : adOk x (y1, y2, y3) = true)
  clear hok hv
  have C := Lib.hid (c_iAddLink _ 0 w2.heap.size x (y1, y2, y3) w2 Ht0.out (Nat.le_refl _))
  rw [← HOK1.out, ← HV1.out] at C
  refine C.out.mono ?_
  rintro e w3 ⟨vt7, rfl, ho, hx⟩
  obtain ⟨at7, ct7, bt7, dt7, rfl, ⟨_, _⟩, _, _⟩ := ho.form
  have Ht7 : Hid (NetR w3 _ V1) := ho.netR
  clear ho C
  have T__ := Lib.hid (X.out.trans hx)
  clear X
  have X := T__
  clear T__
  have T__ := Lib.hid (NetR.adv Ht0.out hx)
  clear Ht0
  have Ht0 := T__
  clear T__
  have T__ := Lib.hid (hx.blk B5.out)
  clear B5
  have B5 := T__
  clear T__
  have T__ := Lib.hid (hx.blk B6.out)
  clear B6
  have B6 := T__
  clear T__
  clear hx
  have kB50 := blk_cell B5.out (j := 0) (v := .slice at0 x.1.length ct0) rfl
  have kB51 := blk_cell B5.out (j := 1) (v := .slice bt0 x.2.length dt0) rfl
  have kB60 := blk_cell B6.out (j := 0) (v := .int .i64 y1) rfl
  have kB61 := blk_cell B6.out (j := 1) (v := .int .i64 y2) rfl
  have kB62 := blk_cell B6.out (j := 2) (v := .int .i64 y3) rfl
  have kB50n := (Ext.alloc (w3) (.cells #[.slice at7 V1.1.length ct7, .slice bt7 V1.2.length dt7] 27)).cell kB50
  have kB51n := (Ext.alloc (w3) (.cells #[.slice at7 V1.1.length ct7, .slice bt7 V1.2.length dt7] 27)).cell kB51
  have kB60n := (Ext.alloc (w3) (.cells #[.slice at7 V1.1.length ct7, .slice bt7 V1.2.length dt7] 27)).cell kB60
  have kB61n := (Ext.alloc (w3) (.cells #[.slice at7 V1.1.length ct7, .slice bt7 V1.2.length dt7] 27)).cell kB61
  have kB62n := (Ext.alloc (w3) (.cells #[.slice at7 V1.1.length ct7, .slice bt7 V1.2.length dt7] 27)).cell kB62
  go_wp2_with fail
  obtain ⟨pB7, hp9⟩ : ∃ n, n = w3.heap.size := ⟨_, rfl⟩
  obtain ⟨w4, hw9⟩ : ∃ W, W = w3.alloc (.cells #[.slice at7 V1.1.length ct7, .slice bt7 V1.2.length dt7] 27) := ⟨_, rfl⟩
  rw [← hw9, ← hp9]
  have hx : Ext w3 w4 := by rw [hw9]; exact Ext.alloc _ _
  have B7 : Hid (w4.heap[pB7]? = some (.cells #[.slice at7 V1.1.length ct7, .slice bt7 V1.2.length dt7] 27)) := by unfold Hid; rw [hw9, hp9]; exact blk_alloc _ _
  clear kB50 kB51 kB60 kB61 kB62 kB50n kB51n kB60n kB61n kB62n
  have T__ := Lib.hid (X.out.trans hx)
  clear X
  have X := T__
  clear T__
  have T__ := Lib.hid (NetR.adv Ht0.out hx)
  clear Ht0
  have Ht0 := T__
  clear T__
  have T__ := Lib.hid (hx.blk B5.out)
  clear B5
  have B5 := T__
  clear T__
  have T__ := Lib.hid (hx.blk B6.out)
  clear B6
  have B6 := T__
  clear T__
  have T__ := Lib.hid (NetR.adv Ht7.out hx)
  clear Ht7
  have Ht7 := T__
  clear T__
  clear hp9 hw9 hx
  have C := Lib.hid (c_sAddLink _ 0 w4.heap.size x (y1, y2, y3) w4 Ht0.out (Nat.le_refl _))
  rw [← HOK1.out, ← HV1.out] at C
  refine C.out.mono ?_
  rintro e w5 ⟨vt9, rfl, ho, hx⟩
  obtain ⟨at9, ct9, bt9, dt9, rfl, ⟨_, _⟩, _, _⟩ := ho.form
  have Ht9 : Hid (NetR w5 _ V1) := ho.netR
  clear ho C
  have T__ := Lib.hid (X.out.trans hx)
  clear X
  have X := T__
  clear T__
  have T__ := Lib.hid (NetR.adv Ht0.out hx)
  clear Ht0
  have Ht0 := T__
  clear T__
  have T__ := Lib.hid (hx.blk B5.out)
  clear B5
  have B5 := T__
  clear T__
  have T__ := Lib.hid (hx.blk B6.out)
  clear B6
  have B6 := T__
  clear T__
  have T__ := Lib.hid (NetR.adv Ht7.out hx)
  clear Ht7
  have Ht7 := T__
  clear T__
  have T__ := Lib.hid (hx.blk B7.out)
  clear B7
  have B7 := T__
  clear T__
  clear hx
  have hne1 : (ok1 != ok1) = false := by cases ok1 <;> rfl
  have kB50 := blk_cell B5.out (j := 0) (v := .slice at0 x.1.length ct0) rfl
  have kB51 := blk_cell B5.out (j := 1) (v := .slice bt0 x.2.length dt0) rfl
  have kB60 := blk_cell B6.out (j := 0) (v := .int .i64 y1) rfl
  have kB61 := blk_cell B6.out (j := 1) (v := .int .i64 y2) rfl
  have kB62 := blk_cell B6.out (j := 2) (v := .int .i64 y3) rfl
  have kB70 := blk_cell B7.out (j := 0) (v := .slice at7 V1.1.length ct7) rfl
  have kB71 := blk_cell B7.out (j := 1) (v := .slice bt7 V1.2.length dt7) rfl
  have kB50n := (Ext.alloc (w5) (.cells #[.slice at9 V1.1.length ct9, .slice bt9 V1.2.length dt9] 27)).cell kB50
  have kB51n := (Ext.alloc (w5) (.cells #[.slice at9 V1.1.length ct9, .slice bt9 V1.2.length dt9] 27)).cell kB51
  have kB60n := (Ext.alloc (w5) (.cells #[.slice at9 V1.1.length ct9, .slice bt9 V1.2.length dt9] 27)).cell kB60
  have kB61n := (Ext.alloc (w5) (.cells #[.slice at9 V1.1.length ct9, .slice bt9 V1.2.length dt9] 27)).cell kB61
  have kB62n := (Ext.alloc (w5) (.cells #[.slice at9 V1.1.length ct9, .slice bt9 V1.2.length dt9] 27)).cell kB62
  have kB70n := (Ext.alloc (w5) (.cells #[.slice at9 V1.1.length ct9, .slice bt9 V1.2.length dt9] 27)).cell kB70
  have kB71n := (Ext.alloc (w5) (.cells #[.slice at9 V1.1.length ct9, .slice bt9 V1.2.length dt9] 27)).cell kB71
  go_wp2_with fail
  obtain ⟨pB9, hp9⟩ : ∃ n, n = w5.heap.size := ⟨_, rfl⟩
  obtain ⟨w6, hw9⟩ : ∃ W, W = w5.alloc (.cells #[.slice at9 V1.1.length ct9, .slice bt9 V1.2.length dt9] 27) := ⟨_, rfl⟩
  rw [← hw9, ← hp9]
  have hx : Ext w5 w6 := by rw [hw9]; exact Ext.alloc _ _
  have B9 : Hid (w6.heap[pB9]? = some (.cells #[.slice at9 V1.1.length ct9, .slice bt9 V1.2.length dt9] 27)) := by unfold Hid; rw [hw9, hp9]; exact blk_alloc _ _
  clear kB50 kB51 kB60 kB61 kB62 kB70 kB71 kB50n kB51n kB60n kB61n kB62n kB70n kB71n
  have T__ := Lib.hid (X.out.trans hx)
  clear X
  have X := T__
  clear T__
  have T__ := Lib.hid (NetR.adv Ht0.out hx)
  clear Ht0
  have Ht0 := T__
  clear T__
  have T__ := Lib.hid (hx.blk B5.out)
  clear B5
  have B5 := T__
  clear T__
  have T__ := Lib.hid (hx.blk B6.out)
  clear B6
  have B6 := T__
  clear T__
  have T__ := Lib.hid (NetR.adv Ht7.out hx)
  clear Ht7
  have Ht7 := T__
  clear T__
  have T__ := Lib.hid (hx.blk B7.out)
  clear B7
  have B7 := T__
  clear T__
  have T__ := Lib.hid (NetR.adv Ht9.out hx)
  clear Ht9
  have Ht9 := T__
  clear T__
  clear hp9 hw9 hx
  refine (c_pSameNet _ _ 0 w6.heap.size 0 w6.heap.size V1 w6 Ht7.out Ht9.out (Nat.le_refl _) (Nat.le_refl _)).mono ?_
  rintro e w7 ⟨rfl, hx⟩
  have T__ := Lib.hid (X.out.trans hx)
  clear X
  have X := T__
  clear T__
  have T__ := Lib.hid (NetR.adv Ht0.out hx)
  clear Ht0
  have Ht0 := T__
  clear T__
  have T__ := Lib.hid (hx.blk B5.out)
  clear B5
  have B5 := T__
  clear T__
  have T__ := Lib.hid (hx.blk B6.out)
  clear B6
  have B6 := T__
  clear T__
  have T__ := Lib.hid (NetR.adv Ht7.out hx)
  clear Ht7
  have Ht7 := T__
  clear T__
  have T__ := Lib.hid (hx.blk B7.out)
  clear B7
  have B7 := T__
  clear T__
  have T__ := Lib.hid (NetR.adv Ht9.out hx)
  clear Ht9
  have Ht9 := T__
  clear T__
  have T__ := Lib.hid (hx.blk B9.out)
  clear B9
  have B9 := T__
  clear T__
  clear hx
  have kB50 := blk_cell B5.out (j := 0) (v := .slice at0 x.1.length ct0) rfl
  have kB51 := blk_cell B5.out (j := 1) (v := .slice bt0 x.2.length dt0) rfl
  have kB60 := blk_cell B6.out (j := 0) (v := .int .i64 y1) rfl
  have kB61 := blk_cell B6.out (j := 1) (v := .int .i64 y2) rfl
  have kB62 := blk_cell B6.out (j := 2) (v := .int .i64 y3) rfl
  have kB70 := blk_cell B7.out (j := 0) (v := .slice at7 V1.1.length ct7) rfl
  have kB71 := blk_cell B7.out (j := 1) (v := .slice bt7 V1.2.length dt7) rfl
  have kB90 := blk_cell B9.out (j := 0) (v := .slice at9 V1.1.length ct9) rfl
  have kB91 := blk_cell B9.out (j := 1) (v := .slice bt9 V1.2.length dt9) rfl
  go_upto_if 77 with fail
  clear kB50 kB51 kB60 kB61 kB62 kB70 kB71 kB90 kB91
  clear hne1
  go_cut [11, 12, 13, 14] from 78 to 130 (fun _ _ _ _ wx => Ext w7 wx)
  case first =>
    cases ok1
    · go_wp2
      go_meet
      case rel => exact Ext.refl _
    · have hl := HLAW.out rfl
      obtain ⟨hnB, hlb, ⟨k1, hk1, hk2⟩, hlen⟩ := hl
      have HLEN := Lib.hid hlen
      have HNB := Lib.hid hnB
      have HK2 := Lib.hid hk2
      clear hlen hnB hk2
      have HX5 := Lib.hid (Ext.refl w7)
      have CI : Hid (∀ W, NetR W (.agg #[.slice at7 V1.1.length ct7, .slice bt7 V1.2.length dt7]) V1 → Calls Try.prog 12 #[.agg #[.slice at7 V1.1.length ct7, .slice bt7 V1.2.length dt7], .int .i64 y1, .int .i64 y2] W fun e w' => e = .returned (.tuple #[.int .i64 (k1 : Int), .bool true]) ∧ Ext W w') := fun W hg => by
        have h9 := c_iLinkBetween _ 0 W.heap.size V1 y1 y2 W hg (Nat.le_refl _)
        rw [hk1, hlb] at h9
        exact h9
      have CS : Hid (∀ W, NetR W (.agg #[.slice at9 V1.1.length ct9, .slice bt9 V1.2.length dt9]) V1 → Calls Try.prog 13 #[.agg #[.slice at9 V1.1.length ct9, .slice bt9 V1.2.length dt9], .int .i64 y1, .int .i64 y2] W fun e w' => e = .returned (.tuple #[.int .i64 (k1 : Int), .bool true]) ∧ Ext W w') := fun W hg => by
        have h9 := c_sLinkBetween _ 0 W.heap.size V1 y1 y2 W hg (Nat.le_refl _)
        rw [hk1, hlb] at h9
        exact h9
      clear hk1 hlb
      have kB50 := blk_cell B5.out (j := 0) (v := .slice at0 x.1.length ct0) rfl
      have kB51 := blk_cell B5.out (j := 1) (v := .slice bt0 x.2.length dt0) rfl
      have kB60 := blk_cell B6.out (j := 0) (v := .int .i64 y1) rfl
      have kB61 := blk_cell B6.out (j := 1) (v := .int .i64 y2) rfl
      have kB62 := blk_cell B6.out (j := 2) (v := .int .i64 y3) rfl
      have kB70 := blk_cell B7.out (j := 0) (v := .slice at7 V1.1.length ct7) rfl
      have kB71 := blk_cell B7.out (j := 1) (v := .slice bt7 V1.2.length dt7) rfl
      have kB90 := blk_cell B9.out (j := 0) (v := .slice at9 V1.1.length ct9) rfl
      have kB91 := blk_cell B9.out (j := 1) (v := .slice bt9 V1.2.length dt9) rfl
      go_wp2_with fail
      refine (CI.out _ Ht7.out).mono ?_
      clear kB50 kB51 kB60 kB61 kB62 kB70 kB71 kB90 kB91
      rintro e w8 ⟨rfl, hx⟩
      have T__ := Lib.hid (X.out.trans hx)
      clear X
      have X := T__
      clear T__
      have T__ := Lib.hid (NetR.adv Ht0.out hx)
      clear Ht0
      have Ht0 := T__
      clear T__
      have T__ := Lib.hid (hx.blk B5.out)
      clear B5
      have B5 := T__
      clear T__
      have T__ := Lib.hid (hx.blk B6.out)
      clear B6
      have B6 := T__
      clear T__
      have T__ := Lib.hid (NetR.adv Ht7.out hx)
      clear Ht7
      have Ht7 := T__
      clear T__
      have T__ := Lib.hid (hx.blk B7.out)
      clear B7
      have B7 := T__
      clear T__
      have T__ := Lib.hid (NetR.adv Ht9.out hx)
      clear Ht9
      have Ht9 := T__
      clear T__
      have T__ := Lib.hid (hx.blk B9.out)
      clear B9
      have B9 := T__
      clear T__
      have T__ := Lib.hid (HX5.out.trans hx)
      clear HX5
      have HX5 := T__
      clear T__
      clear hx
      have kB50 := blk_cell B5.out (j := 0) (v := .slice at0 x.1.length ct0) rfl
      have kB51 := blk_cell B5.out (j := 1) (v := .slice bt0 x.2.length dt0) rfl
      have kB60 := blk_cell B6.out (j := 0) (v := .int .i64 y1) rfl
      have kB61 := blk_cell B6.out (j := 1) (v := .int .i64 y2) rfl
      have kB62 := blk_cell B6.out (j := 2) (v := .int .i64 y3) rfl
      have kB70 := blk_cell B7.out (j := 0) (v := .slice at7 V1.1.length ct7) rfl
      have kB71 := blk_cell B7.out (j := 1) (v := .slice bt7 V1.2.length dt7) rfl
      have kB90 := blk_cell B9.out (j := 0) (v := .slice at9 V1.1.length ct9) rfl
      have kB91 := blk_cell B9.out (j := 1) (v := .slice bt9 V1.2.length dt9) rfl
      go_wp2_with fail
      refine (CS.out _ Ht9.out).mono ?_
      clear kB50 kB51 kB60 kB61 kB62 kB70 kB71 kB90 kB91
      rintro e w9 ⟨rfl, hx⟩
      have T__ := Lib.hid (X.out.trans hx)
      clear X
      have X := T__
      clear T__
      have T__ := Lib.hid (NetR.adv Ht0.out hx)
      clear Ht0
      have Ht0 := T__
      clear T__
      have T__ := Lib.hid (hx.blk B5.out)
      clear B5
      have B5 := T__
      clear T__
      have T__ := Lib.hid (hx.blk B6.out)
      clear B6
      have B6 := T__
      clear T__
      have T__ := Lib.hid (NetR.adv Ht7.out hx)
      clear Ht7
      have Ht7 := T__
      clear T__
      have T__ := Lib.hid (hx.blk B7.out)
      clear B7
      have B7 := T__
      clear T__
      have T__ := Lib.hid (NetR.adv Ht9.out hx)
      clear Ht9
      have Ht9 := T__
      clear T__
      have T__ := Lib.hid (hx.blk B9.out)
      clear B9
      have B9 := T__
      clear T__
      have T__ := Lib.hid (HX5.out.trans hx)
      clear HX5
      have HX5 := T__
      clear T__
      clear hx
      obtain ⟨b9, o9, g9, e9, hg9, q0, q1, q2⟩ := Links_at Ht9.out.two.2 (List.getElem?_eq_some_iff.1 HK2.out).1
      obtain rfl : (y1, y2, y3) = g9 := Option.some.inj (HK2.out.symm.trans hg9.out)
      simp only at q0 q1 q2
      subst e9
      have hkI : (k1 : Int) < (V1.2.length : Int) := by have := (List.getElem?_eq_some_iff.1 HK2.out).1; omega
      have hk0 : (0 : Int) ≤ (k1 : Int) := by omega
      have hw9 : IntKind.i64.wrap ((x.2.length : Int) + 1) = (x.2.length : Int) + 1 := by rw [IntKind.wrap_i64]; omega
      have hl9 : ((V1.2.length : Int) != (x.2.length : Int) + 1) = false := by rw [HLEN.out]; simp
      have hkk : ((k1 : Int) != (k1 : Int)) = false := by simp
      have CG : Hid (∀ W, Ext w9 W → Calls Try.prog 14 #[.agg #[.slice at7 V1.1.length ct7, .slice bt7 V1.2.length dt7]] W fun e w' => e = .returned (.bool true) ∧ Ext w9 w') := fun W hX => (c_IsNet _ 0 w9.heap.size V1 W (Ht7.out.ext hX (Nat.le_refl _)) hX.size).mono fun e w' ⟨he, hx⟩ => ⟨by rw [he, HNB.out], hX.trans hx⟩
      go_upto_region 11 with fail
      have kB50 := blk_cell B5.out (j := 0) (v := .slice at0 x.1.length ct0) rfl
      have kB51 := blk_cell B5.out (j := 1) (v := .slice bt0 x.2.length dt0) rfl
      have kB60 := blk_cell B6.out (j := 0) (v := .int .i64 y1) rfl
      have kB61 := blk_cell B6.out (j := 1) (v := .int .i64 y2) rfl
      have kB62 := blk_cell B6.out (j := 2) (v := .int .i64 y3) rfl
      have kB70 := blk_cell B7.out (j := 0) (v := .slice at7 V1.1.length ct7) rfl
      have kB71 := blk_cell B7.out (j := 1) (v := .slice bt7 V1.2.length dt7) rfl
      have kB90 := blk_cell B9.out (j := 0) (v := .slice at9 V1.1.length ct9) rfl
      have kB91 := blk_cell B9.out (j := 1) (v := .slice (some ⟨b9, o9, none⟩) V1.2.length dt9) rfl
      go_region_held3 (fun w' => Ext w9 w' ∧ w'.cell? ⟨p5, 0, none⟩ = some (.slice at0 x.1.length ct0) ∧ w'.cell? ⟨p5, 1, none⟩ = some (.slice bt0 x.2.length dt0) ∧ w'.cell? ⟨p5 + 1, 0, none⟩ = some (.int .i64 y1) ∧ w'.cell? ⟨p5 + 1, 1, none⟩ = some (.int .i64 y2) ∧ w'.cell? ⟨p5 + 1, 2, none⟩ = some (.int .i64 y3) ∧ w'.cell? ⟨pB7, 0, none⟩ = some (.slice at7 V1.1.length ct7) ∧ w'.cell? ⟨pB7, 1, none⟩ = some (.slice bt7 V1.2.length dt7) ∧ w'.cell? ⟨pB9, 0, none⟩ = some (.slice at9 V1.1.length ct9) ∧ w'.cell? ⟨pB9, 1, none⟩ = some (.slice (some ⟨b9, o9, none⟩) V1.2.length dt9) ∧ w'.cell? ⟨b9, o9 + k1 * 3, none⟩ = some (.int .i64 y1) ∧ w'.cell? ⟨b9, o9 + k1 * 3 + 1, none⟩ = some (.int .i64 y2) ∧ w'.cell? ⟨b9, o9 + k1 * 3 + 2, none⟩ = some (.int .i64 y3))
        (first | exact ⟨Ext.drew _, kB50, kB51, kB60, kB61, kB62, kB70, kB71, kB90, kB91, q0, q1, q2⟩ | exact ⟨hxs, hxs.cell kB50, hxs.cell kB51, hxs.cell kB60, hxs.cell kB61, hxs.cell kB62, hxs.cell kB70, hxs.cell kB71, hxs.cell kB90, hxs.cell kB91, hxs.cell q0, hxs.cell q1, hxs.cell q2⟩)
        (first | (go_at_call 14; refine (CG.out _ (Ext.drew _)).mono ?_; rintro e w99 ⟨rfl, hxs⟩))
      go_wp2
      go_meet
      case rel => exact HX5.out.trans hxs
  case rest =>
    obtain ⟨w10, hw⟩ : ∃ W, W = wc := ⟨_, rfl⟩
    subst hw
    have hx := hcut
    clear Ht0 B5 B6 Ht7 B7 Ht9 B9
    have T__ := Lib.hid (X.out.trans hx)
    clear X
    have X := T__
    clear T__
    clear hx hcut
    clear HLAW HOK1 HV1
    go_wp2_with fail
    refine (c_DrawDropTower _ 0 w.heap.size cs w10 (HB1.out.ext X.out (Nat.le_refl _)) X.out.size).mono ?_
    rintro e w11 ⟨vt15, u, i, rfl, hG⟩
    obtain ⟨at15, ct15, bt15, dt15, rfl, hN, hT17t15, hL41t15, hx⟩ := hG
    have Ht15 : Hid (NetR w11 _ u) := hN.wider (Nat.zero_le _) (Nat.le_refl _)
    clear hN
    have T__ := Lib.hid (X.out.trans hx)
    clear X
    have X := T__
    clear T__
    clear hx
    obtain ⟨ok2, hok⟩ : ∃ b, b = dtOk u i := ⟨_, rfl⟩
    obtain ⟨V2, hv⟩ : ∃ N, N = dtV u i := ⟨_, rfl⟩
    have HOK2 := Lib.hid hok
    have HV2 := Lib.hid hv
    have HLAW : Hid (ok2 = true → netB V2 = true ∧ hasT u i = true ∧ V2.2.length + (nbV u i).length = u.2.length) := fun e => by rw [hv]; exact drop_law (hok ▸ e : dtOk u i = true)
    clear hok hv
    go_wp2_with fail
    obtain ⟨pB15, hp9⟩ : ∃ n, n = w11.heap.size := ⟨_, rfl⟩
    obtain ⟨w12, hw9⟩ : ∃ W, W = w11.alloc (.cells #[.slice at15 u.1.length ct15, .slice bt15 u.2.length dt15] 27) := ⟨_, rfl⟩
    rw [← hw9, ← hp9]
    have hx : Ext w11 w12 := by rw [hw9]; exact Ext.alloc _ _
    have B15 : Hid (w12.heap[pB15]? = some (.cells #[.slice at15 u.1.length ct15, .slice bt15 u.2.length dt15] 27)) := by unfold Hid; rw [hw9, hp9]; exact blk_alloc _ _
    have T__ := Lib.hid (X.out.trans hx)
    clear X
    have X := T__
    clear T__
    have T__ := Lib.hid (NetR.adv Ht15.out hx)
    clear Ht15
    have Ht15 := T__
    clear T__
    clear hp9 hw9 hx
    have C := Lib.hid (c_iDropTower _ 0 w12.heap.size u i w12 Ht15.out (Nat.le_refl _))
    rw [← HOK2.out, ← HV2.out] at C
    refine C.out.mono ?_
    rintro e w13 ⟨vt17, rfl, ho, hx⟩
    obtain ⟨at17, ct17, bt17, dt17, rfl, ⟨_, _⟩, _, _⟩ := ho.form
    have Ht17 : Hid (NetR w13 _ V2) := ho.netR
    clear ho C
    have T__ := Lib.hid (X.out.trans hx)
    clear X
    have X := T__
    clear T__
    have T__ := Lib.hid (NetR.adv Ht15.out hx)
    clear Ht15
    have Ht15 := T__
    clear T__
    have T__ := Lib.hid (hx.blk B15.out)
    clear B15
    have B15 := T__
    clear T__
    clear hx
    have kB150 := blk_cell B15.out (j := 0) (v := .slice at15 u.1.length ct15) rfl
    have kB151 := blk_cell B15.out (j := 1) (v := .slice bt15 u.2.length dt15) rfl
    have kB150n := (Ext.alloc (w13) (.cells #[.slice at17 V2.1.length ct17, .slice bt17 V2.2.length dt17] 27)).cell kB150
    have kB151n := (Ext.alloc (w13) (.cells #[.slice at17 V2.1.length ct17, .slice bt17 V2.2.length dt17] 27)).cell kB151
    go_wp2_with fail
    obtain ⟨pB17, hp9⟩ : ∃ n, n = w13.heap.size := ⟨_, rfl⟩
    obtain ⟨w14, hw9⟩ : ∃ W, W = w13.alloc (.cells #[.slice at17 V2.1.length ct17, .slice bt17 V2.2.length dt17] 27) := ⟨_, rfl⟩
    rw [← hw9, ← hp9]
    have hx : Ext w13 w14 := by rw [hw9]; exact Ext.alloc _ _
    have B17 : Hid (w14.heap[pB17]? = some (.cells #[.slice at17 V2.1.length ct17, .slice bt17 V2.2.length dt17] 27)) := by unfold Hid; rw [hw9, hp9]; exact blk_alloc _ _
    clear kB150 kB151 kB150n kB151n
    have T__ := Lib.hid (X.out.trans hx)
    clear X
    have X := T__
    clear T__
    have T__ := Lib.hid (NetR.adv Ht15.out hx)
    clear Ht15
    have Ht15 := T__
    clear T__
    have T__ := Lib.hid (hx.blk B15.out)
    clear B15
    have B15 := T__
    clear T__
    have T__ := Lib.hid (NetR.adv Ht17.out hx)
    clear Ht17
    have Ht17 := T__
    clear T__
    clear hp9 hw9 hx
    have C := Lib.hid (c_sDropTower _ 0 w14.heap.size u i w14 Ht15.out (Nat.le_refl _))
    rw [← HOK2.out, ← HV2.out] at C
    refine C.out.mono ?_
    rintro e w15 ⟨vt19, rfl, ho, hx⟩
    obtain ⟨at19, ct19, bt19, dt19, rfl, ⟨_, _⟩, _, _⟩ := ho.form
    have Ht19 : Hid (NetR w15 _ V2) := ho.netR
    clear ho C
    have T__ := Lib.hid (X.out.trans hx)
    clear X
    have X := T__
    clear T__
    have T__ := Lib.hid (NetR.adv Ht15.out hx)
    clear Ht15
    have Ht15 := T__
    clear T__
    have T__ := Lib.hid (hx.blk B15.out)
    clear B15
    have B15 := T__
    clear T__
    have T__ := Lib.hid (NetR.adv Ht17.out hx)
    clear Ht17
    have Ht17 := T__
    clear T__
    have T__ := Lib.hid (hx.blk B17.out)
    clear B17
    have B17 := T__
    clear T__
    clear hx
    have hne1 : (ok2 != ok2) = false := by cases ok2 <;> rfl
    have kB150 := blk_cell B15.out (j := 0) (v := .slice at15 u.1.length ct15) rfl
    have kB151 := blk_cell B15.out (j := 1) (v := .slice bt15 u.2.length dt15) rfl
    have kB170 := blk_cell B17.out (j := 0) (v := .slice at17 V2.1.length ct17) rfl
    have kB171 := blk_cell B17.out (j := 1) (v := .slice bt17 V2.2.length dt17) rfl
    have kB150n := (Ext.alloc (w15) (.cells #[.slice at19 V2.1.length ct19, .slice bt19 V2.2.length dt19] 27)).cell kB150
    have kB151n := (Ext.alloc (w15) (.cells #[.slice at19 V2.1.length ct19, .slice bt19 V2.2.length dt19] 27)).cell kB151
    have kB170n := (Ext.alloc (w15) (.cells #[.slice at19 V2.1.length ct19, .slice bt19 V2.2.length dt19] 27)).cell kB170
    have kB171n := (Ext.alloc (w15) (.cells #[.slice at19 V2.1.length ct19, .slice bt19 V2.2.length dt19] 27)).cell kB171
    go_wp2_with fail
    obtain ⟨pB19, hp9⟩ : ∃ n, n = w15.heap.size := ⟨_, rfl⟩
    obtain ⟨w16, hw9⟩ : ∃ W, W = w15.alloc (.cells #[.slice at19 V2.1.length ct19, .slice bt19 V2.2.length dt19] 27) := ⟨_, rfl⟩
    rw [← hw9, ← hp9]
    have hx : Ext w15 w16 := by rw [hw9]; exact Ext.alloc _ _
    have B19 : Hid (w16.heap[pB19]? = some (.cells #[.slice at19 V2.1.length ct19, .slice bt19 V2.2.length dt19] 27)) := by unfold Hid; rw [hw9, hp9]; exact blk_alloc _ _
    clear kB150 kB151 kB170 kB171 kB150n kB151n kB170n kB171n
    have T__ := Lib.hid (X.out.trans hx)
    clear X
    have X := T__
    clear T__
    have T__ := Lib.hid (NetR.adv Ht15.out hx)
    clear Ht15
    have Ht15 := T__
    clear T__
    have T__ := Lib.hid (hx.blk B15.out)
    clear B15
    have B15 := T__
    clear T__
    have T__ := Lib.hid (NetR.adv Ht17.out hx)
    clear Ht17
    have Ht17 := T__
    clear T__
    have T__ := Lib.hid (hx.blk B17.out)
    clear B17
    have B17 := T__
    clear T__
    have T__ := Lib.hid (NetR.adv Ht19.out hx)
    clear Ht19
    have Ht19 := T__
    clear T__
    clear hp9 hw9 hx
    refine (c_pSameNet _ _ 0 w16.heap.size 0 w16.heap.size V2 w16 Ht17.out Ht19.out (Nat.le_refl _) (Nat.le_refl _)).mono ?_
    rintro e w17 ⟨rfl, hx⟩
    have T__ := Lib.hid (X.out.trans hx)
    clear X
    have X := T__
    clear T__
    have T__ := Lib.hid (NetR.adv Ht15.out hx)
    clear Ht15
    have Ht15 := T__
    clear T__
    have T__ := Lib.hid (hx.blk B15.out)
    clear B15
    have B15 := T__
    clear T__
    have T__ := Lib.hid (NetR.adv Ht17.out hx)
    clear Ht17
    have Ht17 := T__
    clear T__
    have T__ := Lib.hid (hx.blk B17.out)
    clear B17
    have B17 := T__
    clear T__
    have T__ := Lib.hid (NetR.adv Ht19.out hx)
    clear Ht19
    have Ht19 := T__
    clear T__
    have T__ := Lib.hid (hx.blk B19.out)
    clear B19
    have B19 := T__
    clear T__
    clear hx
    have kB150 := blk_cell B15.out (j := 0) (v := .slice at15 u.1.length ct15) rfl
    have kB151 := blk_cell B15.out (j := 1) (v := .slice bt15 u.2.length dt15) rfl
    have kB170 := blk_cell B17.out (j := 0) (v := .slice at17 V2.1.length ct17) rfl
    have kB171 := blk_cell B17.out (j := 1) (v := .slice bt17 V2.2.length dt17) rfl
    have kB190 := blk_cell B19.out (j := 0) (v := .slice at19 V2.1.length ct19) rfl
    have kB191 := blk_cell B19.out (j := 1) (v := .slice bt19 V2.2.length dt19) rfl
    go_upto_if 157 with fail
    clear kB150 kB151 kB170 kB171 kB190 kB191
    clear hne1
    go_cut [21, 22, 23, 24] from 158 to 198 (fun _ _ _ _ wx => Ext w17 wx)
    case first =>
      cases ok2
      · go_wp2
        go_meet
        case rel => exact Ext.refl _
      · have hl := HLAW.out rfl
        obtain ⟨hnB, hhT, hlen⟩ := hl
        obtain ⟨M, hM⟩ : ∃ M, M = nbV u i := ⟨_, rfl⟩
        have HNB := Lib.hid hnB
        have HM := Lib.hid hM
        have HHT := Lib.hid hhT
        rw [← hM] at hlen
        obtain ⟨n9, hn9⟩ : ∃ n, n = M.length := ⟨_, rfl⟩
        rw [← hn9] at hlen
        have hw9 : IntKind.i64.wrap ((u.2.length : Int) - n9) = (u.2.length : Int) - n9 := by rw [IntKind.wrap_i64]; omega
        have hl9 : ((V2.2.length : Int) != (u.2.length : Int) - n9) = false := by simp; omega
        have HN9 := Lib.hid hn9
        clear hnB hhT hM hn9 hlen
        have HX5 := Lib.hid (Ext.refl w17)
        have C := Lib.hid (c_iNeighbours _ 0 w17.heap.size u i w17 Ht15.out (Nat.le_refl _))
        rw [← HM.out, HHT.out, ← HN9.out] at C
        have kB150 := blk_cell B15.out (j := 0) (v := .slice at15 u.1.length ct15) rfl
        have kB151 := blk_cell B15.out (j := 1) (v := .slice bt15 u.2.length dt15) rfl
        have kB170 := blk_cell B17.out (j := 0) (v := .slice at17 V2.1.length ct17) rfl
        have kB171 := blk_cell B17.out (j := 1) (v := .slice bt17 V2.2.length dt17) rfl
        have kB190 := blk_cell B19.out (j := 0) (v := .slice at19 V2.1.length ct19) rfl
        have kB191 := blk_cell B19.out (j := 1) (v := .slice bt19 V2.2.length dt19) rfl
        go_wp2_with fail
        refine C.out.mono ?_
        clear kB150 kB151 kB170 kB171 kB190 kB191
        rintro e w18 ⟨r21, rfl, ho, hx⟩
        obtain ⟨a21, c21, rfl, _, _, _⟩ := own_form ho
        have HI21 : Hid (Ints w18 0 w18.heap.size (.slice a21 n9 c21) M) := by
          have ho2 : w18.ownsRow w17.heap.size 3 1 (.slice a21 n9 c21) M.length (M.flatMap encI) := by rw [← HN9.out]; exact ho
          exact (Row.of_own encI_len ho2).mono (Nat.zero_le _) (Nat.le_refl _)
        clear ho C
        have T__ := Lib.hid (X.out.trans hx)
        clear X
        have X := T__
        clear T__
        have T__ := Lib.hid (NetR.adv Ht15.out hx)
        clear Ht15
        have Ht15 := T__
        clear T__
        have T__ := Lib.hid (hx.blk B15.out)
        clear B15
        have B15 := T__
        clear T__
        have T__ := Lib.hid (NetR.adv Ht17.out hx)
        clear Ht17
        have Ht17 := T__
        clear T__
        have T__ := Lib.hid (hx.blk B17.out)
        clear B17
        have B17 := T__
        clear T__
        have T__ := Lib.hid (NetR.adv Ht19.out hx)
        clear Ht19
        have Ht19 := T__
        clear T__
        have T__ := Lib.hid (hx.blk B19.out)
        clear B19
        have B19 := T__
        clear T__
        have T__ := Lib.hid (HX5.out.trans hx)
        clear HX5
        have HX5 := T__
        clear T__
        clear hx
        have C := Lib.hid (c_sNeighbours _ 0 w18.heap.size u i w18 Ht15.out (Nat.le_refl _))
        rw [← HM.out, HHT.out, ← HN9.out] at C
        have kB150 := blk_cell B15.out (j := 0) (v := .slice at15 u.1.length ct15) rfl
        have kB151 := blk_cell B15.out (j := 1) (v := .slice bt15 u.2.length dt15) rfl
        have kB170 := blk_cell B17.out (j := 0) (v := .slice at17 V2.1.length ct17) rfl
        have kB171 := blk_cell B17.out (j := 1) (v := .slice bt17 V2.2.length dt17) rfl
        have kB190 := blk_cell B19.out (j := 0) (v := .slice at19 V2.1.length ct19) rfl
        have kB191 := blk_cell B19.out (j := 1) (v := .slice bt19 V2.2.length dt19) rfl
        go_wp2_with fail
        refine C.out.mono ?_
        clear kB150 kB151 kB170 kB171 kB190 kB191
        rintro e w19 ⟨r23, rfl, ho, hx⟩
        obtain ⟨a23, c23, rfl, _, _, _⟩ := own_form ho
        have HI23 : Hid (Ints w19 0 w19.heap.size (.slice a23 n9 c23) M) := by
          have ho2 : w19.ownsRow w18.heap.size 3 1 (.slice a23 n9 c23) M.length (M.flatMap encI) := by rw [← HN9.out]; exact ho
          exact (Row.of_own encI_len ho2).mono (Nat.zero_le _) (Nat.le_refl _)
        clear ho C
        have T__ := Lib.hid (X.out.trans hx)
        clear X
        have X := T__
        clear T__
        have T__ := Lib.hid (NetR.adv Ht15.out hx)
        clear Ht15
        have Ht15 := T__
        clear T__
        have T__ := Lib.hid (hx.blk B15.out)
        clear B15
        have B15 := T__
        clear T__
        have T__ := Lib.hid (NetR.adv Ht17.out hx)
        clear Ht17
        have Ht17 := T__
        clear T__
        have T__ := Lib.hid (hx.blk B17.out)
        clear B17
        have B17 := T__
        clear T__
        have T__ := Lib.hid (NetR.adv Ht19.out hx)
        clear Ht19
        have Ht19 := T__
        clear T__
        have T__ := Lib.hid (hx.blk B19.out)
        clear B19
        have B19 := T__
        clear T__
        have T__ := Lib.hid (HX5.out.trans hx)
        clear HX5
        have HX5 := T__
        clear T__
        have T__ := Lib.hid ((HI21.out.ext hx (Nat.le_refl _)).mono (Nat.le_refl _) hx.size)
        clear HI21
        have HI21 := T__
        clear T__
        clear hx
        have kB150 := blk_cell B15.out (j := 0) (v := .slice at15 u.1.length ct15) rfl
        have kB151 := blk_cell B15.out (j := 1) (v := .slice bt15 u.2.length dt15) rfl
        have kB170 := blk_cell B17.out (j := 0) (v := .slice at17 V2.1.length ct17) rfl
        have kB171 := blk_cell B17.out (j := 1) (v := .slice bt17 V2.2.length dt17) rfl
        have kB190 := blk_cell B19.out (j := 0) (v := .slice at19 V2.1.length ct19) rfl
        have kB191 := blk_cell B19.out (j := 1) (v := .slice bt19 V2.2.length dt19) rfl
        go_wp2_with fail
        have CE := c_sameInts _ _ _ _ _ _ M M w19 HI21.out HI23.out
        rw [decide_eq_true rfl] at CE
        refine CE.mono ?_
        clear kB150 kB151 kB170 kB171 kB190 kB191
        rintro e w20 ⟨rfl, hx⟩
        clear CE
        have T__ := Lib.hid (X.out.trans hx)
        clear X
        have X := T__
        clear T__
        have T__ := Lib.hid (NetR.adv Ht15.out hx)
        clear Ht15
        have Ht15 := T__
        clear T__
        have T__ := Lib.hid (hx.blk B15.out)
        clear B15
        have B15 := T__
        clear T__
        have T__ := Lib.hid (NetR.adv Ht17.out hx)
        clear Ht17
        have Ht17 := T__
        clear T__
        have T__ := Lib.hid (hx.blk B17.out)
        clear B17
        have B17 := T__
        clear T__
        have T__ := Lib.hid (NetR.adv Ht19.out hx)
        clear Ht19
        have Ht19 := T__
        clear T__
        have T__ := Lib.hid (hx.blk B19.out)
        clear B19
        have B19 := T__
        clear T__
        have T__ := Lib.hid (HX5.out.trans hx)
        clear HX5
        have HX5 := T__
        clear T__
        have T__ := Lib.hid ((HI21.out.ext hx (Nat.le_refl _)).mono (Nat.le_refl _) hx.size)
        clear HI21
        have HI21 := T__
        clear T__
        have T__ := Lib.hid ((HI23.out.ext hx (Nat.le_refl _)).mono (Nat.le_refl _) hx.size)
        clear HI23
        have HI23 := T__
        clear T__
        clear hx
        have CG := c_IsNet _ 0 w20.heap.size V2 w20 Ht17.out (Nat.le_refl _)
        rw [HNB.out] at CG
        have kB150 := blk_cell B15.out (j := 0) (v := .slice at15 u.1.length ct15) rfl
        have kB151 := blk_cell B15.out (j := 1) (v := .slice bt15 u.2.length dt15) rfl
        have kB170 := blk_cell B17.out (j := 0) (v := .slice at17 V2.1.length ct17) rfl
        have kB171 := blk_cell B17.out (j := 1) (v := .slice bt17 V2.2.length dt17) rfl
        have kB190 := blk_cell B19.out (j := 0) (v := .slice at19 V2.1.length ct19) rfl
        have kB191 := blk_cell B19.out (j := 1) (v := .slice bt19 V2.2.length dt19) rfl
        go_wp2_with fail
        refine (CG).mono ?_
        clear kB150 kB151 kB170 kB171 kB190 kB191
        rintro e w21 ⟨rfl, hx⟩
        have T__ := Lib.hid (X.out.trans hx)
        clear X
        have X := T__
        clear T__
        have T__ := Lib.hid (NetR.adv Ht15.out hx)
        clear Ht15
        have Ht15 := T__
        clear T__
        have T__ := Lib.hid (hx.blk B15.out)
        clear B15
        have B15 := T__
        clear T__
        have T__ := Lib.hid (NetR.adv Ht17.out hx)
        clear Ht17
        have Ht17 := T__
        clear T__
        have T__ := Lib.hid (hx.blk B17.out)
        clear B17
        have B17 := T__
        clear T__
        have T__ := Lib.hid (NetR.adv Ht19.out hx)
        clear Ht19
        have Ht19 := T__
        clear T__
        have T__ := Lib.hid (hx.blk B19.out)
        clear B19
        have B19 := T__
        clear T__
        have T__ := Lib.hid (HX5.out.trans hx)
        clear HX5
        have HX5 := T__
        clear T__
        have T__ := Lib.hid ((HI21.out.ext hx (Nat.le_refl _)).mono (Nat.le_refl _) hx.size)
        clear HI21
        have HI21 := T__
        clear T__
        have T__ := Lib.hid ((HI23.out.ext hx (Nat.le_refl _)).mono (Nat.le_refl _) hx.size)
        clear HI23
        have HI23 := T__
        clear T__
        clear hx
        have kB150 := blk_cell B15.out (j := 0) (v := .slice at15 u.1.length ct15) rfl
        have kB151 := blk_cell B15.out (j := 1) (v := .slice bt15 u.2.length dt15) rfl
        have kB170 := blk_cell B17.out (j := 0) (v := .slice at17 V2.1.length ct17) rfl
        have kB171 := blk_cell B17.out (j := 1) (v := .slice bt17 V2.2.length dt17) rfl
        have kB190 := blk_cell B19.out (j := 0) (v := .slice at19 V2.1.length ct19) rfl
        have kB191 := blk_cell B19.out (j := 1) (v := .slice bt19 V2.2.length dt19) rfl
        go_wp2
        go_meet
        case rel => exact HX5.out
    case rest =>
      obtain ⟨w22, hw⟩ : ∃ W, W = wc := ⟨_, rfl⟩
      subst hw
      have hx := hcut
      clear Ht15 B15 Ht17 B17 Ht19 B19
      have T__ := Lib.hid (X.out.trans hx)
      clear X
      have X := T__
      clear T__
      clear hx hcut
      clear HLAW HOK2 HV2
      go_wp2_with fail
      refine (c_DrawLongestLink _ 0 w.heap.size cs w22 (HB1.out.ext X.out (Nat.le_refl _)) X.out.size).mono ?_
      rintro e w23 ⟨vt25, v,  rfl, hG⟩
      obtain ⟨at25, ct25, bt25, dt25, rfl, hN, hT17t25, hL41t25, hx⟩ := hG
      have Ht25 : Hid (NetR w23 _ v) := hN.wider (Nat.zero_le _) (Nat.le_refl _)
      clear hN
      have T__ := Lib.hid (X.out.trans hx)
      clear X
      have X := T__
      clear T__
      clear hx
      obtain ⟨ok3, hok⟩ : ∃ b, b = lgOk v := ⟨_, rfl⟩
      obtain ⟨r3, hr⟩ : ∃ r, r = lgV v := ⟨_, rfl⟩
      have HOK3 := Lib.hid hok
      have HR3 := Lib.hid hr
      have HLAW : Hid (ok3 = true → ∃ (l : Nat) (y : LinkT), r3 = l ∧ v.2[l]? = some y ∧ netB v = true ∧ ∀ (i : Nat) (z : LinkT), v.2[i]? = some z → lgD v.1 z ≤ lgD v.1 y ∧ (lgD v.1 z = lgD v.1 y → l ≤ i)) := fun e => by rw [hr]; exact long_law (hok ▸ e : lgOk v = true)
      clear hok hr
      go_wp2_with fail
      obtain ⟨pB25, hp9⟩ : ∃ n, n = w23.heap.size := ⟨_, rfl⟩
      obtain ⟨w24, hw9⟩ : ∃ W, W = w23.alloc (.cells #[.slice at25 v.1.length ct25, .slice bt25 v.2.length dt25] 27) := ⟨_, rfl⟩
      rw [← hw9, ← hp9]
      have hx : Ext w23 w24 := by rw [hw9]; exact Ext.alloc _ _
      have B25 : Hid (w24.heap[pB25]? = some (.cells #[.slice at25 v.1.length ct25, .slice bt25 v.2.length dt25] 27)) := by unfold Hid; rw [hw9, hp9]; exact blk_alloc _ _
      have T__ := Lib.hid (X.out.trans hx)
      clear X
      have X := T__
      clear T__
      have T__ := Lib.hid (NetR.adv Ht25.out hx)
      clear Ht25
      have Ht25 := T__
      clear T__
      clear hp9 hw9 hx
      have C := Lib.hid (c_iLongest _ 0 w24.heap.size v w24 Ht25.out (Nat.le_refl _))
      rw [← HOK3.out, ← HR3.out] at C
      refine (C.out).mono ?_
      rintro e w25 ⟨rfl, hx⟩
      have T__ := Lib.hid (X.out.trans hx)
      clear X
      have X := T__
      clear T__
      have T__ := Lib.hid (NetR.adv Ht25.out hx)
      clear Ht25
      have Ht25 := T__
      clear T__
      have T__ := Lib.hid (hx.blk B25.out)
      clear B25
      have B25 := T__
      clear T__
      clear hx
      clear C
      have C := Lib.hid (c_sLongest _ 0 w25.heap.size v w25 Ht25.out (Nat.le_refl _))
      rw [← HOK3.out, ← HR3.out] at C
      have kB250 := blk_cell B25.out (j := 0) (v := .slice at25 v.1.length ct25) rfl
      have kB251 := blk_cell B25.out (j := 1) (v := .slice bt25 v.2.length dt25) rfl
      go_wp2_with fail
      refine (C.out).mono ?_
      clear kB250 kB251
      rintro e w26 ⟨rfl, hx⟩
      have T__ := Lib.hid (X.out.trans hx)
      clear X
      have X := T__
      clear T__
      have T__ := Lib.hid (NetR.adv Ht25.out hx)
      clear Ht25
      have Ht25 := T__
      clear T__
      have T__ := Lib.hid (hx.blk B25.out)
      clear B25
      have B25 := T__
      clear T__
      clear hx
      clear C
      have hne1 : (ok3 != ok3) = false := by cases ok3 <;> rfl
      have hne2 : (r3 != r3) = false := by simp
      have kB250 := blk_cell B25.out (j := 0) (v := .slice at25 v.1.length ct25) rfl
      have kB251 := blk_cell B25.out (j := 1) (v := .slice bt25 v.2.length dt25) rfl
      go_upto_if 219 with fail
      clear kB250 kB251
      clear hne1 hne2
      go_cut [30, 31, 32, 33, 34, 35, 36] from 220 to 272 (fun _ _ _ _ _ _ _ wx => Ext w26 wx)
      case first =>
        cases ok3
        · go_wp2
          go_meet
          case rel => exact Ext.refl _
        · have hl := HLAW.out rfl
          obtain ⟨l, ⟨y1, y2, y3⟩, rfl, hy, hnB, hall⟩ := hl
          have HNB := Lib.hid hnB
          have HALL := Lib.hid hall
          have HY := Lib.hid hy
          obtain ⟨ms, hms⟩ : ∃ m, m = lgD v.1 (y1, y2, y3) := ⟨_, rfl⟩
          have HMS := Lib.hid hms
          have CQ : Hid (∀ W z, NetR W (.agg #[.slice at25 v.1.length ct25, .slice bt25 v.2.length dt25]) v → z ∈ v.2 → (Calls Try.prog 24 #[.agg #[.slice at25 v.1.length ct25, .slice bt25 v.2.length dt25], .int .i64 z.1, .int .i64 z.2.1] W fun e w' => e = .returned (.tuple #[.int .i64 (lgD v.1 z), .bool true]) ∧ Ext W w') ∧ Calls Try.prog 24 #[.agg #[.slice at25 v.1.length ct25, .slice bt25 v.2.length dt25], .int .i64 z.2.1, .int .i64 z.1] W fun e w' => e = .returned (.tuple #[.int .i64 (lgD v.1 z), .bool true]) ∧ Ext W w') := fun W z hg hz => by
            obtain ⟨e1, e2, e3, e4⟩ := lg_has hnB hz
            have h8 := c_iSquareBetween _ 0 W.heap.size v z.1 z.2.1 W hg (Nat.le_refl _)
            have h9 := c_iSquareBetween _ 0 W.heap.size v z.2.1 z.1 W hg (Nat.le_refl _)
            rw [e1, e2] at h8
            rw [e3, e4] at h9
            exact ⟨h8, h9⟩
          clear hnB hall hms
          have HX5 := Lib.hid (Ext.refl w26)
          obtain ⟨b9, o9, g9, e9, hg9, q0, q1, q2⟩ := Links_at Ht25.out.two.2 (List.getElem?_eq_some_iff.1 hy).1
          obtain rfl : (y1, y2, y3) = g9 := Option.some.inj (hy.symm.trans hg9.out)
          simp only at q0 q1 q2
          subst e9
          have hlI : (l : Int) < (v.2.length : Int) := by have := (List.getElem?_eq_some_iff.1 hy).1; omega
          have hl0 : (0 : Int) ≤ (l : Int) := by omega
          clear hy hg9
          have kB250 := blk_cell B25.out (j := 0) (v := .slice at25 v.1.length ct25) rfl
          have kB251 := blk_cell B25.out (j := 1) (v := .slice (some ⟨b9, o9, none⟩) v.2.length dt25) rfl
          have kB250n := (Ext.alloc (w26) (.cells #[.int .i64 y1, .int .i64 y2, .int .i64 y3] 29)).cell kB250
          have kB251n := (Ext.alloc (w26) (.cells #[.int .i64 y1, .int .i64 y2, .int .i64 y3] 29)).cell kB251
          go_wp2_with fail
          obtain ⟨pB30, hp9⟩ : ∃ n, n = w26.heap.size := ⟨_, rfl⟩
          obtain ⟨w27, hw9⟩ : ∃ W, W = w26.alloc (.cells #[.int .i64 y1, .int .i64 y2, .int .i64 y3] 29) := ⟨_, rfl⟩
          rw [← hw9, ← hp9]
          have hx : Ext w26 w27 := by rw [hw9]; exact Ext.alloc _ _
          have B30 : Hid (w27.heap[pB30]? = some (.cells #[.int .i64 y1, .int .i64 y2, .int .i64 y3] 29)) := by unfold Hid; rw [hw9, hp9]; exact blk_alloc _ _
          clear kB250 kB251 kB250n kB251n
          have T__ := Lib.hid (X.out.trans hx)
          clear X
          have X := T__
          clear T__
          have T__ := Lib.hid (NetR.adv Ht25.out hx)
          clear Ht25
          have Ht25 := T__
          clear T__
          have T__ := Lib.hid (hx.blk B25.out)
          clear B25
          have B25 := T__
          clear T__
          have T__ := Lib.hid (HX5.out.trans hx)
          clear HX5
          have HX5 := T__
          clear T__
          clear hp9 hw9 hx
          clear q0 q1 q2
          refine ((CQ.out _ (y1, y2, y3) Ht25.out (List.mem_of_getElem? HY.out)).1).mono ?_
          rintro e w28 ⟨rfl, hx⟩
          have T__ := Lib.hid (X.out.trans hx)
          clear X
          have X := T__
          clear T__
          have T__ := Lib.hid (NetR.adv Ht25.out hx)
          clear Ht25
          have Ht25 := T__
          clear T__
          have T__ := Lib.hid (hx.blk B25.out)
          clear B25
          have B25 := T__
          clear T__
          have T__ := Lib.hid (HX5.out.trans hx)
          clear HX5
          have HX5 := T__
          clear T__
          have T__ := Lib.hid (hx.blk B30.out)
          clear B30
          have B30 := T__
          clear T__
          clear hx
          rw [← HMS.out]
          have kB250 := blk_cell B25.out (j := 0) (v := .slice at25 v.1.length ct25) rfl
          have kB251 := blk_cell B25.out (j := 1) (v := .slice (some ⟨b9, o9, none⟩) v.2.length dt25) rfl
          have kB300 := blk_cell B30.out (j := 0) (v := .int .i64 y1) rfl
          have kB301 := blk_cell B30.out (j := 1) (v := .int .i64 y2) rfl
          have kB302 := blk_cell B30.out (j := 2) (v := .int .i64 y3) rfl
          go_wp2_with fail
          clear kB250 kB251 kB300 kB301 kB302
          have HXL := Lib.hid (Ext.refl w28)
          go_loopw [237] (fun t wr => ∃ k : Nat, k ≤ v.2.length ∧ t = .int .i64 k ∧ Ext w28 wr) (fun t _ => v.2.length - (intOf t).toNat)
          case atStart => exact ⟨0, by omega, rfl, Ext.refl _⟩
          case round =>
            obtain ⟨k, hk, rfl, hxr⟩ := hrel
            obtain ⟨wo, hwo⟩ : ∃ W, W = wr := ⟨_, rfl⟩
            subst hwo
            have hx := hxr
            have T__ := Lib.hid (X.out.trans hx)
            clear X
            have X := T__
            clear T__
            have T__ := Lib.hid (NetR.adv Ht25.out hx)
            clear Ht25
            have Ht25 := T__
            clear T__
            have T__ := Lib.hid (hx.blk B25.out)
            clear B25
            have B25 := T__
            clear T__
            have T__ := Lib.hid (HX5.out.trans hx)
            clear HX5
            have HX5 := T__
            clear T__
            have T__ := Lib.hid (hx.blk B30.out)
            clear B30
            have B30 := T__
            clear T__
            have T__ := Lib.hid (HXL.out.trans hx)
            clear HXL
            have HXL := T__
            clear T__
            clear hx
            by_cases hlt : k < v.2.length
            · obtain ⟨b8, o8, ⟨z1, z2, z3⟩, e8, hz, q0, q1, q2⟩ := Links_at Ht25.out.two.2 hlt
              obtain ⟨rfl, rfl⟩ : b9 = b8 ∧ o9 = o8 := by simpa using e8
              simp only at q0 q1 q2
              have hltI : (k : Int) < (v.2.length : Int) := by omega
              have hk0 : (0 : Int) ≤ (k : Int) := by omega
              obtain ⟨f1, f2⟩ := HALL.out k _ hz.out
              rw [← HMS.out] at f1 f2
              obtain ⟨fz, hfz⟩ : ∃ f, f = lgD v.1 (z1, z2, z3) := ⟨_, rfl⟩
              rw [← hfz] at f1 f2
              have HFZ := Lib.hid hfz
              clear hfz e8
              have kB250 := blk_cell B25.out (j := 0) (v := .slice at25 v.1.length ct25) rfl
              have kB251 := blk_cell B25.out (j := 1) (v := .slice (some ⟨b9, o9, none⟩) v.2.length dt25) rfl
              have kB300 := blk_cell B30.out (j := 0) (v := .int .i64 y1) rfl
              have kB301 := blk_cell B30.out (j := 1) (v := .int .i64 y2) rfl
              have kB302 := blk_cell B30.out (j := 2) (v := .int .i64 y3) rfl
              have kB250n := (Ext.alloc (wo) (.cells #[.int .i64 z1, .int .i64 z2, .int .i64 z3] 29)).cell kB250
              have kB251n := (Ext.alloc (wo) (.cells #[.int .i64 z1, .int .i64 z2, .int .i64 z3] 29)).cell kB251
              have kB300n := (Ext.alloc (wo) (.cells #[.int .i64 z1, .int .i64 z2, .int .i64 z3] 29)).cell kB300
              have kB301n := (Ext.alloc (wo) (.cells #[.int .i64 z1, .int .i64 z2, .int .i64 z3] 29)).cell kB301
              have kB302n := (Ext.alloc (wo) (.cells #[.int .i64 z1, .int .i64 z2, .int .i64 z3] 29)).cell kB302
              go_wp2_with fail
              obtain ⟨pB34, hp9⟩ : ∃ n, n = wo.heap.size := ⟨_, rfl⟩
              obtain ⟨w29, hw9⟩ : ∃ W, W = wo.alloc (.cells #[.int .i64 z1, .int .i64 z2, .int .i64 z3] 29) := ⟨_, rfl⟩
              rw [← hw9, ← hp9]
              have hx : Ext wo w29 := by rw [hw9]; exact Ext.alloc _ _
              have B34 : Hid (w29.heap[pB34]? = some (.cells #[.int .i64 z1, .int .i64 z2, .int .i64 z3] 29)) := by unfold Hid; rw [hw9, hp9]; exact blk_alloc _ _
              clear kB250 kB251 kB300 kB301 kB302 kB250n kB251n kB300n kB301n kB302n
              have T__ := Lib.hid (X.out.trans hx)
              clear X
              have X := T__
              clear T__
              have T__ := Lib.hid (NetR.adv Ht25.out hx)
              clear Ht25
              have Ht25 := T__
              clear T__
              have T__ := Lib.hid (hx.blk B25.out)
              clear B25
              have B25 := T__
              clear T__
              have T__ := Lib.hid (HX5.out.trans hx)
              clear HX5
              have HX5 := T__
              clear T__
              have T__ := Lib.hid (hx.blk B30.out)
              clear B30
              have B30 := T__
              clear T__
              have T__ := Lib.hid (HXL.out.trans hx)
              clear HXL
              have HXL := T__
              clear T__
              clear hp9 hw9 hx
              clear q0 q1 q2
              refine ((CQ.out _ (z1, z2, z3) Ht25.out (List.mem_of_getElem? hz.out)).2).mono ?_
              rintro e w30 ⟨rfl, hx⟩
              have T__ := Lib.hid (X.out.trans hx)
              clear X
              have X := T__
              clear T__
              have T__ := Lib.hid (NetR.adv Ht25.out hx)
              clear Ht25
              have Ht25 := T__
              clear T__
              have T__ := Lib.hid (hx.blk B25.out)
              clear B25
              have B25 := T__
              clear T__
              have T__ := Lib.hid (HX5.out.trans hx)
              clear HX5
              have HX5 := T__
              clear T__
              have T__ := Lib.hid (hx.blk B30.out)
              clear B30
              have B30 := T__
              clear T__
              have T__ := Lib.hid (HXL.out.trans hx)
              clear HXL
              have HXL := T__
              clear T__
              have T__ := Lib.hid (hx.blk B34.out)
              clear B34
              have B34 := T__
              clear T__
              clear hx
              rw [← HFZ.out]
              have g1 : decide (ms < fz) = false := decide_eq_false (by omega)
              have g1' : ¬ ms < fz := by omega
              by_cases hfe : fz = ms
              · have g2 : (fz == ms) = true := by simp [hfe]
                have g3 : ¬ (k : Int) < (l : Int) := by have := f2 hfe; omega
                have g4 : decide ((k : Int) < (l : Int)) = false := decide_eq_false g3
                clear hfe f1 f2
                go_wp2
                go_roundw
                case rel => exact ⟨k + 1, by omega, by go_num, HXL.out⟩
                case measure => simp [intOf]; omega
              · have g2 : (fz == ms) = false := by simp; exact hfe
                clear hfe f1 f2
                go_wp2
                go_roundw
                case rel => exact ⟨k + 1, by omega, by go_num, HXL.out⟩
                case measure => simp [intOf]; omega
            · have hge : ¬ ((k : Int) < (v.2.length : Int)) := by omega
              go_wp2
              go_meet
              case rel => exact HX5.out
      case rest =>
        obtain ⟨w31, hw⟩ : ∃ W, W = wc := ⟨_, rfl⟩
        subst hw
        have hx := hcut
        clear Ht25 B25
        have T__ := Lib.hid (X.out.trans hx)
        clear X
        have X := T__
        clear T__
        clear hx hcut
        clear HLAW HOK3 HR3
        go_wp2_with fail
        refine (c_DrawLinkBetween _ 0 w.heap.size cs w31 (HB1.out.ext X.out (Nat.le_refl _)) X.out.size).mono ?_
        rintro e w32 ⟨vt37, z, p, q, rfl, hG⟩
        obtain ⟨at37, ct37, bt37, dt37, rfl, hN, hT17t37, hL41t37, hx⟩ := hG
        have Ht37 : Hid (NetR w32 _ z) := hN.wider (Nat.zero_le _) (Nat.le_refl _)
        clear hN
        have T__ := Lib.hid (X.out.trans hx)
        clear X
        have X := T__
        clear T__
        clear hx
        obtain ⟨ok4, hok⟩ : ∃ b, b = lbOk z p q := ⟨_, rfl⟩
        obtain ⟨r4, hr⟩ : ∃ r, r = lbV z p q := ⟨_, rfl⟩
        obtain ⟨ok5, hok5⟩ : ∃ b, b = has2 z p q := ⟨_, rfl⟩
        obtain ⟨r5, hr5⟩ : ∃ r, r = sqbV z p q := ⟨_, rfl⟩
        have HOK4 := Lib.hid hok
        have HR4 := Lib.hid hr
        have HOK5 := Lib.hid hok5
        have HR5 := Lib.hid hr5
        have HLAW : Hid (ok4 = true → ok5 = true) := fun e => by rw [hok5]; exact lb_has (hok ▸ e : lbOk z p q = true)
        clear hok hr hok5 hr5
        go_wp2_with fail
        obtain ⟨pB37, hp9⟩ : ∃ n, n = w32.heap.size := ⟨_, rfl⟩
        obtain ⟨w33, hw9⟩ : ∃ W, W = w32.alloc (.cells #[.slice at37 z.1.length ct37, .slice bt37 z.2.length dt37] 27) := ⟨_, rfl⟩
        rw [← hw9, ← hp9]
        have hx : Ext w32 w33 := by rw [hw9]; exact Ext.alloc _ _
        have B37 : Hid (w33.heap[pB37]? = some (.cells #[.slice at37 z.1.length ct37, .slice bt37 z.2.length dt37] 27)) := by unfold Hid; rw [hw9, hp9]; exact blk_alloc _ _
        have T__ := Lib.hid (X.out.trans hx)
        clear X
        have X := T__
        clear T__
        have T__ := Lib.hid (NetR.adv Ht37.out hx)
        clear Ht37
        have Ht37 := T__
        clear T__
        clear hp9 hw9 hx
        have C := Lib.hid (c_iLinkBetween _ 0 w33.heap.size z p q w33 Ht37.out (Nat.le_refl _))
        rw [← HOK4.out, ← HR4.out] at C
        refine (C.out).mono ?_
        rintro e w34 ⟨rfl, hx⟩
        have T__ := Lib.hid (X.out.trans hx)
        clear X
        have X := T__
        clear T__
        have T__ := Lib.hid (NetR.adv Ht37.out hx)
        clear Ht37
        have Ht37 := T__
        clear T__
        have T__ := Lib.hid (hx.blk B37.out)
        clear B37
        have B37 := T__
        clear T__
        clear hx
        clear C
        have C := Lib.hid (c_sLinkBetween _ 0 w34.heap.size z p q w34 Ht37.out (Nat.le_refl _))
        rw [← HOK4.out, ← HR4.out] at C
        have kB370 := blk_cell B37.out (j := 0) (v := .slice at37 z.1.length ct37) rfl
        have kB371 := blk_cell B37.out (j := 1) (v := .slice bt37 z.2.length dt37) rfl
        go_wp2_with fail
        refine (C.out).mono ?_
        clear kB370 kB371
        rintro e w35 ⟨rfl, hx⟩
        have T__ := Lib.hid (X.out.trans hx)
        clear X
        have X := T__
        clear T__
        have T__ := Lib.hid (NetR.adv Ht37.out hx)
        clear Ht37
        have Ht37 := T__
        clear T__
        have T__ := Lib.hid (hx.blk B37.out)
        clear B37
        have B37 := T__
        clear T__
        clear hx
        clear C
        have C := Lib.hid (c_iSquareBetween _ 0 w35.heap.size z p q w35 Ht37.out (Nat.le_refl _))
        rw [← HOK5.out, ← HR5.out] at C
        have kB370 := blk_cell B37.out (j := 0) (v := .slice at37 z.1.length ct37) rfl
        have kB371 := blk_cell B37.out (j := 1) (v := .slice bt37 z.2.length dt37) rfl
        go_wp2_with fail
        refine (C.out).mono ?_
        clear kB370 kB371
        rintro e w36 ⟨rfl, hx⟩
        have T__ := Lib.hid (X.out.trans hx)
        clear X
        have X := T__
        clear T__
        have T__ := Lib.hid (NetR.adv Ht37.out hx)
        clear Ht37
        have Ht37 := T__
        clear T__
        have T__ := Lib.hid (hx.blk B37.out)
        clear B37
        have B37 := T__
        clear T__
        clear hx
        clear C
        have C := Lib.hid (c_sSquareBetween _ 0 w36.heap.size z p q w36 Ht37.out (Nat.le_refl _))
        rw [← HOK5.out, ← HR5.out] at C
        have kB370 := blk_cell B37.out (j := 0) (v := .slice at37 z.1.length ct37) rfl
        have kB371 := blk_cell B37.out (j := 1) (v := .slice bt37 z.2.length dt37) rfl
        go_wp2_with fail
        refine (C.out).mono ?_
        clear kB370 kB371
        rintro e w37 ⟨rfl, hx⟩
        have T__ := Lib.hid (X.out.trans hx)
        clear X
        have X := T__
        clear T__
        have T__ := Lib.hid (NetR.adv Ht37.out hx)
        clear Ht37
        have Ht37 := T__
        clear T__
        have T__ := Lib.hid (hx.blk B37.out)
        clear B37
        have B37 := T__
        clear T__
        clear hx
        clear C
        have e4 : (r4 == r4) = true := by simp
        have e5 : (r5 == r5) = true := by simp
        cases ok4
        · cases ok5
          · go_wp2
            go_ret
            exact ⟨rfl, X.out⟩
          · go_wp2
            go_ret
            exact ⟨rfl, X.out⟩
        · have hl := HLAW.out rfl
          subst hl
          go_wp2
          go_ret
          exact ⟨rfl, X.out⟩
set_option maxRecDepth 100000 in
theorem lifted_FnNetChanges (os : Os) (started : os.Started) (H : Type) (enc : TypeId × Value → H) :
    ReturnsInHanded {} Try.checked os 3 .any (Rows.fnNetChangesSpec.pre6 enc Try.prog Try.f3 Rows.fnNetChangesRow.domain false) (Rows.fnNetChangesSpec.post enc Try.prog Try.f3 false true false false) := by
  refine returnsInHanded_of_change (C := Try.checked) own_Ytiipjlcmekakaaa started (by kernel_rfl) Try.func3
    (ChangeSpec.witness6 (enc := enc) (C := Try.checked) false ⟨#[], #[.slice none 0 0, .slice none 0 0], []⟩ 8 (by kernel_rfl) (by kernel_rfl) (by kernel_rfl) (by kernel_rfl)) ?_
  intro W base args ds gs before hval0 hW hcnd _
  have hval : ∀ (j : Nat) t v, Try.f3.params[j]? = some t → args[j]? = some v → Value.okWide Try.prog W .any base t v := hval0
  have hW' := hW
  obtain ⟨p, q, hA0, hV, rfl, hfz, hnd⟩ := hW
  have hA : DataW.TrodAll enc Try.prog W 0 (fun _ => true) true Try.f3.params.toList args.toList ds p := hA0
  rw [Try.params3] at hA hval
  obtain ⟨v0, vs0, d0, ds0, p0, q0, hargs, rfl, rfl, h0, r0⟩ := trodAll_cons hA
  obtain ⟨v1, vs1, d1, ds1, p1, q1, rfl, rfl, rfl, h1, r1⟩ := trodAll_cons r0
  obtain ⟨rfl, rfl, rfl⟩ := trodAll_nil r1
  obtain rfl : args = #[v0, v1] := by cases args; simp_all
  obtain ⟨rfl, rfl⟩ := trodVars_none hV
  have k0 := h0
  have lt0 : ∀ x ∈ p0, x.block < W.heap.size := by obtain ⟨m, hm⟩ := k0; exact DataW.trod_lt m _ _ _ hm
  obtain ⟨x0, w0⟩ := arg_bytes (hval 0 22 v0 rfl rfl) h0
  have k1 := h1
  have lt1 : ∀ x ∈ p1, x.block < W.heap.size := by obtain ⟨m, hm⟩ := k1; exact DataW.trod_lt m _ _ _ hm
  obtain ⟨x1, w1⟩ := arg_bytes (hval 1 22 v1 rfl rfl) h1
  clear hA0 hval0
  refine (law_NetChanges v0 x0 v1 x1 W w0 w1).mono fun e W' ⟨he, bel⟩ => ?_
  subst he
  exact ⟨_, rfl, _, _, _, [], _, [], hW', trodAll_mk1 (shut_bool Try.underlying4 _), (trodAll_cons_mk (Below.trod laidOut_Ytiipjlcmekakaaa (by kernel_rfl) (of_decide_eq_true (by kernel_rfl)) k0 bel lt0) (trodAll_cons_mk (Below.trod laidOut_Ytiipjlcmekakaaa (by kernel_rfl) (of_decide_eq_true (by kernel_rfl)) k1 bel lt1) trodAll_mk0)), rfl, bel.frame _, fun h => by cases h⟩

theorem holds_FnNetChanges : Rows.FnNetChangesSaid :=
  OpenClaim.holds_of_wide 3 Try.f3 rfl rfl rfl rfl rfl rfl rfl ⟨rfl, rfl, rfl, rfl, rfl⟩ rfl rfl rfl rfl rfl (by kernel_rfl) Try.func3 (by kernel_rfl)
    (of_decide_eq_true (by kernel_rfl)) (by unfold Func.isWrapper; first | (rw [if_pos (by decide +kernel)]; kernel_rfl) | (rw [if_neg (by decide +kernel)]; exact ⟨rfl, rfl⟩))
    (fun os started H enc _ => lifted_FnNetChanges os started H enc)
end Go.Proofs.Ytiipjlcmekakaaa
