
/- FnExactBlockedBy: for every sight and every int the call returns true. No condition. -/
import Derived.Test.YtaekbnmddacglaaBlocked
import Derived.Test.YtaekbnmddacglaaArgSight
namespace Go.Proofs.Ytaekbnmddacglaa
open Go.ChangeShapes Go.WideShapes Go.ChangeAt Go.RowKit
open Go.ChangeMaps (open_string shut_string)
set_option linter.unusedVariables false
set_option maxRecDepth 100000 in
set_option maxHeartbeats 2000000 in
theorem law_BlockedBy (v : Value) (x : Int × Int × Int × List GroundT) (n : Int) (w : World) (h : ArgSight w v x) :
    Calls Try.prog 12 #[v, .int .i64 n] w fun e w' => e = .returned (.bool true) ∧ Ext w w' := by
  obtain ⟨D, A, B, gs⟩ := x
  obtain ⟨vg, rfl, hG⟩ := h
  have h0 := hG
  obtain ⟨a, cap, rfl, m1, m2, _⟩ := h0
  have H := Lib.hid hG
  clear hG
  obtain ⟨ys, hys⟩ : ∃ ys, ys = bbV D A B n gs := ⟨_, rfl⟩
  obtain ⟨ok, hok⟩ : ∃ ok, ok = askedB D A B n gs := ⟨_, rfl⟩
  have HL : Hid (gs.length ≤ 1048576 → ys.length ≤ 1099511627776) := fun hb => by rw [hys]; exact bb_len D A B n gs hb
  have CS : Hid (∀ W v1 lo hi, Grounds W lo hi v1 gs → hi ≤ W.heap.size → Calls Try.prog 38 #[.agg #[.int .i64 D, .int .i64 A, .int .i64 B, v1], .int .i64 n] W fun e w' => ∃ r, e = .returned (.tuple #[r, .bool ok]) ∧ w'.ownsRow W.heap.size 3 1 r ys.length (ys.flatMap encI) ∧ Ext W w') :=
    fun W v1 lo hi hr hh => by rw [hys, hok]; exact c_sBlockedBy D A B n v1 lo hi gs W hr hh
  have CI : Hid (∀ W v1 lo hi, Grounds W lo hi v1 gs → hi ≤ W.heap.size → Calls Try.prog 39 #[.agg #[.int .i64 D, .int .i64 A, .int .i64 B, v1], .int .i64 n] W fun e w' => ∃ r, e = .returned (.tuple #[r, .bool ok]) ∧ w'.ownsRow W.heap.size 3 1 r ys.length (ys.flatMap encI) ∧ Ext W w') :=
    fun W v1 lo hi hr hh => by rw [hys, hok]; exact c_iBlockedBy D A B n v1 lo hi gs W hr hh
  clear hys hok
  go_enter Try.func12, Try.ntmps12
  go_wp2_with fail
  obtain ⟨W1, hW1⟩ : ∃ W, W = w.alloc (.cells #[.int .i64 D, .int .i64 A, .int .i64 B, .slice a gs.length cap] 29) := ⟨_, rfl⟩
  rw [← hW1]
  have X1 : Ext w W1 := by rw [hW1]; exact Ext.alloc _ _
  have B1 : W1.heap[w.heap.size]? = some (.cells #[.int .i64 D, .int .i64 A, .int .i64 B, .slice a gs.length cap] 29) := by rw [hW1]; exact blk_alloc _ _
  clear hW1
  refine (c_szSight D A B a gs.length cap 1048576 W1 (by omega) (by omega) (by omega)).mono ?_
  rintro e W2 ⟨rfl, hx2⟩
  have X2 := X1.trans hx2
  by_cases hbig : gs.length ≤ 1048576
  · rw [szI_pos hbig]
    have hyl := HL.out hbig
    have hyI : (0 : Int) ≤ (ys.length : Int) := by omega
    have hyI2 : (ys.length : Int) ≤ 1099511627776 := by omega
    have B2 := Lib.hid (hx2.blk B1)
    have CT : Hid (∀ W, Ext w W → Calls Try.prog 21 #[.agg #[.int .i64 D, .int .i64 A, .int .i64 B, .slice a gs.length cap]] W fun e w' => ∃ a3 c3, e = .returned (.agg #[.int .i64 D, .int .i64 A, .int .i64 B, .slice a3 gs.length c3]) ∧ w'.ownsRow W.heap.size 68 2 (.slice a3 gs.length c3) gs.length (gs.flatMap encGround) ∧ Ext W w') :=
      fun W hX => (c_toSight D A B _ _ _ gs W (H.out.ext hX (Nat.le_refl _)) hX.size hbig).mono fun e w' ⟨v, he, ho, hx⟩ => by
        obtain ⟨a3, c3, rfl, _⟩ := own_form ho
        exact ⟨a3, c3, he, ho, hx⟩
    have k0 := blk_cell B2.out (j := 0) rfl
    have k1 := blk_cell B2.out (j := 1) rfl
    have k2 := blk_cell B2.out (j := 2) rfl
    have k3 := blk_cell B2.out (j := 3) rfl
    cases ok
    all_goals
      go_wp2_with fail
      refine (CT.out W2 X2).mono ?_
      rintro e W3 ⟨a1, c1, rfl, ho1, hx3⟩
      go_wp2_with fail
      refine (CS.out W3 _ _ _ (Row.of_own encGround_len ho1) (Nat.le_refl _)).mono ?_
      rintro e W4 ⟨rs, rfl, hos, hx4⟩
      have Y4 := hx3.trans hx4
      have Rs := Lib.hid (Row.of_own encI_len hos)
      obtain ⟨as_, cs, rfl, _, _, _⟩ := own_form hos
      have l0 := blk_cell (Y4.blk B2.out) (j := 0) rfl
      have l1 := blk_cell (Y4.blk B2.out) (j := 1) rfl
      have l2 := blk_cell (Y4.blk B2.out) (j := 2) rfl
      have l3 := blk_cell (Y4.blk B2.out) (j := 3) rfl
      have s34 := hx4.size
      have s23 := hx3.size
      clear k0 k1 k2 k3 hx3 hx4 ho1 hos
      go_wp2_with fail
      refine (CT.out W4 (X2.trans Y4)).mono ?_
      rintro e W5 ⟨a2, c2, rfl, ho2, hx5⟩
      have Y5 := Y4.trans hx5
      have s45 := hx5.size
      clear l0 l1 l2 l3
      go_wp2_with fail
      have R2 := Row.of_own encGround_len ho2
      obtain ⟨W6, hW6⟩ : ∃ W, W = W5.alloc (.cells #[.int .i64 D, .int .i64 A, .int .i64 B, .slice a2 gs.length c2] 34) := ⟨_, rfl⟩
      rw [← hW6]
      have Y56 : Ext W5 W6 := by rw [hW6]; exact Ext.alloc _ _
      have D6 : W6.heap[W5.heap.size]? = some (.cells #[.int .i64 D, .int .i64 A, .int .i64 B, .slice a2 gs.length c2] 34) := by rw [hW6]; exact blk_alloc _ _
      have R6 := Lib.hid (R2.ext Y56 (Nat.le_refl _))
      have s56 := Y56.size
      clear hW6 R2
      refine (CI.out W6 _ _ _ R6.out s56).mono ?_
      rintro e W7 ⟨g, rfl, hog, X67⟩
      have s67 := X67.size
      have Rg := Lib.hid (Row.of_own encI_len hog)
      obtain ⟨ag, cg, rfl, _, _, _⟩ := own_form hog
      go_wp2_with fail
      refine (c_eqIntS _ _ _ _ _ _ ys ys W7 Rg.out (Rs.out.ext ((hx5.trans Y56).trans X67) (Nat.le_refl _))).mono ?_
      rw [decide_eq_true rfl]
      rintro e W8 ⟨rfl, X78⟩
      have E58 := (Y56.trans X67).trans X78
      have E28 := Y5.trans E58
      have D8 := Lib.hid ((X67.trans X78).blk D6)
      have q0 := blk_cell (E28.blk B2.out) (j := 0) rfl
      have q1 := blk_cell (E28.blk B2.out) (j := 1) rfl
      have q2 := blk_cell (E28.blk B2.out) (j := 2) rfl
      have q3 := blk_cell (E28.blk B2.out) (j := 3) rfl
      have p0 := blk_cell D8.out (j := 0) rfl
      have p1 := blk_cell D8.out (j := 1) rfl
      have p2 := blk_cell D8.out (j := 2) rfl
      have p3 := blk_cell D8.out (j := 3) rfl
      have R8 := Lib.hid (R6.out.ext (X67.trans X78) s56)
      have HE28 := Lib.hid E28
      have HE58 := Lib.hid E58
      have HX78 := Lib.hid X78
      have HO2 := Lib.hid ho2
      have HOG := Lib.hid hog
      have HY4 := Lib.hid Y4
      have HX5 := Lib.hid hx5
      have s58 := E58.size
      have s78 := X78.size
      have s24 := Y4.size
      clear E28 E58 X78 ho2 hog Y4 hx5 Y5 Y56 X67 D6 R6
      go_wp2_with fail
      have TS : Hid (∀ W, Ext W8 W → Calls Try.prog 21 #[.agg #[.int .i64 D, .int .i64 A, .int .i64 B, .slice a gs.length cap]] W fun e w' => ∃ a3 c3, e = .returned (.agg #[.int .i64 D, .int .i64 A, .int .i64 B, .slice a3 gs.length c3]) ∧
          Grounds w' W.heap.size w'.heap.size (.slice a3 gs.length c3) gs ∧ Ext W8 w') := fun W hX =>
        (CT.out W ((X2.trans HE28.out).trans hX)).mono fun e w' ⟨a3, c3, he, ho, hx⟩ => ⟨a3, c3, he, Row.of_own encGround_len ho, hX.trans hx⟩
      have ES : Hid (∀ W a3 c3 lo, Ext W8 W → Grounds W lo W.heap.size (.slice a3 gs.length c3) gs → Calls Try.prog 23 #[.agg #[.int .i64 D, .int .i64 A, .int .i64 B, .slice a2 gs.length c2], .agg #[.int .i64 D, .int .i64 A, .int .i64 B, .slice a3 gs.length c3]] W fun e w' =>
          e = .returned (.bool true) ∧ Ext W8 w') := fun W a3 c3 lo hX hg =>
        (c_eqSight D A B D A B _ _ _ _ _ _ gs gs W (R8.out.ext hX (by omega)) hg (by have := hX.size; omega) (Nat.le_refl _)).mono fun e w' ⟨he, hx⟩ => ⟨by rw [he]; simp, hX.trans hx⟩
      go_region_held3 (fun w' => Ext W8 w' ∧ w'.cell? ⟨w.heap.size, 0, none⟩ = some (.int .i64 D) ∧ w'.cell? ⟨w.heap.size, 1, none⟩ = some (.int .i64 A) ∧ w'.cell? ⟨w.heap.size, 2, none⟩ = some (.int .i64 B) ∧ w'.cell? ⟨w.heap.size, 3, none⟩ = some (.slice a gs.length cap) ∧
          w'.cell? ⟨W5.heap.size, 0, none⟩ = some (.int .i64 D) ∧ w'.cell? ⟨W5.heap.size, 1, none⟩ = some (.int .i64 A) ∧ w'.cell? ⟨W5.heap.size, 2, none⟩ = some (.int .i64 B) ∧ w'.cell? ⟨W5.heap.size, 3, none⟩ = some (.slice a2 gs.length c2))
        (first | exact ⟨Ext.drew _, q0, q1, q2, q3, p0, p1, p2, p3⟩ | exact ⟨hxs, hxs.cell q0, hxs.cell q1, hxs.cell q2, hxs.cell q3, hxs.cell p0, hxs.cell p1, hxs.cell p2, hxs.cell p3⟩)
        (first | (go_at_call 21; refine (TS.out _ (Ext.drew _)).mono ?_; rintro e w3 ⟨a3, c3, rfl, hg3, hxs⟩) | (go_at_call 23; refine (ES.out _ _ _ _ hxs hg3).mono ?_; rintro e w3 ⟨rfl, hxs⟩))
      have r0 := hxs.cell p0
      have r1 := hxs.cell p1
      have r2 := hxs.cell p2
      have r3 := hxs.cell p3
      have HXS := Lib.hid hxs
      have s89 := hxs.size
      clear p0 p1 p2 p3 q0 q1 q2 q3 hxs
      go_wp2_with fail
      refine (c_markSight D A B _ gs.length _ _ 1 _ (own_ext HO2.out (HE58.out.trans HXS.out)) (by omega) (by omega) hbig).mono ?_
      rintro e W10 ⟨rfl, hox10, hgr10⟩
      have Y10 : Ext W2 W10 := (HE28.out.trans HXS.out).gr hgr10 (fun k hk => by have := (HO2.out.lt k hk).1; omega)
      have s910 := hgr10.size
      have Rg10 := Lib.hid (Rg.out.keep (w' := W10) fun k h1 h2 => by
        rw [hgr10.block k (by omega) (fun e => by have := (HO2.out.lt k e.symm).2; omega), (HX78.out.trans HXS.out).block k h2])
      have Rs10 := Lib.hid (Rs.out.keep (w' := W10) fun k h1 h2 => by
        rw [hgr10.block k (by omega) (fun e => by have := (HO2.out.lt k e.symm).1; omega), ((HX5.out.trans HE58.out).trans HXS.out).block k h2])
      have hog10 := (own_ext HOG.out (HX78.out.trans HXS.out)).kept hgr10 (by
        have e1 : ∀ k, (Value.slice ag ys.length cg).ownBlock = some k → (Value.slice a2 gs.length c2).ownBlock ≠ some k := fun k hk hk2 => by have := (HO2.out.lt k hk2).2; have := (HOG.out.lt k hk).1; omega
        cases hb : (Value.slice ag ys.length cg).ownBlock with
        | none => exact .inl rfl
        | some k => exact .inr (fun e => e1 k hb e.symm))
      clear hox10 hgr10 r0 r1 r2 r3
      go_wp2_with fail
      refine (c_eqIntS _ _ _ _ _ _ ys ys W10 Rg10.out Rs10.out).mono ?_
      rw [decide_eq_true rfl]
      rintro e W11 ⟨rfl, X1011⟩
      have hog11 := own_ext hog10 X1011
      have Rs11 := Lib.hid (Rs10.out.ext X1011 (by omega))
      have s1011 := X1011.size
      go_wp2_with fail
      refine (c_markIntS _ ys.length _ _ 1 W11 hog11 (by omega) (by omega) hyl).mono ?_
      rintro e W12 ⟨rfl, hog12, hgr12⟩
      have Y12 : Ext W2 W12 := (Y10.trans X1011).gr hgr12 (fun k hk => by have := (HOG.out.lt k hk).1; omega)
      have Rs12 := Lib.hid (Rs11.out.keep (w' := W12) fun k h1 h2 => by
        exact hgr12.block k (by omega) (fun e => by have := (HOG.out.lt k e.symm).1; omega))
      have s1112 := hgr12.size
      clear hog10 hog11 hgr12 X1011
      go_wp2_with fail
      refine (c_heldIntS _ ys.length _ 1 W12 hog12 (by omega) (by omega) hyl).mono ?_
      rintro e w' ⟨rfl, rfl⟩
      have t0 := blk_cell (Y12.blk B2.out) (j := 0) rfl
      have t1 := blk_cell (Y12.blk B2.out) (j := 1) rfl
      have t2 := blk_cell (Y12.blk B2.out) (j := 2) rfl
      have t3 := blk_cell (Y12.blk B2.out) (j := 3) rfl
      go_wp2_with fail
      refine (CT.out W12 (X2.trans Y12)).mono ?_
      rintro e W13 ⟨a13, c13, rfl, ho13, X1213⟩
      go_wp2_with fail
      refine (CI.out W13 _ _ _ (Row.of_own encGround_len ho13) (Nat.le_refl _)).mono ?_
      rintro e W14 ⟨g2, rfl, hog2, X1314⟩
      obtain ⟨ag2, cg2, rfl, _, _, _⟩ := own_form hog2
      have X1214 := X1213.trans X1314
      go_wp2_with fail
      refine (c_eqIntS _ _ _ _ _ _ ys ys W14 (Row.of_own encI_len hog2) (Rs12.out.ext X1214 (by omega))).mono ?_
      rw [decide_eq_true rfl]
      rintro e W15 ⟨rfl, X1415⟩
      have X1215 := X1214.trans X1415
      go_wp2_with fail
      refine (c_heldIntS _ ys.length _ 1 W15 (own_ext hog12 X1215) (by omega) (by omega) hyl).mono ?_
      rintro e w' ⟨rfl, rfl⟩
      go_wp2
      go_ret
      exact ⟨rfl, (X2.trans Y12).trans X1215⟩
  · rw [szI_neg (by omega)]
    go_wp2
    go_ret
    exact ⟨rfl, X2⟩
set_option maxRecDepth 100000 in
theorem lifted_FnExactBlockedBy (os : Os) (started : os.Started) (H : Type) (enc : TypeId × Value → H) :
    ReturnsInHanded {} Try.checked os 12 .any (Rows.fnExactBlockedBySpec.pre6 enc Try.prog Try.f12 Rows.fnExactBlockedByRow.domain false) (Rows.fnExactBlockedBySpec.post enc Try.prog Try.f12 false true false false) := by
  refine returnsInHanded_of_change (C := Try.checked) own_Ytaekbnmddacglaa started (by kernel_rfl) Try.func12
    (ChangeSpec.witness6 (enc := enc) (C := Try.checked) false ⟨#[], #[.agg #[.int .i64 0, .int .i64 0, .int .i64 0, .slice none 0 0], .int .i64 0], []⟩ 8 (by kernel_rfl) (by kernel_rfl) (by kernel_rfl) (by kernel_rfl)) ?_
  intro W base args ds gs before hval0 hW hcnd _
  have hval : ∀ (j : Nat) t v, Try.f12.params[j]? = some t → args[j]? = some v → Value.okWide Try.prog W .any base t v := hval0
  have hW' := hW
  obtain ⟨p, q, hA0, hV, rfl, hfz, hnd⟩ := hW
  have hA : DataW.TrodAll enc Try.prog W 0 (fun _ => true) true Try.f12.params.toList args.toList ds p := hA0
  rw [Try.params12] at hA hval
  obtain ⟨v0, vs0, d0, ds0, p0, q0, hargs, rfl, rfl, h0, r0⟩ := trodAll_cons hA
  obtain ⟨v1, vs1, d1, ds1, p1, q1, rfl, rfl, rfl, h1, r1⟩ := trodAll_cons r0
  obtain ⟨rfl, rfl, rfl⟩ := trodAll_nil r1
  obtain rfl : args = #[v0, v1] := by cases args; simp_all
  obtain ⟨rfl, rfl⟩ := trodVars_none hV
  have k0 := h0
  have lt0 : ∀ x ∈ p0, x.block < W.heap.size := by obtain ⟨m, hm⟩ := k0; exact DataW.trod_lt m _ _ _ hm
  obtain ⟨x0, w0⟩ := arg_sight (hval 0 29 v0 rfl rfl) h0
  obtain ⟨a1, rfl, rfl, rfl, w1⟩ := open_int Try.underlying3 (hval 1 3 v1 rfl rfl) h1
  clear hA0 hval0
  refine (law_BlockedBy v0 x0 a1 W w0).mono fun e W' ⟨he, bel⟩ => ?_
  subst he
  exact ⟨_, rfl, _, _, _, [], _, [], hW', trodAll_mk1 (shut_bool Try.underlying4 _), (trodAll_cons_mk (Below.trod laidOut_Ytaekbnmddacglaa (by kernel_rfl) (of_decide_eq_true (by kernel_rfl)) k0 bel lt0) (trodAll_cons_mk (shut_int Try.underlying3 w1) trodAll_mk0)), rfl, bel.frame _, fun h => by cases h⟩

theorem holds_FnExactBlockedBy : Rows.FnExactBlockedBySaid :=
  OpenClaim.holds_of_wide 12 Try.f12 rfl rfl rfl rfl rfl rfl rfl ⟨rfl, rfl, rfl, rfl, rfl⟩ rfl rfl rfl rfl rfl (by kernel_rfl) Try.func12 (by kernel_rfl)
    (of_decide_eq_true (by kernel_rfl)) (by unfold Func.isWrapper; first | (rw [if_pos (by decide +kernel)]; kernel_rfl) | (rw [if_neg (by decide +kernel)]; exact ⟨rfl, rfl⟩))
    (fun os started H enc _ => lifted_FnExactBlockedBy os started H enc)
end Go.Proofs.Ytaekbnmddacglaa
