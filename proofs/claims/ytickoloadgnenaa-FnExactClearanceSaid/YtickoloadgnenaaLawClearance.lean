

/- FnExactClearance: for every sight and every int the call returns true. No condition. -/
import Derived.Test.YtickoloadgnenaaClearance
import Derived.Test.YtickoloadgnenaaArgSight
namespace Go.Proofs.Ytickoloadgnenaa
open Go.ChangeShapes Go.WideShapes Go.ChangeAt Go.RowKit
open Go.ChangeMaps (open_string shut_string)
set_option linter.unusedVariables false
set_option maxRecDepth 100000 in
set_option maxHeartbeats 1000000 in
theorem law_Clearance (v : Value) (x : Int × Int × Int × List GroundT) (n : Int) (w : World) (h : ArgSight w v x) :
    Calls Try.prog 5 #[v, .int .i64 n] w fun e w' => e = .returned (.bool true) ∧ Ext w w' := by
  obtain ⟨D, A, B, gs⟩ := x
  obtain ⟨vg, rfl, hG⟩ := h
  have h0 := hG
  obtain ⟨a, cap, rfl, m1, m2, _⟩ := h0
  have H := Lib.hid hG
  clear hG
  go_enter Try.func5, Try.ntmps5
  go_wp2_with fail
  obtain ⟨W1, hW1⟩ : ∃ W, W = w.alloc (.cells #[.int .i64 D, .int .i64 A, .int .i64 B, .slice a gs.length cap] 24) := ⟨_, rfl⟩
  rw [← hW1]
  have X1 : Ext w W1 := by rw [hW1]; exact Ext.alloc _ _
  have B1 : W1.heap[w.heap.size]? = some (.cells #[.int .i64 D, .int .i64 A, .int .i64 B, .slice a gs.length cap] 24) := by rw [hW1]; exact blk_alloc _ _
  clear hW1
  refine (c_szSight D A B a gs.length cap 1048576 W1 (by omega) (by omega) (by omega)).mono ?_
  rintro e W2 ⟨rfl, hx2⟩
  have X2 := X1.trans hx2
  by_cases hbig : gs.length ≤ 1048576
  · rw [szI_pos hbig]
    have k0 := blk_cell (hx2.blk B1) (j := 0) rfl
    have k1 := blk_cell (hx2.blk B1) (j := 1) rfl
    have k2 := blk_cell (hx2.blk B1) (j := 2) rfl
    have k3 := blk_cell (hx2.blk B1) (j := 3) rfl
    go_wp2_with fail
    refine (c_toSight D A B _ _ _ gs W2 (H.out.ext X2 (Nat.le_refl _)) X2.size hbig).mono ?_
    rintro e W3 ⟨v1, rfl, ho1, hx3⟩
    go_wp2_with fail
    refine (c_sClearance D A B n _ _ _ gs W3 (Row.of_own encGround_len ho1) (Nat.le_refl _)).mono ?_
    rintro e W4 ⟨rfl, hx4⟩
    have X4 := (X2.trans hx3).trans hx4
    have B4 := ((hx2.trans hx3).trans hx4).blk B1
    have l0 := blk_cell B4 (j := 0) rfl
    have l1 := blk_cell B4 (j := 1) rfl
    have l2 := blk_cell B4 (j := 2) rfl
    have l3 := blk_cell B4 (j := 3) rfl
    clear k0 k1 k2 k3 hx2 hx3 hx4 ho1 B1
    go_wp2_with fail
    refine (c_toSight D A B _ _ _ gs W4 (H.out.ext X4 (Nat.le_refl _)) X4.size hbig).mono ?_
    rintro e W5 ⟨v2, rfl, ho2, hx5⟩
    obtain ⟨a2, c2, rfl, _, _, _⟩ := own_form ho2
    have X5 := X4.trans hx5
    have B5 := hx5.blk B4
    clear l0 l1 l2 l3 B4
    go_wp2_with fail
    have R2 := Row.of_own encGround_len ho2
    obtain ⟨W6, hW6⟩ : ∃ W, W = W5.alloc (.cells #[.int .i64 D, .int .i64 A, .int .i64 B, .slice a2 gs.length c2] 30) := ⟨_, rfl⟩
    rw [← hW6]
    have Y6 : Ext W5 W6 := by rw [hW6]; exact Ext.alloc _ _
    have D6 : W6.heap[W5.heap.size]? = some (.cells #[.int .i64 D, .int .i64 A, .int .i64 B, .slice a2 gs.length c2] 30) := by rw [hW6]; exact blk_alloc _ _
    have R3 := Lib.hid (R2.ext Y6 (Nat.le_refl _))
    have X6 := X5.trans Y6
    have B6 := Y6.blk B5
    have hs6 := Y6.size
    clear hW6 Y6 R2 B5 X5 ho2 hx5 X4
    refine (c_iClearance D A B n _ _ _ gs W6 R3.out hs6).mono ?_
    rintro e W7 ⟨rfl, hx7⟩
    have X7 := X6.trans hx7
    have B7 := hx7.blk B6
    have D7 := hx7.blk D6
    have R7 := Lib.hid (R3.out.ext hx7 hs6)
    have hs7 := Nat.le_trans hs6 hx7.size
    have q0 := blk_cell B7 (j := 0) rfl
    have q1 := blk_cell B7 (j := 1) rfl
    have q2 := blk_cell B7 (j := 2) rfl
    have q3 := blk_cell B7 (j := 3) rfl
    have p0 := blk_cell D7 (j := 0) rfl
    have p1 := blk_cell D7 (j := 1) rfl
    have p2 := blk_cell D7 (j := 2) rfl
    have p3 := blk_cell D7 (j := 3) rfl
    clear hx7 R3 B6 D6 B7 D7
    go_wp2_with fail
    have TS : Hid (∀ W, Ext W7 W → Calls Try.prog 8 #[.agg #[.int .i64 D, .int .i64 A, .int .i64 B, .slice a gs.length cap]] W fun e w' => ∃ a3 c3, e = .returned (.agg #[.int .i64 D, .int .i64 A, .int .i64 B, .slice a3 gs.length c3]) ∧
        Grounds w' W.heap.size w'.heap.size (.slice a3 gs.length c3) gs ∧ Ext W7 w') := fun W hX =>
      (c_toSight D A B _ _ _ gs W (H.out.ext (X7.trans hX) (Nat.le_refl _)) (X7.trans hX).size hbig).mono fun e w' ⟨v, he, ho, hx⟩ => by
        obtain ⟨a3, c3, rfl, _⟩ := own_form ho
        exact ⟨a3, c3, he, Row.of_own encGround_len ho, hX.trans hx⟩
    have ES : Hid (∀ W a3 c3 lo, Ext W7 W → Grounds W lo W.heap.size (.slice a3 gs.length c3) gs → Calls Try.prog 10 #[.agg #[.int .i64 D, .int .i64 A, .int .i64 B, .slice a2 gs.length c2], .agg #[.int .i64 D, .int .i64 A, .int .i64 B, .slice a3 gs.length c3]] W fun e w' =>
        e = .returned (.bool true) ∧ Ext W7 w') := fun W a3 c3 lo hX hg =>
      (c_eqSight D A B D A B _ _ _ _ _ _ gs gs W (R7.out.ext hX hs7) hg (Nat.le_trans hs7 hX.size) (Nat.le_refl _)).mono fun e w' ⟨he, hx⟩ => ⟨by rw [he]; simp, hX.trans hx⟩
    go_region_held3 (fun w' => Ext W7 w' ∧ w'.cell? ⟨w.heap.size, 0, none⟩ = some (.int .i64 D) ∧ w'.cell? ⟨w.heap.size, 1, none⟩ = some (.int .i64 A) ∧ w'.cell? ⟨w.heap.size, 2, none⟩ = some (.int .i64 B) ∧ w'.cell? ⟨w.heap.size, 3, none⟩ = some (.slice a gs.length cap) ∧
        w'.cell? ⟨W5.heap.size, 0, none⟩ = some (.int .i64 D) ∧ w'.cell? ⟨W5.heap.size, 1, none⟩ = some (.int .i64 A) ∧ w'.cell? ⟨W5.heap.size, 2, none⟩ = some (.int .i64 B) ∧ w'.cell? ⟨W5.heap.size, 3, none⟩ = some (.slice a2 gs.length c2))
      (first | exact ⟨Ext.drew _, q0, q1, q2, q3, p0, p1, p2, p3⟩ | exact ⟨hxs, hxs.cell q0, hxs.cell q1, hxs.cell q2, hxs.cell q3, hxs.cell p0, hxs.cell p1, hxs.cell p2, hxs.cell p3⟩)
      (first | (go_at_call 8; refine (TS.out _ (Ext.drew _)).mono ?_; rintro e w3 ⟨a3, c3, rfl, hg3, hxs⟩) | (go_at_call 10; refine (ES.out _ _ _ _ hxs hg3).mono ?_; rintro e w3 ⟨rfl, hxs⟩))
    go_wp2
    go_ret
    exact ⟨rfl, X7.trans hxs⟩
  · rw [szI_neg (by omega)]
    go_wp2
    go_ret
    exact ⟨rfl, X2⟩
set_option maxRecDepth 100000 in
theorem lifted_FnExactClearance (os : Os) (started : os.Started) (H : Type) (enc : TypeId × Value → H) :
    ReturnsInHanded {} Try.checked os 5 .any (Rows.fnExactClearanceSpec.pre6 enc Try.prog Try.f5 Rows.fnExactClearanceRow.domain false) (Rows.fnExactClearanceSpec.post enc Try.prog Try.f5 false true false false) := by
  refine returnsInHanded_of_change (C := Try.checked) own_Ytickoloadgnenaa started (by kernel_rfl) Try.func5
    (ChangeSpec.witness6 (enc := enc) (C := Try.checked) false ⟨#[], #[.agg #[.int .i64 0, .int .i64 0, .int .i64 0, .slice none 0 0], .int .i64 0], []⟩ 8 (by kernel_rfl) (by kernel_rfl) (by kernel_rfl) (by kernel_rfl)) ?_
  intro W base args ds gs before hval0 hW hcnd _
  have hval : ∀ (j : Nat) t v, Try.f5.params[j]? = some t → args[j]? = some v → Value.okWide Try.prog W .any base t v := hval0
  have hW' := hW
  obtain ⟨p, q, hA0, hV, rfl, hfz, hnd⟩ := hW
  have hA : DataW.TrodAll enc Try.prog W 0 (fun _ => true) true Try.f5.params.toList args.toList ds p := hA0
  rw [Try.params5] at hA hval
  obtain ⟨v0, vs0, d0, ds0, p0, q0, hargs, rfl, rfl, h0, r0⟩ := trodAll_cons hA
  obtain ⟨v1, vs1, d1, ds1, p1, q1, rfl, rfl, rfl, h1, r1⟩ := trodAll_cons r0
  obtain ⟨rfl, rfl, rfl⟩ := trodAll_nil r1
  obtain rfl : args = #[v0, v1] := by cases args; simp_all
  obtain ⟨rfl, rfl⟩ := trodVars_none hV
  have k0 := h0
  have lt0 : ∀ x ∈ p0, x.block < W.heap.size := by obtain ⟨m, hm⟩ := k0; exact DataW.trod_lt m _ _ _ hm
  obtain ⟨x0, w0⟩ := arg_sight (hval 0 24 v0 rfl rfl) h0
  obtain ⟨a1, rfl, rfl, rfl, w1⟩ := open_int Try.underlying3 (hval 1 3 v1 rfl rfl) h1
  clear hA0 hval0
  refine (law_Clearance v0 x0 a1 W w0).mono fun e W' ⟨he, bel⟩ => ?_
  subst he
  exact ⟨_, rfl, _, _, _, [], _, [], hW', trodAll_mk1 (shut_bool Try.underlying4 _), (trodAll_cons_mk (Below.trod laidOut_Ytickoloadgnenaa (by kernel_rfl) (of_decide_eq_true (by kernel_rfl)) k0 bel lt0) (trodAll_cons_mk (shut_int Try.underlying3 w1) trodAll_mk0)), rfl, bel.frame _, fun h => by cases h⟩

theorem holds_FnExactClearance : Rows.FnExactClearanceSaid :=
  OpenClaim.holds_of_wide 5 Try.f5 rfl rfl rfl rfl rfl rfl rfl ⟨rfl, rfl, rfl, rfl, rfl⟩ rfl rfl rfl rfl rfl (by kernel_rfl) Try.func5 (by kernel_rfl)
    (of_decide_eq_true (by kernel_rfl)) (by unfold Func.isWrapper; first | (rw [if_pos (by decide +kernel)]; kernel_rfl) | (rw [if_neg (by decide +kernel)]; exact ⟨rfl, rfl⟩))
    (fun os started H enc _ => lifted_FnExactClearance os started H enc)
end Go.Proofs.Ytickoloadgnenaa
