

/- FnExactWrongShutters: for every slice of ints and every int the call returns true. No condition. -/
import Derived.Test.YthjfkgddanaioaaWrong
import Derived.Test.YthjfkgddanaioaaArgInts
namespace Go.Proofs.Ythjfkgddanaioaa
open Go.ChangeShapes Go.WideShapes Go.ChangeAt Go.RowKit
open Go.ChangeMaps (open_string shut_string)
set_option linter.unusedVariables false
theorem ws_len (xs : List Int) (k : Int) : (wsV xs k).length ≤ 1099511627776 := by
  unfold wsV
  split
  · have := shL_len (xs.getD k.toNat 0) 61; omega
  · simp
set_option maxRecDepth 100000 in
set_option maxHeartbeats 2000000 in
theorem law_WrongShutters (v : Value) (xs : List Int) (k : Int) (w : World) (h : ArgInts w v xs) :
    Calls Try.prog 7 #[v, .int .i64 k] w fun e w' => e = .returned (.bool true) ∧ Ext w w' := by
  obtain ⟨hG, _⟩ := h
  have h0 := hG
  obtain ⟨a, cap, rfl, m1, m2, _⟩ := h0
  have H := Lib.hid hG
  clear hG
  obtain ⟨ys, hys⟩ : ∃ ys, ys = wsV xs k := ⟨_, rfl⟩
  obtain ⟨ok, hok⟩ : ∃ ok, ok = erB xs k := ⟨_, rfl⟩
  by_cases hbig : xs.length ≤ 1048576
  · have hb2 : ¬ (1048576 < (xs.length : Int)) := by omega
    have hyl : ys.length ≤ 1099511627776 := by rw [hys]; exact ws_len xs k
    have CS : Hid (∀ W v1 lo hi, Ints W lo hi v1 xs → hi ≤ W.heap.size → Calls Try.prog 23 #[v1, .int .i64 k] W fun e w' => ∃ r, e = .returned (.tuple #[r, .bool ok]) ∧ w'.ownsRow W.heap.size 3 1 r ys.length (ys.flatMap encI) ∧ Ext W w') :=
      fun W v1 lo hi hr hh => by rw [hys, hok]; exact c_sWrong v1 lo hi xs k W hr hh
    have CI : Hid (∀ W v1 lo hi, Ints W lo hi v1 xs → hi ≤ W.heap.size → Calls Try.prog 24 #[v1, .int .i64 k] W fun e w' => ∃ r, e = .returned (.tuple #[r, .bool ok]) ∧ w'.ownsRow W.heap.size 3 1 r ys.length (ys.flatMap encI) ∧ Ext W w') :=
      fun W v1 lo hi hr hh => by rw [hys, hok]; exact c_iWrong v1 lo hi xs k W hr hh
    have CT : Hid (∀ W, Ext w W → Calls Try.prog 14 #[.slice a xs.length cap] W fun e w' => ∃ v, e = .returned v ∧ w'.ownsRow W.heap.size 3 1 v xs.length (xs.flatMap encI) ∧ Ext W w') :=
      fun W hX => c_toIntS _ 0 w.heap.size xs W (H.out.ext hX (Nat.le_refl _)) hbig
    clear hys hok
    have hyI : (0 : Int) ≤ (ys.length : Int) := by omega
    have hyI2 : (ys.length : Int) ≤ 1099511627776 := by omega
    cases ok
    all_goals
      go_enter Try.func7, Try.ntmps7
      go_wp2_with fail
      refine (CT.out w (Ext.refl w)).mono ?_
      rintro e W1 ⟨v1, rfl, ho1, X1⟩
      go_wp2_with fail
      refine (CS.out W1 v1 _ _ (Row.of_own encI_len ho1) (Nat.le_refl _)).mono ?_
      rintro e W2 ⟨s, rfl, hos, X12⟩
      have X2 := X1.trans X12
      have Rs := Lib.hid (Row.of_own encI_len hos)
      obtain ⟨as_, cs, rfl, _, _, _⟩ := own_form hos
      clear ho1 hos X12
      go_wp2_with fail
      refine (CT.out W2 X2).mono ?_
      rintro e W3 ⟨x0, rfl, hox, X23⟩
      have X3 := X2.trans X23
      have Rs3 := Lib.hid (Rs.out.ext X23 (Nat.le_refl _))
      have Rx := Lib.hid (Row.of_own encI_len hox)
      have hsz23 := X23.size
      have hsz12 := X2.size
      go_wp2_with fail
      refine (CI.out W3 x0 _ _ Rx.out (Nat.le_refl _)).mono ?_
      rintro e W4 ⟨g, rfl, hog, X34⟩
      have X4 := X3.trans X34
      have Rg := Lib.hid (Row.of_own encI_len hog)
      have hox4 := own_ext hox X34
      have hsz34 := X34.size
      obtain ⟨ag, cg, rfl, _, _, _⟩ := own_form hog
      go_wp2_with fail
      refine (c_eqIntS _ _ _ _ _ _ ys ys W4 Rg.out (Rs3.out.ext X34 (by omega))).mono ?_
      rw [decide_eq_true rfl]
      rintro e W5 ⟨rfl, X45⟩
      have X5 := X4.trans X45
      go_wp2_with fail
      refine (CT.out W5 X5).mono ?_
      rintro e W6 ⟨v6, rfl, ho6, X56⟩
      go_wp2_with fail
      refine (c_eqIntS _ _ _ _ _ _ xs xs W6 (Rx.out.ext ((X34.trans X45).trans X56) (Nat.le_refl _)) (Row.of_own encI_len ho6)).mono ?_
      rw [decide_eq_true rfl]
      rintro e W7 ⟨rfl, X67⟩
      have X47 := (X45.trans X56).trans X67
      have X7 := X4.trans X47
      have hox7 := own_ext hox4 X47
      have hog7 := own_ext hog X47
      clear X45 X56 X67 ho6 X5 hox4
      go_wp2_with fail
      refine (c_markIntS x0 xs.length _ _ 1 W7 hox7 (by omega) (by omega) (by omega)).mono ?_
      rintro e W8 ⟨rfl, hox8, hgr8⟩
      have X8 : Ext w W8 := X7.gr hgr8 (fun k hk => by have := (hox.lt k hk).1; omega)
      have k48 : ∀ k, W3.heap.size ≤ k → k < W4.heap.size → W8.heap[k]? = W4.heap[k]? := fun k h1 h2 => by
        have hs := X47.size
        rw [hgr8.block k (by omega) (fun e => by have := (hox.lt k e.symm).2; omega), X47.block k h2]
      have k28 : ∀ k, W1.heap.size ≤ k → k < W2.heap.size → W8.heap[k]? = W2.heap[k]? := fun k h1 h2 => by
        have hs := X47.size
        rw [hgr8.block k (by omega) (fun e => by have := (hox.lt k e.symm).1; omega), X47.block k (by omega), X34.block k (by omega), X23.block k h2]
      have Rg8 := Lib.hid (Rg.out.keep k48)
      have Rs8 := Lib.hid (Rs.out.keep k28)
      have hog8 := hog7.kept hgr8 (by
        have e1 : ∀ k, (Value.slice ag ys.length cg).ownBlock = some k → x0.ownBlock ≠ some k := fun k hk hk2 => by have := (hox.lt k hk2).2; have := (hog.lt k hk).1; omega
        cases hb : (Value.slice ag ys.length cg).ownBlock with
        | none => exact .inl rfl
        | some k => exact .inr (fun e => e1 k hb e.symm))
      have hsz48 : W4.heap.size ≤ W8.heap.size := Nat.le_trans X47.size hgr8.size
      clear hox7 hox8 hog7 hgr8 k48 k28 X47 X7
      go_wp2_with fail
      refine (c_eqIntS _ _ _ _ _ _ ys ys W8 Rg8.out Rs8.out).mono ?_
      rw [decide_eq_true rfl]
      rintro e W9 ⟨rfl, X89⟩
      have X9 := X8.trans X89
      have hog9 := own_ext hog8 X89
      have Rs9 := Lib.hid (Rs8.out.ext X89 (by omega))
      go_wp2_with fail
      refine (c_markIntS _ ys.length _ _ 1 W9 hog9 (by omega) (by omega) hyl).mono ?_
      rintro e W10 ⟨rfl, hog10, hgr10⟩
      have X10 : Ext w W10 := X9.gr hgr10 (fun k hk => by have := (hog.lt k hk).1; omega)
      have Rs10 := Lib.hid (Rs9.out.keep (w' := W10) fun k h1 h2 => by
        have := X89.size
        exact hgr10.block k (by omega) (fun e => by have := (hog.lt k e.symm).1; omega))
      have hsz10 : W4.heap.size ≤ W10.heap.size := Nat.le_trans (Nat.le_trans hsz48 X89.size) hgr10.size
      clear hog8 hog9 hgr10 X89 X8
      go_wp2_with fail
      refine (c_heldIntS _ ys.length _ 1 W10 hog10 (by omega) (by omega) hyl).mono ?_
      rintro e w' ⟨rfl, rfl⟩
      go_wp2_with fail
      refine (CT.out W10 X10).mono ?_
      rintro e W11 ⟨v11, rfl, ho11, X11⟩
      go_wp2_with fail
      refine (CI.out W11 v11 _ _ (Row.of_own encI_len ho11) (Nat.le_refl _)).mono ?_
      rintro e W12 ⟨g2, rfl, hog2, X112⟩
      obtain ⟨ag2, cg2, rfl, _, _, _⟩ := own_form hog2
      have X1012 := X11.trans X112
      go_wp2_with fail
      refine (c_eqIntS _ _ _ _ _ _ ys ys W12 (Row.of_own encI_len hog2) (Rs10.out.ext X1012 (by omega))).mono ?_
      rw [decide_eq_true rfl]
      rintro e W13 ⟨rfl, X1213⟩
      have X1013 := X1012.trans X1213
      go_wp2_with fail
      refine (c_heldIntS _ ys.length _ 1 W13 (own_ext hog10 X1013) (by omega) (by omega) hyl).mono ?_
      rintro e w' ⟨rfl, rfl⟩
      go_wp2
      go_ret
      exact ⟨rfl, X10.trans X1013⟩
  · have hb2 : 1048576 < (xs.length : Int) := by omega
    go_enter Try.func7, Try.ntmps7
    go_wp2
    go_ret
    exact ⟨rfl, Ext.refl _⟩
set_option maxRecDepth 100000 in
theorem lifted_FnExactWrongShutters (os : Os) (started : os.Started) (H : Type) (enc : TypeId × Value → H) :
    ReturnsInHanded {} Try.checked os 7 .any (Rows.fnExactWrongShuttersSpec.pre6 enc Try.prog Try.f7 Rows.fnExactWrongShuttersRow.domain false) (Rows.fnExactWrongShuttersSpec.post enc Try.prog Try.f7 false true false false) := by
  refine returnsInHanded_of_change (C := Try.checked) own_Ythjfkgddanaioaa started (by kernel_rfl) Try.func7
    (ChangeSpec.witness6 (enc := enc) (C := Try.checked) false ⟨#[], #[.slice none 0 0, .int .i64 0], []⟩ 8 (by kernel_rfl) (by kernel_rfl) (by kernel_rfl) (by kernel_rfl)) ?_
  intro W base args ds gs before hval0 hW hcnd _
  have hval : ∀ (j : Nat) t v, Try.f7.params[j]? = some t → args[j]? = some v → Value.okWide Try.prog W .any base t v := hval0
  have hW' := hW
  obtain ⟨p, q, hA0, hV, rfl, hfz, hnd⟩ := hW
  have hA : DataW.TrodAll enc Try.prog W 0 (fun _ => true) true Try.f7.params.toList args.toList ds p := hA0
  rw [Try.params7] at hA hval
  obtain ⟨v0, vs0, d0, ds0, p0, q0, hargs, rfl, rfl, h0, r0⟩ := trodAll_cons hA
  obtain ⟨v1, vs1, d1, ds1, p1, q1, rfl, rfl, rfl, h1, r1⟩ := trodAll_cons r0
  obtain ⟨rfl, rfl, rfl⟩ := trodAll_nil r1
  obtain rfl : args = #[v0, v1] := by cases args; simp_all
  obtain ⟨rfl, rfl⟩ := trodVars_none hV
  have k0 := h0
  have lt0 : ∀ x ∈ p0, x.block < W.heap.size := by obtain ⟨m, hm⟩ := k0; exact DataW.trod_lt m _ _ _ hm
  obtain ⟨x0, w0⟩ := arg_ints (hval 0 22 v0 rfl rfl) h0
  obtain ⟨a1, rfl, rfl, rfl, w1⟩ := open_int Try.underlying3 (hval 1 3 v1 rfl rfl) h1
  clear hA0 hval0
  refine (law_WrongShutters v0 x0 a1 W w0).mono fun e W' ⟨he, bel⟩ => ?_
  subst he
  exact ⟨_, rfl, _, _, _, [], _, [], hW', trodAll_mk1 (shut_bool Try.underlying4 _), (trodAll_cons_mk (Below.trod laidOut_Ythjfkgddanaioaa (by kernel_rfl) (of_decide_eq_true (by kernel_rfl)) k0 bel lt0) (trodAll_cons_mk (shut_int Try.underlying3 w1) trodAll_mk0)), rfl, bel.frame _, fun h => by cases h⟩

theorem holds_FnExactWrongShutters : Rows.FnExactWrongShuttersSaid :=
  OpenClaim.holds_of_wide 7 Try.f7 rfl rfl rfl rfl rfl rfl rfl ⟨rfl, rfl, rfl, rfl, rfl⟩ rfl rfl rfl rfl rfl (by kernel_rfl) Try.func7 (by kernel_rfl)
    (of_decide_eq_true (by kernel_rfl)) (by unfold Func.isWrapper; first | (rw [if_pos (by decide +kernel)]; kernel_rfl) | (rw [if_neg (by decide +kernel)]; exact ⟨rfl, rfl⟩))
    (fun os started H enc _ => lifted_FnExactWrongShutters os started H enc)
end Go.Proofs.Ythjfkgddanaioaa
