
/- FnExactCountCovers: for all arguments the call returns true. No condition. -/
import Derived.Test.YtlfbjdmelnhcnaaCount
import Derived.Test.YtlfbjdmelnhcnaaArgSS
namespace Go.Proofs.Ytlfbjdmelnhcnaa
open Go.ChangeShapes Go.WideShapes Go.ChangeAt Go.RowKit
open Go.ChangeMaps (open_string shut_string)
set_option linter.unusedVariables false
set_option maxRecDepth 100000 in
set_option maxHeartbeats 4000000 in
theorem law_CountCovers (v0 : Value) (x0 : List (List Int)) (x1 : Int) (x2 : Int) (w : World) (h0 : ArgSS w v0 x0) :
    Calls Try.prog 7 #[v0, .int .i64 x1, .int .i64 x2] w fun e w' => e = .returned (.bool true) ∧ Ext w w' := by
  obtain ⟨hG0, _⟩ := h0
  obtain ⟨a0, cap0, rfl, m0, m0b⟩ := hG0.form
  have H0 := Lib.hid hG0
  clear hG0
  obtain ⟨r0, hr50⟩ : ∃ r, r = (ccV x0 x1 x2) := ⟨_, rfl⟩
  obtain ⟨r1, hr51⟩ : ∃ r, r = (ccOk x0 x1 x2) := ⟨_, rfl⟩
  have CS : Hid (∀ W v0 lo0 hi0, Intss W lo0 hi0 v0 x0 → hi0 ≤ W.heap.size → Calls Try.prog 31 #[v0, .int .i64 x1, .int .i64 x2] W fun e w' => e = .returned (.tuple #[.int .i64 r0, .bool r1]) ∧ Ext W w') :=
    fun W v0 lo0 hi0 hr0 hh0 => by rw [hr50, hr51]; exact c_sCount v0 lo0 hi0 x0 x1 x2 W hr0 hh0
  have CI : Hid (∀ W v0 lo0 hi0, Intss W lo0 hi0 v0 x0 → hi0 ≤ W.heap.size → Calls Try.prog 32 #[v0, .int .i64 x1, .int .i64 x2] W fun e w' => e = .returned (.tuple #[.int .i64 r0, .bool r1]) ∧ Ext W w') :=
    fun W v0 lo0 hi0 hr0 hh0 => by rw [hr50, hr51]; exact c_iCount v0 lo0 hi0 x0 x1 x2 W hr0 hh0
  clear hr50 hr51
  obtain ⟨N0, hN0⟩ : ∃ N : Int, N = ((x0.length + tot x0 : Nat) : Int) := ⟨_, rfl⟩
  have hN00 : 0 ≤ N0 := by omega
  by_cases hsz0 : N0 ≤ 1048576
  · have CZ0 : Hid (∀ W, Ext w W → Calls Try.prog 15 #[.slice a0 x0.length cap0, .int .i64 (1048576)] W fun e w' => e = .returned (.int .i64 (1048576 - N0)) ∧ W = w') := fun W hX => by
      have e := c_szIntSS _ _ _ x0 (1048576) W (H0.out.ext hX (Nat.le_refl _)) (by omega) (by omega)
      rw [← hN0, szL_pos hsz0] at e
      exact e
    have hz0 : x0.length + tot x0 ≤ 1048576 := by omega
    have hsn0 : ¬ (1048576 - N0 < 0) := by omega
    have HN0 := Lib.hid hN0
    clear hN0
    have CT0 : Hid (∀ W, Ext w W → Calls Try.prog 17 #[.slice a0 x0.length cap0] W fun e w' => ∃ v, e = .returned v ∧ OwnSS w' W.heap.size w'.heap.size v x0 ∧ Ext W w') :=
      fun W hX => c_toIntSS _ 0 w.heap.size x0 W (H0.out.ext hX (Nat.le_refl _)) hX.size hz0
    go_enter Try.func7, Try.ntmps7
    have X := Lib.hid (Ext.refl w)
    go_wp2_with fail
    refine (CZ0.out w X.out).mono ?_
    rintro e w' ⟨rfl, rfl⟩
    go_wp2_with fail
    refine (CT0.out w X.out).mono ?_
    rintro e W1 ⟨p0, rfl, hp0, Y⟩
    have s1 := Y.size
    have T__ := Lib.hid (X.out.trans Y)
    clear X
    have X := T__
    clear T__
    have Op0 := Lib.hid hp0
    obtain ⟨adp0, cdp0, rfl, _, _⟩ := (Op0.out.form)
    clear hp0 Y
    go_wp2_with fail
    refine (CS.out W1 _ _ _ (Op0.out.read) (by omega)).mono ?_
    rintro e W2 ⟨rfl, Y⟩
    have s2 := Y.size
    have T__ := Lib.hid (X.out.trans Y)
    clear X
    have X := T__
    clear T__
    have T__ := Lib.hid (Op0.out.ext Y)
    clear Op0
    have Op0 := T__
    clear T__
    clear Y
    clear Op0
    go_wp2_with fail
    refine (CT0.out W2 X.out).mono ?_
    rintro e W3 ⟨q0, rfl, hq0, Y⟩
    have s3 := Y.size
    have T__ := Lib.hid (X.out.trans Y)
    clear X
    have X := T__
    clear T__
    have Oq0 := Lib.hid hq0
    obtain ⟨adq0, cdq0, rfl, _, _⟩ := (Oq0.out.form)
    clear hq0 Y
    go_wp2_with fail
    refine (CI.out W3 _ _ _ (Oq0.out.read) (by omega)).mono ?_
    rintro e W4 ⟨rfl, Y⟩
    have s4 := Y.size
    have T__ := Lib.hid (X.out.trans Y)
    clear X
    have X := T__
    clear T__
    have T__ := Lib.hid (Oq0.out.ext Y)
    clear Oq0
    have Oq0 := T__
    clear T__
    clear Y
    go_wp2_with fail
    refine (CT0.out W4 X.out).mono ?_
    rintro e W5 ⟨u0, rfl, hu0, Y⟩
    have s5 := Y.size
    have T__ := Lib.hid (X.out.trans Y)
    clear X
    have X := T__
    clear T__
    have T__ := Lib.hid (Oq0.out.ext Y)
    clear Oq0
    have Oq0 := T__
    clear T__
    have Ou0 := Lib.hid hu0
    obtain ⟨adu0, cdu0, rfl, _, _⟩ := (Ou0.out.form)
    clear hu0 Y
    go_wp2_with fail
    refine (c_eqIntSS _ _ _ _ _ _ x0 x0 W5 (Oq0.out.read) (Ou0.out.read) (by omega) (by omega)).mono ?_
    rw [decide_eq_true rfl]
    rintro e W6 ⟨rfl, Y⟩
    have s6 := Y.size
    have T__ := Lib.hid (X.out.trans Y)
    clear X
    have X := T__
    clear T__
    have T__ := Lib.hid (Oq0.out.ext Y)
    clear Oq0
    have Oq0 := T__
    clear T__
    have T__ := Lib.hid (Ou0.out.ext Y)
    clear Ou0
    have Ou0 := T__
    clear T__
    clear Y
    clear Ou0
    go_wp2
    go_ret
    exact ⟨rfl, X.out⟩
  · have CZ0 : Hid (∀ W, Ext w W → Calls Try.prog 15 #[.slice a0 x0.length cap0, .int .i64 (1048576)] W fun e w' => e = .returned (.int .i64 (-1)) ∧ W = w') := fun W hX => by
      have e := c_szIntSS _ _ _ x0 (1048576) W (H0.out.ext hX (Nat.le_refl _)) (by omega) (by omega)
      rw [← hN0, szL_neg (by omega)] at e
      exact e
    have HN0 := Lib.hid hN0
    clear hN0
    go_enter Try.func7, Try.ntmps7
    have X := Lib.hid (Ext.refl w)
    have s0 := Nat.le_refl w.heap.size
    go_wp2_with fail
    refine (CZ0.out w X.out).mono ?_
    rintro e w' ⟨rfl, rfl⟩
    go_wp2
    go_ret
    exact ⟨rfl, X.out⟩
set_option maxRecDepth 100000 in
theorem lifted_FnExactCountCovers (os : Os) (started : os.Started) (H : Type) (enc : TypeId × Value → H) :
    ReturnsInHanded {} Try.checked os 7 .any (Rows.fnExactCountCoversSpec.pre6 enc Try.prog Try.f7 Rows.fnExactCountCoversRow.domain false) (Rows.fnExactCountCoversSpec.post enc Try.prog Try.f7 false true false false) := by
  refine returnsInHanded_of_change (C := Try.checked) own_Ytlfbjdmelnhcnaa started (by kernel_rfl) Try.func7
    (ChangeSpec.witness6 (enc := enc) (C := Try.checked) false ⟨#[], #[.slice none 0 0, .int .i64 0, .int .i64 0], []⟩ 8 (by kernel_rfl) (by kernel_rfl) (by kernel_rfl) (by kernel_rfl)) ?_
  intro W base args ds gs before hval0 hW hcnd _
  have hval : ∀ (j : Nat) t v, Try.f7.params[j]? = some t → args[j]? = some v → Value.okWide Try.prog W .any base t v := hval0
  have hW' := hW
  obtain ⟨p, q, hA0, hV, rfl, hfz, hnd⟩ := hW
  have hA : DataW.TrodAll enc Try.prog W 0 (fun _ => true) true Try.f7.params.toList args.toList ds p := hA0
  rw [Try.params7] at hA hval
  obtain ⟨v0, vs0, d0, ds0, p0, q0, hargs, rfl, rfl, h0, r0⟩ := trodAll_cons hA
  obtain ⟨v1, vs1, d1, ds1, p1, q1, rfl, rfl, rfl, h1, r1⟩ := trodAll_cons r0
  obtain ⟨v2, vs2, d2, ds2, p2, q2, rfl, rfl, rfl, h2, r2⟩ := trodAll_cons r1
  obtain ⟨rfl, rfl, rfl⟩ := trodAll_nil r2
  obtain rfl : args = #[v0, v1, v2] := by cases args; simp_all
  obtain ⟨rfl, rfl⟩ := trodVars_none hV
  have k0 := h0
  have lt0 : ∀ x ∈ p0, x.block < W.heap.size := by obtain ⟨m, hm⟩ := k0; exact DataW.trod_lt m _ _ _ hm
  obtain ⟨x0, w0⟩ := arg_intss (hval 0 22 v0 rfl rfl) h0
  obtain ⟨a1, rfl, rfl, rfl, w1⟩ := open_int Try.underlying3 (hval 1 3 v1 rfl rfl) h1
  obtain ⟨a2, rfl, rfl, rfl, w2⟩ := open_int Try.underlying3 (hval 2 3 v2 rfl rfl) h2
  clear hA0 hval0
  refine (law_CountCovers v0 x0 a1 a2 W w0).mono fun e W' ⟨he, bel⟩ => ?_
  subst he
  exact ⟨_, rfl, _, _, _, [], _, [], hW', trodAll_mk1 (shut_bool Try.underlying4 _), (trodAll_cons_mk (Below.trod laidOut_Ytlfbjdmelnhcnaa (by kernel_rfl) (of_decide_eq_true (by kernel_rfl)) k0 bel lt0) (trodAll_cons_mk (shut_int Try.underlying3 w1) (trodAll_cons_mk (shut_int Try.underlying3 w2) trodAll_mk0))), rfl, bel.frame _, fun h => by cases h⟩

theorem holds_FnExactCountCovers : Rows.FnExactCountCoversSaid :=
  OpenClaim.holds_of_wide 7 Try.f7 rfl rfl rfl rfl rfl rfl rfl ⟨rfl, rfl, rfl, rfl, rfl⟩ rfl rfl rfl rfl rfl (by kernel_rfl) Try.func7 (by kernel_rfl)
    (of_decide_eq_true (by kernel_rfl)) (by unfold Func.isWrapper; first | (rw [if_pos (by decide +kernel)]; kernel_rfl) | (rw [if_neg (by decide +kernel)]; exact ⟨rfl, rfl⟩))
    (fun os started H enc _ => lifted_FnExactCountCovers os started H enc)
end Go.Proofs.Ytlfbjdmelnhcnaa
