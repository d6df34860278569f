
/- FnExactMostApart: for all arguments the call returns true. No condition. -/
import Derived.Test.YtiofckbdjifdpaaMost3
import Derived.Test.YtiofckbdjifdpaaArgSS
namespace Go.Proofs.Ytiofckbdjifdpaa
open Go.ChangeShapes Go.WideShapes Go.ChangeAt Go.RowKit
open Go.ChangeMaps (open_string shut_string)
set_option linter.unusedVariables false
set_option maxRecDepth 100000 in
set_option maxHeartbeats 4000000 in
theorem law_MostApart (v0 : Value) (x0 : List (List Int)) (x1 : Int) (w : World) (h0 : ArgSS w v0 x0) :
    Calls Try.prog 3 #[v0, .int .i64 x1] w fun e w' => e = .returned (.bool true) ∧ Ext w w' := by
  obtain ⟨hG0, _⟩ := h0
  obtain ⟨a0, cap0, rfl, m0, m0b⟩ := hG0.form
  have H0 := Lib.hid hG0
  clear hG0
  obtain ⟨ys, hys⟩ : ∃ ys, ys = maV x0 x1 := ⟨_, rfl⟩
  obtain ⟨ok, hok⟩ : ∃ ok, ok = sitesB x0 x1 := ⟨_, rfl⟩
  have hyl0 : Hid (x0.length + tot x0 ≤ 1048576 → ys.length ≤ 1099511627776) := fun hz0 => by rw [hys]; exact maV_len x0 x1
  have CS : Hid (∀ W v0 lo0 hi0, Intss W lo0 hi0 v0 x0 → hi0 ≤ W.heap.size → Calls Try.prog 7 #[v0, .int .i64 x1] W fun e w' => ∃ r, e = .returned (.tuple #[r, .bool ok]) ∧ w'.ownsRow W.heap.size 3 1 r ys.length (ys.flatMap encI) ∧ Ext W w') :=
    fun W v0 lo0 hi0 hr0 hh0 => by rw [hys, hok]; exact c_sMost v0 lo0 hi0 x0 x1 W hr0 hh0
  have CI : Hid (∀ W v0 lo0 hi0, Intss W lo0 hi0 v0 x0 → hi0 ≤ W.heap.size → Calls Try.prog 9 #[v0, .int .i64 x1] W fun e w' => ∃ r, e = .returned (.tuple #[r, .bool ok]) ∧ w'.ownsRow W.heap.size 3 1 r ys.length (ys.flatMap encI) ∧ Ext W w') :=
    fun W v0 lo0 hi0 hr0 hh0 => by rw [hys, hok]; exact c_iMost v0 lo0 hi0 x0 x1 W hr0 hh0
  clear hys hok
  obtain ⟨N0, hN0⟩ : ∃ N : Int, N = ((x0.length + tot x0 : Nat) : Int) := ⟨_, rfl⟩
  have hN00 : 0 ≤ N0 := by omega
  by_cases hsz0 : N0 ≤ 1048576
  · have CZ0 : Hid (∀ W, Ext w W → Calls Try.prog 6 #[.slice a0 x0.length cap0, .int .i64 (1048576)] W fun e w' => e = .returned (.int .i64 (1048576 - N0)) ∧ W = w') := fun W hX => by
      have e := c_szIntSS _ _ _ x0 (1048576) W (H0.out.ext hX (Nat.le_refl _)) (by omega) (by omega)
      rw [← hN0, szL_pos hsz0] at e
      exact e
    have hz0 : x0.length + tot x0 ≤ 1048576 := by omega
    have hsn0 : ¬ (1048576 - N0 < 0) := by omega
    have HN0 := Lib.hid hN0
    clear hN0
    have CT0 : Hid (∀ W, Ext w W → Calls Try.prog 8 #[.slice a0 x0.length cap0] W fun e w' => ∃ v, e = .returned v ∧ OwnSS w' W.heap.size w'.heap.size v x0 ∧ Ext W w') :=
      fun W hX => c_toIntSS _ 0 w.heap.size x0 W (H0.out.ext hX (Nat.le_refl _)) hX.size hz0
    have hyl := hyl0.out hz0
    have hyI : (0 : Int) ≤ (ys.length : Int) := by omega
    have hyI2 : (ys.length : Int) ≤ 1099511627776 := by omega
    clear hyl0
    cases ok
    all_goals
      go_enter Try.func3, Try.ntmps3
      have X := Lib.hid (Ext.refl w)
      go_wp2_with fail
      refine (CZ0.out w X.out).mono ?_
      rintro e w' ⟨rfl, rfl⟩
      go_wp2_with fail
      refine (CT0.out w X.out).mono ?_
      rintro e W1 ⟨p0, rfl, hp0, Y⟩
      have s1 := Y.size
      have T__ := Lib.hid (X.out.trans Y)
      clear X
      have X := T__
      clear T__
      have Op0 := Lib.hid hp0
      obtain ⟨adp0, cdp0, rfl, _, _⟩ := (Op0.out.form)
      clear hp0 Y
      go_wp2_with fail
      refine (CS.out W1 _ _ _ (Op0.out.read) (by omega)).mono ?_
      rintro e W2 ⟨s, rfl, hs, Y⟩
      have s2 := Y.size
      have T__ := Lib.hid (X.out.trans Y)
      clear X
      have X := T__
      clear T__
      have T__ := Lib.hid (Op0.out.ext Y)
      clear Op0
      have Op0 := T__
      clear T__
      have Os := Lib.hid (OwnI.of hs)
      obtain ⟨ads, cds, rfl, _, _⟩ := (Os.out.form)
      clear hs Y
      clear Op0
      go_wp2_with fail
      refine (CT0.out W2 X.out).mono ?_
      rintro e W3 ⟨q0, rfl, hq0, Y⟩
      have s3 := Y.size
      have T__ := Lib.hid (X.out.trans Y)
      clear X
      have X := T__
      clear T__
      have T__ := Lib.hid (Os.out.ext Y)
      clear Os
      have Os := T__
      clear T__
      have Oq0 := Lib.hid hq0
      obtain ⟨adq0, cdq0, rfl, _, _⟩ := (Oq0.out.form)
      clear hq0 Y
      go_wp2_with fail
      refine (CI.out W3 _ _ _ (Oq0.out.read) (by omega)).mono ?_
      rintro e W4 ⟨g, rfl, hg, Y⟩
      have s4 := Y.size
      have T__ := Lib.hid (X.out.trans Y)
      clear X
      have X := T__
      clear T__
      have T__ := Lib.hid (Os.out.ext Y)
      clear Os
      have Os := T__
      clear T__
      have T__ := Lib.hid (Oq0.out.ext Y)
      clear Oq0
      have Oq0 := T__
      clear T__
      have Og := Lib.hid (OwnI.of hg)
      obtain ⟨adg, cdg, rfl, _, _⟩ := (Og.out.form)
      clear hg Y
      go_wp2_with fail
      refine (c_eqIntS _ _ _ _ _ _ ys ys W4 Og.out.read Os.out.read).mono ?_
      rw [decide_eq_true rfl]
      rintro e W5 ⟨rfl, Y⟩
      have s5 := Y.size
      have T__ := Lib.hid (X.out.trans Y)
      clear X
      have X := T__
      clear T__
      have T__ := Lib.hid (Os.out.ext Y)
      clear Os
      have Os := T__
      clear T__
      have T__ := Lib.hid (Oq0.out.ext Y)
      clear Oq0
      have Oq0 := T__
      clear T__
      have T__ := Lib.hid (Og.out.ext Y)
      clear Og
      have Og := T__
      clear T__
      clear Y
      go_wp2_with fail
      refine (CT0.out W5 X.out).mono ?_
      rintro e W6 ⟨u0, rfl, hu0, Y⟩
      have s6 := Y.size
      have T__ := Lib.hid (X.out.trans Y)
      clear X
      have X := T__
      clear T__
      have T__ := Lib.hid (Os.out.ext Y)
      clear Os
      have Os := T__
      clear T__
      have T__ := Lib.hid (Oq0.out.ext Y)
      clear Oq0
      have Oq0 := T__
      clear T__
      have T__ := Lib.hid (Og.out.ext Y)
      clear Og
      have Og := T__
      clear T__
      have Ou0 := Lib.hid hu0
      obtain ⟨adu0, cdu0, rfl, _, _⟩ := (Ou0.out.form)
      clear hu0 Y
      go_wp2_with fail
      refine (c_eqIntSS _ _ _ _ _ _ x0 x0 W6 (Oq0.out.read) (Ou0.out.read) (by omega) (by omega)).mono ?_
      rw [decide_eq_true rfl]
      rintro e W7 ⟨rfl, Y⟩
      have s7 := Y.size
      have T__ := Lib.hid (X.out.trans Y)
      clear X
      have X := T__
      clear T__
      have T__ := Lib.hid (Os.out.ext Y)
      clear Os
      have Os := T__
      clear T__
      have T__ := Lib.hid (Oq0.out.ext Y)
      clear Oq0
      have Oq0 := T__
      clear T__
      have T__ := Lib.hid (Og.out.ext Y)
      clear Og
      have Og := T__
      clear T__
      have T__ := Lib.hid (Ou0.out.ext Y)
      clear Ou0
      have Ou0 := T__
      clear T__
      clear Y
      clear Ou0
      go_wp2_with fail
      refine (c_markIntSS _ _ _ x0 1 W7 Oq0.out (by omega) (by omega) (by omega)).mono ?_
      rintro e W8 ⟨rfl, Y⟩
      have s8 := Y.size
      have T__ := Lib.hid (X.out.keep Y (by omega))
      clear X
      have X := T__
      clear T__
      have T__ := Lib.hid (Os.out.keepd Y (by omega))
      clear Os
      have Os := T__
      clear T__
      have T__ := Lib.hid (Og.out.keepd Y (by omega))
      clear Og
      have Og := T__
      clear T__
      clear Y Oq0
      go_wp2_with fail
      refine (c_eqIntS _ _ _ _ _ _ ys ys W8 Og.out.read Os.out.read).mono ?_
      rw [decide_eq_true rfl]
      rintro e W9 ⟨rfl, Y⟩
      have s9 := Y.size
      have T__ := Lib.hid (X.out.trans Y)
      clear X
      have X := T__
      clear T__
      have T__ := Lib.hid (Os.out.ext Y)
      clear Os
      have Os := T__
      clear T__
      have T__ := Lib.hid (Og.out.ext Y)
      clear Og
      have Og := T__
      clear T__
      clear Y
      go_wp2_with fail
      refine (c_markI _ _ _ ys 1 W9 Og.out (by omega) (by omega) hyl).mono ?_
      rintro e W10 ⟨rfl, Y, hm⟩
      have M : Hid (MarkI W10 _ _ _ ys.length) := ⟨hm, Og.out.lt⟩
      have s10 := Y.size
      have T__ := Lib.hid (X.out.keep Y (by omega))
      clear X
      have X := T__
      clear T__
      have T__ := Lib.hid (Os.out.keepd Y (by omega))
      clear Os
      have Os := T__
      clear T__
      clear Y Og hm
      go_wp2_with fail
      refine (c_heldIntS _ ys.length _ 1 W10 M.out.own (by omega) (by omega) hyl).mono ?_
      rintro e w' ⟨rfl, rfl⟩
      go_wp2_with fail
      refine (CT0.out W10 X.out).mono ?_
      rintro e W11 ⟨r0, rfl, hr0, Y⟩
      have s11 := Y.size
      have T__ := Lib.hid (X.out.trans Y)
      clear X
      have X := T__
      clear T__
      have T__ := Lib.hid (Os.out.ext Y)
      clear Os
      have Os := T__
      clear T__
      have T__ := Lib.hid (M.out.ext Y)
      clear M
      have M := T__
      clear T__
      have Or0 := Lib.hid hr0
      obtain ⟨adr0, cdr0, rfl, _, _⟩ := (Or0.out.form)
      clear hr0 Y
      go_wp2_with fail
      refine (CI.out W11 _ _ _ (Or0.out.read) (by omega)).mono ?_
      rintro e W12 ⟨z, rfl, hz, Y⟩
      have s12 := Y.size
      have T__ := Lib.hid (X.out.trans Y)
      clear X
      have X := T__
      clear T__
      have T__ := Lib.hid (Os.out.ext Y)
      clear Os
      have Os := T__
      clear T__
      have T__ := Lib.hid (M.out.ext Y)
      clear M
      have M := T__
      clear T__
      have T__ := Lib.hid (Or0.out.ext Y)
      clear Or0
      have Or0 := T__
      clear T__
      have Oz := Lib.hid (OwnI.of hz)
      obtain ⟨adz, cdz, rfl, _, _⟩ := (Oz.out.form)
      clear hz Y
      go_wp2_with fail
      refine (c_eqIntS _ _ _ _ _ _ ys ys W12 Oz.out.read Os.out.read).mono ?_
      rw [decide_eq_true rfl]
      rintro e W13 ⟨rfl, Y⟩
      have s13 := Y.size
      have T__ := Lib.hid (X.out.trans Y)
      clear X
      have X := T__
      clear T__
      have T__ := Lib.hid (Os.out.ext Y)
      clear Os
      have Os := T__
      clear T__
      have T__ := Lib.hid (M.out.ext Y)
      clear M
      have M := T__
      clear T__
      have T__ := Lib.hid (Or0.out.ext Y)
      clear Or0
      have Or0 := T__
      clear T__
      have T__ := Lib.hid (Oz.out.ext Y)
      clear Oz
      have Oz := T__
      clear T__
      clear Y
      go_wp2_with fail
      refine (c_heldIntS _ ys.length _ 1 W13 M.out.own (by omega) (by omega) hyl).mono ?_
      rintro e w' ⟨rfl, rfl⟩
      go_wp2
      go_ret
      exact ⟨rfl, X.out⟩
  · have CZ0 : Hid (∀ W, Ext w W → Calls Try.prog 6 #[.slice a0 x0.length cap0, .int .i64 (1048576)] W fun e w' => e = .returned (.int .i64 (-1)) ∧ W = w') := fun W hX => by
      have e := c_szIntSS _ _ _ x0 (1048576) W (H0.out.ext hX (Nat.le_refl _)) (by omega) (by omega)
      rw [← hN0, szL_neg (by omega)] at e
      exact e
    have HN0 := Lib.hid hN0
    clear hN0
    go_enter Try.func3, Try.ntmps3
    have X := Lib.hid (Ext.refl w)
    have s0 := Nat.le_refl w.heap.size
    go_wp2_with fail
    refine (CZ0.out w X.out).mono ?_
    rintro e w' ⟨rfl, rfl⟩
    go_wp2
    go_ret
    exact ⟨rfl, X.out⟩
set_option maxRecDepth 100000 in
theorem lifted_FnExactMostApart (os : Os) (started : os.Started) (H : Type) (enc : TypeId × Value → H) :
    ReturnsInHanded {} Try.checked os 3 .any (Rows.fnExactMostApartSpec.pre6 enc Try.prog Try.f3 Rows.fnExactMostApartRow.domain false) (Rows.fnExactMostApartSpec.post enc Try.prog Try.f3 false true false false) := by
  refine returnsInHanded_of_change (C := Try.checked) own_Ytiofckbdjifdpaa started (by kernel_rfl) Try.func3
    (ChangeSpec.witness6 (enc := enc) (C := Try.checked) false ⟨#[], #[.slice none 0 0, .int .i64 0], []⟩ 8 (by kernel_rfl) (by kernel_rfl) (by kernel_rfl) (by kernel_rfl)) ?_
  intro W base args ds gs before hval0 hW hcnd _
  have hval : ∀ (j : Nat) t v, Try.f3.params[j]? = some t → args[j]? = some v → Value.okWide Try.prog W .any base t v := hval0
  have hW' := hW
  obtain ⟨p, q, hA0, hV, rfl, hfz, hnd⟩ := hW
  have hA : DataW.TrodAll enc Try.prog W 0 (fun _ => true) true Try.f3.params.toList args.toList ds p := hA0
  rw [Try.params3] at hA hval
  obtain ⟨v0, vs0, d0, ds0, p0, q0, hargs, rfl, rfl, h0, r0⟩ := trodAll_cons hA
  obtain ⟨v1, vs1, d1, ds1, p1, q1, rfl, rfl, rfl, h1, r1⟩ := trodAll_cons r0
  obtain ⟨rfl, rfl, rfl⟩ := trodAll_nil r1
  obtain rfl : args = #[v0, v1] := by cases args; simp_all
  obtain ⟨rfl, rfl⟩ := trodVars_none hV
  have k0 := h0
  have lt0 : ∀ x ∈ p0, x.block < W.heap.size := by obtain ⟨m, hm⟩ := k0; exact DataW.trod_lt m _ _ _ hm
  obtain ⟨x0, w0⟩ := arg_intss (hval 0 22 v0 rfl rfl) h0
  obtain ⟨a1, rfl, rfl, rfl, w1⟩ := open_int Try.underlying3 (hval 1 3 v1 rfl rfl) h1
  clear hA0 hval0
  refine (law_MostApart v0 x0 a1 W w0).mono fun e W' ⟨he, bel⟩ => ?_
  subst he
  exact ⟨_, rfl, _, _, _, [], _, [], hW', trodAll_mk1 (shut_bool Try.underlying4 _), (trodAll_cons_mk (Below.trod laidOut_Ytiofckbdjifdpaa (by kernel_rfl) (of_decide_eq_true (by kernel_rfl)) k0 bel lt0) (trodAll_cons_mk (shut_int Try.underlying3 w1) trodAll_mk0)), rfl, bel.frame _, fun h => by cases h⟩

theorem holds_FnExactMostApart : Rows.FnExactMostApartSaid :=
  OpenClaim.holds_of_wide 3 Try.f3 rfl rfl rfl rfl rfl rfl rfl ⟨rfl, rfl, rfl, rfl, rfl⟩ rfl rfl rfl rfl rfl (by kernel_rfl) Try.func3 (by kernel_rfl)
    (of_decide_eq_true (by kernel_rfl)) (by unfold Func.isWrapper; first | (rw [if_pos (by decide +kernel)]; kernel_rfl) | (rw [if_neg (by decide +kernel)]; exact ⟨rfl, rfl⟩))
    (fun os started H enc _ => lifted_FnExactMostApart os started H enc)
end Go.Proofs.Ytiofckbdjifdpaa
