
/- FnExactPairChecks: for every slice of ints the call returns true. No condition. -/
import Derived.Test.YthjfkgddanaioaaPair
import Derived.Test.YthjfkgddanaioaaArgInts
namespace Go.Proofs.Ythjfkgddanaioaa
open Go.ChangeShapes Go.WideShapes Go.ChangeAt Go.RowKit
open Go.ChangeMaps (open_string shut_string)
set_option linter.unusedVariables false
set_option maxRecDepth 100000 in
set_option maxHeartbeats 1000000 in
theorem law_PairChecks (v : Value) (xs : List Int)  (w : World) (h : ArgInts w v xs) :
    Calls Try.prog 6 #[v] w fun e w' => e = .returned (.bool true) ∧ Ext w w' := by
  obtain ⟨hG, _⟩ := h
  have h0 := hG
  obtain ⟨a, cap, rfl, m1, m2, _⟩ := h0
  have H := Lib.hid hG
  clear hG
  by_cases hbig : xs.length ≤ 1048576
  · have hb2 : ¬ (1048576 < (xs.length : Int)) := by omega
    go_enter Try.func6, Try.ntmps6
    go_wp2_with fail
    refine (c_toIntS _ _ _ xs w H.out hbig).mono ?_
    rintro e W1 ⟨v1, rfl, ho1, X1⟩
    have R1 := Lib.hid (Row.of_own encI_len ho1)
    clear ho1
    go_wp2_with fail
    refine (c_sPairChecks _ _ _ xs W1 R1.out).mono ?_
    rintro e w' ⟨rfl, rfl⟩
    go_wp2_with fail
    refine (c_toIntS _ _ _ xs W1 (H.out.ext X1 (Nat.le_refl _)) hbig).mono ?_
    rintro e W2 ⟨v2, rfl, ho2, X2⟩
    have R2 := Lib.hid (Row.of_own encI_len ho2)
    clear ho2
    go_wp2_with fail
    refine (c_iPairChecks _ _ _ xs W2 R2.out).mono ?_
    rintro e w' ⟨rfl, rfl⟩
    go_wp2_with fail
    refine (c_toIntS _ _ _ xs W2 (H.out.ext (X1.trans X2) (Nat.le_refl _)) hbig).mono ?_
    rintro e W3 ⟨v3, rfl, ho3, X3⟩
    have R3 := Lib.hid (Row.of_own encI_len ho3)
    clear ho3
    go_wp2_with fail
    refine (c_eqIntS _ _ _ _ _ _ xs xs W3 (R2.out.ext X3 (Nat.le_refl _)) R3.out).mono ?_
    rw [decide_eq_true rfl]
    rintro e W4 ⟨rfl, X4⟩
    go_wp2
    go_ret
    exact ⟨rfl, ((X1.trans X2).trans X3).trans X4⟩
  · have hb2 : 1048576 < (xs.length : Int) := by omega
    go_enter Try.func6, Try.ntmps6
    go_wp2
    go_ret
    exact ⟨rfl, Ext.refl _⟩
set_option maxRecDepth 100000 in
theorem lifted_FnExactPairChecks (os : Os) (started : os.Started) (H : Type) (enc : TypeId × Value → H) :
    ReturnsInHanded {} Try.checked os 6 .any (Rows.fnExactPairChecksSpec.pre6 enc Try.prog Try.f6 Rows.fnExactPairChecksRow.domain false) (Rows.fnExactPairChecksSpec.post enc Try.prog Try.f6 false true false false) := by
  refine returnsInHanded_of_change (C := Try.checked) own_Ythjfkgddanaioaa started (by kernel_rfl) Try.func6
    (ChangeSpec.witness6 (enc := enc) (C := Try.checked) false ⟨#[], #[.slice none 0 0], []⟩ 8 (by kernel_rfl) (by kernel_rfl) (by kernel_rfl) (by kernel_rfl)) ?_
  intro W base args ds gs before hval0 hW hcnd _
  have hval : ∀ (j : Nat) t v, Try.f6.params[j]? = some t → args[j]? = some v → Value.okWide Try.prog W .any base t v := hval0
  have hW' := hW
  obtain ⟨p, q, hA0, hV, rfl, hfz, hnd⟩ := hW
  have hA : DataW.TrodAll enc Try.prog W 0 (fun _ => true) true Try.f6.params.toList args.toList ds p := hA0
  rw [Try.params6] at hA hval
  obtain ⟨v0, vs0, d0, ds0, p0, q0, hargs, rfl, rfl, h0, r0⟩ := trodAll_cons hA
  obtain ⟨rfl, rfl, rfl⟩ := trodAll_nil r0
  obtain rfl : args = #[v0] := by cases args; simp_all
  obtain ⟨rfl, rfl⟩ := trodVars_none hV
  have k0 := h0
  have lt0 : ∀ x ∈ p0, x.block < W.heap.size := by obtain ⟨m, hm⟩ := k0; exact DataW.trod_lt m _ _ _ hm
  obtain ⟨x0, w0⟩ := arg_ints (hval 0 22 v0 rfl rfl) h0
  clear hA0 hval0
  refine (law_PairChecks v0 x0 W w0).mono fun e W' ⟨he, bel⟩ => ?_
  subst he
  exact ⟨_, rfl, _, _, _, [], _, [], hW', trodAll_mk1 (shut_bool Try.underlying4 _), (trodAll_cons_mk (Below.trod laidOut_Ythjfkgddanaioaa (by kernel_rfl) (of_decide_eq_true (by kernel_rfl)) k0 bel lt0) trodAll_mk0), rfl, bel.frame _, fun h => by cases h⟩

theorem holds_FnExactPairChecks : Rows.FnExactPairChecksSaid :=
  OpenClaim.holds_of_wide 6 Try.f6 rfl rfl rfl rfl rfl rfl rfl ⟨rfl, rfl, rfl, rfl, rfl⟩ rfl rfl rfl rfl rfl (by kernel_rfl) Try.func6 (by kernel_rfl)
    (of_decide_eq_true (by kernel_rfl)) (by unfold Func.isWrapper; first | (rw [if_pos (by decide +kernel)]; kernel_rfl) | (rw [if_neg (by decide +kernel)]; exact ⟨rfl, rfl⟩))
    (fun os started H enc _ => lifted_FnExactPairChecks os started H enc)
end Go.Proofs.Ythjfkgddanaioaa
