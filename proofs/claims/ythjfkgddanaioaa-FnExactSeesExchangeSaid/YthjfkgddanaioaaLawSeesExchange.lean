
/- FnExactSeesExchange: for every slice of ints and all ints the call returns true. No condition. -/
import Derived.Test.YthjfkgddanaioaaSwap
import Derived.Test.YthjfkgddanaioaaArgInts
namespace Go.Proofs.Ythjfkgddanaioaa
open Go.ChangeShapes Go.WideShapes Go.ChangeAt Go.RowKit
open Go.ChangeMaps (open_string shut_string)
set_option linter.unusedVariables false
set_option maxRecDepth 100000 in
set_option maxHeartbeats 1000000 in
theorem law_SeesExchange (v : Value) (xs : List Int) (i k : Int) (w : World) (h : ArgInts w v xs) :
    Calls Try.prog 5 #[v, .int .i64 i, .int .i64 k] w fun e w' => e = .returned (.bool true) ∧ Ext w w' := by
  obtain ⟨hG, _⟩ := h
  have h0 := hG
  obtain ⟨a, cap, rfl, m1, m2, _⟩ := h0
  have H := Lib.hid hG
  clear hG
  by_cases hbig : xs.length ≤ 1048576
  · have hb2 : ¬ (1048576 < (xs.length : Int)) := by omega
    go_enter Try.func5, Try.ntmps5
    go_wp2_with fail
    refine (c_toIntS _ _ _ xs w H.out hbig).mono ?_
    rintro e W1 ⟨v1, rfl, ho1, X1⟩
    have R1 := Lib.hid (Row.of_own encI_len ho1)
    clear ho1
    go_wp2_with fail
    refine (c_sSeesExchange _ _ _ xs i k W1 R1.out (Nat.le_refl _)).mono ?_
    rintro e W1b ⟨rfl, X1b⟩
    have X1 := X1.trans X1b
    go_wp2_with fail
    refine (c_toIntS _ _ _ xs W1b (H.out.ext X1 (Nat.le_refl _)) hbig).mono ?_
    rintro e W2 ⟨v2, rfl, ho2, X2⟩
    have R2 := Lib.hid (Row.of_own encI_len ho2)
    clear ho2
    go_wp2_with fail
    refine (c_iSeesExchange _ _ _ xs i k W2 R2.out (Nat.le_refl _)).mono ?_
    rintro e W2b ⟨rfl, X2b⟩
    have R2b := Lib.hid (R2.out.ext X2b (Nat.le_refl _))
    have hs2 := X2b.size
    have X2 := X2.trans X2b
    go_wp2_with fail
    refine (c_toIntS _ _ _ xs W2b (H.out.ext (X1.trans X2) (Nat.le_refl _)) hbig).mono ?_
    rintro e W3 ⟨v3, rfl, ho3, X3⟩
    have R3 := Lib.hid (Row.of_own encI_len ho3)
    clear ho3
    go_wp2_with fail
    refine (c_eqIntS _ _ _ _ _ _ xs xs W3 (R2b.out.ext X3 hs2) R3.out).mono ?_
    rw [decide_eq_true rfl]
    rintro e W4 ⟨rfl, X4⟩
    go_wp2
    go_ret
    exact ⟨rfl, ((X1.trans X2).trans X3).trans X4⟩
  · have hb2 : 1048576 < (xs.length : Int) := by omega
    go_enter Try.func5, Try.ntmps5
    go_wp2
    go_ret
    exact ⟨rfl, Ext.refl _⟩
set_option maxRecDepth 100000 in
theorem lifted_FnExactSeesExchange (os : Os) (started : os.Started) (H : Type) (enc : TypeId × Value → H) :
    ReturnsInHanded {} Try.checked os 5 .any (Rows.fnExactSeesExchangeSpec.pre6 enc Try.prog Try.f5 Rows.fnExactSeesExchangeRow.domain false) (Rows.fnExactSeesExchangeSpec.post enc Try.prog Try.f5 false true false false) := by
  refine returnsInHanded_of_change (C := Try.checked) own_Ythjfkgddanaioaa started (by kernel_rfl) Try.func5
    (ChangeSpec.witness6 (enc := enc) (C := Try.checked) false ⟨#[], #[.slice none 0 0, .int .i64 0, .int .i64 0], []⟩ 8 (by kernel_rfl) (by kernel_rfl) (by kernel_rfl) (by kernel_rfl)) ?_
  intro W base args ds gs before hval0 hW hcnd _
  have hval : ∀ (j : Nat) t v, Try.f5.params[j]? = some t → args[j]? = some v → Value.okWide Try.prog W .any base t v := hval0
  have hW' := hW
  obtain ⟨p, q, hA0, hV, rfl, hfz, hnd⟩ := hW
  have hA : DataW.TrodAll enc Try.prog W 0 (fun _ => true) true Try.f5.params.toList args.toList ds p := hA0
  rw [Try.params5] at hA hval
  obtain ⟨v0, vs0, d0, ds0, p0, q0, hargs, rfl, rfl, h0, r0⟩ := trodAll_cons hA
  obtain ⟨v1, vs1, d1, ds1, p1, q1, rfl, rfl, rfl, h1, r1⟩ := trodAll_cons r0
  obtain ⟨v2, vs2, d2, ds2, p2, q2, rfl, rfl, rfl, h2, r2⟩ := trodAll_cons r1
  obtain ⟨rfl, rfl, rfl⟩ := trodAll_nil r2
  obtain rfl : args = #[v0, v1, v2] := by cases args; simp_all
  obtain ⟨rfl, rfl⟩ := trodVars_none hV
  have k0 := h0
  have lt0 : ∀ x ∈ p0, x.block < W.heap.size := by obtain ⟨m, hm⟩ := k0; exact DataW.trod_lt m _ _ _ hm
  obtain ⟨x0, w0⟩ := arg_ints (hval 0 22 v0 rfl rfl) h0
  obtain ⟨a1, rfl, rfl, rfl, w1⟩ := open_int Try.underlying3 (hval 1 3 v1 rfl rfl) h1
  obtain ⟨a2, rfl, rfl, rfl, w2⟩ := open_int Try.underlying3 (hval 2 3 v2 rfl rfl) h2
  clear hA0 hval0
  refine (law_SeesExchange v0 x0 a1 a2 W w0).mono fun e W' ⟨he, bel⟩ => ?_
  subst he
  exact ⟨_, rfl, _, _, _, [], _, [], hW', trodAll_mk1 (shut_bool Try.underlying4 _), (trodAll_cons_mk (Below.trod laidOut_Ythjfkgddanaioaa (by kernel_rfl) (of_decide_eq_true (by kernel_rfl)) k0 bel lt0) (trodAll_cons_mk (shut_int Try.underlying3 w1) (trodAll_cons_mk (shut_int Try.underlying3 w2) trodAll_mk0))), rfl, bel.frame _, fun h => by cases h⟩

theorem holds_FnExactSeesExchange : Rows.FnExactSeesExchangeSaid :=
  OpenClaim.holds_of_wide 5 Try.f5 rfl rfl rfl rfl rfl rfl rfl ⟨rfl, rfl, rfl, rfl, rfl⟩ rfl rfl rfl rfl rfl (by kernel_rfl) Try.func5 (by kernel_rfl)
    (of_decide_eq_true (by kernel_rfl)) (by unfold Func.isWrapper; first | (rw [if_pos (by decide +kernel)]; kernel_rfl) | (rw [if_neg (by decide +kernel)]; exact ⟨rfl, rfl⟩))
    (fun os started H enc _ => lifted_FnExactSeesExchange os started H enc)
end Go.Proofs.Ythjfkgddanaioaa
