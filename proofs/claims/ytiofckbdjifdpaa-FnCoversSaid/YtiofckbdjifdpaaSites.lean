
/- AreSites of the program and of the reference, and what they test: their contracts. -/
import Derived.Test.YtiofckbdjifdpaaStP
import Derived.Test.YtiofckbdjifdpaaSS
namespace Go.Proofs.Ytiofckbdjifdpaa
open Go.RowKit

set_option maxRecDepth 100000 in
theorem c_increasing (v : Value) (la ha : Nat) (xs : List Int) (w : World) (h : Ints w la ha v xs) :
    Calls Try.prog 53 #[v] w fun e w' => e = .returned (.bool (incP none xs)) ∧ Ext w w' := by
  obtain ⟨r, hr⟩ : ∃ r, r = incP none xs := ⟨_, rfl⟩
  rw [← hr]
  have HR := Lib.hid (hr.trans (incP_one xs))
  obtain ⟨a, cap, rfl, m1, m2⟩ := h.form
  have H := Lib.hid h
  obtain ⟨n, hn⟩ : ∃ n, n = xs.length := ⟨_, rfl⟩
  rw [← hn] at m1 H ⊢
  have HN := Lib.hid hn
  clear h hn hr
  go_enter Try.func53, Try.ntmps53
  go_wp2
  go_loopw [3] (fun t wr => ∃ k : Nat, 1 ≤ k ∧ k ≤ n + 1 ∧ t = .int .i64 k ∧ Ext w wr ∧ Hid (r = incP (pvI xs k) (xs.drop k))) (fun t _ => n - (intOf t).toNat)
  case atStart => exact ⟨1, by omega, by omega, rfl, Ext.refl _, HR.out⟩
  case round =>
    obtain ⟨k, hk1, hk, rfl, hx, hT⟩ := hrel
    by_cases hlt : k < n
    · obtain ⟨b, o, g, rfl, hg, c0⟩ := Ints_at H.out hlt
      obtain ⟨b', o', p, hbo, hp, c1⟩ := Ints_at H.out (k := k - 1) (by omega)
      simp only [Option.some.injEq, Addr.mk.injEq, and_true] at hbo
      obtain ⟨rfl, rfl⟩ := hbo
      have hs := hT.out.trans (incP_drop hg.out)
      have hpv : pvI xs k = some p := by unfold pvI; rw [if_neg (by omega)]; exact hp.out
      rw [hpv] at hs
      have e0 := XT.cell (hx.cell c0)
      have e1 := XT.cell (hx.cell c1)
      have hltI : (k : Int) < (n : Int) := by omega
      have hk1I : (1 : Int) ≤ (k : Int) := by omega
      clear c0 c1 hpv
      by_cases hpg : p < g
      · have hd : ¬ (g ≤ p) := by omega
        have HS : Hid (r = incP (pvI xs (k + 1)) (xs.drop (k + 1))) := by unfold Hid; rw [hs]; simp [hpg]
        clear hs
        go_wp2
        refine region_ext (by kernel_rfl) (by kernel_rfl) ?_
        repeat (go_big_quiet_step (fail))
        refine wpQuiet_nil ?_
        intro wq hxq
        go_wp2
        go_roundw
        case rel => exact ⟨k + 1, by omega, by omega, by go_num, hx.trans hxq, HS.out⟩
        case measure => simp [intOf]; omega
      · have hd : g ≤ p := by omega
        have HS : Hid (r = false) := by unfold Hid; rw [hs]; simp [hpg]
        clear hs
        go_wp2
        refine region_ext (by kernel_rfl) (by kernel_rfl) ?_
        repeat (go_big_quiet_step (fail))
        refine wpQuiet_nil ?_
        intro wq hxq
        go_wp2
        go_ret
        exact ⟨by rw [HS.out]; rfl, hx.trans hxq⟩
    · have hge : ¬ ((k : Int) < (n : Int)) := by omega
      have HS : Hid (r = true) := by
        have e := hT.out
        rw [List.drop_eq_nil_of_le (by rw [← HN.out]; omega)] at e
        exact e
      go_wp2
      go_ret
      exact ⟨by rw [HS.out]; rfl, hx⟩
set_option maxRecDepth 100000 in
theorem c_l1Rising (v : Value) (la ha : Nat) (xs : List Int) (lo hi : Int) (w : World) (h : Ints w la ha v xs) :
    Calls Try.prog 54 #[v, .int .i64 lo, .int .i64 hi] w fun e w' => e = .returned (.bool (risB lo hi xs)) ∧ Ext w w' := by
  obtain ⟨r, hr⟩ : ∃ r, r = risB lo hi xs := ⟨_, rfl⟩
  rw [← hr]
  have HR : Hid (r = risP lo hi none xs) := by unfold Hid; rw [hr, risP_eq]; rfl
  obtain ⟨a, cap, rfl, m1, m2⟩ := h.form
  have H := Lib.hid h
  obtain ⟨n, hn⟩ : ∃ n, n = xs.length := ⟨_, rfl⟩
  rw [← hn] at m1 H ⊢
  have HN := Lib.hid hn
  clear h hn hr
  go_enter Try.func54, Try.ntmps54
  go_wp2
  go_loopw [11] (fun t wr => ∃ k : Nat, k ≤ n ∧ t = .int .i64 k ∧ Ext w wr ∧ Hid (r = risP lo hi (pvI xs k) (xs.drop k))) (fun t _ => n - (intOf t).toNat)
  case atStart => exact ⟨0, by omega, rfl, Ext.refl _, HR.out⟩
  case round =>
    obtain ⟨k, hk, rfl, hx, hT⟩ := hrel
    by_cases hlt : k < n
    · obtain ⟨b, o, g, rfl, hg, c0⟩ := Ints_at H.out hlt
      have hs := hT.out.trans (risP_drop hg.out)
      have e0 := hx.cell c0
      have hltI : (k : Int) < (n : Int) := by omega
      clear c0
      cases p : inB lo hi g
      · have HS : Hid (r = false) := by unfold Hid; rw [hs, p]; rfl
        clear hs
        go_wp2_with (go_at_call 60; refine (l1In_c _ _ _ _).mono ?_; rintro e w' ⟨rfl, rfl⟩)
        go_ret
        exact ⟨by rw [HS.out]; rfl, hx⟩
      · by_cases hk0 : k = 0
        · have hkd : decide (0 < (k : Int)) = false := by simp [hk0]
          have hkd2 : decide (0 < k) = false := by simp [hk0]
          have HS : Hid (r = risP lo hi (pvI xs (k + 1)) (xs.drop (k + 1))) := by
            unfold Hid; rw [hs, p, hk0]; rfl
          clear hs hk0
          go_wp2_with (go_at_call 60; refine (l1In_c _ _ _ _).mono ?_; rintro e w' ⟨rfl, rfl⟩)
          go_roundw
          case rel => exact ⟨k + 1, by omega, by go_num, hx, HS.out⟩
          case measure => simp [intOf]; omega
        · have hkd : decide (0 < (k : Int)) = true := by simp; omega
          have hkd2 : decide (0 < k) = true := by simp; omega
          obtain ⟨b', o', pg, hbo, hpg, c1⟩ := Ints_at H.out (k := k - 1) (by omega)
          simp only [Option.some.injEq, Addr.mk.injEq, and_true] at hbo
          obtain ⟨rfl, rfl⟩ := hbo
          have e1 := hx.cell c1
          have hpv : pvI xs k = some pg := by unfold pvI; rw [if_neg hk0]; exact hpg.out
          have hk1 : (1 : Int) ≤ (k : Int) := by omega
          rw [hpv, p] at hs
          clear c1 hpv
          by_cases hlt2 : pg < g
          · have HS : Hid (r = risP lo hi (pvI xs (k + 1)) (xs.drop (k + 1))) := by unfold Hid; rw [hs]; simp [hlt2]
            have hd : ¬ (g ≤ pg) := by omega
            clear hs hk0
            go_wp2_with (go_at_call 60; refine (l1In_c _ _ _ _).mono ?_; rintro e w' ⟨rfl, rfl⟩)
            go_roundw
            case rel => exact ⟨k + 1, by omega, by go_num, hx, HS.out⟩
            case measure => simp [intOf]; omega
          · have HS : Hid (r = false) := by unfold Hid; rw [hs]; simp [hlt2]
            have hd : g ≤ pg := by omega
            clear hs hk0
            go_wp2_with (go_at_call 60; refine (l1In_c _ _ _ _).mono ?_; rintro e w' ⟨rfl, rfl⟩)
            go_ret
            exact ⟨by rw [HS.out]; rfl, hx⟩
    · have hge : ¬ ((k : Int) < (n : Int)) := by omega
      have HS : Hid (r = true) := by
        have e := hT.out
        rw [List.drop_eq_nil_of_le (by rw [← HN.out]; omega)] at e
        exact e
      go_wp2
      go_ret
      exact ⟨by rw [HS.out]; rfl, hx⟩

/-- The facts of one round over the sites. -/
theorem all_drop {f : List Int → Bool} {xss : List (List Int)} {k : Nat} {x : List Int} (h : xss[k]? = some x) : (xss.drop k).all f = (f x && (xss.drop (k + 1)).all f) := by
  have hk : k < xss.length := (List.getElem?_eq_some_iff.1 h).1
  have e : xss.drop k = x :: xss.drop (k + 1) := by
    rw [List.drop_eq_getElem_cons hk]; congr 1; exact (List.getElem?_eq_some_iff.1 h).2
  rw [e, List.all_cons]
theorem sites_alt (xss : List (List Int)) (n : Int) : sitesB xss n = (xss.all (risB 0 (wrap64 (n - 1))) && (inB 1 16 n && inB 1 12 xss.length)) := by
  unfold sitesB
  cases h : inB 1 16 n
  · simp
  · obtain ⟨h1, h2⟩ := inB_t h
    rw [IntWalk.wrap64_in (n - 1) ⟨by omega, by omega⟩]
    cases inB 1 12 xss.length <;> simp
set_option maxRecDepth 100000 in
theorem c_stGood (v : Value) (la ha : Nat) (xss : List (List Int)) (n : Int) (w : World) (h : Intss w la ha v xss) (hh : ha ≤ w.heap.size) :
    Calls Try.prog 42 #[v, .int .i64 n] w fun e w' => e = .returned (.bool (sitesB xss n)) ∧ Ext w w' := by
  obtain ⟨r, hr⟩ : ∃ r, r = sitesB xss n := ⟨_, rfl⟩
  rw [← hr]
  rw [sites_alt] at hr
  obtain ⟨a, cap, rfl, m1, m2⟩ := h.form
  have H := Lib.hid h
  obtain ⟨m, hm⟩ : ∃ m, m = xss.length := ⟨_, rfl⟩
  rw [← hm] at m1 H hr ⊢
  obtain ⟨q, hq⟩ : ∃ q, q = xss.all (risB 0 (wrap64 (n - 1))) := ⟨_, rfl⟩
  rw [← hq] at hr
  have HQ := Lib.hid hq
  have HM := Lib.hid hm
  have HR := Lib.hid hr
  clear h hm hr hq
  go_enter Try.func42, Try.ntmps42
  go_wp2
  go_loopw [9] (fun t wr => ∃ k : Nat, k ≤ m ∧ t = .int .i64 k ∧ Ext w wr ∧ Hid (q = (xss.drop k).all (risB 0 (wrap64 (n - 1))))) (fun t _ => m - (intOf t).toNat)
  case atStart => exact ⟨0, by omega, rfl, Ext.refl _, HQ.out⟩
  case round =>
    obtain ⟨k, hk, rfl, hx, hT⟩ := hrel
    by_cases hlt : k < m
    · obtain ⟨b, o, a2, c2, g, rfl, hg, c0, HG, q1, q2⟩ := Intss_at H.out hlt
      have d0 := hx.cell c0
      have hs := hT.out.trans (all_drop hg.out)
      have hltI : (k : Int) < (m : Int) := by omega
      obtain ⟨t, ht⟩ : ∃ t, t = risB 0 (wrap64 (n - 1)) g := ⟨_, rfl⟩
      rw [← ht] at hs
      have CR : Hid (∀ W, Ext w W → Calls Try.prog 54 #[.slice a2 g.length c2, .int .i64 0, .int .i64 (wrap64 (n - 1))] W fun e w' => e = .returned (.bool t) ∧ Ext W w') :=
        fun W hX => by rw [ht]; exact c_l1Rising _ la ha g _ _ W (HG.out.ext hX hh)
      clear c0 ht
      cases t
      · have HS : Hid (q = false) := by unfold Hid; rw [hs]; rfl
        clear hs
        go_wp2_with (go_at_call 54; refine (CR.out _ hx).mono ?_; rintro e w2 ⟨rfl, hx2⟩)
        go_ret
        exact ⟨by rw [HR.out, HS.out]; rfl, hx.trans hx2⟩
      · have HS : Hid (q = (xss.drop (k + 1)).all (risB 0 (wrap64 (n - 1)))) := by unfold Hid; rw [hs]; rfl
        clear hs
        go_wp2_with (go_at_call 54; refine (CR.out _ hx).mono ?_; rintro e w2 ⟨rfl, hx2⟩)
        go_roundw
        case rel => exact ⟨k + 1, by omega, by go_num, hx.trans hx2, HS.out⟩
        case measure => simp [intOf]; omega
    · have hge : ¬ ((k : Int) < (m : Int)) := by omega
      have HS : Hid (q = true) := by
        have e := hT.out
        rw [List.drop_eq_nil_of_le (by rw [← HM.out]; omega)] at e
        exact e
      cases p1 : inB 1 16 n
      · go_wp2_with (go_at_call 60; refine (l1In_c _ _ _ _).mono ?_; rintro e w' ⟨rfl, rfl⟩)
        go_ret
        exact ⟨by rw [HR.out, HS.out, p1]; rfl, hx⟩
      · go_wp2_with (go_at_call 60; refine (l1In_c _ _ _ _).mono ?_; rintro e w' ⟨rfl, rfl⟩)
        go_ret
        exact ⟨by rw [HR.out, HS.out, p1]; rfl, hx⟩
set_option maxRecDepth 100000 in
theorem c_iAreSites (v : Value) (la ha : Nat) (xss : List (List Int)) (n : Int) (w : World) (h : Intss w la ha v xss) (hh : ha ≤ w.heap.size) :
    Calls Try.prog 39 #[v, .int .i64 n] w fun e w' => e = .returned (.bool (sitesB xss n)) ∧ Ext w w' := by
  obtain ⟨r, hr⟩ : ∃ r, r = sitesB xss n := ⟨_, rfl⟩
  rw [← hr]
  unfold sitesB at hr
  obtain ⟨a, cap, rfl, m1, m2⟩ := h.form
  have H := Lib.hid h
  obtain ⟨m, hm⟩ : ∃ m, m = xss.length := ⟨_, rfl⟩
  rw [← hm] at m1 H hr ⊢
  have HM := Lib.hid hm
  clear h hm
  cases h1 : inB 1 16 n
  · simp [h1] at hr; subst hr
    go_enter Try.func39, Try.ntmps39
    go_wp2_with (go_at_call 56; refine (within_c _ _ _ _).mono ?_; rintro e w' ⟨rfl, rfl⟩)
    go_ret
    exact ⟨rfl, Ext.refl _⟩
  cases h2 : inB 1 12 m
  · simp [h1, h2] at hr; subst hr
    go_enter Try.func39, Try.ntmps39
    go_wp2_with (go_at_call 56; refine (within_c _ _ _ _).mono ?_; rintro e w' ⟨rfl, rfl⟩)
    go_ret
    exact ⟨rfl, Ext.refl _⟩
  rw [h1, h2] at hr
  simp only [Bool.true_and] at hr
  have HR := Lib.hid hr
  obtain ⟨n1, n2⟩ := inB_t h1
  clear hr
  go_enter Try.func39, Try.ntmps39
  go_wp2_with (go_at_call 56; refine (within_c _ _ _ _).mono ?_; rintro e w' ⟨rfl, rfl⟩)
  go_loopw [18] (fun t wr => ∃ k : Nat, k ≤ m ∧ t = .int .i64 k ∧ Ext w wr ∧ Hid (r = (xss.drop k).all (risB 0 (n - 1)))) (fun t _ => m - (intOf t).toNat)
  case atStart => exact ⟨0, by omega, rfl, Ext.refl _, HR.out⟩
  case round =>
    obtain ⟨k, hk, rfl, hx, hT⟩ := hrel
    by_cases hlt : k < m
    · obtain ⟨b, o, a2, c2, g, rfl, hg, c0, HG, q1, q2⟩ := Intss_at H.out hlt
      have d0 := hx.cell c0
      have hs := hT.out.trans (all_drop hg.out)
      unfold risB at hs
      have hltI : (k : Int) < (m : Int) := by omega
      obtain ⟨t, ht⟩ : ∃ t, t = allB 0 (n - 1) g := ⟨_, rfl⟩
      obtain ⟨u, hu⟩ : ∃ u, u = incP none g := ⟨_, rfl⟩
      rw [← ht, ← hu] at hs
      have CR : Hid (∀ W, Ext w W → Calls Try.prog 52 #[.slice a2 g.length c2, .int .i64 0, .int .i64 (n - 1)] W fun e w' => e = .returned (.bool t) ∧ W = w') :=
        fun W hX => by rw [ht]; exact c_allWithin _ la ha g _ _ W (HG.out.ext hX hh)
      have CU : Hid (∀ W, Ext w W → Calls Try.prog 53 #[.slice a2 g.length c2] W fun e w' => e = .returned (.bool u) ∧ Ext W w') :=
        fun W hX => by rw [hu]; exact c_increasing _ la ha g W (HG.out.ext hX hh)
      clear c0 ht hu
      cases t
      · have HS : Hid (r = false) := by unfold Hid; rw [hs]; rfl
        clear hs
        go_wp2_with (go_at_call 52; refine (CR.out _ hx).mono ?_; rintro e w' ⟨rfl, rfl⟩)
        go_ret
        exact ⟨by rw [HS.out]; rfl, hx⟩
      cases u
      · have HS : Hid (r = false) := by unfold Hid; rw [hs]; rfl
        clear hs
        go_wp2_with (first | (go_at_call 52; refine (CR.out _ hx).mono ?_; rintro e w' ⟨rfl, rfl⟩) | (go_at_call 53; refine (CU.out _ hx).mono ?_; rintro e w2 ⟨rfl, hx2⟩))
        go_ret
        exact ⟨by rw [HS.out]; rfl, hx.trans hx2⟩
      · have HS : Hid (r = (xss.drop (k + 1)).all (risB 0 (n - 1))) := by unfold Hid; rw [hs]; rfl
        clear hs
        go_wp2_with (first | (go_at_call 52; refine (CR.out _ hx).mono ?_; rintro e w' ⟨rfl, rfl⟩) | (go_at_call 53; refine (CU.out _ hx).mono ?_; rintro e w2 ⟨rfl, hx2⟩))
        go_roundw
        case rel => exact ⟨k + 1, by omega, by go_num, hx.trans hx2, HS.out⟩
        case measure => simp [intOf]; omega
    · have hge : ¬ ((k : Int) < (m : Int)) := by omega
      have HS : Hid (r = true) := by
        have e := hT.out
        rw [List.drop_eq_nil_of_le (by rw [← HM.out]; omega)] at e
        exact e
      go_wp2
      go_ret
      exact ⟨by rw [HS.out]; rfl, hx⟩
end Go.Proofs.Ytiofckbdjifdpaa
