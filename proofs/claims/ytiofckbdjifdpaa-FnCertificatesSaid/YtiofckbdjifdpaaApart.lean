
/- AreApart of the program and of the reference: their contracts. -/
import Derived.Test.YtiofckbdjifdpaaAreSites
import Derived.Test.YtiofckbdjifdpaaHas
namespace Go.Proofs.Ytiofckbdjifdpaa
open Go.RowKit
def apN (l sp : List Int) : Nat := (sp.filter fun s => l.contains s).length
def apartB (xss : List (List Int)) (sp : List Int) : Bool := xss.all fun l => decide (apN l sp ≤ 1)
theorem apN_snoc {l sp : List Int} {k : Nat} {x : Int} (h : sp[k]? = some x) : apN l (sp.take (k + 1)) = apN l (sp.take k) + (if l.contains x then 1 else 0) := by
  unfold apN
  rw [take_snoc' h, List.filter_append, List.length_append, List.filter_cons]
  split <;> simp
theorem apN_le (l sp : List Int) : apN l sp ≤ sp.length := List.length_filter_le _ _
set_option maxRecDepth 100000 in
set_option maxHeartbeats 1000000 in
theorem c_areApart (va vb : Value) (la ha lb hb : Nat) (xss : List (List Int)) (sp : List Int) (w : World) (h : Intss w la ha va xss) (h2 : Ints w lb hb vb sp) (hl : sp.length ≤ 1048576) :
    Calls Try.prog 47 #[va, vb] w fun e w' => e = .returned (.bool (apartB xss sp)) ∧ w = w' := by
  obtain ⟨r, hr⟩ : ∃ r, r = apartB xss sp := ⟨_, rfl⟩
  rw [← hr]
  unfold apartB at hr
  have HR := Lib.hid hr
  obtain ⟨a, cap, rfl, m1, m2⟩ := h.form
  obtain ⟨a2, cap2, rfl, m3, m4⟩ := h2.form
  have H := Lib.hid h
  have H2 := Lib.hid h2
  obtain ⟨m, hm⟩ : ∃ n, n = xss.length := ⟨_, rfl⟩
  obtain ⟨n, hn⟩ : ∃ n, n = sp.length := ⟨_, rfl⟩
  rw [← hm] at m1 H ⊢
  rw [← hn] at m3 H2 hl ⊢
  have HM := Lib.hid hm
  have HN := Lib.hid hn
  clear h h2 hm hn hr
  go_enter Try.func47, Try.ntmps47
  go_wp2
  go_loop [12] (fun t => ∃ k : Nat, k ≤ m ∧ t = .int .i64 k ∧ Hid (r = (xss.drop k).all fun l => decide (apN l sp ≤ 1))) (fun t => m - (intOf t).toNat)
  case atStart => exact ⟨0, by omega, rfl, HR.out⟩
  case round =>
    obtain ⟨k, hk, rfl, hT⟩ := hrel
    by_cases hlt : k < m
    · obtain ⟨b, o, a3, c3, l, rfl, hl2, c0, HL, q1, q2⟩ := Intss_at H.out hlt
      have hs := hT.out.trans (all_drop hl2.out)
      have HS := Lib.hid hs
      have hltI : (k : Int) < (m : Int) := by omega
      clear hs
      go_wp2
      go_loop [7, 18] (fun c t => ∃ q : Nat, q ≤ n ∧ t = .int .i64 q ∧ c = .int .i64 (apN l (sp.take q) : Nat)) (fun _ t => n - (intOf t).toNat)
      case atStart => exact ⟨0, by omega, rfl, rfl⟩
      case round =>
        obtain ⟨q, hq, rfl, rfl⟩ := hrel
        have hb := apN_le l (sp.take q)
        have hb2 := List.length_take_le q sp
        have HT : Hid (q = n → apN l (sp.take q) = apN l sp) := fun e => by rw [List.take_of_length_le (by rw [← HN.out]; omega)]
        obtain ⟨c, hc⟩ : ∃ c, c = apN l (sp.take q) := ⟨_, rfl⟩
        rw [← hc] at hb HT ⊢
        have HC := Lib.hid hc
        clear hc
        by_cases hlt2 : q < n
        · obtain ⟨b2, o2, x, rfl, hx, c1⟩ := Ints_at H2.out hlt2
          have hlt2I : (q : Int) < (n : Int) := by omega
          have hsn := apN_snoc (l := l) hx.out
          rw [← HC.out] at hsn
          have CH := Lib.hid (c_Contains (.slice a3 l.length c3) la ha l x w HL.out)
          cases e : l.contains x
          · rw [e] at hsn CH
            have HSN := Lib.hid hsn
            clear hsn e
            go_wp2_with (go_at_call 76; refine CH.out.mono ?_; rintro e w' ⟨rfl, rfl⟩)
            go_round
            case rel => exact ⟨q + 1, by omega, by go_num, by rw [HSN.out]; rfl⟩
            case measure => simp [intOf]; omega
          · rw [e] at hsn CH
            have HSN := Lib.hid hsn
            clear hsn e
            go_wp2_with (go_at_call 76; refine CH.out.mono ?_; rintro e w' ⟨rfl, rfl⟩)
            go_round
            case rel => exact ⟨q + 1, by omega, by go_num, by rw [HSN.out]; go_num⟩
            case measure => simp [intOf]; omega
        · have hge : ¬ ((q : Int) < (n : Int)) := by omega
          have he := HT.out (by omega)
          by_cases h1 : c ≤ 1
          · have HF : Hid (r = (xss.drop (k + 1)).all fun l => decide (apN l sp ≤ 1)) := by
              unfold Hid; rw [HS.out, ← he, decide_eq_true h1]; rfl
            have h1I : (c : Int) ≤ 1 := by omega
            clear he
            go_wp2
            go_round
            case rel => exact ⟨k + 1, by omega, by go_num, HF.out⟩
            case measure => simp [intOf]; omega
          · have HF : Hid (r = false) := by
              unfold Hid; rw [HS.out, ← he, decide_eq_false h1]; rfl
            have h1I : 1 < (c : Int) := by omega
            clear he
            go_wp2
            go_ret
            exact ⟨by rw [HF.out]; rfl, rfl⟩
    · have hge : ¬ ((k : Int) < (m : Int)) := by omega
      have HS : Hid (r = true) := by
        have e := hT.out
        rw [List.drop_eq_nil_of_le (by rw [← HM.out]; omega)] at e
        exact e
      go_wp2
      go_ret
      exact ⟨by rw [HS.out]; rfl, rfl⟩
set_option maxRecDepth 100000 in
set_option maxHeartbeats 1000000 in
theorem c_stApart (va vb : Value) (la ha lb hb : Nat) (xss : List (List Int)) (sp : List Int) (w : World) (h : Intss w la ha va xss) (h2 : Ints w lb hb vb sp) (hl : sp.length ≤ 1048576) :
    Calls Try.prog 55 #[va, vb] w fun e w' => e = .returned (.bool (apartB xss sp)) ∧ w = w' := by
  obtain ⟨r, hr⟩ : ∃ r, r = apartB xss sp := ⟨_, rfl⟩
  rw [← hr]
  unfold apartB at hr
  have HR := Lib.hid hr
  obtain ⟨a, cap, rfl, m1, m2⟩ := h.form
  obtain ⟨a2, cap2, rfl, m3, m4⟩ := h2.form
  have H := Lib.hid h
  have H2 := Lib.hid h2
  obtain ⟨m, hm⟩ : ∃ n, n = xss.length := ⟨_, rfl⟩
  obtain ⟨n, hn⟩ : ∃ n, n = sp.length := ⟨_, rfl⟩
  rw [← hm] at m1 H ⊢
  rw [← hn] at m3 H2 hl ⊢
  have HM := Lib.hid hm
  have HN := Lib.hid hn
  clear h h2 hm hn hr
  go_enter Try.func55, Try.ntmps55
  go_wp2
  go_loop [12] (fun t => ∃ k : Nat, k ≤ m ∧ t = .int .i64 k ∧ Hid (r = (xss.drop k).all fun l => decide (apN l sp ≤ 1))) (fun t => m - (intOf t).toNat)
  case atStart => exact ⟨0, by omega, rfl, HR.out⟩
  case round =>
    obtain ⟨k, hk, rfl, hT⟩ := hrel
    by_cases hlt : k < m
    · obtain ⟨b, o, a3, c3, l, rfl, hl2, c0, HL, q1, q2⟩ := Intss_at H.out hlt
      have hs := hT.out.trans (all_drop hl2.out)
      have HS := Lib.hid hs
      have hltI : (k : Int) < (m : Int) := by omega
      clear hs
      go_wp2
      go_loop [7, 18] (fun c t => ∃ q : Nat, q ≤ n ∧ t = .int .i64 q ∧ c = .int .i64 (apN l (sp.take q) : Nat)) (fun _ t => n - (intOf t).toNat)
      case atStart => exact ⟨0, by omega, rfl, rfl⟩
      case round =>
        obtain ⟨q, hq, rfl, rfl⟩ := hrel
        have hb := apN_le l (sp.take q)
        have hb2 := List.length_take_le q sp
        have HT : Hid (q = n → apN l (sp.take q) = apN l sp) := fun e => by rw [List.take_of_length_le (by rw [← HN.out]; omega)]
        obtain ⟨c, hc⟩ : ∃ c, c = apN l (sp.take q) := ⟨_, rfl⟩
        rw [← hc] at hb HT ⊢
        have HC := Lib.hid hc
        clear hc
        by_cases hlt2 : q < n
        · obtain ⟨b2, o2, x, rfl, hx, c1⟩ := Ints_at H2.out hlt2
          have hlt2I : (q : Int) < (n : Int) := by omega
          have hsn := apN_snoc (l := l) hx.out
          rw [← HC.out] at hsn
          have CH := Lib.hid (c_l1Has (.slice a3 l.length c3) la ha l x w HL.out)
          cases e : l.contains x
          · rw [e] at hsn CH
            have HSN := Lib.hid hsn
            clear hsn e
            go_wp2_with (go_at_call 78; refine CH.out.mono ?_; rintro e w' ⟨rfl, rfl⟩)
            go_round
            case rel => exact ⟨q + 1, by omega, by go_num, by rw [HSN.out]; rfl⟩
            case measure => simp [intOf]; omega
          · rw [e] at hsn CH
            have HSN := Lib.hid hsn
            clear hsn e
            go_wp2_with (go_at_call 78; refine CH.out.mono ?_; rintro e w' ⟨rfl, rfl⟩)
            go_round
            case rel => exact ⟨q + 1, by omega, by go_num, by rw [HSN.out]; go_num⟩
            case measure => simp [intOf]; omega
        · have hge : ¬ ((q : Int) < (n : Int)) := by omega
          have he := HT.out (by omega)
          by_cases h1 : c ≤ 1
          · have HF : Hid (r = (xss.drop (k + 1)).all fun l => decide (apN l sp ≤ 1)) := by
              unfold Hid; rw [HS.out, ← he, decide_eq_true h1]; rfl
            have h1I : (c : Int) ≤ 1 := by omega
            clear he
            go_wp2
            go_round
            case rel => exact ⟨k + 1, by omega, by go_num, HF.out⟩
            case measure => simp [intOf]; omega
          · have HF : Hid (r = false) := by
              unfold Hid; rw [HS.out, ← he, decide_eq_false h1]; rfl
            have h1I : 1 < (c : Int) := by omega
            clear he
            go_wp2
            go_ret
            exact ⟨by rw [HF.out]; rfl, rfl⟩
    · have hge : ¬ ((k : Int) < (m : Int)) := by omega
      have HS : Hid (r = true) := by
        have e := hT.out
        rw [List.drop_eq_nil_of_le (by rw [← HM.out]; omega)] at e
        exact e
      go_wp2
      go_ret
      exact ⟨by rw [HS.out]; rfl, rfl⟩
def apOk (xss : List (List Int)) (n : Int) (sp : List Int) : Bool := sitesB xss n && risB 0 (n - 1) sp
theorem ap_len {xss : List (List Int)} {n : Int} {sp : List Int} (h1 : sitesB xss n = true) (h2 : risB 0 (n - 1) sp = true) : sp.length ≤ 16 := by
  obtain ⟨m, rfl, gs⟩ := GoodS.of h1
  have := risB_len h2 (by omega)
  have := gs.n16
  omega
set_option maxRecDepth 100000 in
theorem c_sAreApart (va : Value) (la ha : Nat) (xss : List (List Int)) (n : Int) (vb : Value) (lb hb : Nat) (sp : List Int) (w : World) (h : Intss w la ha va xss) (hh : ha ≤ w.heap.size) (h2 : Ints w lb hb vb sp) (hh2 : hb ≤ w.heap.size) :
    Calls Try.prog 18 #[va, .int .i64 n, vb] w fun e w' => e = .returned (.tuple #[.bool (apOk xss n sp && apartB xss sp), .bool (apOk xss n sp)]) ∧ Ext w w' := by
  obtain ⟨r, hr⟩ : ∃ r, r = (apOk xss n sp && apartB xss sp) := ⟨_, rfl⟩
  obtain ⟨q, hq⟩ : ∃ r, r = apOk xss n sp := ⟨_, rfl⟩
  rw [← hr, ← hq]
  rw [← hq] at hr
  unfold apOk at hq
  have C1 := Lib.hid (c_stGood va la ha xss n w h hh)
  cases e1 : sitesB xss n
  · rw [e1] at C1 hq
    simp at hq; subst hq; simp at hr; subst hr
    clear h h2 e1
    go_enter Try.func18, Try.ntmps18
    go_wp2_with (go_at_call 42; refine C1.out.mono ?_; rintro e w2 ⟨rfl, hx⟩)
    go_ret2
    exact ⟨rfl, hx⟩
  obtain ⟨m, rfl, gs⟩ := GoodS.of e1
  have n1 := gs.n1
  have n16 := gs.n16
  have C2 : Hid (∀ W, Ext w W → Calls Try.prog 54 #[vb, .int .i64 0, .int .i64 ((m : Int) - 1)] W fun e w' => e = .returned (.bool (risB 0 ((m : Int) - 1) sp)) ∧ Ext W w') :=
    fun W hX => c_l1Rising vb lb hb sp _ _ W (h2.ext hX hh2)
  cases e2 : risB 0 ((m : Int) - 1) sp
  · rw [e1] at C1
    rw [e2] at C2 hq
    simp at hq; subst hq; simp at hr; subst hr
    clear h h2 e1 e2 gs
    go_enter Try.func18, Try.ntmps18
    go_wp2_with (first | (go_at_call 42; refine C1.out.mono ?_; rintro e w2 ⟨rfl, hx⟩) | (go_at_call 54; refine (C2.out _ hx).mono ?_; rintro e w3 ⟨rfl, hx3⟩))
    go_ret2
    exact ⟨rfl, hx.trans hx3⟩
  · have hl := ap_len e1 e2
    rw [e1] at C1 hq
    rw [e2] at C2 hq
    simp at hq; subst hq; simp at hr
    have C3 : Hid (∀ W, Ext w W → Calls Try.prog 55 #[va, vb] W fun e w' => e = .returned (.bool r) ∧ W = w') :=
      fun W hX => by rw [hr]; exact c_stApart va vb la ha lb hb xss sp W (h.ext hX hh) (h2.ext hX hh2) (by omega)
    clear h h2 e1 e2 gs hr
    go_enter Try.func18, Try.ntmps18
    go_wp2_with (first | (go_at_call 42; refine C1.out.mono ?_; rintro e w2 ⟨rfl, hx⟩) | (go_at_call 54; refine (C2.out _ hx).mono ?_; rintro e w3 ⟨rfl, hx3⟩) | (go_at_call 55; refine (C3.out _ (hx.trans hx3)).mono ?_; rintro e w' ⟨rfl, rfl⟩))
    go_ret2
    exact ⟨rfl, hx.trans hx3⟩
set_option maxRecDepth 100000 in
theorem c_iAreApart (va : Value) (la ha : Nat) (xss : List (List Int)) (n : Int) (vb : Value) (lb hb : Nat) (sp : List Int) (w : World) (h : Intss w la ha va xss) (hh : ha ≤ w.heap.size) (h2 : Ints w lb hb vb sp) (hh2 : hb ≤ w.heap.size) :
    Calls Try.prog 17 #[va, .int .i64 n, vb] w fun e w' => e = .returned (.tuple #[.bool (apOk xss n sp && apartB xss sp), .bool (apOk xss n sp)]) ∧ Ext w w' := by
  obtain ⟨r, hr⟩ : ∃ r, r = (apOk xss n sp && apartB xss sp) := ⟨_, rfl⟩
  obtain ⟨q, hq⟩ : ∃ r, r = apOk xss n sp := ⟨_, rfl⟩
  rw [← hr, ← hq]
  rw [← hq] at hr
  unfold apOk risB at hq
  have C1 := Lib.hid (c_iAreSites va la ha xss n w h hh)
  cases e1 : sitesB xss n
  · rw [e1] at C1 hq
    simp at hq; subst hq; simp at hr; subst hr
    clear h h2 e1
    go_enter Try.func17, Try.ntmps17
    go_wp2_with (go_at_call 39; refine C1.out.mono ?_; rintro e w2 ⟨rfl, hx⟩)
    go_ret2
    exact ⟨rfl, hx⟩
  obtain ⟨m, rfl, gs⟩ := GoodS.of e1
  have n1 := gs.n1
  have n16 := gs.n16
  have C2 : Hid (∀ W, Ext w W → Calls Try.prog 52 #[vb, .int .i64 0, .int .i64 ((m : Int) - 1)] W fun e w' => e = .returned (.bool (allB 0 ((m : Int) - 1) sp)) ∧ W = w') :=
    fun W hX => c_allWithin vb lb hb sp _ _ W (h2.ext hX hh2)
  have C2b : Hid (∀ W, Ext w W → Calls Try.prog 53 #[vb] W fun e w' => e = .returned (.bool (incP none sp)) ∧ Ext W w') :=
    fun W hX => c_increasing vb lb hb sp W (h2.ext hX hh2)
  cases e2 : allB 0 ((m : Int) - 1) sp
  · rw [e1] at C1
    rw [e2] at C2 hq
    simp at hq; subst hq; simp at hr; subst hr
    clear h h2 e1 e2 gs
    go_enter Try.func17, Try.ntmps17
    go_wp2_with (first | (go_at_call 39; refine C1.out.mono ?_; rintro e w2 ⟨rfl, hx⟩) | (go_at_call 52; refine (C2.out _ hx).mono ?_; rintro e w' ⟨rfl, rfl⟩))
    go_ret2
    exact ⟨rfl, hx⟩
  cases e3 : incP none sp
  · rw [e1] at C1
    rw [e2] at C2
    rw [e3] at C2b hq
    simp at hq; subst hq; simp at hr; subst hr
    clear h h2 e1 e2 e3 gs
    go_enter Try.func17, Try.ntmps17
    go_wp2_with (first | (go_at_call 39; refine C1.out.mono ?_; rintro e w2 ⟨rfl, hx⟩) | (go_at_call 52; refine (C2.out _ hx).mono ?_; rintro e w' ⟨rfl, rfl⟩) | (go_at_call 53; refine (C2b.out _ hx).mono ?_; rintro e w3 ⟨rfl, hx3⟩))
    go_ret2
    exact ⟨rfl, hx.trans hx3⟩
  · have hl := ap_len e1 (show risB 0 ((m : Int) - 1) sp = true by unfold risB; rw [e2, e3]; rfl)
    rw [e1] at C1 hq
    rw [e2] at C2 hq
    rw [e3] at C2b hq
    simp at hq; subst hq; simp at hr
    have C3 : Hid (∀ W, Ext w W → Calls Try.prog 47 #[va, vb] W fun e w' => e = .returned (.bool r) ∧ W = w') :=
      fun W hX => by rw [hr]; exact c_areApart va vb la ha lb hb xss sp W (h.ext hX hh) (h2.ext hX hh2) (by omega)
    clear h h2 e1 e2 e3 gs hr
    go_enter Try.func17, Try.ntmps17
    go_wp2_with (first | (go_at_call 39; refine C1.out.mono ?_; rintro e w2 ⟨rfl, hx⟩) | (go_at_call 52; refine (C2.out _ hx).mono ?_; rintro e w' ⟨rfl, rfl⟩) | (go_at_call 53; refine (C2b.out _ hx).mono ?_; rintro e w3 ⟨rfl, hx3⟩) | (go_at_call 47; refine (C3.out _ (hx.trans hx3)).mono ?_; rintro e w' ⟨rfl, rfl⟩))
    go_ret2
    exact ⟨rfl, hx.trans hx3⟩
end Go.Proofs.Ytiofckbdjifdpaa
