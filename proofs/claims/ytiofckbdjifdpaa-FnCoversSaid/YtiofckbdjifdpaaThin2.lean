
/- ThinCover of the program and of the reference: the walks. -/
import Derived.Test.YtiofckbdjifdpaaThin
import Derived.Test.YtiofckbdjifdpaaClone
namespace Go.Proofs.Ytiofckbdjifdpaa
open Go.RowKit
set_option maxRecDepth 100000 in
set_option maxHeartbeats 4000000 in
theorem c_iThin (va vb : Value) (la ha lb hb : Nat) (xss : List (List Int)) (n : Int) (ch : List Int) (w : World) (h : Intss w la ha va xss) (hh : ha ≤ w.heap.size) (h2 : Ints w lb hb vb ch) (hh2 : hb ≤ w.heap.size) :
    Calls Try.prog 32 #[va, .int .i64 n, vb] w fun e w' => ∃ r, e = .returned (.tuple #[r, .bool (tcOk xss n ch)]) ∧ w'.ownsRow w.heap.size 3 1 r (tcV xss n ch).length ((tcV xss n ch).flatMap encI) ∧ Ext w w' := by
  obtain ⟨i0, hi0, hz0, hz1, hz2⟩ := info_parts Try.info_intC
  obtain ⟨Z, hZ⟩ : ∃ r, r = tcV xss n ch := ⟨_, rfl⟩
  obtain ⟨q, hq⟩ : ∃ r, r = tcOk xss n ch := ⟨_, rfl⟩
  rw [← hZ, ← hq]
  unfold tcV at hZ
  rw [← hq] at hZ
  unfold tcOk at hq
  have C1 := Lib.hid (c_areChosen va vb la ha lb hb xss n ch w h hh h2 hh2)
  cases e1 : chosenB xss n ch
  · rw [e1] at C1 hq
    simp at hq; subst hq; simp at hZ; subst hZ
    clear h h2 e1
    go_enter Try.func32, Try.ntmps32
    go_wp2_with (go_at_call 71; refine C1.out.mono ?_; rintro e w2 ⟨rfl, hx⟩)
    go_ret2
    exact ⟨_, rfl, World.ownsRow_nil _ _ _ _, hx⟩
  obtain ⟨m, rfl, gs, gc⟩ := chosen_good e1
  rw [e1, Bool.true_and] at hq
  rw [e1] at C1
  rw [Int.toNat_natCast] at hq
  obtain ⟨F, hF⟩ : ∃ F, F = fun l => coverB xss m l 1 := ⟨_, rfl⟩
  have CC : Hid (∀ W v lb hb l, Ext w W → Ints W lb hb v l → hb ≤ W.heap.size → GoodC xss.length l → Calls Try.prog 58 #[va, .int .i64 m, v, .int .i64 1] W fun e w' => e = .returned (.bool (F l)) ∧ Ext W w') :=
    fun W v lb hb l hX hr hbb hg => by rw [hF]; exact c_covers va v la ha lb hb xss m l 1 W (h.ext hX hh) (Nat.le_trans hh hX.size) hr hbb gs hg
  have CC0 : Hid (∀ W, Ext w W → Calls Try.prog 58 #[va, .int .i64 m, vb, .int .i64 1] W fun e w' => e = .returned (.bool q) ∧ Ext W w') :=
    fun W hX => by rw [hq]; exact c_covers va vb la ha lb hb xss m ch 1 W (h.ext hX hh) (Nat.le_trans hh hX.size) (h2.ext hX hh2) (Nat.le_trans hh2 hX.size) gs gc
  rw [Int.toNat_natCast, ← hF] at hZ
  have GC := Lib.hid gc
  have n1 := gs.n1
  have n16 := gs.n16
  obtain ⟨av, capv, rfl, _, _⟩ := h.form
  obtain ⟨a2, cap2, rfl, m3, m4⟩ := h2.form
  have H2 := Lib.hid h2
  have hl12 := gc.len
  obtain ⟨s, hs⟩ : ∃ s, s = xss.length := ⟨_, rfl⟩
  obtain ⟨l, hl⟩ : ∃ s, s = ch.length := ⟨_, rfl⟩
  rw [← hs] at C1 CC CC0 GC ⊢
  rw [← hl] at C1 CC0 H2 m3 hZ hl12 ⊢
  have HLC := Lib.hid hl
  clear h h2 e1 gs gc hF hs hl hq
  cases q
  · simp at hZ; subst hZ
    go_enter Try.func32, Try.ntmps32
    go_wp2_with (first | (go_at_call 71; refine C1.out.mono ?_; rintro e w2 ⟨rfl, hx⟩) | (go_at_call 58; refine (CC0.out _ hx).mono ?_; rintro e w3 ⟨rfl, hx3⟩))
    go_ret2
    exact ⟨_, rfl, World.ownsRow_nil _ _ _ _, hx.trans hx3⟩
  have HZ : Hid (Z = thS F l ch) := hZ
  clear hZ
  go_enter Try.func32, Try.ntmps32
  go_wp2_with (first | (go_at_call 71; refine C1.out.mono ?_; rintro e w2 ⟨rfl, hx⟩) | (go_at_call 58; refine (CC0.out _ hx).mono ?_; rintro e w3 ⟨rfl, hx3⟩))
  have X3 := hx.trans hx3
  have HSZ := Lib.hid X3.size
  have CL := c_Clone (.slice a2 l cap2) lb hb ch w3 (H2.out.ext X3 hh2) (Nat.le_trans hh2 X3.size) (by rw [← HLC.out]; omega)
  rw [← HLC.out] at CL
  refine CL.mono ?_
  rintro e w4 ⟨v4, rfl, ho4, hx4⟩
  obtain ⟨a6, c6, rfl, _, _, _⟩ := own_form ho4
  have HO4 : w4.ownsRow w3.heap.size 3 1 (.slice a6 l c6) ch.length (ch.flatMap encI) := by rw [← HLC.out]; exact ho4
  clear ho4 CL
  go_wp2
  go_loopw [8, 9] (fun v t wr => ∃ (c : Nat) (O : List Int), c ≤ O.length ∧ t = .int .i64 ((c : Int) - 1) ∧ wr.ownsRow w3.heap.size 3 1 v O.length (O.flatMap encI) ∧ Hid (Z = thS F c O) ∧ Hid (GoodC s O) ∧ Ext w3 wr) (fun _ t _ => (intOf t + 1).toNat)
  case atStart => exact ⟨l, ch, by rw [HLC.out]; exact Nat.le_refl _, rfl, HO4, HZ.out, GC.out, hx4⟩
  case round =>
    obtain ⟨c, O, hc, rfl, hown, hR, hG, hxr⟩ := hrel
    have hO12 := hG.out.len
    cases c with
    | zero =>
      have hge : ¬ (0 ≤ (((0 : Nat) : Int) - 1)) := by omega
      have HOWN := Lib.hid hown
      obtain ⟨a5, c5, rfl, _, _, _⟩ := own_form hown
      clear hown
      go_wp2
      go_ret2
      refine ⟨_, rfl, ?_, X3.trans hxr⟩
      rw [show Z = O from hR.out]
      exact own_mono HOWN.out HSZ.out
    | succ k =>
      have hkI : (0 : Int) ≤ (((k + 1 : Nat) : Int) - 1) := by omega
      have hkk : (((k + 1 : Nat) : Int) - 1) = (k : Int) := by omega
      rw [hkk]
      obtain ⟨g, cp, rfl, hg1, hg2⟩ := own_at0 hown (by omega)
      have HOWN := Lib.hid hown
      have hRow : Hid (Ints wr w3.heap.size wr.heap.size (.slice (some ⟨g, 0, none⟩) O.length cp) O) := Row.of_own encI_len hown
      have hk0 : (0 : Int) ≤ (k : Int) := by omega
      obtain ⟨E, hE⟩ : ∃ E, E = O.eraseIdx k := ⟨_, rfl⟩
      have hR2 : Hid (Z = thS F k (if F E then E else O)) := by unfold Hid; rw [hE]; exact hR.out
      have hGE : Hid (GoodC s E) := by rw [hE]; exact good_erase hG.out k
      have hEl : E.length = O.length - 1 := by rw [hE, List.length_eraseIdx_of_lt (by omega)]
      obtain ⟨t, ht⟩ : ∃ t, t = F E := ⟨_, rfl⟩
      rw [← ht] at hR2
      have XW := X3.trans hxr
      obtain ⟨p, hp⟩ : ∃ p, p = O.length := ⟨_, rfl⟩
      rw [← hp] at hc hEl hRow HOWN hO12 ⊢
      have HP := Lib.hid hp
      have HEL := Lib.hid hEl
      have HE := Lib.hid hE
      have hkpI : (k : Int) + 1 ≤ (p : Int) := by omega
      clear hown hkk hkI hR hp hE hEl
      go_wp2_with fail
      refine (c_Clone (.slice (some ⟨g, 0, none⟩) p cp) w3.heap.size wr.heap.size O wr hRow.out (Nat.le_refl _) (by rw [← HP.out]; omega)).mono ?_
      rintro e w5 ⟨vc, rfl, hoc, hx5⟩
      rw [← HP.out] at hoc
      obtain ⟨g5, cp5, rfl, hg51, hg52⟩ := own_at0 hoc (by omega)
      have CD := Lib.hid (c_Delete1 wr.heap.size g5 p cp5 k O w5 hoc (by omega))
      clear hoc
      go_wp2_with fail
      refine CD.out.mono ?_
      rintro e w6 ⟨rfl, hod, gr⟩
      have hx56 : Ext wr w6 := hx5.gr gr (fun q hq => by cases hq; omega)
      rw [← HE.out] at hod
      have hod2 : w6.ownsRow wr.heap.size 3 1 (.slice (some ⟨g5, 0, none⟩) (p - 1) cp5) E.length (E.flatMap encI) := by rw [HEL.out]; exact hod
      have hRE : Ints w6 wr.heap.size w6.heap.size (.slice (some ⟨g5, 0, none⟩) (p - 1) cp5) E := Row.of_own encI_len hod2
      have CV := Lib.hid (CC.out w6 _ _ _ E (XW.trans hx56) hRE (Nat.le_refl _) hGE.out)
      rw [← ht] at CV
      have HOD := Lib.hid hod2
      have hsw := hxr.size
      clear hod hod2 hRE gr CD ht
      cases t
      · go_wp2_with (go_at_call 58; refine CV.out.mono ?_; rintro e w7 ⟨rfl, hx7⟩)
        go_roundw
        case rel => exact ⟨k, O, by rw [← HP.out]; omega, by go_num, by rw [← HP.out]; exact own_ext HOWN.out (hx56.trans hx7), hR2.out, hG.out, hxr.trans (hx56.trans hx7)⟩
        case measure => first | (simp [intOf]; done) | (simp [intOf]; omega)
      · go_wp2_with (go_at_call 58; refine CV.out.mono ?_; rintro e w7 ⟨rfl, hx7⟩)
        go_roundw
        case rel => exact ⟨k, E, by rw [HEL.out]; omega, by go_num, own_mono (own_ext HOD.out hx7) hsw, hR2.out, hGE.out, hxr.trans (hx56.trans hx7)⟩
        case measure => first | (simp [intOf]; done) | (simp [intOf]; omega)
set_option maxRecDepth 100000 in
set_option maxHeartbeats 4000000 in
theorem c_sThin (va vb : Value) (la ha lb hb : Nat) (xss : List (List Int)) (n : Int) (ch : List Int) (w : World) (h : Intss w la ha va xss) (hh : ha ≤ w.heap.size) (h2 : Ints w lb hb vb ch) (hh2 : hb ≤ w.heap.size) :
    Calls Try.prog 33 #[va, .int .i64 n, vb] w fun e w' => ∃ r, e = .returned (.tuple #[r, .bool (tcOk xss n ch)]) ∧ w'.ownsRow w.heap.size 3 1 r (tcV xss n ch).length ((tcV xss n ch).flatMap encI) ∧ Ext w w' := by
  obtain ⟨i0, hi0, hz0, hz1, hz2⟩ := info_parts Try.info_intC
  obtain ⟨Z, hZ⟩ : ∃ r, r = tcV xss n ch := ⟨_, rfl⟩
  obtain ⟨q, hq⟩ : ∃ r, r = tcOk xss n ch := ⟨_, rfl⟩
  rw [← hZ, ← hq]
  unfold tcV at hZ
  rw [← hq] at hZ
  unfold tcOk at hq
  have C1 := Lib.hid (c_stAsked va vb la ha lb hb xss n ch w h hh h2 hh2)
  cases e1 : chosenB xss n ch
  · rw [e1] at C1 hq
    simp at hq; subst hq; simp at hZ; subst hZ
    clear h h2 e1
    go_enter Try.func33, Try.ntmps33
    go_wp2_with (go_at_call 73; refine C1.out.mono ?_; rintro e w2 ⟨rfl, hx⟩)
    go_ret2
    exact ⟨_, rfl, World.ownsRow_nil _ _ _ _, hx⟩
  obtain ⟨m, rfl, gs, gc⟩ := chosen_good e1
  rw [e1, Bool.true_and] at hq
  rw [e1] at C1
  rw [Int.toNat_natCast] at hq
  obtain ⟨F, hF⟩ : ∃ F, F = fun l => coverB xss m l 1 := ⟨_, rfl⟩
  have CC : Hid (∀ W v lb hb l, Ext w W → Ints W lb hb v l → hb ≤ W.heap.size → GoodC xss.length l → Calls Try.prog 62 #[va, .int .i64 m, v, .int .i64 1] W fun e w' => e = .returned (.bool (F l)) ∧ Ext W w') :=
    fun W v lb hb l hX hr hbb hg => by rw [hF]; exact c_stCovers va v la ha lb hb xss m l 1 W (h.ext hX hh) (Nat.le_trans hh hX.size) hr hbb gs hg
  have CC0 : Hid (∀ W, Ext w W → Calls Try.prog 62 #[va, .int .i64 m, vb, .int .i64 1] W fun e w' => e = .returned (.bool q) ∧ Ext W w') :=
    fun W hX => by rw [hq]; exact c_stCovers va vb la ha lb hb xss m ch 1 W (h.ext hX hh) (Nat.le_trans hh hX.size) (h2.ext hX hh2) (Nat.le_trans hh2 hX.size) gs gc
  rw [Int.toNat_natCast, ← hF] at hZ
  have GC := Lib.hid gc
  have n1 := gs.n1
  have n16 := gs.n16
  obtain ⟨av, capv, rfl, _, _⟩ := h.form
  obtain ⟨a2, cap2, rfl, m3, m4⟩ := h2.form
  have H2 := Lib.hid h2
  have hl12 := gc.len
  obtain ⟨s, hs⟩ : ∃ s, s = xss.length := ⟨_, rfl⟩
  obtain ⟨l, hl⟩ : ∃ s, s = ch.length := ⟨_, rfl⟩
  rw [← hs] at C1 CC CC0 GC ⊢
  rw [← hl] at C1 CC0 H2 m3 hZ hl12 ⊢
  have HLC := Lib.hid hl
  clear h h2 e1 gs gc hF hs hl hq
  cases q
  · simp at hZ; subst hZ
    go_enter Try.func33, Try.ntmps33
    go_wp2_with (first | (go_at_call 73; refine C1.out.mono ?_; rintro e w2 ⟨rfl, hx⟩) | (go_at_call 62; refine (CC0.out _ hx).mono ?_; rintro e w3 ⟨rfl, hx3⟩))
    go_ret2
    exact ⟨_, rfl, World.ownsRow_nil _ _ _ _, hx.trans hx3⟩
  have HZ : Hid (Z = thS F l ch) := hZ
  clear hZ
  go_enter Try.func33, Try.ntmps33
  go_wp2_with (first | (go_at_call 73; refine C1.out.mono ?_; rintro e w2 ⟨rfl, hx⟩) | (go_at_call 62; refine (CC0.out _ hx).mono ?_; rintro e w3 ⟨rfl, hx3⟩))
  have X3 := hx.trans hx3
  have HSZ := Lib.hid X3.size
  have CL := c_l1Own (.slice a2 l cap2) lb hb ch w3 (H2.out.ext X3 hh2) (Nat.le_trans hh2 X3.size) (by rw [← HLC.out]; omega)
  rw [← HLC.out] at CL
  refine CL.mono ?_
  rintro e w4 ⟨v4, rfl, ho4, hx4⟩
  obtain ⟨a6, c6, rfl, _, _, _⟩ := own_form ho4
  have HO4 : w4.ownsRow w3.heap.size 3 1 (.slice a6 l c6) ch.length (ch.flatMap encI) := by rw [← HLC.out]; exact ho4
  clear ho4 CL
  go_wp2
  go_loopw [8, 9] (fun v t wr => ∃ (c : Nat) (O : List Int), c ≤ O.length ∧ t = .int .i64 ((c : Int) - 1) ∧ wr.ownsRow w3.heap.size 3 1 v O.length (O.flatMap encI) ∧ Hid (Z = thS F c O) ∧ Hid (GoodC s O) ∧ Ext w3 wr) (fun _ t _ => (intOf t + 1).toNat)
  case atStart => exact ⟨l, ch, by rw [HLC.out]; exact Nat.le_refl _, rfl, HO4, HZ.out, GC.out, hx4⟩
  case round =>
    obtain ⟨c, O, hc, rfl, hown, hR, hG, hxr⟩ := hrel
    have hO12 := hG.out.len
    cases c with
    | zero =>
      have hge : ¬ (0 ≤ (((0 : Nat) : Int) - 1)) := by omega
      have HOWN := Lib.hid hown
      obtain ⟨a5, c5, rfl, _, _, _⟩ := own_form hown
      clear hown
      go_wp2
      go_ret2
      refine ⟨_, rfl, ?_, X3.trans hxr⟩
      rw [show Z = O from hR.out]
      exact own_mono HOWN.out HSZ.out
    | succ k =>
      have hkI : (0 : Int) ≤ (((k + 1 : Nat) : Int) - 1) := by omega
      have hkk : (((k + 1 : Nat) : Int) - 1) = (k : Int) := by omega
      rw [hkk]
      obtain ⟨g, cp, rfl, hg1, hg2⟩ := own_at0 hown (by omega)
      have HOWN := Lib.hid hown
      have hRow : Hid (Ints wr w3.heap.size wr.heap.size (.slice (some ⟨g, 0, none⟩) O.length cp) O) := Row.of_own encI_len hown
      have hk0 : (0 : Int) ≤ (k : Int) := by omega
      obtain ⟨E, hE⟩ : ∃ E, E = O.eraseIdx k := ⟨_, rfl⟩
      have hR2 : Hid (Z = thS F k (if F E then E else O)) := by unfold Hid; rw [hE]; exact hR.out
      have hGE : Hid (GoodC s E) := by rw [hE]; exact good_erase hG.out k
      have hEl : E.length = O.length - 1 := by rw [hE, List.length_eraseIdx_of_lt (by omega)]
      obtain ⟨t, ht⟩ : ∃ t, t = F E := ⟨_, rfl⟩
      rw [← ht] at hR2
      have XW := X3.trans hxr
      obtain ⟨p, hp⟩ : ∃ p, p = O.length := ⟨_, rfl⟩
      rw [← hp] at hc hEl hRow HOWN hO12 ⊢
      have HP := Lib.hid hp
      have HEL := Lib.hid hEl
      have HE := Lib.hid hE
      have hkpI : (k : Int) + 1 ≤ (p : Int) := by omega
      clear hown hkk hkI hR hp hE hEl
      obtain ⟨news, hnews⟩ : ∃ news, news = (O.drop (k + 1)).map (Value.int .i64) := ⟨_, rfl⟩
      have hlen : news.length = p - (k + 1) := by rw [hnews]; simp [← HP.out]
      obtain ⟨A, hA, hsrc⟩ : ∃ A : Addr, (if cp = k + 1 then some (⟨g, 0, none⟩ : Addr) else some ⟨g, k + 1, none⟩) = some A ∧ Hid (∀ W, Ext wr W → ∀ t u, news[t]? = some u → W.cell? (A.add t) = some u) := by
        by_cases hcp : cp = k + 1
        · refine ⟨⟨g, 0, none⟩, by simp [hcp], fun W hX t u hu => ?_⟩
          obtain ⟨_, c9, e9, _, q9, _⟩ := own_form HOWN.out
          simp only [Value.slice.injEq, true_and] at e9
          obtain ⟨_, rfl⟩ := e9
          have h0 : news.length = 0 := by rw [hlen]; omega
          rw [List.length_eq_zero_iff.1 h0] at hu
          simp at hu
        · refine ⟨⟨g, k + 1, none⟩, by simp [hcp], fun W hX t u hu => ?_⟩
          rw [hnews, List.getElem?_map, List.getElem?_drop] at hu
          obtain ⟨y, hy, rfl⟩ := Option.map_eq_some_iff.1 hu
          rw [add_lit1]
          exact hX.cell (own_cellv HOWN.out hy (by rw [HP.out]; exact (List.getElem?_eq_some_iff.1 hy).1))
      have s1 : Hid (news.length = (p - (k + 1)) * 1) := by rw [Nat.mul_one]; exact hlen
      have s2 : Hid (∀ u ∈ news, u.oneCell' = true) := by
        intro u hu
        rw [hnews] at hu
        obtain ⟨y, _, rfl⟩ := List.mem_map.1 hu
        rfl
      have hpc : p ≤ cp := by
        obtain ⟨_, c9, e9, _, q9, _⟩ := own_form HOWN.out
        simp only [Value.slice.injEq, true_and] at e9
        obtain ⟨_, rfl⟩ := e9
        exact q9
      have hTk : (O.take k).length = k := by rw [List.length_take_of_le (by rw [← HP.out]; omega)]
      have CL : Hid (∀ W, Ext wr W → Calls Try.prog 74 #[.slice (some ⟨g, 0, none⟩) k cp] W fun e w' => ∃ a7 c7, e = .returned (.slice a7 k c7) ∧ w'.ownsRow wr.heap.size 3 1 (.slice a7 k c7) k ((O.take k).flatMap encI) ∧ Ext wr w') := fun W hX =>
        (c_l1Own _ w3.heap.size wr.heap.size (O.take k) W ((hRow.out.take (by omega)).ext hX (Nat.le_refl _)) hX.size (by omega)).mono fun e w' ⟨v, he, ho, hx⟩ => by
          rw [hTk] at ho
          obtain ⟨a7, c7, rfl, _⟩ := own_form ho
          exact ⟨a7, c7, he, own_mono ho hX.size, hX.trans hx⟩
      have HTK := Lib.hid hTk
      have HNEWS := Lib.hid hnews
      have hkc : k ≤ cp := by omega
      have hwr : IntKind.i64.wrap ((k : Int) + 1) = (k : Int) + 1 := by rw [IntKind.wrap_i64]; omega
      have hp0 : (0 : Int) ≤ (k : Int) + 1 := by omega
      have hp2 : ((k : Int) + 1).toNat = k + 1 := by omega
      have hkp2 : (k : Int) ≤ (p : Int) := by omega
      clear hlen hnews hTk
      go_wp2_with fail
      go_region_law (first
        | (refine step_append_own rfl (.tmp 35) (.tmp 39) 24 rfl wr.heap.size 3 i0 (.int .i64 0) 1 8 Try.underlying24 hi0 hz0 hz1 hz2 rfl (by decide) (.slice a7 k c7) k ((O.take k).flatMap encI) (by simp [Act.eval, Act.put]) HOC.out A (p - (k + 1)) (cp - (k + 1)) news (by simp [Act.eval, Act.put]) s1.out (hsrc.out _ hx6) s2.out (by unfold maxLen; omega) (by omega) hx6.size ?_; intro v8 w8 hown8 hgr8)
        | (go_simp; go_at_call 74; refine (CL.out _ ?_).mono ?_; exact Ext.drew _; rintro e w6 ⟨a7, c7, rfl, ho6, hx6⟩; have HOC := Lib.hid ho6; clear ho6))
      have hx68 : Ext wr w8 := hx6.gr hgr8 (fun q hq => (HOC.out.lt q hq).1)
      have hlist : (O.take k).flatMap encI ++ news = E.flatMap encI := by
        rw [HNEWS.out, HE.out, erase_app, flat_map, flat_map, List.map_append]
      rw [hlist, show k + (p - (k + 1)) = E.length by rw [HEL.out]; omega] at hown8
      obtain ⟨a9, c9, rfl, _, _, _⟩ := own_form hown8
      have hRE : Ints w8 wr.heap.size w8.heap.size (.slice a9 E.length c9) E := Row.of_own encI_len hown8
      have CV := Lib.hid (CC.out w8 _ _ _ E (XW.trans hx68) hRE (Nat.le_refl _) hGE.out)
      rw [← ht] at CV
      have HOD := Lib.hid hown8
      have hsw := hxr.size
      clear hown8 hRE hgr8 hlist ht hA hwr hp0 hp2
      cases t
      · go_wp2_with (go_at_call 62; refine CV.out.mono ?_; rintro e w7 ⟨rfl, hx7⟩)
        go_roundw
        case rel => exact ⟨k, O, by rw [← HP.out]; omega, by go_num, by rw [← HP.out]; exact own_ext HOWN.out (hx68.trans hx7), hR2.out, hG.out, hxr.trans (hx68.trans hx7)⟩
        case measure => first | (simp [intOf]; done) | (simp [intOf]; omega)
      · go_wp2_with (go_at_call 62; refine CV.out.mono ?_; rintro e w7 ⟨rfl, hx7⟩)
        go_roundw
        case rel => exact ⟨k, E, by rw [HEL.out]; omega, by go_num, own_mono (own_ext HOD.out hx7) hsw, hR2.out, hGE.out, hxr.trans (hx68.trans hx7)⟩
        case measure => first | (simp [intOf]; done) | (simp [intOf]; omega)
end Go.Proofs.Ytiofckbdjifdpaa
