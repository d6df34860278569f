

/- FnChecks: for all arguments the call returns true. No condition. -/
import Derived.Test.YtphfgfejacbhpaaCkP
import Derived.Test.YtphfgfejacbhpaaArgBytes
import Derived.Test.YtphfgfejacbhpaaWithPair
namespace Go.Proofs.Ytphfgfejacbhpaa
open Go.ChangeShapes Go.WideShapes Go.ChangeAt Go.RowKit
open Go.ChangeMaps (open_string shut_string)
set_option linter.unusedVariables false
theorem Bytes.ext {w w' : World} {lo hi : Nat} {v : Value} {bs : List Int} (h : Bytes w lo hi v bs) (hx : Ext w w') (hh : hi ≤ w.heap.size) : Bytes w' lo hi v bs := ⟨h.1.ext hx hh, h.2⟩
theorem sum_good {U : List Int} (h : wordB 49 U = true) : wordB 50 (U ++ [sumV U]) = true ∧ shB (U ++ [sumV U]) = true := by
  obtain ⟨h1, h2⟩ := word_mem h
  have hv : sumV U = resid (-(lsum U % 61)) := by unfold sumV; rw [h, if_pos rfl]
  have hb := resid_bd (-(lsum U % 61))
  have hm := resid_mod (-(lsum U % 61))
  rw [← hv] at hb hm
  have hw : wordB 50 (U ++ [sumV U]) = true := word_mk (by simp; omega) fun x hx => by
    rcases List.mem_append.1 hx with hx | hx
    · exact h2 x hx
    · simp at hx; subst hx; exact hb
  refine ⟨hw, ?_⟩
  unfold shB
  rw [hw, Bool.true_and, decide_eq_true_eq, lsum_snoc]
  omega
set_option maxRecDepth 100000 in
set_option maxHeartbeats 8000000 in
theorem law_Checks (v0 : Value) (bs : List Int) (v1 : Value) (cs : List Int) (w : World) (h0 : ArgBytes w v0 bs) (h1 : ArgBytes w v1 cs) :
    Calls Try.prog 3 #[v0, v1] w fun e w' => e = .returned (.bool true) ∧ Ext w w' := by
  obtain ⟨i0, hi0, hz0, hz1, hz2⟩ := info_parts Try.info_intC
  obtain ⟨hB0, hY0⟩ := h0
  obtain ⟨hB1, hY1⟩ := h1
  obtain ⟨a0, p0, rfl, n0, n0b, _⟩ := id hB0
  obtain ⟨a1, p1, rfl, n1, n1b, _⟩ := id hB1
  have HB0 : Hid (Bytes w 0 w.heap.size _ bs) := ⟨hB0, hY0⟩
  have HB1 : Hid (Bytes w 0 w.heap.size _ cs) := ⟨hB1, hY1⟩
  obtain ⟨l0, hl0⟩ : ∃ n, n = bs.length := ⟨_, rfl⟩
  obtain ⟨l1, hl1⟩ : ∃ n, n = cs.length := ⟨_, rfl⟩
  rw [← hl0] at HB0 n0 ⊢
  rw [← hl1] at HB1 n1 ⊢
  clear hB0 hY0 hB1 hY1 hl0 hl1
  have X := Lib.hid (Ext.refl w)
  cases hbig : bigB l0 l1
  case true =>
    have CB := Lib.hid (c_big a0 a1 l0 l1 p0 p1 w (by omega) (by omega))
    rw [hbig] at CB
    clear hbig
    go_enter Try.func3, Try.ntmps3
    go_wp2_with fail
    refine CB.out.mono ?_
    rintro e w' ⟨rfl, rfl⟩
    go_wp2
    go_ret
    exact ⟨rfl, Ext.refl _⟩
  have CB := Lib.hid (c_big a0 a1 l0 l1 p0 p1 w (by omega) (by omega))
  rw [hbig] at CB
  have hsm : l0 + l1 ≤ 1048576 := by
    unfold bigB at hbig
    simp only [Bool.or_eq_false_iff, decide_eq_false_iff_not] at hbig
    omega
  clear hbig
  go_enter Try.func3, Try.ntmps3
  go_wp2_with fail
  refine CB.out.mono ?_
  rintro e w' ⟨rfl, rfl⟩
  clear CB
  go_wp2_with fail
  refine (c_DrawWithPair _ 0 w.heap.size bs w HB0.out (Nat.le_refl _)).mono ?_
  rintro e w1 ⟨vL, L, rfl, ho, hl, hx1⟩
  obtain ⟨aL, cL, rfl, qL1, qL2⟩ := ho.form
  have HOL := Lib.hid ho
  clear ho
  have T__ := Lib.hid (X.out.trans hx1)
  clear X
  have X := T__
  clear T__
  cases h48 : wordB 48 L
  · have CI := Lib.hid (c_iWithPair _ _ _ L w1 HOL.out.read (Nat.le_refl _))
    have hv : wpV L = [] := by unfold wpV; rw [h48]; rfl
    rw [h48, hv] at CI
    go_wp2_with fail
    refine CI.out.mono ?_
    rintro e w2 ⟨r2, rfl, ho2, hx2⟩
    obtain ⟨a2, c2, rfl, _, _, _⟩ := own_form ho2
    have HO2 := Lib.hid (Row.of_own (xs := ([] : List Int)) encI_len ho2)
    have T__ := Lib.hid (X.out.trans hx2)
    clear X
    have X := T__
    clear T__
    have T__ := Lib.hid (HOL.out.ext hx2)
    clear HOL
    have HOL := T__
    clear T__
    have CS := Lib.hid (c_sWithPair _ _ _ L w2 HOL.out.read (by have := hx2.size; omega))
    rw [h48, hv] at CS
    clear CI ho2
    go_wp2_with fail
    refine CS.out.mono ?_
    rintro e w3 ⟨r3, rfl, ho3, hx3⟩
    obtain ⟨a3, c3, rfl, _, _, _⟩ := own_form ho3
    have HO3 := Lib.hid (Row.of_own (xs := ([] : List Int)) encI_len ho3)
    have T__ := Lib.hid (X.out.trans hx3)
    clear X
    have X := T__
    clear T__
    have T__ := Lib.hid (HOL.out.ext hx3)
    clear HOL
    have HOL := T__
    clear T__
    have C1 := Lib.hid (c_iPairChecks _ _ _ L w3 HOL.out.read)
    have C2 := Lib.hid (c_sPairChecks _ _ _ L w3 HOL.out.read)
    rw [h48] at C1 C2
    have CE := Lib.hid (c_sameInts _ _ _ _ _ _ [] [] w3 (HO2.out.ext hx3 (Nat.le_refl _)) HO3.out)
    rw [decide_eq_true rfl] at CE
    clear CS ho3 h48 hv
    go_wp2_with fail
    refine C1.out.mono ?_
    rintro e w' ⟨rfl, rfl⟩
    go_wp2_with fail
    refine C2.out.mono ?_
    rintro e w' ⟨rfl, rfl⟩
    go_wp2_with fail
    refine CE.out.mono ?_
    rintro e w4 ⟨rfl, hx4⟩
    have T__ := Lib.hid (X.out.trans hx4)
    clear X
    have X := T__
    clear T__
    clear C1 C2 CE
    go_wp2_with fail
    refine (c_DrawSumCheck _ 0 w.heap.size cs w4 (HB1.out.ext X.out (Nat.le_refl _)) X.out.size).mono ?_
    rintro e wu ⟨vu, U, rfl, hou, hlu, hxu⟩
    obtain ⟨au, cu, rfl, qu1, qu2⟩ := hou.form
    have HOu := Lib.hid hou
    clear hou
    have T__ := Lib.hid (X.out.trans hxu)
    clear X
    have X := T__
    clear T__
    cases h49 : wordB 49 U
    · have CI := Lib.hid (c_iSumCheck _ _ _ U _ HOu.out.read)
      have CS := Lib.hid (c_sSumCheck _ _ _ U _ HOu.out.read)
      rw [h49] at CI CS
      clear h49
      go_wp2_with fail
      refine CI.out.mono ?_
      rintro e w' ⟨rfl, rfl⟩
      go_wp2_with fail
      refine CS.out.mono ?_
      rintro e w' ⟨rfl, rfl⟩
      clear CI CS
      go_wp2_with fail
      refine (c_DrawSumHolds _ 0 w.heap.size cs wu (HB1.out.ext X.out (Nat.le_refl _)) X.out.size).mono ?_
      rintro e wa ⟨va, V, rfl, hoa, hla, hxa⟩
      obtain ⟨aa, ca, rfl, qa1, qa2⟩ := hoa.form
      have HOa := Lib.hid hoa
      clear hoa
      have T__ := Lib.hid (X.out.trans hxa)
      clear X
      have X := T__
      clear T__
      go_wp2_with fail
      refine (c_iSumH _ _ _ V _ HOa.out.read).mono ?_
      rintro e w' ⟨rfl, rfl⟩
      go_wp2_with fail
      refine (c_sSumH _ _ _ V _ HOa.out.read).mono ?_
      rintro e w' ⟨rfl, rfl⟩
      go_wp2_with fail
      refine (c_DrawFillErased _ 0 w.heap.size cs wa (HB1.out.ext X.out (Nat.le_refl _)) X.out.size).mono ?_
      rintro e wb ⟨vb, Zl, zk, rfl, hob, hlb, zk0, zk1, hxb⟩
      obtain ⟨ab, cb, rfl, qb1, qb2⟩ := hob.form
      have HOb := Lib.hid hob
      clear hob
      have T__ := Lib.hid (X.out.trans hxb)
      clear X
      have X := T__
      clear T__
      go_wp2_with fail
      refine (c_iFillErased _ _ _ Zl zk _ HOb.out.read).mono ?_
      rintro e w' ⟨rfl, rfl⟩
      go_wp2_with fail
      refine (c_sFillErased _ _ _ Zl zk _ HOb.out.read).mono ?_
      rintro e w' ⟨rfl, rfl⟩
      go_wp2
      go_ret
      exact ⟨by simp, X.out⟩
    · have CI := Lib.hid (c_iSumCheck _ _ _ U _ HOu.out.read)
      have CS := Lib.hid (c_sSumCheck _ _ _ U _ HOu.out.read)
      rw [h49] at CI CS
      have HQ : Hid (wordB 50 (U ++ [sumV U]) = true ∧ shB (U ++ [sumV U]) = true) := sum_good h49
      clear h49
      go_wp2_with fail
      refine CI.out.mono ?_
      rintro e w' ⟨rfl, rfl⟩
      go_wp2_with fail
      refine CS.out.mono ?_
      rintro e w' ⟨rfl, rfl⟩
      clear CI CS
      obtain ⟨_, _, e9, hn9, _, _⟩ := own_form HOu.out.own
      simp only [Value.slice.injEq] at e9
      obtain ⟨rfl, _, rfl⟩ := e9
      cases au with
      | none =>
        have hU0 : U = [] := by
          cases U with
          | nil => rfl
          | cons x r => obtain ⟨g, hg⟩ := hn9 (by simp); cases hg
        subst hU0
        clear hn9
        go_wp2_with (at_builtin; refine wpList_append_own _ rfl _ _ 24 rfl wu.heap.size 3 i0 (.int .i64 0) 1 8 Try.underlying24 hi0 hz0 hz1 hz2 rfl (by decide) _ _ _ rfl ((own_lit0 wu 3).alloc _) ⟨wu.heap.size + 1, 0, none⟩ 1 1 [.int .i64 (sumV [])] rfl rfl (by have h9 := new_cells1 (wu.alloc (.cells #[] 3)) (.int .i64 (sumV [])) 3; rw [size_alloc] at h9; exact h9) (by intro u hu; simp at hu; subst hu; rfl) (by unfold maxLen; omega) (by omega) (by simp; omega) ?_; intro v6 w6 hown6 hgrow6 _; obtain ⟨a6, c6, rfl, _, _, _⟩ := own_form hown6)
        have hx6 : Ext wu w6 := (Ext.alloc _ _).push (own_lit0 wu 3) hgrow6 (Nat.le_refl _)
        have hr6 := Row.of_own encI_len (own_push (L := []) hown6)
        have T__ := Lib.hid (X.out.trans hx6)
        clear X
        have X := T__
        clear T__
        refine (c_iSumH _ _ _ ([] ++ [sumV []]) _ hr6).mono ?_
        rw [HQ.out.1, HQ.out.2]
        rintro e w' ⟨rfl, rfl⟩
        clear hr6 hown6 hgrow6
        go_wp2_with fail
        refine (c_DrawSumHolds _ 0 w.heap.size cs w6 (HB1.out.ext X.out (Nat.le_refl _)) X.out.size).mono ?_
        rintro e wa ⟨va, V, rfl, hoa, hla, hxa⟩
        obtain ⟨aa, ca, rfl, qa1, qa2⟩ := hoa.form
        have HOa := Lib.hid hoa
        clear hoa
        have T__ := Lib.hid (X.out.trans hxa)
        clear X
        have X := T__
        clear T__
        go_wp2_with fail
        refine (c_iSumH _ _ _ V _ HOa.out.read).mono ?_
        rintro e w' ⟨rfl, rfl⟩
        go_wp2_with fail
        refine (c_sSumH _ _ _ V _ HOa.out.read).mono ?_
        rintro e w' ⟨rfl, rfl⟩
        go_wp2_with fail
        refine (c_DrawFillErased _ 0 w.heap.size cs wa (HB1.out.ext X.out (Nat.le_refl _)) X.out.size).mono ?_
        rintro e wb ⟨vb, Zl, zk, rfl, hob, hlb, zk0, zk1, hxb⟩
        obtain ⟨ab, cb, rfl, qb1, qb2⟩ := hob.form
        have HOb := Lib.hid hob
        clear hob
        have T__ := Lib.hid (X.out.trans hxb)
        clear X
        have X := T__
        clear T__
        go_wp2_with fail
        refine (c_iFillErased _ _ _ Zl zk _ HOb.out.read).mono ?_
        rintro e w' ⟨rfl, rfl⟩
        go_wp2_with fail
        refine (c_sFillErased _ _ _ Zl zk _ HOb.out.read).mono ?_
        rintro e w' ⟨rfl, rfl⟩
        go_wp2
        go_ret
        exact ⟨by simp, X.out⟩
      | some au0 =>
        clear hn9
        go_wp2_with (first
          | (at_builtin; refine wpList_append_own _ rfl _ _ 24 rfl wu.heap.size 3 i0 (.int .i64 0) 1 8 Try.underlying24 hi0 hz0 hz1 hz2 rfl (by decide) _ _ _ rfl (hown5.alloc _) ⟨w5.heap.size, 0, none⟩ 1 1 [.int .i64 (sumV U)] rfl rfl (new_cells1 _ _ _) (by intro u hu; simp at hu; subst hu; rfl) (by unfold maxLen; omega) (by omega) (by have := hgrow5.size; simp at this ⊢; omega) ?_; intro v6 w6 hown6 hgrow6 _; obtain ⟨a6, c6, rfl, _, _, _⟩ := own_form hown6)
          | (at_builtin; refine wpList_append_own _ rfl _ _ 24 rfl wu.heap.size 3 i0 (.int .i64 0) 1 8 Try.underlying24 hi0 hz0 hz1 hz2 rfl (by decide) _ _ _ rfl (own_lit0 wu 3) au0 U.length cu (U.flatMap encI) rfl (by rw [flat_map]; simp) (Ints_cells (HOu.out.read.ext (Ext.alloc _ _) (Nat.le_refl _))) (ints_one U) (by unfold maxLen; omega) (by omega) (by simp) ?_; intro v5 w5 hown5 hgrow5 _))
        have hx5 : Ext wu w5 := (Ext.alloc _ _).gr hgrow5 (fun k hk => ((own_lit0 wu 3).lt k hk).1)
        have hx6 : Ext wu w6 := hx5.push hown5 hgrow6 (Nat.le_refl _)
        have hr6 : Ints w6 wu.heap.size w6.heap.size (.slice a6 (U.length + 1) c6) (U ++ [sumV U]) := Row.of_own encI_len (own_push (L := U) (by simpa using hown6))
        have T__ := Lib.hid (X.out.trans hx6)
        clear X
        have X := T__
        clear T__
        refine (c_iSumH _ _ _ (U ++ [sumV U]) _ hr6).mono ?_
        rw [HQ.out.1, HQ.out.2]
        rintro e w' ⟨rfl, rfl⟩
        clear hr6 hown6 hgrow6 hown5 hgrow5
        go_wp2_with fail
        refine (c_DrawSumHolds _ 0 w.heap.size cs w6 (HB1.out.ext X.out (Nat.le_refl _)) X.out.size).mono ?_
        rintro e wa ⟨va, V, rfl, hoa, hla, hxa⟩
        obtain ⟨aa, ca, rfl, qa1, qa2⟩ := hoa.form
        have HOa := Lib.hid hoa
        clear hoa
        have T__ := Lib.hid (X.out.trans hxa)
        clear X
        have X := T__
        clear T__
        go_wp2_with fail
        refine (c_iSumH _ _ _ V _ HOa.out.read).mono ?_
        rintro e w' ⟨rfl, rfl⟩
        go_wp2_with fail
        refine (c_sSumH _ _ _ V _ HOa.out.read).mono ?_
        rintro e w' ⟨rfl, rfl⟩
        go_wp2_with fail
        refine (c_DrawFillErased _ 0 w.heap.size cs wa (HB1.out.ext X.out (Nat.le_refl _)) X.out.size).mono ?_
        rintro e wb ⟨vb, Zl, zk, rfl, hob, hlb, zk0, zk1, hxb⟩
        obtain ⟨ab, cb, rfl, qb1, qb2⟩ := hob.form
        have HOb := Lib.hid hob
        clear hob
        have T__ := Lib.hid (X.out.trans hxb)
        clear X
        have X := T__
        clear T__
        go_wp2_with fail
        refine (c_iFillErased _ _ _ Zl zk _ HOb.out.read).mono ?_
        rintro e w' ⟨rfl, rfl⟩
        go_wp2_with fail
        refine (c_sFillErased _ _ _ Zl zk _ HOb.out.read).mono ?_
        rintro e w' ⟨rfl, rfl⟩
        go_wp2
        go_ret
        exact ⟨by simp, X.out⟩
  · obtain ⟨M, hM⟩ : ∃ M, M = wpV L := ⟨_, rfl⟩
    obtain ⟨A, hA⟩ : ∃ A, A = pA L := ⟨_, rfl⟩
    obtain ⟨B, hB⟩ : ∃ B, B = pB L := ⟨_, rfl⟩
    have hM2 : M = L ++ [A, B] := by rw [hM, hA, hB]; unfold wpV pA pB; rw [h48]; rfl
    have hM3 : M = L ++ [pairA L, pairB L] := by rw [hM]; unfold wpV; rw [h48]; rfl
    have HW : Hid (wordB 50 M = true ∧ lsum M % 61 = 0 ∧ wsum 0 M % 61 = 0) := by
      unfold Hid; rw [hM3]; exact ⟨pair_word h48, pair_l L, pair_w L⟩
    obtain ⟨n, hn⟩ : ∃ n, n = M.length := ⟨_, rfl⟩
    have hn2 : n = L.length + 2 := by rw [hn, hM2]; simp
    have HA : Hid (M[L.length]? = some A) := by unfold Hid; rw [hM2, List.getElem?_append_right (Nat.le_refl _)]; simp
    have HB : Hid (M[L.length + 1]? = some B) := by unfold Hid; rw [hM2, List.getElem?_append_right (by omega)]; simp
    have hL48 := (word_mem h48).1
    have CI := Lib.hid (c_iWithPair _ _ _ L w1 HOL.out.read (Nat.le_refl _))
    rw [h48, ← hM, ← hn] at CI
    have hl1' : L.length + 2 ≤ n := by omega
    have hl2' : n ≤ L.length + 2 := by omega
    have hnI : ((n : Int) != (L.length : Int) + 2) = false := by simp; omega
    have HN := Lib.hid hn
    have HNI := Lib.hid hnI
    have HMM := Lib.hid hM
    have HAA := Lib.hid hA
    have HBB := Lib.hid hB
    have H48 := Lib.hid h48
    clear hn2 hM2 hM3 hnI hn hM hA hB h48
    go_wp2_with fail
    refine CI.out.mono ?_
    rintro e w2 ⟨r2, rfl, ho2, hx2⟩
    obtain ⟨g2, c2, rfl, hg2, _⟩ := own_at0 ho2 (by omega)
    have HO2 : Hid (OwnI w2 w1.heap.size w2.heap.size (.slice (some ⟨g2, 0, none⟩) n c2) M) := by
      have e9 : w2.ownsRow w1.heap.size 3 1 (.slice (some ⟨g2, 0, none⟩) n c2) M.length (M.flatMap encI) := by rw [← HN.out]; exact ho2
      exact OwnI.of e9
    have T__ := Lib.hid (X.out.trans hx2)
    clear X
    have X := T__
    clear T__
    have T__ := Lib.hid (HOL.out.ext hx2)
    clear HOL
    have HOL := T__
    clear T__
    have CS := Lib.hid (c_sWithPair _ _ _ L w2 HOL.out.read (by have := hx2.size; omega))
    rw [H48.out, ← HMM.out, ← HN.out] at CS
    clear CI ho2
    go_wp2_with fail
    refine CS.out.mono ?_
    rintro e w3 ⟨r3, rfl, ho3, hx3⟩
    obtain ⟨g3, c3, rfl, hg3, _⟩ := own_at0 ho3 (by omega)
    have HO3 : Hid (OwnI w3 w2.heap.size w3.heap.size (.slice (some ⟨g3, 0, none⟩) n c3) M) := by
      have e9 : w3.ownsRow w2.heap.size 3 1 (.slice (some ⟨g3, 0, none⟩) n c3) M.length (M.flatMap encI) := by rw [← HN.out]; exact ho3
      exact OwnI.of e9
    have T__ := Lib.hid (X.out.trans hx3)
    clear X
    have X := T__
    clear T__
    have T__ := Lib.hid (HOL.out.ext hx3)
    clear HOL
    have HOL := T__
    clear T__
    have T__ := Lib.hid (HO2.out.ext hx3)
    clear HO2
    have HO2 := T__
    clear T__
    have C1 := Lib.hid (c_iPairChecks _ _ _ L w3 HOL.out.read)
    have C2 := Lib.hid (c_sPairChecks _ _ _ L w3 HOL.out.read)
    rw [H48.out, ← HAA.out, ← HBB.out] at C1 C2
    have CE := Lib.hid (c_sameInts _ _ _ _ _ _ M M w3 HO2.out.read HO3.out.read)
    rw [decide_eq_true rfl] at CE
    clear CS ho3
    go_wp2_with fail
    refine C1.out.mono ?_
    rintro e w' ⟨rfl, rfl⟩
    go_wp2_with fail
    refine C2.out.mono ?_
    rintro e w' ⟨rfl, rfl⟩
    go_wp2_with fail
    refine CE.out.mono ?_
    rintro e w4 ⟨rfl, hx4⟩
    have T__ := Lib.hid (X.out.trans hx4)
    clear X
    have X := T__
    clear T__
    have T__ := Lib.hid (HO2.out.ext hx4)
    clear HO2
    have HO2 := T__
    clear T__
    have T__ := Lib.hid (HO3.out.ext hx4)
    clear HO3
    have HO3 := T__
    clear T__
    clear C1 C2 CE
    have CY := Lib.hid (c_iSyn _ _ _ M w4 HO2.out.read)
    have ey : synA M = 0 ∧ synB M = 0 := by unfold synA synB; rw [HW.out.1, HW.out.2.1, HW.out.2.2]; simp
    rw [ey.1, ey.2, HW.out.1] at CY
    clear ey
    go_wp2_with fail
    refine CY.out.mono ?_
    rintro e w' ⟨rfl, rfl⟩
    have ho3n : w4.ownsRow w2.heap.size 3 1 (.slice (some ⟨g3, 0, none⟩) n c3) n (M.flatMap encI) := by rw [HN.out]; rw [HN.out] at HO3; exact HO3.out.own
    have ka := own_cellv ho3n HA.out (by omega)
    have kb := own_cellv ho3n HB.out (by omega)
    have hnI := HNI.out
    have hl3 : (L.length : Int) < (n : Int) := by omega
    have hl4 : (L.length : Int) + 1 < (n : Int) := by omega
    obtain ⟨iN, hI, hin⟩ : ∃ iN : Nat, ((l0 : Int) + 3 * (l1 : Int)) % (n : Int) = (iN : Int) ∧ iN < n := by
      have h1 := Int.emod_nonneg ((l0 : Int) + 3 * (l1 : Int)) (show (n : Int) ≠ 0 by omega)
      have h2 := Int.emod_lt_of_pos ((l0 : Int) + 3 * (l1 : Int)) (show (0 : Int) < n by omega)
      exact ⟨(((l0 : Int) + 3 * (l1 : Int)) % (n : Int)).toNat, by omega, by omega⟩
    obtain ⟨x, hx⟩ : ∃ x, M[iN]? = some x := ⟨_, List.getElem?_eq_getElem (by rw [← HN.out]; exact hin)⟩
    have hxb := (word_mem HW.out.1).2 x (List.mem_of_getElem? hx)
    obtain ⟨x1, x61⟩ := hxb
    have HWr : Hid (Wrong M iN x (1 + (x + (l1 : Int) % 60) % 61)) := ⟨HW.out.1, HW.out.2.1, HW.out.2.2, hx, by omega, by omega, by omega⟩
    have HX := Lib.hid hx
    have HO3N := Lib.hid ho3n
    have hinI : (iN : Int) < (n : Int) := by omega
    have kx := own_cellv ho3n hx hin
    have hd0 : 0 ≤ (l1 : Int) % 60 := by omega
    have hd1 : (l1 : Int) % 60 ≤ 59 := by omega
    clear CY hx ho3n
    go_wp2_with (at_builtin; refine wpList_append_own _ rfl _ _ 24 rfl w4.heap.size 3 i0 (.int .i64 0) 1 8 Try.underlying24 hi0 hz0 hz1 hz2 rfl (by decide) _ _ _ rfl (own_lit0 w4 3) ⟨g3, 0, none⟩ n c3 (M.flatMap encI) rfl (by rw [flat_map, HN.out]; simp) (Ints_cells (by have h9 := HO3.out.read.ext (Ext.alloc w4 (.cells #[] 3)) (by have := hx4.size; omega); exact h9)) (ints_one M) (by unfold maxLen; omega) (by omega) (by simp) ?_; intro v5 w5 hown5 hgrow5 _; rw [Nat.zero_add, List.nil_append] at hown5; obtain ⟨g5, c5, rfl, hg5, _⟩ := own_at0 hown5 (by omega); have hx5 : Ext w4 w5 := (Ext.alloc _ _).gr hgrow5 (fun k hk => ((own_lit0 w4 3).lt k hk).1); have k5 := own_cellv hown5 HX.out hin; have f5 := hown5.frozenAt iN; have kx5 := hx5.cell kx; have HO5 := Lib.hid hown5; clear hown5 hgrow5)
    obtain ⟨Y, hY⟩ : ∃ Y, Y = 1 + (x + (l1 : Int) % 60) % 61 := ⟨_, rfl⟩
    rw [← hY] at HWr ⊢
    obtain ⟨w7, hw7⟩ : ∃ W, W = w5.setCell ⟨g5, iN, none⟩ (.int .i64 Y) := ⟨_, rfl⟩
    rw [← hw7]
    have hx7 : Ext w4 w7 := by rw [hw7]; exact hx5.st hg5 _
    obtain ⟨M2, hM2⟩ : ∃ M2, M2 = M.set iN Y := ⟨_, rfl⟩
    have HM2 : Hid (M2.length = n) := by unfold Hid; rw [hM2, List.length_set, HN.out]
    have hr7 : Ints w7 w4.heap.size w7.heap.size (.slice (some ⟨g5, 0, none⟩) n c5) M2 := by
      have e9 := own_setw HO5.out iN Y
      rw [← hw7, ← hM2] at e9
      have e8 := Row.of_own (xs := M2) (enc := encI) (sz := 1) (w := w7) (base := w4.heap.size) (e := 3) (v := .slice (some ⟨g5, 0, none⟩) n c5) encI_len (by rw [HM2.out]; exact e9)
      exact e8
    have HR7 := Lib.hid hr7
    have kx7 := hx7.cell kx
    have CC := c_iCorrectOne _ _ _ M2 w7 hr7 (Nat.le_refl _)
    rw [hM2, HWr.out.coO] at CC
    simp only [Option.isSome_some, Option.getD_some] at CC
    rw [← HN.out] at CC
    have HCC := Lib.hid CC
    have CFE : Hid (∀ W, Ext w7 W → Calls Try.prog 14 #[.slice (some ⟨g5, 0, none⟩) n c5, .int .i64 (iN : Int)] W fun e w' => e = .returned (.tuple #[.int .i64 x, .bool true]) ∧ W = w') := fun W hX => by
      have e9 := c_iFillErased _ _ _ M2 (iN : Int) W (HR7.out.ext hX (Nat.le_refl _))
      have eB : erB M2 (iN : Int) = true := by
        unfold erB
        rw [hM2, HWr.out.word2, List.length_set, Bool.true_and, inB_iff, ← HN.out]
        omega
      have eV : erV M2 (iN : Int) = x := by
        unfold erV
        rw [eB, if_pos rfl, hM2, Int.toNat_natCast, List.getD_eq_getElem?_getD, List.getElem?_set_self (by rw [← HN.out]; exact hin)]
        exact HWr.out.mod
      rw [eB, eV] at e9
      exact e9
    have T__ := Lib.hid (X.out.trans hx7)
    clear X
    have X := T__
    clear T__
    have T__ := Lib.hid (HO3.out.ext hx7)
    clear HO3
    have HO3 := T__
    clear T__
    clear hw7 hM2 hY CC hr7 k5 f5 kx5 kx ka kb hx5 hI
    refine HCC.out.mono ?_
    rintro e w8 ⟨r8, rfl, ho8, hx8⟩
    obtain ⟨g8, c8, rfl, hg8, _⟩ := own_at0 ho8 (by omega)
    have HO8 : Hid (OwnI w8 w7.heap.size w8.heap.size (.slice (some ⟨g8, 0, none⟩) n c8) M) := by
      have e9 : w8.ownsRow w7.heap.size 3 1 (.slice (some ⟨g8, 0, none⟩) n c8) M.length (M.flatMap encI) := by rw [← HN.out]; exact ho8
      exact OwnI.of e9
    have kx8 := hx8.cell kx7
    have T__ := Lib.hid (X.out.trans hx8)
    clear X
    have X := T__
    clear T__
    have T__ := Lib.hid (HO3.out.ext hx8)
    clear HO3
    have HO3 := T__
    clear T__
    have CE := Lib.hid (c_sameInts _ _ _ _ _ _ M M w8 HO8.out.read HO3.out.read)
    rw [decide_eq_true rfl] at CE
    clear ho8 kx7 HCC
    go_wp2_with fail
    refine (CFE.out _ hx8).mono ?_
    rintro e w' ⟨rfl, rfl⟩
    go_wp2_with fail
    refine CE.out.mono ?_
    rintro e w9 ⟨rfl, hx9⟩
    have kx9 := hx9.cell kx8
    have T__ := Lib.hid (X.out.trans hx9)
    clear X
    have X := T__
    clear T__
    clear CE CFE kx8
    go_wp2_with fail
    refine (c_DrawSumCheck _ 0 w.heap.size cs w9 (HB1.out.ext X.out (Nat.le_refl _)) X.out.size).mono ?_
    rintro e wu ⟨vu, U, rfl, hou, hlu, hxu⟩
    obtain ⟨au, cu, rfl, qu1, qu2⟩ := hou.form
    have HOu := Lib.hid hou
    clear hou
    have T__ := Lib.hid (X.out.trans hxu)
    clear X
    have X := T__
    clear T__
    cases h49 : wordB 49 U
    · have CI := Lib.hid (c_iSumCheck _ _ _ U _ HOu.out.read)
      have CS := Lib.hid (c_sSumCheck _ _ _ U _ HOu.out.read)
      rw [h49] at CI CS
      clear h49
      go_wp2_with fail
      refine CI.out.mono ?_
      rintro e w' ⟨rfl, rfl⟩
      go_wp2_with fail
      refine CS.out.mono ?_
      rintro e w' ⟨rfl, rfl⟩
      clear CI CS
      go_wp2_with fail
      refine (c_DrawSumHolds _ 0 w.heap.size cs wu (HB1.out.ext X.out (Nat.le_refl _)) X.out.size).mono ?_
      rintro e wa ⟨va, V, rfl, hoa, hla, hxa⟩
      obtain ⟨aa, ca, rfl, qa1, qa2⟩ := hoa.form
      have HOa := Lib.hid hoa
      clear hoa
      have T__ := Lib.hid (X.out.trans hxa)
      clear X
      have X := T__
      clear T__
      go_wp2_with fail
      refine (c_iSumH _ _ _ V _ HOa.out.read).mono ?_
      rintro e w' ⟨rfl, rfl⟩
      go_wp2_with fail
      refine (c_sSumH _ _ _ V _ HOa.out.read).mono ?_
      rintro e w' ⟨rfl, rfl⟩
      go_wp2_with fail
      refine (c_DrawFillErased _ 0 w.heap.size cs wa (HB1.out.ext X.out (Nat.le_refl _)) X.out.size).mono ?_
      rintro e wb ⟨vb, Zl, zk, rfl, hob, hlb, zk0, zk1, hxb⟩
      obtain ⟨ab, cb, rfl, qb1, qb2⟩ := hob.form
      have HOb := Lib.hid hob
      clear hob
      have T__ := Lib.hid (X.out.trans hxb)
      clear X
      have X := T__
      clear T__
      go_wp2_with fail
      refine (c_iFillErased _ _ _ Zl zk _ HOb.out.read).mono ?_
      rintro e w' ⟨rfl, rfl⟩
      go_wp2_with fail
      refine (c_sFillErased _ _ _ Zl zk _ HOb.out.read).mono ?_
      rintro e w' ⟨rfl, rfl⟩
      go_wp2
      go_ret
      exact ⟨by simp, X.out⟩
    · have CI := Lib.hid (c_iSumCheck _ _ _ U _ HOu.out.read)
      have CS := Lib.hid (c_sSumCheck _ _ _ U _ HOu.out.read)
      rw [h49] at CI CS
      have HQ : Hid (wordB 50 (U ++ [sumV U]) = true ∧ shB (U ++ [sumV U]) = true) := sum_good h49
      clear h49
      go_wp2_with fail
      refine CI.out.mono ?_
      rintro e w' ⟨rfl, rfl⟩
      go_wp2_with fail
      refine CS.out.mono ?_
      rintro e w' ⟨rfl, rfl⟩
      clear CI CS
      obtain ⟨_, _, e9, hn9, _, _⟩ := own_form HOu.out.own
      simp only [Value.slice.injEq] at e9
      obtain ⟨rfl, _, rfl⟩ := e9
      cases au with
      | none =>
        have hU0 : U = [] := by
          cases U with
          | nil => rfl
          | cons x r => obtain ⟨g, hg⟩ := hn9 (by simp); cases hg
        subst hU0
        clear hn9
        go_wp2_with (at_builtin; refine wpList_append_own _ rfl _ _ 24 rfl wu.heap.size 3 i0 (.int .i64 0) 1 8 Try.underlying24 hi0 hz0 hz1 hz2 rfl (by decide) _ _ _ rfl ((own_lit0 wu 3).alloc _) ⟨wu.heap.size + 1, 0, none⟩ 1 1 [.int .i64 (sumV [])] rfl rfl (by have h9 := new_cells1 (wu.alloc (.cells #[] 3)) (.int .i64 (sumV [])) 3; rw [size_alloc] at h9; exact h9) (by intro u hu; simp at hu; subst hu; rfl) (by unfold maxLen; omega) (by omega) (by simp; omega) ?_; intro v6 w6 hown6 hgrow6 _; obtain ⟨a6, c6, rfl, _, _, _⟩ := own_form hown6)
        have hx6 : Ext wu w6 := (Ext.alloc _ _).push (own_lit0 wu 3) hgrow6 (Nat.le_refl _)
        have hr6 := Row.of_own encI_len (own_push (L := []) hown6)
        have T__ := Lib.hid (X.out.trans hx6)
        clear X
        have X := T__
        clear T__
        refine (c_iSumH _ _ _ ([] ++ [sumV []]) _ hr6).mono ?_
        rw [HQ.out.1, HQ.out.2]
        rintro e w' ⟨rfl, rfl⟩
        clear hr6 hown6 hgrow6
        go_wp2_with fail
        refine (c_DrawSumHolds _ 0 w.heap.size cs w6 (HB1.out.ext X.out (Nat.le_refl _)) X.out.size).mono ?_
        rintro e wa ⟨va, V, rfl, hoa, hla, hxa⟩
        obtain ⟨aa, ca, rfl, qa1, qa2⟩ := hoa.form
        have HOa := Lib.hid hoa
        clear hoa
        have T__ := Lib.hid (X.out.trans hxa)
        clear X
        have X := T__
        clear T__
        go_wp2_with fail
        refine (c_iSumH _ _ _ V _ HOa.out.read).mono ?_
        rintro e w' ⟨rfl, rfl⟩
        go_wp2_with fail
        refine (c_sSumH _ _ _ V _ HOa.out.read).mono ?_
        rintro e w' ⟨rfl, rfl⟩
        go_wp2_with fail
        refine (c_DrawFillErased _ 0 w.heap.size cs wa (HB1.out.ext X.out (Nat.le_refl _)) X.out.size).mono ?_
        rintro e wb ⟨vb, Zl, zk, rfl, hob, hlb, zk0, zk1, hxb⟩
        obtain ⟨ab, cb, rfl, qb1, qb2⟩ := hob.form
        have HOb := Lib.hid hob
        clear hob
        have T__ := Lib.hid (X.out.trans hxb)
        clear X
        have X := T__
        clear T__
        go_wp2_with fail
        refine (c_iFillErased _ _ _ Zl zk _ HOb.out.read).mono ?_
        rintro e w' ⟨rfl, rfl⟩
        go_wp2_with fail
        refine (c_sFillErased _ _ _ Zl zk _ HOb.out.read).mono ?_
        rintro e w' ⟨rfl, rfl⟩
        go_wp2
        go_ret
        exact ⟨by simp, X.out⟩
      | some au0 =>
        clear hn9
        go_wp2_with (first
          | (at_builtin; refine wpList_append_own _ rfl _ _ 24 rfl wu.heap.size 3 i0 (.int .i64 0) 1 8 Try.underlying24 hi0 hz0 hz1 hz2 rfl (by decide) _ _ _ rfl (hown5.alloc _) ⟨w5.heap.size, 0, none⟩ 1 1 [.int .i64 (sumV U)] rfl rfl (new_cells1 _ _ _) (by intro u hu; simp at hu; subst hu; rfl) (by unfold maxLen; omega) (by omega) (by have := hgrow5.size; simp at this ⊢; omega) ?_; intro v6 w6 hown6 hgrow6 _; obtain ⟨a6, c6, rfl, _, _, _⟩ := own_form hown6)
          | (at_builtin; refine wpList_append_own _ rfl _ _ 24 rfl wu.heap.size 3 i0 (.int .i64 0) 1 8 Try.underlying24 hi0 hz0 hz1 hz2 rfl (by decide) _ _ _ rfl (own_lit0 wu 3) au0 U.length cu (U.flatMap encI) rfl (by rw [flat_map]; simp) (Ints_cells (HOu.out.read.ext (Ext.alloc _ _) (Nat.le_refl _))) (ints_one U) (by unfold maxLen; omega) (by omega) (by simp) ?_; intro v5 w5 hown5 hgrow5 _))
        have hx5 : Ext wu w5 := (Ext.alloc _ _).gr hgrow5 (fun k hk => ((own_lit0 wu 3).lt k hk).1)
        have hx6 : Ext wu w6 := hx5.push hown5 hgrow6 (Nat.le_refl _)
        have hr6 : Ints w6 wu.heap.size w6.heap.size (.slice a6 (U.length + 1) c6) (U ++ [sumV U]) := Row.of_own encI_len (own_push (L := U) (by simpa using hown6))
        have T__ := Lib.hid (X.out.trans hx6)
        clear X
        have X := T__
        clear T__
        refine (c_iSumH _ _ _ (U ++ [sumV U]) _ hr6).mono ?_
        rw [HQ.out.1, HQ.out.2]
        rintro e w' ⟨rfl, rfl⟩
        clear hr6 hown6 hgrow6 hown5 hgrow5
        go_wp2_with fail
        refine (c_DrawSumHolds _ 0 w.heap.size cs w6 (HB1.out.ext X.out (Nat.le_refl _)) X.out.size).mono ?_
        rintro e wa ⟨va, V, rfl, hoa, hla, hxa⟩
        obtain ⟨aa, ca, rfl, qa1, qa2⟩ := hoa.form
        have HOa := Lib.hid hoa
        clear hoa
        have T__ := Lib.hid (X.out.trans hxa)
        clear X
        have X := T__
        clear T__
        go_wp2_with fail
        refine (c_iSumH _ _ _ V _ HOa.out.read).mono ?_
        rintro e w' ⟨rfl, rfl⟩
        go_wp2_with fail
        refine (c_sSumH _ _ _ V _ HOa.out.read).mono ?_
        rintro e w' ⟨rfl, rfl⟩
        go_wp2_with fail
        refine (c_DrawFillErased _ 0 w.heap.size cs wa (HB1.out.ext X.out (Nat.le_refl _)) X.out.size).mono ?_
        rintro e wb ⟨vb, Zl, zk, rfl, hob, hlb, zk0, zk1, hxb⟩
        obtain ⟨ab, cb, rfl, qb1, qb2⟩ := hob.form
        have HOb := Lib.hid hob
        clear hob
        have T__ := Lib.hid (X.out.trans hxb)
        clear X
        have X := T__
        clear T__
        go_wp2_with fail
        refine (c_iFillErased _ _ _ Zl zk _ HOb.out.read).mono ?_
        rintro e w' ⟨rfl, rfl⟩
        go_wp2_with fail
        refine (c_sFillErased _ _ _ Zl zk _ HOb.out.read).mono ?_
        rintro e w' ⟨rfl, rfl⟩
        go_wp2
        go_ret
        exact ⟨by simp, X.out⟩
set_option maxRecDepth 100000 in
theorem lifted_FnChecks (os : Os) (started : os.Started) (H : Type) (enc : TypeId × Value → H) :
    ReturnsInHanded {} Try.checked os 3 .any (Rows.fnChecksSpec.pre6 enc Try.prog Try.f3 Rows.fnChecksRow.domain false) (Rows.fnChecksSpec.post enc Try.prog Try.f3 false true false false) := by
  refine returnsInHanded_of_change (C := Try.checked) own_Ytphfgfejacbhpaa started (by kernel_rfl) Try.func3
    (ChangeSpec.witness6 (enc := enc) (C := Try.checked) false ⟨#[], #[.slice none 0 0, .slice none 0 0], []⟩ 8 (by kernel_rfl) (by kernel_rfl) (by kernel_rfl) (by kernel_rfl)) ?_
  intro W base args ds gs before hval0 hW hcnd _
  have hval : ∀ (j : Nat) t v, Try.f3.params[j]? = some t → args[j]? = some v → Value.okWide Try.prog W .any base t v := hval0
  have hW' := hW
  obtain ⟨p, q, hA0, hV, rfl, hfz, hnd⟩ := hW
  have hA : DataW.TrodAll enc Try.prog W 0 (fun _ => true) true Try.f3.params.toList args.toList ds p := hA0
  rw [Try.params3] at hA hval
  obtain ⟨v0, vs0, d0, ds0, p0, q0, hargs, rfl, rfl, h0, r0⟩ := trodAll_cons hA
  obtain ⟨v1, vs1, d1, ds1, p1, q1, rfl, rfl, rfl, h1, r1⟩ := trodAll_cons r0
  obtain ⟨rfl, rfl, rfl⟩ := trodAll_nil r1
  obtain rfl : args = #[v0, v1] := by cases args; simp_all
  obtain ⟨rfl, rfl⟩ := trodVars_none hV
  have k0 := h0
  have lt0 : ∀ x ∈ p0, x.block < W.heap.size := by obtain ⟨m, hm⟩ := k0; exact DataW.trod_lt m _ _ _ hm
  obtain ⟨x0, w0⟩ := arg_bytes (hval 0 22 v0 rfl rfl) h0
  have k1 := h1
  have lt1 : ∀ x ∈ p1, x.block < W.heap.size := by obtain ⟨m, hm⟩ := k1; exact DataW.trod_lt m _ _ _ hm
  obtain ⟨x1, w1⟩ := arg_bytes (hval 1 22 v1 rfl rfl) h1
  clear hA0 hval0
  refine (law_Checks v0 x0 v1 x1 W w0 w1).mono fun e W' ⟨he, bel⟩ => ?_
  subst he
  exact ⟨_, rfl, _, _, _, [], _, [], hW', trodAll_mk1 (shut_bool Try.underlying4 _), (trodAll_cons_mk (Below.trod laidOut_Ytphfgfejacbhpaa (by kernel_rfl) (of_decide_eq_true (by kernel_rfl)) k0 bel lt0) (trodAll_cons_mk (Below.trod laidOut_Ytphfgfejacbhpaa (by kernel_rfl) (of_decide_eq_true (by kernel_rfl)) k1 bel lt1) trodAll_mk0)), rfl, bel.frame _, fun h => by cases h⟩

theorem holds_FnChecks : Rows.FnChecksSaid :=
  OpenClaim.holds_of_wide 3 Try.f3 rfl rfl rfl rfl rfl rfl rfl ⟨rfl, rfl, rfl, rfl, rfl⟩ rfl rfl rfl rfl rfl (by kernel_rfl) Try.func3 (by kernel_rfl)
    (of_decide_eq_true (by kernel_rfl)) (by unfold Func.isWrapper; first | (rw [if_pos (by decide +kernel)]; kernel_rfl) | (rw [if_neg (by decide +kernel)]; exact ⟨rfl, rfl⟩))
    (fun os started H enc _ => lifted_FnChecks os started H enc)
end Go.Proofs.Ytphfgfejacbhpaa
