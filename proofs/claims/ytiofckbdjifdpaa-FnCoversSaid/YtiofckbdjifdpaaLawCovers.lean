

/- FnCovers: for all arguments the call returns true. No condition. -/
import Derived.Test.YtiofckbdjifdpaaCovQ
import Derived.Test.YtiofckbdjifdpaaQ
import Derived.Test.YtiofckbdjifdpaaArgBytes
import Derived.Test.YtiofckbdjifdpaaIsCover
namespace Go.Proofs.Ytiofckbdjifdpaa
open Go.ChangeShapes Go.WideShapes Go.ChangeAt Go.RowKit
open Go.ChangeMaps (open_string shut_string)
set_option linter.unusedVariables false
set_option linter.unusedSimpArgs false
theorem erase_app9 (T : List Int) (k : Nat) : T.take k ++ T.drop (k + 1) = T.eraseIdx k := (List.eraseIdx_eq_take_drop_succ T k).symm
theorem less_addr {w : World} {b o p cc t : Nat} {T : List Int} (h : IntsR w (.slice (some ⟨b, o, none⟩) p cc) T) (ht : t < p) : ∃ ad : Addr, (if cc = t + 1 then (some ⟨b, o, none⟩ : Option Addr) else some ⟨b, o + (t + 1), none⟩) = some ad ∧
    ∀ W, Ext w W → ∀ j u, ((T.drop (t + 1)).flatMap encI)[j]? = some u → W.cell? (ad.add j) = some u := by
  by_cases hc : cc = t + 1
  · refine ⟨⟨b, o, none⟩, by rw [if_pos hc], fun W hX j u hu => ?_⟩
    obtain ⟨_, _, e, h1, _⟩ := Ints.form h
    simp only [Value.slice.injEq] at e
    rw [List.drop_of_length_le (by omega)] at hu
    simp at hu
  · exact ⟨⟨b, o + (t + 1), none⟩, by rw [if_neg hc], fun W hX => drop_cells (IntsR.adv h hX)⟩
theorem less_row {w : World} {base p t : Nat} {v : Value} {T : List Int} (h : w.ownsRow base 3 1 v (0 + t + (p - (t + 1))) ([] ++ (T.take t).flatMap encI ++ (T.drop (t + 1)).flatMap encI)) (hp : p = T.length) (ht : t < p) :
    w.ownsRow base 3 1 v (T.eraseIdx t).length ((T.eraseIdx t).flatMap encI) := by
  rw [← erase_app9, List.flatMap_append]
  rw [List.nil_append] at h
  have e : (T.take t ++ T.drop (t + 1)).length = 0 + t + (p - (t + 1)) := by
    rw [List.length_append, List.length_take_of_le (by omega), List.length_drop]; omega
  rw [e]
  exact h


set_option maxRecDepth 100000 in
set_option maxHeartbeats 16000000 in
theorem law_Covers (v0 : Value) (bs : List Int) (v1 : Value) (cs : List Int) (w : World) (h0 : ArgBytes w v0 bs) (h1 : ArgBytes w v1 cs) :
    Calls Try.prog 5 #[v0, v1] w fun e w' => e = .returned (.bool true) ∧ Ext w w' := by
  obtain ⟨i0, hi0, hz0, hz1, hz2⟩ := info_parts Try.info_intC
  obtain ⟨hB0, hY0⟩ := h0
  obtain ⟨hB1, hY1⟩ := h1
  obtain ⟨a0, p0, rfl, n0, n0b, _⟩ := id hB0
  obtain ⟨a1, p1, rfl, n1, n1b, _⟩ := id hB1
  have HB0 : Hid (Bytes w 0 w.heap.size _ bs) := ⟨hB0, hY0⟩
  have HB1 : Hid (Bytes w 0 w.heap.size _ cs) := ⟨hB1, hY1⟩
  obtain ⟨l0, hl0⟩ : ∃ n, n = bs.length := ⟨_, rfl⟩
  obtain ⟨l1, hl1⟩ : ∃ n, n = cs.length := ⟨_, rfl⟩
  rw [← hl0] at HB0 n0 ⊢
  rw [← hl1] at HB1 n1 ⊢
  clear hB0 hY0 hB1 hY1 hl0 hl1
  have X := Lib.hid (Ext.refl w)
  by_cases hbig : (1048576 : Int) < wrap64 ((l0 : Int) + (l1 : Int))
  ·
    go_enter Try.func5, Try.ntmps5
    go_wp2_with fail
    go_ret
    exact ⟨rfl, Ext.refl _⟩
  go_enter Try.func5, Try.ntmps5
  go_wp2_with fail
  refine (c_DrawLeastCover _ 0 w.heap.size bs w HB0.out (Nat.le_refl _)).mono ?_
  rintro e w1 ⟨va, xa, n, tm, rfl, hI, hl, m0, m1, t0, t1, hx⟩
  obtain ⟨aa, ca, rfl, _, _⟩ := hI.form
  have HA : Hid (SitesR w1 _ xa) := hI.wide (Nat.zero_le _) (Nat.le_refl _)
  obtain ⟨na, hn9⟩ : ∃ k, k = xa.length := ⟨_, rfl⟩
  rw [← hn9] at HA ⊢
  clear hn9
  have T__ := Lib.hid (X.out.trans hx)
  clear X
  have X := T__
  clear T__
  clear hI hl hx
  obtain ⟨V, hv9⟩ : ∃ x, x = lcV xa n tm := ⟨_, rfl⟩
  obtain ⟨nV, hn9⟩ : ∃ x, x = V.length := ⟨_, rfl⟩
  obtain ⟨ok, hq9⟩ : ∃ x, x = lcOk xa n tm := ⟨_, rfl⟩
  have HV := Lib.hid hv9
  have HNV := Lib.hid hn9
  have HOK := Lib.hid hq9
  clear hv9 hn9 hq9
  have CI : Hid (Calls Try.prog 23 #[.slice aa na ca, .int .i64 n, .int .i64 tm] w1 (LRet V nV ok w1)) := by unfold Hid; rw [HNV.out, HV.out, HOK.out]; exact LRet.of (c_iLeast _ _ _ xa n tm w1 HA.out (Nat.le_refl _))
  go_wp2_with fail
  refine CI.out.mono ?_
  rintro e w2 ⟨aL1, cL1, rfl, hL, hx⟩
  have HL1 := Lib.hid hL
  have T__ := Lib.hid (X.out.trans hx)
  clear X
  have X := T__
  clear T__
  have T__ := Lib.hid (SitesR.adv HA.out hx)
  clear HA
  have HA := T__
  clear T__
  clear hL hx CI
  have CI : Hid (Calls Try.prog 24 #[.slice aa na ca, .int .i64 n, .int .i64 tm] w2 (LRet V nV ok w2)) := by unfold Hid; rw [HNV.out, HV.out, HOK.out]; exact LRet.of (c_sLeast _ _ _ xa n tm w2 HA.out (Nat.le_refl _))
  go_wp2_with fail
  refine CI.out.mono ?_
  rintro e w3 ⟨aL2, cL2, rfl, hL, hx⟩
  have HL2 := Lib.hid hL
  have T__ := Lib.hid (X.out.trans hx)
  clear X
  have X := T__
  clear T__
  have T__ := Lib.hid (SitesR.adv HA.out hx)
  clear HA
  have HA := T__
  clear T__
  have T__ := Lib.hid (IntsR.adv HL1.out hx)
  clear HL1
  have HL1 := T__
  clear T__
  clear hL hx CI
  go_wp2_with fail
  refine (c_DrawGreedyCover _ 0 w.heap.size cs w3 (HB1.out.ext X.out (Nat.le_refl _)) X.out.size).mono ?_
  rintro e w4 ⟨vb, xb, m, rfl, hI, hl, m0', m1', hx⟩
  obtain ⟨ab, cb, rfl, _, _⟩ := hI.form
  have HB : Hid (SitesR w4 _ xb) := hI.wide (Nat.zero_le _) (Nat.le_refl _)
  obtain ⟨nb, hn9⟩ : ∃ k, k = xb.length := ⟨_, rfl⟩
  rw [← hn9] at HB ⊢
  clear hn9
  have T__ := Lib.hid (X.out.trans hx)
  clear X
  have X := T__
  clear T__
  have T__ := Lib.hid (SitesR.adv HA.out hx)
  clear HA
  have HA := T__
  clear T__
  have T__ := Lib.hid (IntsR.adv HL1.out hx)
  clear HL1
  have HL1 := T__
  clear T__
  have T__ := Lib.hid (IntsR.adv HL2.out hx)
  clear HL2
  have HL2 := T__
  clear T__
  clear hI hl hx
  obtain ⟨G, hv9⟩ : ∃ x, x = gcV xb m := ⟨_, rfl⟩
  obtain ⟨nG, hn9⟩ : ∃ x, x = G.length := ⟨_, rfl⟩
  obtain ⟨one, hq9⟩ : ∃ x, x = gcOk xb m := ⟨_, rfl⟩
  have HG := Lib.hid hv9
  have HNG := Lib.hid hn9
  have HONE := Lib.hid hq9
  clear hv9 hn9 hq9
  have CI : Hid (Calls Try.prog 27 #[.slice ab nb cb, .int .i64 m] w4 (LRet G nG one w4)) := by unfold Hid; rw [HNG.out, HG.out, HONE.out]; exact LRet.of (c_iGreedy _ _ _ xb m w4 HB.out (Nat.le_refl _))
  go_wp2_with fail
  refine CI.out.mono ?_
  rintro e w5 ⟨aG1, cG1, rfl, hL, hx⟩
  have HG1 := Lib.hid hL
  have T__ := Lib.hid (X.out.trans hx)
  clear X
  have X := T__
  clear T__
  have T__ := Lib.hid (SitesR.adv HA.out hx)
  clear HA
  have HA := T__
  clear T__
  have T__ := Lib.hid (IntsR.adv HL1.out hx)
  clear HL1
  have HL1 := T__
  clear T__
  have T__ := Lib.hid (IntsR.adv HL2.out hx)
  clear HL2
  have HL2 := T__
  clear T__
  have T__ := Lib.hid (SitesR.adv HB.out hx)
  clear HB
  have HB := T__
  clear T__
  clear hL hx CI
  have CI : Hid (Calls Try.prog 28 #[.slice ab nb cb, .int .i64 m] w5 (LRet G nG one w5)) := by unfold Hid; rw [HNG.out, HG.out, HONE.out]; exact LRet.of (c_sGreedyF _ _ _ xb m w5 HB.out (Nat.le_refl _))
  go_wp2_with fail
  refine CI.out.mono ?_
  rintro e w6 ⟨aG2, cG2, rfl, hL, hx⟩
  have HG2 := Lib.hid hL
  have T__ := Lib.hid (X.out.trans hx)
  clear X
  have X := T__
  clear T__
  have T__ := Lib.hid (SitesR.adv HA.out hx)
  clear HA
  have HA := T__
  clear T__
  have T__ := Lib.hid (IntsR.adv HL1.out hx)
  clear HL1
  have HL1 := T__
  clear T__
  have T__ := Lib.hid (IntsR.adv HL2.out hx)
  clear HL2
  have HL2 := T__
  clear T__
  have T__ := Lib.hid (SitesR.adv HB.out hx)
  clear HB
  have HB := T__
  clear T__
  have T__ := Lib.hid (IntsR.adv HG1.out hx)
  clear HG1
  have HG1 := T__
  clear T__
  clear hL hx CI
  obtain ⟨N, hv9⟩ : ∃ x, x = neV xb m := ⟨_, rfl⟩
  obtain ⟨nN, hn9⟩ : ∃ x, x = N.length := ⟨_, rfl⟩
  obtain ⟨three, hq9⟩ : ∃ x, x = sitesB xb m := ⟨_, rfl⟩
  have HN := Lib.hid hv9
  have HNN := Lib.hid hn9
  have HTH := Lib.hid hq9
  clear hv9 hn9 hq9
  have CI : Hid (Calls Try.prog 29 #[.slice ab nb cb, .int .i64 m] w6 (LRet N nN three w6)) := by unfold Hid; rw [HNN.out, HN.out, HTH.out]; exact LRet.of (c_iNeeded _ _ _ xb m w6 HB.out (Nat.le_refl _))
  go_wp2_with fail
  refine CI.out.mono ?_
  rintro e w7 ⟨aN1, cN1, rfl, hL, hx⟩
  have HN1 := Lib.hid hL
  have T__ := Lib.hid (X.out.trans hx)
  clear X
  have X := T__
  clear T__
  have T__ := Lib.hid (SitesR.adv HA.out hx)
  clear HA
  have HA := T__
  clear T__
  have T__ := Lib.hid (IntsR.adv HL1.out hx)
  clear HL1
  have HL1 := T__
  clear T__
  have T__ := Lib.hid (IntsR.adv HL2.out hx)
  clear HL2
  have HL2 := T__
  clear T__
  have T__ := Lib.hid (SitesR.adv HB.out hx)
  clear HB
  have HB := T__
  clear T__
  have T__ := Lib.hid (IntsR.adv HG1.out hx)
  clear HG1
  have HG1 := T__
  clear T__
  have T__ := Lib.hid (IntsR.adv HG2.out hx)
  clear HG2
  have HG2 := T__
  clear T__
  clear hL hx CI
  have CI : Hid (Calls Try.prog 30 #[.slice ab nb cb, .int .i64 m] w7 (LRet N nN three w7)) := by unfold Hid; rw [HNN.out, HN.out, HTH.out]; exact LRet.of (c_sNeeded _ _ _ xb m w7 HB.out (Nat.le_refl _))
  go_wp2_with fail
  refine CI.out.mono ?_
  rintro e w8 ⟨aN2, cN2, rfl, hL, hx⟩
  have HN2 := Lib.hid hL
  have T__ := Lib.hid (X.out.trans hx)
  clear X
  have X := T__
  clear T__
  have T__ := Lib.hid (SitesR.adv HA.out hx)
  clear HA
  have HA := T__
  clear T__
  have T__ := Lib.hid (IntsR.adv HL1.out hx)
  clear HL1
  have HL1 := T__
  clear T__
  have T__ := Lib.hid (IntsR.adv HL2.out hx)
  clear HL2
  have HL2 := T__
  clear T__
  have T__ := Lib.hid (SitesR.adv HB.out hx)
  clear HB
  have HB := T__
  clear T__
  have T__ := Lib.hid (IntsR.adv HG1.out hx)
  clear HG1
  have HG1 := T__
  clear T__
  have T__ := Lib.hid (IntsR.adv HG2.out hx)
  clear HG2
  have HG2 := T__
  clear T__
  have T__ := Lib.hid (IntsR.adv HN1.out hx)
  clear HN1
  have HN1 := T__
  clear T__
  clear hL hx CI
  go_wp2_with fail
  refine (c_DrawThinCover _ 0 w.heap.size cs w8 (HB1.out.ext X.out (Nat.le_refl _)) X.out.size).mono ?_
  rintro e w9 ⟨vc, xc, k, vs, ch, rfl, hI, hl, k0, k1, hS, hx⟩
  obtain ⟨ac, cd, rfl, _, _⟩ := hI.form
  have HC : Hid (SitesR w9 _ xc) := hI.wide (Nat.zero_le _) (Nat.le_refl _)
  obtain ⟨nc, hn9⟩ : ∃ k, k = xc.length := ⟨_, rfl⟩
  rw [← hn9] at HC ⊢
  clear hn9
  obtain ⟨ah, chc, rfl, _, _⟩ := hS.form
  have HCH : Hid (IntsR w9 _ ch) := hS.mono (Nat.zero_le _) (Nat.le_refl _)
  obtain ⟨nh, hn9⟩ : ∃ k, k = ch.length := ⟨_, rfl⟩
  rw [← hn9] at HCH ⊢
  have HNH := Lib.hid hn9
  clear hn9
  have T__ := Lib.hid (X.out.trans hx)
  clear X
  have X := T__
  clear T__
  have T__ := Lib.hid (SitesR.adv HA.out hx)
  clear HA
  have HA := T__
  clear T__
  have T__ := Lib.hid (IntsR.adv HL1.out hx)
  clear HL1
  have HL1 := T__
  clear T__
  have T__ := Lib.hid (IntsR.adv HL2.out hx)
  clear HL2
  have HL2 := T__
  clear T__
  have T__ := Lib.hid (SitesR.adv HB.out hx)
  clear HB
  have HB := T__
  clear T__
  have T__ := Lib.hid (IntsR.adv HG1.out hx)
  clear HG1
  have HG1 := T__
  clear T__
  have T__ := Lib.hid (IntsR.adv HG2.out hx)
  clear HG2
  have HG2 := T__
  clear T__
  have T__ := Lib.hid (IntsR.adv HN1.out hx)
  clear HN1
  have HN1 := T__
  clear T__
  have T__ := Lib.hid (IntsR.adv HN2.out hx)
  clear HN2
  have HN2 := T__
  clear T__
  clear hI hl hS hx
  obtain ⟨TT, hv9⟩ : ∃ x, x = tcV xc k ch := ⟨_, rfl⟩
  obtain ⟨nT, hn9⟩ : ∃ x, x = TT.length := ⟨_, rfl⟩
  obtain ⟨five, hq9⟩ : ∃ x, x = tcOk xc k ch := ⟨_, rfl⟩
  have HT := Lib.hid hv9
  have HNT := Lib.hid hn9
  have HFI := Lib.hid hq9
  clear hv9 hn9 hq9
  have CI : Hid (Calls Try.prog 32 #[.slice ac nc cd, .int .i64 k, .slice ah nh chc] w9 (LRet TT nT five w9)) := by unfold Hid; rw [HNT.out, HT.out, HFI.out]; exact LRet.of (c_iThin _ _ _ _ _ _ xc k ch w9 HC.out (Nat.le_refl _) HCH.out (Nat.le_refl _))
  go_wp2_with fail
  refine CI.out.mono ?_
  rintro e w10 ⟨aT1, cT1, rfl, hL, hx⟩
  have HT1 := Lib.hid hL
  have T__ := Lib.hid (X.out.trans hx)
  clear X
  have X := T__
  clear T__
  have T__ := Lib.hid (SitesR.adv HA.out hx)
  clear HA
  have HA := T__
  clear T__
  have T__ := Lib.hid (IntsR.adv HL1.out hx)
  clear HL1
  have HL1 := T__
  clear T__
  have T__ := Lib.hid (IntsR.adv HL2.out hx)
  clear HL2
  have HL2 := T__
  clear T__
  have T__ := Lib.hid (SitesR.adv HB.out hx)
  clear HB
  have HB := T__
  clear T__
  have T__ := Lib.hid (IntsR.adv HG1.out hx)
  clear HG1
  have HG1 := T__
  clear T__
  have T__ := Lib.hid (IntsR.adv HG2.out hx)
  clear HG2
  have HG2 := T__
  clear T__
  have T__ := Lib.hid (IntsR.adv HN1.out hx)
  clear HN1
  have HN1 := T__
  clear T__
  have T__ := Lib.hid (IntsR.adv HN2.out hx)
  clear HN2
  have HN2 := T__
  clear T__
  have T__ := Lib.hid (SitesR.adv HC.out hx)
  clear HC
  have HC := T__
  clear T__
  have T__ := Lib.hid (IntsR.adv HCH.out hx)
  clear HCH
  have HCH := T__
  clear T__
  clear hL hx CI
  have CI : Hid (Calls Try.prog 33 #[.slice ac nc cd, .int .i64 k, .slice ah nh chc] w10 (LRet TT nT five w10)) := by unfold Hid; rw [HNT.out, HT.out, HFI.out]; exact LRet.of (c_sThin _ _ _ _ _ _ xc k ch w10 HC.out (Nat.le_refl _) HCH.out (Nat.le_refl _))
  go_wp2_with fail
  refine CI.out.mono ?_
  rintro e w11 ⟨aT2, cT2, rfl, hL, hx⟩
  have HT2 := Lib.hid hL
  have T__ := Lib.hid (X.out.trans hx)
  clear X
  have X := T__
  clear T__
  have T__ := Lib.hid (SitesR.adv HA.out hx)
  clear HA
  have HA := T__
  clear T__
  have T__ := Lib.hid (IntsR.adv HL1.out hx)
  clear HL1
  have HL1 := T__
  clear T__
  have T__ := Lib.hid (IntsR.adv HL2.out hx)
  clear HL2
  have HL2 := T__
  clear T__
  have T__ := Lib.hid (SitesR.adv HB.out hx)
  clear HB
  have HB := T__
  clear T__
  have T__ := Lib.hid (IntsR.adv HG1.out hx)
  clear HG1
  have HG1 := T__
  clear T__
  have T__ := Lib.hid (IntsR.adv HG2.out hx)
  clear HG2
  have HG2 := T__
  clear T__
  have T__ := Lib.hid (IntsR.adv HN1.out hx)
  clear HN1
  have HN1 := T__
  clear T__
  have T__ := Lib.hid (IntsR.adv HN2.out hx)
  clear HN2
  have HN2 := T__
  clear T__
  have T__ := Lib.hid (SitesR.adv HC.out hx)
  clear HC
  have HC := T__
  clear T__
  have T__ := Lib.hid (IntsR.adv HCH.out hx)
  clear HCH
  have HCH := T__
  clear T__
  have T__ := Lib.hid (IntsR.adv HT1.out hx)
  clear HT1
  have HT1 := T__
  clear T__
  clear hL hx CI
  obtain ⟨S, hv9⟩ : ∃ x, x = sfV xc k ch := ⟨_, rfl⟩
  obtain ⟨nS, hn9⟩ : ∃ x, x = S.length := ⟨_, rfl⟩
  obtain ⟨seven, hq9⟩ : ∃ x, x = chosenB xc k ch := ⟨_, rfl⟩
  have HS := Lib.hid hv9
  have HNS := Lib.hid hn9
  have HSE := Lib.hid hq9
  clear hv9 hn9 hq9
  have CI : Hid (Calls Try.prog 34 #[.slice ac nc cd, .int .i64 k, .slice ah nh chc] w11 (LRet S nS seven w11)) := by unfold Hid; rw [HNS.out, HS.out, HSE.out]; exact LRet.of (c_iSeenFrom _ _ _ _ _ _ xc k ch w11 HC.out (Nat.le_refl _) HCH.out (Nat.le_refl _))
  go_wp2_with fail
  refine CI.out.mono ?_
  rintro e w12 ⟨aS1, cS1, rfl, hL, hx⟩
  have HS1 := Lib.hid hL
  have T__ := Lib.hid (X.out.trans hx)
  clear X
  have X := T__
  clear T__
  have T__ := Lib.hid (SitesR.adv HA.out hx)
  clear HA
  have HA := T__
  clear T__
  have T__ := Lib.hid (IntsR.adv HL1.out hx)
  clear HL1
  have HL1 := T__
  clear T__
  have T__ := Lib.hid (IntsR.adv HL2.out hx)
  clear HL2
  have HL2 := T__
  clear T__
  have T__ := Lib.hid (SitesR.adv HB.out hx)
  clear HB
  have HB := T__
  clear T__
  have T__ := Lib.hid (IntsR.adv HG1.out hx)
  clear HG1
  have HG1 := T__
  clear T__
  have T__ := Lib.hid (IntsR.adv HG2.out hx)
  clear HG2
  have HG2 := T__
  clear T__
  have T__ := Lib.hid (IntsR.adv HN1.out hx)
  clear HN1
  have HN1 := T__
  clear T__
  have T__ := Lib.hid (IntsR.adv HN2.out hx)
  clear HN2
  have HN2 := T__
  clear T__
  have T__ := Lib.hid (SitesR.adv HC.out hx)
  clear HC
  have HC := T__
  clear T__
  have T__ := Lib.hid (IntsR.adv HCH.out hx)
  clear HCH
  have HCH := T__
  clear T__
  have T__ := Lib.hid (IntsR.adv HT1.out hx)
  clear HT1
  have HT1 := T__
  clear T__
  have T__ := Lib.hid (IntsR.adv HT2.out hx)
  clear HT2
  have HT2 := T__
  clear T__
  clear hL hx CI
  have CI : Hid (Calls Try.prog 35 #[.slice ac nc cd, .int .i64 k, .slice ah nh chc] w12 (LRet S nS seven w12)) := by unfold Hid; rw [HNS.out, HS.out, HSE.out]; exact LRet.of (c_sSeenFrom _ _ _ _ _ _ xc k ch w12 HC.out (Nat.le_refl _) HCH.out (Nat.le_refl _))
  go_wp2_with fail
  refine CI.out.mono ?_
  rintro e w13 ⟨aS2, cS2, rfl, hL, hx⟩
  have HS2 := Lib.hid hL
  have T__ := Lib.hid (X.out.trans hx)
  clear X
  have X := T__
  clear T__
  have T__ := Lib.hid (SitesR.adv HA.out hx)
  clear HA
  have HA := T__
  clear T__
  have T__ := Lib.hid (IntsR.adv HL1.out hx)
  clear HL1
  have HL1 := T__
  clear T__
  have T__ := Lib.hid (IntsR.adv HL2.out hx)
  clear HL2
  have HL2 := T__
  clear T__
  have T__ := Lib.hid (SitesR.adv HB.out hx)
  clear HB
  have HB := T__
  clear T__
  have T__ := Lib.hid (IntsR.adv HG1.out hx)
  clear HG1
  have HG1 := T__
  clear T__
  have T__ := Lib.hid (IntsR.adv HG2.out hx)
  clear HG2
  have HG2 := T__
  clear T__
  have T__ := Lib.hid (IntsR.adv HN1.out hx)
  clear HN1
  have HN1 := T__
  clear T__
  have T__ := Lib.hid (IntsR.adv HN2.out hx)
  clear HN2
  have HN2 := T__
  clear T__
  have T__ := Lib.hid (SitesR.adv HC.out hx)
  clear HC
  have HC := T__
  clear T__
  have T__ := Lib.hid (IntsR.adv HCH.out hx)
  clear HCH
  have HCH := T__
  clear T__
  have T__ := Lib.hid (IntsR.adv HT1.out hx)
  clear HT1
  have HT1 := T__
  clear T__
  have T__ := Lib.hid (IntsR.adv HT2.out hx)
  clear HT2
  have HT2 := T__
  clear T__
  have T__ := Lib.hid (IntsR.adv HS1.out hx)
  clear HS1
  have HS1 := T__
  clear T__
  clear hL hx CI
  go_wp2_with fail
  refine (c_DrawIsCover _ 0 w.heap.size cs w13 (HB1.out.ext X.out (Nat.le_refl _)) X.out.size).mono ?_
  rintro e w14 ⟨vd, xd, y, vz, z, oft, rfl, hI, hl, y0, y1, hS, hzl, o0, o1, hx⟩
  obtain ⟨ad, cde, rfl, _, _⟩ := hI.form
  have HD : Hid (SitesR w14 _ xd) := hI.wide (Nat.zero_le _) (Nat.le_refl _)
  obtain ⟨nd, hn9⟩ : ∃ k, k = xd.length := ⟨_, rfl⟩
  rw [← hn9] at HD ⊢
  clear hn9
  obtain ⟨az, cz, rfl, _, _⟩ := hS.form
  have HZ : Hid (IntsR w14 _ z) := hS.mono (Nat.zero_le _) (Nat.le_refl _)
  obtain ⟨nz, hn9⟩ : ∃ k, k = z.length := ⟨_, rfl⟩
  rw [← hn9] at HZ ⊢
  have HNZ := Lib.hid hn9
  clear hn9
  have T__ := Lib.hid (X.out.trans hx)
  clear X
  have X := T__
  clear T__
  have T__ := Lib.hid (SitesR.adv HA.out hx)
  clear HA
  have HA := T__
  clear T__
  have T__ := Lib.hid (IntsR.adv HL1.out hx)
  clear HL1
  have HL1 := T__
  clear T__
  have T__ := Lib.hid (IntsR.adv HL2.out hx)
  clear HL2
  have HL2 := T__
  clear T__
  have T__ := Lib.hid (SitesR.adv HB.out hx)
  clear HB
  have HB := T__
  clear T__
  have T__ := Lib.hid (IntsR.adv HG1.out hx)
  clear HG1
  have HG1 := T__
  clear T__
  have T__ := Lib.hid (IntsR.adv HG2.out hx)
  clear HG2
  have HG2 := T__
  clear T__
  have T__ := Lib.hid (IntsR.adv HN1.out hx)
  clear HN1
  have HN1 := T__
  clear T__
  have T__ := Lib.hid (IntsR.adv HN2.out hx)
  clear HN2
  have HN2 := T__
  clear T__
  have T__ := Lib.hid (SitesR.adv HC.out hx)
  clear HC
  have HC := T__
  clear T__
  have T__ := Lib.hid (IntsR.adv HCH.out hx)
  clear HCH
  have HCH := T__
  clear T__
  have T__ := Lib.hid (IntsR.adv HT1.out hx)
  clear HT1
  have HT1 := T__
  clear T__
  have T__ := Lib.hid (IntsR.adv HT2.out hx)
  clear HT2
  have HT2 := T__
  clear T__
  have T__ := Lib.hid (IntsR.adv HS1.out hx)
  clear HS1
  have HS1 := T__
  clear T__
  have T__ := Lib.hid (IntsR.adv HS2.out hx)
  clear HS2
  have HS2 := T__
  clear T__
  clear hI hl hS hx hzl
  obtain ⟨isV, hv9⟩ : ∃ x, x = icV xd y z oft := ⟨_, rfl⟩
  obtain ⟨nine, hq9⟩ : ∃ x, x = icOk xd y z oft := ⟨_, rfl⟩
  have CI := Lib.hid (c_iIsCover _ _ _ _ _ _ xd y z oft w14 HD.out (Nat.le_refl _) HZ.out (Nat.le_refl _))
  rw [← hv9, ← hq9] at CI
  go_wp2_with fail
  refine CI.out.mono ?_
  rintro e w15 ⟨rfl, hx⟩
  have hxd := hx
  have T__ := Lib.hid (X.out.trans hx)
  clear X
  have X := T__
  clear T__
  have T__ := Lib.hid (SitesR.adv HA.out hx)
  clear HA
  have HA := T__
  clear T__
  have T__ := Lib.hid (IntsR.adv HL1.out hx)
  clear HL1
  have HL1 := T__
  clear T__
  have T__ := Lib.hid (IntsR.adv HL2.out hx)
  clear HL2
  have HL2 := T__
  clear T__
  have T__ := Lib.hid (SitesR.adv HB.out hx)
  clear HB
  have HB := T__
  clear T__
  have T__ := Lib.hid (IntsR.adv HG1.out hx)
  clear HG1
  have HG1 := T__
  clear T__
  have T__ := Lib.hid (IntsR.adv HG2.out hx)
  clear HG2
  have HG2 := T__
  clear T__
  have T__ := Lib.hid (IntsR.adv HN1.out hx)
  clear HN1
  have HN1 := T__
  clear T__
  have T__ := Lib.hid (IntsR.adv HN2.out hx)
  clear HN2
  have HN2 := T__
  clear T__
  have T__ := Lib.hid (SitesR.adv HC.out hx)
  clear HC
  have HC := T__
  clear T__
  have T__ := Lib.hid (IntsR.adv HCH.out hx)
  clear HCH
  have HCH := T__
  clear T__
  have T__ := Lib.hid (IntsR.adv HT1.out hx)
  clear HT1
  have HT1 := T__
  clear T__
  have T__ := Lib.hid (IntsR.adv HT2.out hx)
  clear HT2
  have HT2 := T__
  clear T__
  have T__ := Lib.hid (IntsR.adv HS1.out hx)
  clear HS1
  have HS1 := T__
  clear T__
  have T__ := Lib.hid (IntsR.adv HS2.out hx)
  clear HS2
  have HS2 := T__
  clear T__
  clear hx CI
  have CI := Lib.hid (c_sIsCover _ _ _ _ _ _ xd y z oft w15 (HD.out.adv hxd) (Nat.le_refl _) (HZ.out.adv hxd) (Nat.le_refl _))
  rw [← hv9, ← hq9] at CI
  clear hv9 hq9 hxd HNZ
  go_wp2_with fail
  refine CI.out.mono ?_
  rintro e w16 ⟨rfl, hx⟩
  have T__ := Lib.hid (X.out.trans hx)
  clear X
  have X := T__
  clear T__
  have T__ := Lib.hid (SitesR.adv HA.out hx)
  clear HA
  have HA := T__
  clear T__
  have T__ := Lib.hid (IntsR.adv HL1.out hx)
  clear HL1
  have HL1 := T__
  clear T__
  have T__ := Lib.hid (IntsR.adv HL2.out hx)
  clear HL2
  have HL2 := T__
  clear T__
  have T__ := Lib.hid (SitesR.adv HB.out hx)
  clear HB
  have HB := T__
  clear T__
  have T__ := Lib.hid (IntsR.adv HG1.out hx)
  clear HG1
  have HG1 := T__
  clear T__
  have T__ := Lib.hid (IntsR.adv HG2.out hx)
  clear HG2
  have HG2 := T__
  clear T__
  have T__ := Lib.hid (IntsR.adv HN1.out hx)
  clear HN1
  have HN1 := T__
  clear T__
  have T__ := Lib.hid (IntsR.adv HN2.out hx)
  clear HN2
  have HN2 := T__
  clear T__
  have T__ := Lib.hid (SitesR.adv HC.out hx)
  clear HC
  have HC := T__
  clear T__
  have T__ := Lib.hid (IntsR.adv HCH.out hx)
  clear HCH
  have HCH := T__
  clear T__
  have T__ := Lib.hid (IntsR.adv HT1.out hx)
  clear HT1
  have HT1 := T__
  clear T__
  have T__ := Lib.hid (IntsR.adv HT2.out hx)
  clear HT2
  have HT2 := T__
  clear T__
  have T__ := Lib.hid (IntsR.adv HS1.out hx)
  clear HS1
  have HS1 := T__
  clear T__
  have T__ := Lib.hid (IntsR.adv HS2.out hx)
  clear HS2
  have HS2 := T__
  clear T__
  clear hx CI HD HZ
  have CQ : Hid (∀ W a b c d nn L, Ext w16 W → IntsR w16 (.slice a nn c) L → IntsR w16 (.slice b nn d) L → Calls Try.prog 22 #[.slice a nn c, .slice b nn d] W fun e w' => e = .returned (.bool true) ∧ Ext W w') := fun W a b c d nn L hX h1 h2 => by
    have h9 := c_qInts _ _ _ _ _ _ L L W (h1.adv hX) (h2.adv hX)
    rw [decide_eq_true rfl] at h9
    exact h9
  have CQ1 : Hid (∀ W, Ext w16 W → Calls Try.prog 22 #[.slice aL1 nV cL1, .slice aL2 nV cL2] W fun e w' => e = .returned (.bool true) ∧ Ext W w') := fun W hX => CQ.out W _ _ _ _ _ V hX HL1.out HL2.out
  have CQ2 : Hid (∀ W, Ext w16 W → Calls Try.prog 22 #[.slice aG1 nG cG1, .slice aG2 nG cG2] W fun e w' => e = .returned (.bool true) ∧ Ext W w') := fun W hX => CQ.out W _ _ _ _ _ G hX HG1.out HG2.out
  have CQ3 : Hid (∀ W, Ext w16 W → Calls Try.prog 22 #[.slice aN1 nN cN1, .slice aN2 nN cN2] W fun e w' => e = .returned (.bool true) ∧ Ext W w') := fun W hX => CQ.out W _ _ _ _ _ N hX HN1.out HN2.out
  have CQ4 : Hid (∀ W, Ext w16 W → Calls Try.prog 22 #[.slice aT1 nT cT1, .slice aT2 nT cT2] W fun e w' => e = .returned (.bool true) ∧ Ext W w') := fun W hX => CQ.out W _ _ _ _ _ TT hX HT1.out HT2.out
  have CQ5 : Hid (∀ W, Ext w16 W → Calls Try.prog 22 #[.slice aS1 nS cS1, .slice aS2 nS cS2] W fun e w' => e = .returned (.bool true) ∧ Ext W w') := fun W hX => CQ.out W _ _ _ _ _ S hX HS1.out HS2.out
  have CA : Hid (∀ W, Ext w16 W → Calls Try.prog 39 #[.slice ab nb cb, .int .i64 m] W fun e w' => e = .returned (.bool three) ∧ Ext W w') := fun W hX => by rw [HTH.out]; exact c_iAreSites _ _ _ xb m W (HB.out.adv hX) (Nat.le_refl _)
  go_upto_region 19 with fail
  go_cut [249] from 173 to 249 (fun v wx => v = .bool false ∧ Ext w16 wx)
  case first =>
    cases one
    ·
      go_wp2_with fail
      refine (CQ1.out _ (Ext.refl _)).mono ?_
      rintro e w21 ⟨rfl, hx21⟩
      go_wp2_with fail
      refine (CQ2.out _ hx21).mono ?_
      rintro e w22 ⟨rfl, hx⟩
      have hx22 := hx21.trans hx
      clear hx
      go_wp2_with fail
      refine (CQ3.out _ hx22).mono ?_
      rintro e w23 ⟨rfl, hx⟩
      have hx23 := hx22.trans hx
      clear hx
      go_wp2_with fail
      refine (CQ4.out _ hx23).mono ?_
      rintro e w24 ⟨rfl, hx⟩
      have hx24 := hx23.trans hx
      clear hx
      go_wp2_with fail
      refine (CQ5.out _ hx24).mono ?_
      rintro e w25 ⟨rfl, hx⟩
      have hx25 := hx24.trans hx
      clear hx
      go_wp2_with fail
      refine (CA.out _ hx25).mono ?_
      rintro e w26 ⟨rfl, hx⟩
      have hx26 := hx25.trans hx
      clear hx
      go_wp2
      go_meet
      exact ⟨rfl, hx26⟩
    · have h3 : three = true := by rw [HTH.out]; exact (greedy_law HONE.out.symm).1
      subst h3
      go_wp2_with fail
      refine (CQ1.out _ (Ext.refl _)).mono ?_
      rintro e w21 ⟨rfl, hx21⟩
      go_wp2_with fail
      refine (CQ2.out _ hx21).mono ?_
      rintro e w22 ⟨rfl, hx⟩
      have hx22 := hx21.trans hx
      clear hx
      go_wp2_with fail
      refine (CQ3.out _ hx22).mono ?_
      rintro e w23 ⟨rfl, hx⟩
      have hx23 := hx22.trans hx
      clear hx
      go_wp2_with fail
      refine (CQ4.out _ hx23).mono ?_
      rintro e w24 ⟨rfl, hx⟩
      have hx24 := hx23.trans hx
      clear hx
      go_wp2_with fail
      refine (CQ5.out _ hx24).mono ?_
      rintro e w25 ⟨rfl, hx⟩
      have hx25 := hx24.trans hx
      clear hx
      go_wp2_with fail
      refine (CA.out _ hx25).mono ?_
      rintro e w26 ⟨rfl, hx⟩
      have hx26 := hx25.trans hx
      clear hx
      go_wp2
      go_meet
      exact ⟨rfl, hx26⟩
  case rest =>
    obtain ⟨rfl, hx⟩ := hcut
    obtain ⟨w20, hw20⟩ : ∃ W, W = wc := ⟨_, rfl⟩
    subst hw20
    clear CQ1 CQ2 CQ3 CQ4 CQ5 CA HTH
    have T__ := Lib.hid (X.out.trans hx)
    clear X
    have X := T__
    clear T__
    have T__ := Lib.hid (SitesR.adv HA.out hx)
    clear HA
    have HA := T__
    clear T__
    have T__ := Lib.hid (IntsR.adv HL1.out hx)
    clear HL1
    have HL1 := T__
    clear T__
    have T__ := Lib.hid (IntsR.adv HL2.out hx)
    clear HL2
    have HL2 := T__
    clear T__
    have T__ := Lib.hid (SitesR.adv HB.out hx)
    clear HB
    have HB := T__
    clear T__
    have T__ := Lib.hid (IntsR.adv HG2.out hx)
    clear HG2
    have HG2 := T__
    clear T__
    have T__ := Lib.hid (IntsR.adv HN2.out hx)
    clear HN2
    have HN2 := T__
    clear T__
    have T__ := Lib.hid (SitesR.adv HC.out hx)
    clear HC
    have HC := T__
    clear T__
    have T__ := Lib.hid (IntsR.adv HCH.out hx)
    clear HCH
    have HCH := T__
    clear T__
    have T__ := Lib.hid (IntsR.adv HT1.out hx)
    clear HT1
    have HT1 := T__
    clear T__
    have T__ := Lib.hid (IntsR.adv HT2.out hx)
    clear HT2
    have HT2 := T__
    clear T__
    clear hx HG1 HN1 HS1 HS2
    go_upto_if 250 with fail
    go_cut [] from 251 to 251 (fun wx => Ext w20 wx)
    case first =>
      cases five
      · go_wp2
        go_meet
        case rel => exact Ext.refl _
      ·
        obtain ⟨hi1, hi2, hi3, hi4, hi5, hi6⟩ := thin_law HFI.out.symm
        rw [← HT.out] at hi1 hi2 hi4 hi5 hi6
        rw [← HNT.out, ← HNH.out] at hi4
        rw [← HS.out, ← HNS.out] at hi3
        have hTl : nT ≤ 12 := by rw [HNT.out]; exact ic_len hi1
        have CIC : Hid (∀ W v L, Ext w20 W → IntsR W v L → icOk xc k L 1 = true → Calls Try.prog 37 #[.slice ac nc cd, .int .i64 k, v, .int .i64 1] W fun e w' => e = .returned (.tuple #[.bool (icV xc k L 1), .bool true]) ∧ Ext W w') := fun W v L hX hL hk => by
          have h9 := c_iIsCover _ _ _ _ _ _ xc k L 1 W (HC.out.adv hX) (Nat.le_refl _) hL (Nat.le_refl _)
          rw [hk] at h9
          exact h9
        have C1 := CIC.out w20 _ TT (Ext.refl _) HT1.out hi1
        rw [hi2] at C1
        have HC1 := Lib.hid C1
        have hsk : ((nS : Int) != k) = false := by simp [hi3]
        have hnh : ¬ (nh : Int) < (nT : Int) := by omega
        have hnhb : decide ((nh : Int) < (nT : Int)) = false := decide_eq_false hnh
        have hnhn : decide (nh < nT) = false := decide_eq_false (by omega)
        have HI5 := Lib.hid hi5
        have HI6 := Lib.hid hi6
        have hcT : nT ≤ cT2 ∧ cT2 ≤ 9223372036854775807 := row_cap HT2.out
        obtain ⟨hcT1, hcT2⟩ := hcT
        clear C1 hi1 hi2 hi3 hi5 hi6
        go_wp2_with fail
        refine HC1.out.mono ?_
        rintro e w21 ⟨rfl, hx21⟩
        go_wp2_with fail
        go_loopg [44, 279] 20 (fun gg v44 v279 wr => ∃ t : Nat, v279 = .int .i64 t ∧ t ≤ nT ∧ nT ≤ t + gg ∧ Ext w20 wr)
        case atStart => exact ⟨0, rfl, by omega, by omega, hx21⟩
        case round =>
          obtain ⟨t, rfl, ht, htg, hxr⟩ := hrel
          by_cases htn : t < nT
          · obtain ⟨b9, o9, g, rfl, hg, c0⟩ := Ints_at (IntsR.adv HT2.out hxr) htn
            have htI : (t : Int) < (nT : Int) := by omega
            have CH := c_qHas (.slice ah nh chc) 0 _ ch g wr (IntsR.adv HCH.out hxr)
            rw [show ch.contains g = true by simpa using HI5.out g (List.mem_of_getElem? (by rw [HT.out] at *; exact hg.out))] at CH
            have HCHH := Lib.hid CH
            clear CH
            go_wp2_with fail
            refine HCHH.out.mono ?_
            rintro e w' ⟨rfl, rfl⟩
            go_wp2
            go_roundg (nT - (t + 1))
            case measure => omega
            case rel => exact ⟨t + 1, by go_num, by omega, by omega, hxr⟩
          · have htI : ¬ (t : Int) < (nT : Int) := by omega
            obtain ⟨wo, hwo⟩ : ∃ W, W = wr := ⟨_, rfl⟩
            subst hwo
            clear htn ht htg
            go_wp2_with fail
            go_loopg [45, 46, 47, 48, 290] 20 (fun gg v45 v46 v47 v48 v290 wr => ∃ t : Nat, v290 = .int .i64 t ∧ t ≤ nT ∧ nT ≤ t + gg ∧ Ext w20 wr)
            case atStart => exact ⟨0, rfl, by omega, by omega, hxr⟩
            case round =>
              obtain ⟨t, rfl, ht, htg, hx2⟩ := hrel
              by_cases htp : t < nT
              · obtain ⟨b9, o9, g, rfl, hg, c0⟩ := Ints_at (IntsR.adv HT2.out hx2) htp
                have HROW := Lib.hid (IntsR.adv HT2.out hx2)
                have htI : (t : Int) < (nT : Int) := by omega
                have ht0 : (0 : Int) ≤ (t : Int) := by omega
                have ht01 : (0 : Int) ≤ (t : Int) + 1 := by omega
                have htc : (t : Int) ≤ (cT2 : Int) := by omega
                have htp1 : (t : Int) + 1 ≤ (nT : Int) := by omega
                have hpc : (nT : Int) ≤ (cT2 : Int) := by omega
                have hw1 : IntKind.i64.wrap ((t : Int) + 1) = (t : Int) + 1 := by rw [IntKind.wrap_i64]; omega
                clear c0
                go_upto_region 34 with fail
                go_cut [46] from 293 to 302 (fun v wx => ∃ a c, v = .slice a (nT - 1) c ∧ IntsR wx (.slice a (nT - 1) c) (TT.eraseIdx t) ∧ Ext wr wx)
                case first =>
                  obtain ⟨wd, hwd⟩ : ∃ W, W = (wr).drew := ⟨_, rfl⟩
                  have hxd : Ext wr wd := by rw [hwd]; exact Ext.drew _
                  have HRD := Lib.hid (IntsR.adv HROW.out hxd)
                  refine wp_region_E (S := fun _ => True) (by kernel_rfl) ?_
                  rw [← hwd]
                  clear hwd
                  refine wpAnyE_take (i := 1) (v := ?_) rfl (by kernel_rfl) (by kernel_rfl) (by kernel_rfl) (fun _ _ _ h => h) (Or.inl ⟨by rfl, ?_⟩) trivial ?_
                  rotate_left 1
                  focus (intro W hSW; (try dsimp only at hSW); go_simp; try with_reducible rfl)
                  (try simp only [Act.put, List.setIfInBounds_toArray, List.set_cons_zero, List.set_cons_succ])
                  refine wpAnyE_take (i := 2) (v := ?_) rfl (by kernel_rfl) (by kernel_rfl) (by kernel_rfl) (fun _ _ _ h => h) (Or.inl ⟨by rfl, ?_⟩) trivial ?_
                  rotate_left 1
                  focus (intro W hSW; (try dsimp only at hSW); go_simp; try with_reducible rfl)
                  (try simp only [Act.put, List.setIfInBounds_toArray, List.set_cons_zero, List.set_cons_succ])
                  refine wpAnyE_take (i := 3) (v := ?_) rfl (by kernel_rfl) (by kernel_rfl) (by kernel_rfl) (fun _ _ _ h => h) (Or.inl ⟨by rfl, ?_⟩) trivial ?_
                  rotate_left 1
                  focus (intro W hSW; (try dsimp only at hSW); go_simp; try with_reducible rfl)
                  (try simp only [Act.put, List.setIfInBounds_toArray, List.set_cons_zero, List.set_cons_succ])
                  refine wpAnyE_take (i := 5) (v := ?_) rfl (by kernel_rfl) (by kernel_rfl) (by kernel_rfl) (fun _ _ _ h => h) (Or.inl ⟨by rfl, ?_⟩) trivial ?_
                  rotate_left 1
                  focus (intro W hSW; (try dsimp only at hSW); go_simp; try with_reducible rfl)
                  (try simp only [Act.put, List.setIfInBounds_toArray, List.set_cons_zero, List.set_cons_succ])
                  refine wpAnyE_take (i := 6) (v := ?_) rfl (by kernel_rfl) (by kernel_rfl) (by kernel_rfl) (fun _ _ _ h => h) (Or.inl ⟨by rfl, ?_⟩) trivial ?_
                  rotate_left 1
                  focus (intro W hSW; (try dsimp only at hSW); go_simp; try with_reducible rfl)
                  (try simp only [Act.put, List.setIfInBounds_toArray, List.set_cons_zero, List.set_cons_succ])
                  refine wpAnyE_take (i := 7) (v := ?_) rfl (by kernel_rfl) (by kernel_rfl) (by kernel_rfl) (fun _ _ _ h => h) (Or.inl ⟨by rfl, ?_⟩) trivial ?_
                  rotate_left 1
                  focus (intro W hSW; (try dsimp only at hSW); go_simp; try with_reducible rfl)
                  (try simp only [Act.put, List.setIfInBounds_toArray, List.set_cons_zero, List.set_cons_succ])
                  obtain ⟨adr, had, hcl⟩ := less_addr HRD.out htp
                  have HCL := Lib.hid hcl
                  clear hcl
                  refine wpAnyE_take (i := 8) (v := ?_) rfl (by kernel_rfl) (by kernel_rfl) (by kernel_rfl) (fun _ _ _ h => h) (Or.inl ⟨by rfl, ?_⟩) trivial ?_
                  rotate_left 1
                  focus (intro W hSW; (try dsimp only at hSW); go_simp; try with_reducible rfl)
                  (try simp only [Act.put, List.setIfInBounds_toArray, List.set_cons_zero, List.set_cons_succ])
                  clear had
                  refine wpAnyE_one (i := 0) (by kernel_rfl) rfl (fun K hK => ?_)
                  have HK := Lib.hid hK
                  clear hK
                  go_simp
                  refine HK.out _ _ (fun _ => trivial) ?_
                  clear HK
                  refine wpAnyE_one (i := 4) (by kernel_rfl) rfl (fun K hK => ?_)
                  have HK := Lib.hid hK
                  clear hK
                  refine step_append_own rfl (.tmp 293) (.tmp 296) 24 rfl wd.heap.size 3 i0 (.int .i64 0) 1 8 Try.underlying24 hi0 hz0 hz1 hz2 rfl (by decide) (.slice (some ⟨wd.heap.size, 0, none⟩) 0 0) 0 [] (by simp [Act.eval, Act.put]) (own_lit0 wd 3) ⟨b9, o9, none⟩ t cT2 ((TT.take t).flatMap encI) (by simp [Act.eval, Act.put]) (by rw [flat_map, List.length_map, List.length_take_of_le (by rw [← HNT.out]; omega)]; omega) (take_cells (IntsR.adv HRD.out (Ext.alloc _ _))) (ints_one _) (by unfold maxLen; omega) (by omega) (by simp) ?_
                  intro v5 w5 hown5 hgr5
                  have hx5 : Ext wd w5 := (Ext.alloc _ _).gr hgr5 (fun q hq => ((own_lit0 wd 3).lt q hq).1)
                  obtain ⟨a5, c5, rfl, _, _, _⟩ := own_form hown5
                  refine HK.out _ _ (fun _ => trivial) ?_
                  clear HK hgr5
                  have hs5 := hx5.size
                  refine wpAnyE_one (i := 9) (by kernel_rfl) rfl (fun K hK => ?_)
                  have HK := Lib.hid hK
                  clear hK
                  refine step_append_own rfl (.tmp 297) (.tmp 301) 24 rfl wd.heap.size 3 i0 (.int .i64 0) 1 8 Try.underlying24 hi0 hz0 hz1 hz2 rfl (by decide) (.slice a5 (0 + t) c5) (0 + t) ([] ++ (TT.take t).flatMap encI) (by simp [Act.eval, Act.put]) hown5 adr (nT - (t + 1)) (cT2 - (t + 1)) ((TT.drop (t + 1)).flatMap encI) (by simp [Act.eval, Act.put]; done) (by rw [flat_map, List.length_map, List.length_drop, ← HNT.out]; omega) (by exact HCL.out _ hx5) (ints_one _) (by unfold maxLen; omega) (by omega) (by omega) ?_
                  intro v6 w6 hown6 hgr6
                  have hx6 : Ext wd w6 := hx5.gr hgr6 (fun q hq => (hown5.lt q hq).1)
                  have hown7 := less_row hown6 HNT.out htp
                  refine HK.out _ _ (fun _ => trivial) ?_
                  clear HK hgr6
                  have hl7 : (TT.eraseIdx t).length = nT - 1 := by rw [List.length_eraseIdx, if_pos (by rw [← HNT.out]; exact htp), ← HNT.out]
                  have hr7 := IntsR.of_own hown7
                  obtain ⟨a7, c7, rfl, _, _, _⟩ := own_form hown7
                  rw [hl7] at hr7 ⊢
                  have HR7 := Lib.hid hr7
                  have HX7 := Lib.hid (hxd.trans hx6)
                  clear hown5 hown6 hown7 hr7 hx5 hx6 hxd HRD hs5 hl7
                  refine wpAnyE_take (i := 10) (v := ?_) rfl (by kernel_rfl) (by kernel_rfl) (by kernel_rfl) (fun _ _ _ h => h) (Or.inl ⟨by rfl, ?_⟩) trivial ?_
                  rotate_left 1
                  focus (intro W hSW; (try dsimp only at hSW); go_simp; try with_reducible rfl)
                  (try simp only [Act.put, List.setIfInBounds_toArray, List.set_cons_zero, List.set_cons_succ])
                  refine wpAnyE_done (by kernel_rfl) ?_ _
                  try go_simp
                  go_wp2
                  go_meet
                  case rel => exact ⟨a7, c7, rfl, HR7.out, HX7.out⟩
                case rest =>
                  obtain ⟨a8, c8, rfl, hr8, hx8⟩ := hcut
                  have C8 := CIC.out wc _ (TT.eraseIdx t) (hx2.trans hx8) hr8 (HI6.out t (by rw [← HNT.out]; exact htp)).1
                  rw [(HI6.out t (by rw [← HNT.out]; exact htp)).2] at C8
                  have HC8 := Lib.hid C8
                  clear C8
                  go_wp2_with fail
                  refine HC8.out.mono ?_
                  rintro e w9_ ⟨rfl, hx9⟩
                  go_wp2
                  go_roundg (nT - (t + 1))
                  case measure => omega
                  case rel => exact ⟨t + 1, by go_num, by omega, by omega, (hx2.trans hx8).trans hx9⟩
              · have htI : ¬ (t : Int) < (nT : Int) := by omega
                go_wp2
                go_meet
                case rel => exact hx2
    case rest =>
      obtain ⟨w40, hw40⟩ : ∃ W, W = wc := ⟨_, rfl⟩
      subst hw40
      have hx := hcut
      have T__ := Lib.hid (X.out.trans hx)
      clear X
      have X := T__
      clear T__
      have T__ := Lib.hid (SitesR.adv HA.out hx)
      clear HA
      have HA := T__
      clear T__
      have T__ := Lib.hid (IntsR.adv HL1.out hx)
      clear HL1
      have HL1 := T__
      clear T__
      have T__ := Lib.hid (IntsR.adv HL2.out hx)
      clear HL2
      have HL2 := T__
      clear T__
      have T__ := Lib.hid (SitesR.adv HB.out hx)
      clear HB
      have HB := T__
      clear T__
      have T__ := Lib.hid (IntsR.adv HG2.out hx)
      clear HG2
      have HG2 := T__
      clear T__
      have T__ := Lib.hid (IntsR.adv HN2.out hx)
      clear HN2
      have HN2 := T__
      clear T__
      clear hx hcut HC HCH HT1 HT2 HT HNT HFI HS HNS HSE HNH
      go_upto_if 316 with fail
      go_cut [] from 317 to 317 (fun wx => Ext w40 wx)
      case first =>
        cases one
        · go_wp2
          go_meet
          case rel => exact Ext.refl _
        ·
          obtain ⟨gs3, g1, g2, g3⟩ := greedy_law HONE.out.symm
          rw [← HG.out] at g2 g3
          rw [← HN.out] at g3
          rw [← HNG.out] at g2
          have hnl : nN ≤ 12 := by rw [HNN.out, HN.out]; exact ne_len gs3
          obtain ⟨V2, hv9⟩ : ∃ x, x = lcV xb m 1 := ⟨_, rfl⟩
          obtain ⟨n2, hn9⟩ : ∃ x, x = V2.length := ⟨_, rfl⟩
          rw [← hv9] at g2 g3
          rw [← hn9] at g2
          have hle : ¬ (nG : Int) < (n2 : Int) := by omega
          have hleb : decide ((nG : Int) < (n2 : Int)) = false := decide_eq_false hle
          have hlen : decide (nG < n2) = false := decide_eq_false (by omega)
          have G3 := Lib.hid g3
          have CI : Hid (∀ W, Ext w40 W → Calls Try.prog 23 #[.slice ab nb cb, .int .i64 m, .int .i64 1] W (LRet V2 n2 true W)) := fun W hX => by
            have h9 := LRet.of (c_iLeast _ _ _ xb m 1 W (HB.out.adv hX) (Nat.le_refl _))
            rw [g1, ← hv9, ← hn9] at h9
            exact h9
          have CS : Hid (∀ W, Ext w40 W → Calls Try.prog 24 #[.slice ab nb cb, .int .i64 m, .int .i64 1] W (LRet V2 n2 true W)) := fun W hX => by
            have h9 := LRet.of (c_sLeast _ _ _ xb m 1 W (HB.out.adv hX) (Nat.le_refl _))
            rw [g1, ← hv9, ← hn9] at h9
            exact h9
          clear gs3 g1 g2 g3 hv9 hn9
          go_wp2_with fail
          refine (CI.out _ (Ext.refl _)).mono ?_
          rintro e w41 ⟨aK1, cK1, rfl, hL, hx41⟩
          have HK1 := Lib.hid hL
          clear hL
          go_wp2_with fail
          refine (CS.out _ hx41).mono ?_
          rintro e w42 ⟨aK2, cK2, rfl, hL, hx⟩
          have HK2 := Lib.hid hL
          have hx42 := hx41.trans hx
          have T__ := Lib.hid (IntsR.adv HK1.out hx)
          clear HK1
          have HK1 := T__
          clear T__
          have CE := Lib.hid (c_qInts _ _ _ _ _ _ V2 V2 w42 HK1.out HK2.out)
          rw [decide_eq_true rfl] at CE
          clear hL hx hx41 CI CS HK1
          go_wp2_with fail
          refine CE.out.mono ?_
          rintro e w43 ⟨rfl, hx⟩
          have hx43 := hx42.trans hx
          have T__ := Lib.hid (IntsR.adv HK2.out hx)
          clear HK2
          have HK2 := T__
          clear T__
          have HKK := Lib.hid (HK2.out)
          clear hx hx42 CE
          go_wp2_with fail
          go_loopg [54, 350] 20 (fun gg v54 v350 wr => ∃ t : Nat, v350 = .int .i64 t ∧ t ≤ nN ∧ nN ≤ t + gg ∧ Ext w43 wr)
          case atStart => exact ⟨0, rfl, by omega, by omega, Ext.refl _⟩
          case round =>
            obtain ⟨t, rfl, ht, htg, hxr⟩ := hrel
            have hxw := hx43.trans hxr
            by_cases htn : t < nN
            · obtain ⟨b9, o9, g, rfl, hg, c0⟩ := Ints_at (IntsR.adv HN2.out hxw) htn
              have htI : (t : Int) < (nN : Int) := by omega
              obtain ⟨m1, m2⟩ := G3.out g (List.mem_of_getElem? hg.out)
              have CH1 := c_qHas (.slice aK2 n2 cK2) 0 _ V2 g wr (IntsR.adv HKK.out hxr)
              have CH2 := c_qHas (.slice aG2 nG cG2) 0 _ G g wr (IntsR.adv HG2.out hxw)
              rw [show V2.contains g = true by simpa using m1] at CH1
              rw [show G.contains g = true by simpa using m2] at CH2
              have HCH1 := Lib.hid CH1
              have HCH2 := Lib.hid CH2
              clear CH1 CH2 m1 m2
              go_wp2_with fail
              refine HCH1.out.mono ?_
              rintro e w' ⟨rfl, rfl⟩
              go_wp2_with fail
              refine HCH2.out.mono ?_
              rintro e w' ⟨rfl, rfl⟩
              go_wp2
              go_roundg (nN - (t + 1))
              case measure => omega
              case rel => exact ⟨t + 1, by go_num, by omega, by omega, hxr⟩
            · have htI : ¬ (t : Int) < (nN : Int) := by omega
              go_wp2
              go_meet
              case rel => exact hxw
      case rest =>
        obtain ⟨w60, hw60⟩ : ∃ W, W = wc := ⟨_, rfl⟩
        subst hw60
        have hx := hcut
        have T__ := Lib.hid (X.out.trans hx)
        clear X
        have X := T__
        clear T__
        have T__ := Lib.hid (SitesR.adv HA.out hx)
        clear HA
        have HA := T__
        clear T__
        have T__ := Lib.hid (IntsR.adv HL1.out hx)
        clear HL1
        have HL1 := T__
        clear T__
        have T__ := Lib.hid (IntsR.adv HL2.out hx)
        clear HL2
        have HL2 := T__
        clear T__
        clear hx hcut HB HG2 HN2 HG HNG HONE HN HNN
        cases ok
        · go_wp2
          go_ret
          exact ⟨rfl, X.out⟩
        · obtain ⟨li1, li2, li3, li4⟩ := least_law HOK.out.symm
          rw [← HV.out] at li1 li2 li3 li4
          have hnl : nV ≤ 12 := by rw [HNV.out]; exact ic_len li1
          have CIC : Hid (∀ W v L, Ext w60 W → IntsR W v L → icOk xa n L tm = true → Calls Try.prog 37 #[.slice aa na ca, .int .i64 n, v, .int .i64 tm] W fun e w' => e = .returned (.tuple #[.bool (icV xa n L tm), .bool true]) ∧ Ext W w') := fun W v L hX hL hk => by
            have h9 := c_iIsCover _ _ _ _ _ _ xa n L tm W (HA.out.adv hX) (Nat.le_refl _) hL (Nat.le_refl _)
            rw [hk] at h9
            exact h9
          have C1 := CIC.out w60 _ V (Ext.refl _) HL1.out li1
          rw [li2] at C1
          have HC1 := Lib.hid C1
          rw [← HNV.out] at li3
          have hv0 : ((nV : Int) == 0) = false := by simp; omega
          have HL4 := Lib.hid li4
          obtain ⟨hcT1, hcT2⟩ := row_cap HL2.out
          clear C1 li1 li2 li3 li4
          go_wp2_with fail
          refine HC1.out.mono ?_
          rintro e w61 ⟨rfl, hx61⟩
          go_wp2_with fail
          go_loopg [57, 58, 59, 60, 388] 20 (fun gg v57 v58 v59 v60 v388 wr => ∃ t : Nat, v388 = .int .i64 t ∧ t ≤ nV ∧ nV ≤ t + gg ∧ Ext w60 wr)
          case atStart => exact ⟨0, rfl, by omega, by omega, hx61⟩
          case round =>
            obtain ⟨t, rfl, ht, htg, hx2⟩ := hrel
            by_cases htp : t < nV
            · obtain ⟨b9, o9, g, rfl, hg, c0⟩ := Ints_at (IntsR.adv HL2.out hx2) htp
              have HROW := Lib.hid (IntsR.adv HL2.out hx2)
              have htI : (t : Int) < (nV : Int) := by omega
              have ht0 : (0 : Int) ≤ (t : Int) := by omega
              have ht01 : (0 : Int) ≤ (t : Int) + 1 := by omega
              have htc : (t : Int) ≤ (cL2 : Int) := by omega
              have htp1 : (t : Int) + 1 ≤ (nV : Int) := by omega
              have hpc : (nV : Int) ≤ (cL2 : Int) := by omega
              have hw1 : IntKind.i64.wrap ((t : Int) + 1) = (t : Int) + 1 := by rw [IntKind.wrap_i64]; omega
              clear c0
              go_upto_region 58 with fail
              go_cut [58] from 391 to 400 (fun v wx => ∃ a c, v = .slice a (nV - 1) c ∧ IntsR wx (.slice a (nV - 1) c) (V.eraseIdx t) ∧ Ext wr wx)
              case first =>
                obtain ⟨wd, hwd⟩ : ∃ W, W = (wr).drew := ⟨_, rfl⟩
                have hxd : Ext wr wd := by rw [hwd]; exact Ext.drew _
                have HRD := Lib.hid (IntsR.adv HROW.out hxd)
                refine wp_region_E (S := fun _ => True) (by kernel_rfl) ?_
                rw [← hwd]
                clear hwd
                refine wpAnyE_take (i := 1) (v := ?_) rfl (by kernel_rfl) (by kernel_rfl) (by kernel_rfl) (fun _ _ _ h => h) (Or.inl ⟨by rfl, ?_⟩) trivial ?_
                rotate_left 1
                focus (intro W hSW; (try dsimp only at hSW); go_simp; try with_reducible rfl)
                (try simp only [Act.put, List.setIfInBounds_toArray, List.set_cons_zero, List.set_cons_succ])
                refine wpAnyE_take (i := 2) (v := ?_) rfl (by kernel_rfl) (by kernel_rfl) (by kernel_rfl) (fun _ _ _ h => h) (Or.inl ⟨by rfl, ?_⟩) trivial ?_
                rotate_left 1
                focus (intro W hSW; (try dsimp only at hSW); go_simp; try with_reducible rfl)
                (try simp only [Act.put, List.setIfInBounds_toArray, List.set_cons_zero, List.set_cons_succ])
                refine wpAnyE_take (i := 3) (v := ?_) rfl (by kernel_rfl) (by kernel_rfl) (by kernel_rfl) (fun _ _ _ h => h) (Or.inl ⟨by rfl, ?_⟩) trivial ?_
                rotate_left 1
                focus (intro W hSW; (try dsimp only at hSW); go_simp; try with_reducible rfl)
                (try simp only [Act.put, List.setIfInBounds_toArray, List.set_cons_zero, List.set_cons_succ])
                refine wpAnyE_take (i := 5) (v := ?_) rfl (by kernel_rfl) (by kernel_rfl) (by kernel_rfl) (fun _ _ _ h => h) (Or.inl ⟨by rfl, ?_⟩) trivial ?_
                rotate_left 1
                focus (intro W hSW; (try dsimp only at hSW); go_simp; try with_reducible rfl)
                (try simp only [Act.put, List.setIfInBounds_toArray, List.set_cons_zero, List.set_cons_succ])
                refine wpAnyE_take (i := 6) (v := ?_) rfl (by kernel_rfl) (by kernel_rfl) (by kernel_rfl) (fun _ _ _ h => h) (Or.inl ⟨by rfl, ?_⟩) trivial ?_
                rotate_left 1
                focus (intro W hSW; (try dsimp only at hSW); go_simp; try with_reducible rfl)
                (try simp only [Act.put, List.setIfInBounds_toArray, List.set_cons_zero, List.set_cons_succ])
                refine wpAnyE_take (i := 7) (v := ?_) rfl (by kernel_rfl) (by kernel_rfl) (by kernel_rfl) (fun _ _ _ h => h) (Or.inl ⟨by rfl, ?_⟩) trivial ?_
                rotate_left 1
                focus (intro W hSW; (try dsimp only at hSW); go_simp; try with_reducible rfl)
                (try simp only [Act.put, List.setIfInBounds_toArray, List.set_cons_zero, List.set_cons_succ])
                obtain ⟨adr, had, hcl⟩ := less_addr HRD.out htp
                have HCL := Lib.hid hcl
                clear hcl
                refine wpAnyE_take (i := 8) (v := ?_) rfl (by kernel_rfl) (by kernel_rfl) (by kernel_rfl) (fun _ _ _ h => h) (Or.inl ⟨by rfl, ?_⟩) trivial ?_
                rotate_left 1
                focus (intro W hSW; (try dsimp only at hSW); go_simp; try with_reducible rfl)
                (try simp only [Act.put, List.setIfInBounds_toArray, List.set_cons_zero, List.set_cons_succ])
                clear had
                refine wpAnyE_one (i := 0) (by kernel_rfl) rfl (fun K hK => ?_)
                have HK := Lib.hid hK
                clear hK
                go_simp
                refine HK.out _ _ (fun _ => trivial) ?_
                clear HK
                refine wpAnyE_one (i := 4) (by kernel_rfl) rfl (fun K hK => ?_)
                have HK := Lib.hid hK
                clear hK
                refine step_append_own rfl (.tmp 391) (.tmp 394) 24 rfl wd.heap.size 3 i0 (.int .i64 0) 1 8 Try.underlying24 hi0 hz0 hz1 hz2 rfl (by decide) (.slice (some ⟨wd.heap.size, 0, none⟩) 0 0) 0 [] (by simp [Act.eval, Act.put]) (own_lit0 wd 3) ⟨b9, o9, none⟩ t cL2 ((V.take t).flatMap encI) (by simp [Act.eval, Act.put]) (by rw [flat_map, List.length_map, List.length_take_of_le (by rw [← HNV.out]; omega)]; omega) (take_cells (IntsR.adv HRD.out (Ext.alloc _ _))) (ints_one _) (by unfold maxLen; omega) (by omega) (by simp) ?_
                intro v5 w5 hown5 hgr5
                have hx5 : Ext wd w5 := (Ext.alloc _ _).gr hgr5 (fun q hq => ((own_lit0 wd 3).lt q hq).1)
                obtain ⟨a5, c5, rfl, _, _, _⟩ := own_form hown5
                refine HK.out _ _ (fun _ => trivial) ?_
                clear HK hgr5
                have hs5 := hx5.size
                refine wpAnyE_one (i := 9) (by kernel_rfl) rfl (fun K hK => ?_)
                have HK := Lib.hid hK
                clear hK
                refine step_append_own rfl (.tmp 395) (.tmp 399) 24 rfl wd.heap.size 3 i0 (.int .i64 0) 1 8 Try.underlying24 hi0 hz0 hz1 hz2 rfl (by decide) (.slice a5 (0 + t) c5) (0 + t) ([] ++ (V.take t).flatMap encI) (by simp [Act.eval, Act.put]) hown5 adr (nV - (t + 1)) (cL2 - (t + 1)) ((V.drop (t + 1)).flatMap encI) (by simp [Act.eval, Act.put]; done) (by rw [flat_map, List.length_map, List.length_drop, ← HNV.out]; omega) (by exact HCL.out _ hx5) (ints_one _) (by unfold maxLen; omega) (by omega) (by omega) ?_
                intro v6 w6 hown6 hgr6
                have hx6 : Ext wd w6 := hx5.gr hgr6 (fun q hq => (hown5.lt q hq).1)
                have hown7 := less_row hown6 HNV.out htp
                refine HK.out _ _ (fun _ => trivial) ?_
                clear HK hgr6
                have hl7 : (V.eraseIdx t).length = nV - 1 := by rw [List.length_eraseIdx, if_pos (by rw [← HNV.out]; exact htp), ← HNV.out]
                have hr7 := IntsR.of_own hown7
                obtain ⟨a7, c7, rfl, _, _, _⟩ := own_form hown7
                rw [hl7] at hr7 ⊢
                have HR7 := Lib.hid hr7
                have HX7 := Lib.hid (hxd.trans hx6)
                clear hown5 hown6 hown7 hr7 hx5 hx6 hxd HRD hs5 hl7
                refine wpAnyE_take (i := 10) (v := ?_) rfl (by kernel_rfl) (by kernel_rfl) (by kernel_rfl) (fun _ _ _ h => h) (Or.inl ⟨by rfl, ?_⟩) trivial ?_
                rotate_left 1
                focus (intro W hSW; (try dsimp only at hSW); go_simp; try with_reducible rfl)
                (try simp only [Act.put, List.setIfInBounds_toArray, List.set_cons_zero, List.set_cons_succ])
                refine wpAnyE_done (by kernel_rfl) ?_ _
                try go_simp
                go_wp2
                go_meet
                case rel => exact ⟨a7, c7, rfl, HR7.out, HX7.out⟩
              case rest =>
                obtain ⟨a8, c8, rfl, hr8, hx8⟩ := hcut
                have C8 := CIC.out wc _ (V.eraseIdx t) (hx2.trans hx8) hr8 (HL4.out t (by rw [← HNV.out]; exact htp)).1
                rw [(HL4.out t (by rw [← HNV.out]; exact htp)).2] at C8
                have HC8 := Lib.hid C8
                clear C8
                go_wp2_with fail
                refine HC8.out.mono ?_
                rintro e w9_ ⟨rfl, hx9⟩
                go_wp2
                go_roundg (nV - (t + 1))
                case measure => omega
                case rel => exact ⟨t + 1, by go_num, by omega, by omega, (hx2.trans hx8).trans hx9⟩
            · have htI : ¬ (t : Int) < (nV : Int) := by omega
              go_wp2
              go_ret
              exact ⟨rfl, X.out.trans hx2⟩
set_option maxRecDepth 100000 in
theorem lifted_FnCovers (os : Os) (started : os.Started) (H : Type) (enc : TypeId × Value → H) :
    ReturnsInHanded {} Try.checked os 5 .any (Rows.fnCoversSpec.pre6 enc Try.prog Try.f5 Rows.fnCoversRow.domain false) (Rows.fnCoversSpec.post enc Try.prog Try.f5 false true false false) := by
  refine returnsInHanded_of_change (C := Try.checked) own_Ytiofckbdjifdpaa started (by kernel_rfl) Try.func5
    (ChangeSpec.witness6 (enc := enc) (C := Try.checked) false ⟨#[], #[.slice none 0 0, .slice none 0 0], []⟩ 8 (by kernel_rfl) (by kernel_rfl) (by kernel_rfl) (by kernel_rfl)) ?_
  intro W base args ds gs before hval0 hW hcnd _
  have hval : ∀ (j : Nat) t v, Try.f5.params[j]? = some t → args[j]? = some v → Value.okWide Try.prog W .any base t v := hval0
  have hW' := hW
  obtain ⟨p, q, hA0, hV, rfl, hfz, hnd⟩ := hW
  have hA : DataW.TrodAll enc Try.prog W 0 (fun _ => true) true Try.f5.params.toList args.toList ds p := hA0
  rw [Try.params5] at hA hval
  obtain ⟨v0, vs0, d0, ds0, p0, q0, hargs, rfl, rfl, h0, r0⟩ := trodAll_cons hA
  obtain ⟨v1, vs1, d1, ds1, p1, q1, rfl, rfl, rfl, h1, r1⟩ := trodAll_cons r0
  obtain ⟨rfl, rfl, rfl⟩ := trodAll_nil r1
  obtain rfl : args = #[v0, v1] := by cases args; simp_all
  obtain ⟨rfl, rfl⟩ := trodVars_none hV
  have k0 := h0
  have lt0 : ∀ x ∈ p0, x.block < W.heap.size := by obtain ⟨m, hm⟩ := k0; exact DataW.trod_lt m _ _ _ hm
  obtain ⟨x0, w0⟩ := arg_bytes (hval 0 32 v0 rfl rfl) h0
  have k1 := h1
  have lt1 : ∀ x ∈ p1, x.block < W.heap.size := by obtain ⟨m, hm⟩ := k1; exact DataW.trod_lt m _ _ _ hm
  obtain ⟨x1, w1⟩ := arg_bytes (hval 1 32 v1 rfl rfl) h1
  clear hA0 hval0
  refine (law_Covers v0 x0 v1 x1 W w0 w1).mono fun e W' ⟨he, bel⟩ => ?_
  subst he
  exact ⟨_, rfl, _, _, _, [], _, [], hW', trodAll_mk1 (shut_bool Try.underlying4 _), (trodAll_cons_mk (Below.trod laidOut_Ytiofckbdjifdpaa (by kernel_rfl) (of_decide_eq_true (by kernel_rfl)) k0 bel lt0) (trodAll_cons_mk (Below.trod laidOut_Ytiofckbdjifdpaa (by kernel_rfl) (of_decide_eq_true (by kernel_rfl)) k1 bel lt1) trodAll_mk0)), rfl, bel.frame _, fun h => by cases h⟩

theorem holds_FnCovers : Rows.FnCoversSaid :=
  OpenClaim.holds_of_wide 5 Try.f5 rfl rfl rfl rfl rfl rfl rfl ⟨rfl, rfl, rfl, rfl, rfl⟩ rfl rfl rfl rfl rfl (by kernel_rfl) Try.func5 (by kernel_rfl)
    (of_decide_eq_true (by kernel_rfl)) (by unfold Func.isWrapper; first | (rw [if_pos (by decide +kernel)]; kernel_rfl) | (rw [if_neg (by decide +kernel)]; exact ⟨rfl, rfl⟩))
    (fun os started H enc _ => lifted_FnCovers os started H enc)
end Go.Proofs.Ytiofckbdjifdpaa
