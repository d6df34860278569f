

/- FnErrors: for all arguments the call returns true. No condition. -/
import Derived.Test.YtphfgfejacbhpaaErrP
import Derived.Test.YtphfgfejacbhpaaArgBytes
namespace Go.Proofs.Ytphfgfejacbhpaa
open Go.ChangeShapes Go.WideShapes Go.ChangeAt Go.RowKit
open Go.ChangeMaps (open_string shut_string)
set_option linter.unusedVariables false
theorem BytesE.ext {w w' : World} {lo hi : Nat} {v : Value} {bs : List Int} (h : Bytes w lo hi v bs) (hx : Ext w w') (hh : hi ≤ w.heap.size) : Bytes w' lo hi v bs := ⟨h.1.ext hx hh, h.2⟩
set_option maxRecDepth 100000 in
set_option maxHeartbeats 16000000 in
theorem law_Errors (v0 : Value) (bs : List Int) (v1 : Value) (cs : List Int) (w : World) (h0 : ArgBytes w v0 bs) (h1 : ArgBytes w v1 cs) :
    Calls Try.prog 4 #[v0, v1] w fun e w' => e = .returned (.bool true) ∧ Ext w w' := by
  obtain ⟨hB0, hY0⟩ := h0
  obtain ⟨hB1, hY1⟩ := h1
  obtain ⟨a0, p0, rfl, n0, n0b, _⟩ := id hB0
  obtain ⟨a1, p1, rfl, n1, n1b, _⟩ := id hB1
  have HB0 : Hid (Bytes w 0 w.heap.size _ bs) := ⟨hB0, hY0⟩
  have HB1 : Hid (Bytes w 0 w.heap.size _ cs) := ⟨hB1, hY1⟩
  obtain ⟨l0, hl0⟩ : ∃ n, n = bs.length := ⟨_, rfl⟩
  obtain ⟨l1, hl1⟩ : ∃ n, n = cs.length := ⟨_, rfl⟩
  rw [← hl0] at HB0 n0 ⊢
  rw [← hl1] at HB1 n1 ⊢
  clear hB0 hY0 hB1 hY1 hl0 hl1
  have X := Lib.hid (Ext.refl w)
  cases hbig : bigB l0 l1
  case true =>
    have CB := Lib.hid (c_big a0 a1 l0 l1 p0 p1 w (by omega) (by omega))
    rw [hbig] at CB
    clear hbig
    go_enter Try.func4, Try.ntmps4
    go_wp2_with fail
    refine CB.out.mono ?_
    rintro e w' ⟨rfl, rfl⟩
    go_wp2
    go_ret
    exact ⟨rfl, Ext.refl _⟩
  have CB := Lib.hid (c_big a0 a1 l0 l1 p0 p1 w (by omega) (by omega))
  rw [hbig] at CB
  clear hbig
  go_enter Try.func4, Try.ntmps4
  go_wp2_with fail
  refine CB.out.mono ?_
  rintro e w' ⟨rfl, rfl⟩
  clear CB
  go_wp2_with fail
  refine (c_DrawCorrect _ 0 w.heap.size bs w HB0.out (Nat.le_refl _)).mono ?_
  rintro e w1 ⟨vL, L, rfl, ho, hl, hx1⟩
  obtain ⟨aL, cL, rfl, qL1, qL2⟩ := ho.form
  have HOL := Lib.hid ho
  have T__ := Lib.hid (X.out.trans hx1)
  clear X
  have X := T__
  clear T__
  have CI := Lib.hid (c_iCorrectOne _ _ _ L w1 ho.read (Nat.le_refl _))
  have CS : Hid (∀ W, Ext w1 W → Calls Try.prog 24 #[.slice aL L.length cL] W fun e w' => ∃ r, e = .returned (.tuple #[r, .bool (coO L).isSome]) ∧ w'.ownsRow W.heap.size 3 1 r ((coO L).getD []).length (((coO L).getD []).flatMap encI) ∧ Ext W w') := fun W hX =>
    c_sCorrectOne _ _ _ L W (HOL.out.read.ext hX (Nat.le_refl _)) hX.size
  clear ho
  cases hco : coO L with
  | none =>
    rw [hco] at CI CS
    simp only [Option.isSome_none, Option.getD_none] at CI CS
    clear hco
    go_wp2_with fail
    refine CI.out.mono ?_
    rintro e w2 ⟨r2, rfl, ho2, hx2⟩
    obtain ⟨a2, c2, rfl, _, _, _⟩ := own_form ho2
    have HO2 := Lib.hid (Row.of_own (xs := ([] : List Int)) encI_len ho2)
    clear ho2 CI
    have T__ := Lib.hid (X.out.trans hx2)
    clear X
    have X := T__
    clear T__
    go_wp2_with fail
    refine (CS.out _ hx2).mono ?_
    rintro e w3 ⟨r3, rfl, ho3, hx3⟩
    obtain ⟨a3, c3, rfl, _, _, _⟩ := own_form ho3
    have HO3 := Lib.hid (Row.of_own (xs := ([] : List Int)) encI_len ho3)
    clear ho3 CS
    have T__ := Lib.hid (X.out.trans hx3)
    clear X
    have X := T__
    clear T__
    have CE := Lib.hid (c_sameInts _ _ _ _ _ _ [] [] w3 (HO2.out.ext hx3 (Nat.le_refl _)) HO3.out)
    rw [decide_eq_true rfl] at CE
    go_wp2_with fail
    refine CE.out.mono ?_
    rintro e w4 ⟨rfl, hx4⟩
    have T__ := Lib.hid (X.out.trans hx4)
    clear X
    have X := T__
    clear T__
    clear CE HO2 HO3
    go_wp2_with fail
    refine (c_DrawWrong _ 0 w.heap.size cs w4 (BytesE.ext HB1.out X.out (Nat.le_refl _)) X.out.size).mono ?_
    rintro e wu ⟨vu, U, k, rfl, hou, hlu, hk0, hk1, hxu⟩
    obtain ⟨au, cu, rfl, _, _⟩ := hou.form
    have HOu := Lib.hid hou
    have T__ := Lib.hid (X.out.trans hxu)
    clear X
    have X := T__
    clear T__
    have CI := Lib.hid (c_iWrong _ _ _ U k wu hou.read (Nat.le_refl _))
    obtain ⟨Z, hZ⟩ : ∃ Z, Z = wsV U k := ⟨_, rfl⟩
    obtain ⟨qe, hqe⟩ : ∃ q, q = erB U k := ⟨_, rfl⟩
    have CS : Hid (∀ W, Ext wu W → Calls Try.prog 27 #[.slice au U.length cu, .int .i64 k] W fun e w' => ∃ r, e = .returned (.tuple #[r, .bool qe]) ∧ w'.ownsRow W.heap.size 3 1 r Z.length (Z.flatMap encI) ∧ Ext W w') := fun W hX => by
      rw [hZ, hqe]; exact c_sWrong _ _ _ U k W (HOu.out.read.ext hX (Nat.le_refl _)) hX.size
    have HZM : Hid (∀ n, n ∈ Z → ∃ (q : Nat) (x : Int), k = (q : Int) ∧ q < U.length ∧ U[q]? = some x ∧ 1 ≤ x ∧ x ≤ 61 ∧ 1 ≤ n ∧ n ≤ 61 ∧ dst n x = 1) := fun n hn => wsV_mem (by rw [← hZ]; exact hn)
    rw [← hZ, ← hqe] at CI
    clear hou hZ hqe
    go_wp2_with fail
    refine CI.out.mono ?_
    rintro e wa ⟨ra, rfl, hoa, hxa⟩
    obtain ⟨aa, ca, rfl, _, _, _⟩ := own_form hoa
    have HOa := Lib.hid (OwnI.of hoa)
    clear hoa CI
    have T__ := Lib.hid (X.out.trans hxa)
    clear X
    have X := T__
    clear T__
    go_wp2_with fail
    refine (CS.out _ hxa).mono ?_
    rintro e wb ⟨rb, rfl, hob, hxb⟩
    obtain ⟨ab, cb, rfl, _, qb1, qb2⟩ := own_form hob
    have HOb := Lib.hid (OwnI.of hob)
    clear hob CS
    have T__ := Lib.hid (X.out.trans hxb)
    clear X
    have X := T__
    clear T__
    have T__ := Lib.hid (HOa.out.ext hxb)
    clear HOa
    have HOa := T__
    clear T__
    have CE := Lib.hid (c_sameInts _ _ _ _ _ _ Z Z wb HOa.out.read HOb.out.read)
    rw [decide_eq_true rfl] at CE
    have HRu := Lib.hid (HOu.out.read.ext (hxa.trans hxb) (Nat.le_refl _))
    go_wp2_with fail
    refine CE.out.mono ?_
    rintro e wc ⟨rfl, hxc⟩
    have T__ := Lib.hid (X.out.trans hxc)
    clear X
    have X := T__
    clear T__
    have T__ := Lib.hid (HOb.out.ext hxc)
    clear HOb
    have HOb := T__
    clear T__
    have HRu2 := Lib.hid (HRu.out.ext hxc (by have := (hxa.trans hxb).size; omega))
    obtain ⟨n, hn⟩ : ∃ n, n = Z.length := ⟨_, rfl⟩
    rw [← hn] at HOb qb1 ⊢
    clear CE HRu hn HOa
    go_wp2
    go_loop [141] (fun t => ∃ k : Nat, k ≤ n ∧ t = .int .i64 k) (fun t => n - (intOf t).toNat)
    case atStart => exact ⟨0, by omega, rfl⟩
    case round =>
      obtain ⟨z, hz, rfl⟩ := hrel
      by_cases hlt : z < n
      · obtain ⟨b9, o9, y, rfl, hy, c0⟩ := Ints_at HOb.out.read hlt
        obtain ⟨p, x, hkp, hpl, hx, x1, x61, y1, y61, hd⟩ := HZM.out y (List.mem_of_getElem? hy.out)
        subst hkp
        obtain ⟨b8, o8, x8, rfl, hx8, c1⟩ := Ints_at HRu2.out hpl
        obtain rfl : x8 = x := Option.some.inj (hx8.out.symm.trans hx)
        have CD := Lib.hid (c_SigDist y x8 wc (inB_iff.2 ⟨by omega, by omega⟩) (inB_iff.2 ⟨by omega, by omega⟩))
        rw [hd] at CD
        have hltI : (z : Int) < (n : Int) := by omega
        have hplI : (p : Int) < (U.length : Int) := by omega
        clear hd hx
        go_wp2_with fail
        refine CD.out.mono ?_
        rintro e w' ⟨rfl, rfl⟩
        go_wp2
        go_round
        case rel => exact ⟨z + 1, by omega, by go_num⟩
        case measure => simp [intOf]; omega
      · have hge : ¬ ((z : Int) < (n : Int)) := by omega
        go_wp2_with fail
        refine (c_DrawSees _ 0 w.heap.size cs wc (BytesE.ext HB1.out X.out (Nat.le_refl _)) X.out.size).mono ?_
        rintro e wa ⟨va, V, i, j, rfl, hoa, hla, ⟨hi0, hi1⟩, ⟨hj0, hj1⟩, hxa⟩
        obtain ⟨aa, ca, rfl, _, _⟩ := hoa.form
        have HOa := Lib.hid hoa
        have T__ := Lib.hid (X.out.trans hxa)
        clear X
        have X := T__
        clear T__
        have CI := Lib.hid (c_iSeesExchange _ _ _ V i j wa hoa.read (Nat.le_refl _))
        have CS : Hid (∀ W, Ext wa W → Calls Try.prog 31 #[.slice aa V.length ca, .int .i64 i, .int .i64 j] W fun e w' => e = .returned (.tuple #[.bool (exV V i j), .bool (exB V i j)]) ∧ Ext W w') := fun W hX => c_sSeesExchange _ _ _ V i j W (HOa.out.read.ext hX (Nat.le_refl _)) hX.size
        clear hoa
        cases hex : exB V i j
        · have hev : exV V i j = false := by unfold exV; rw [hex]; rfl
          rw [hex, hev] at CI CS
          clear hex hev
          go_wp2_with fail
          refine CI.out.mono ?_
          rintro e wb ⟨rfl, hxb⟩
          have T__ := Lib.hid (X.out.trans hxb)
          clear X
          have X := T__
          clear T__
          go_wp2_with fail
          refine (CS.out _ hxb).mono ?_
          rintro e wc ⟨rfl, hxc⟩
          have T__ := Lib.hid (X.out.trans hxc)
          clear X
          have X := T__
          clear T__
          clear CI CS
          go_wp2_with fail
          refine region_ext (by kernel_rfl) (by kernel_rfl) ?_
          repeat (go_big_quiet_step (fail))
          refine wpQuiet_nil ?_
          intro wq hxq
          have T__ := Lib.hid (X.out.trans hxq)
          clear X
          have X := T__
          clear T__
          go_wp2_with fail
          refine (c_DrawSyndromesOf _ 0 w.heap.size cs wq (BytesE.ext HB1.out X.out (Nat.le_refl _)) X.out.size).mono ?_
          rintro e wx ⟨vx, S, rfl, hox, hlx, hxx⟩
          obtain ⟨ax, cx, rfl, _, _⟩ := hox.form
          have HOx := Lib.hid hox
          clear hox
          have T__ := Lib.hid (X.out.trans hxx)
          clear X
          have X := T__
          clear T__
          go_wp2_with fail
          refine (c_iSyn _ _ _ S _ HOx.out.read).mono ?_
          rintro e w' ⟨rfl, rfl⟩
          go_wp2_with fail
          refine (c_sSyn _ _ _ S _ HOx.out.read).mono ?_
          rintro e w' ⟨rfl, rfl⟩
          go_wp2_with fail
          refine (c_DrawCheckAll _ 0 w.heap.size cs wx (BytesE.ext HB1.out X.out (Nat.le_refl _)) X.out.size).mono ?_
          rintro e wy ⟨vy, G, rfl, hiy, hly, hxy⟩
          obtain ⟨ay, cy, rfl, _, _⟩ := hiy.form
          have HIy := Lib.hid hiy
          have C1 := Lib.hid (c_iCheckAll _ _ _ G wy hiy (Nat.le_refl _))
          clear hiy
          have T__ := Lib.hid (X.out.trans hxy)
          clear X
          have X := T__
          clear T__
          obtain ⟨K, hK⟩ : ∃ K, K = caV G := ⟨_, rfl⟩
          obtain ⟨qc, hqc⟩ : ∃ q, q = caB G := ⟨_, rfl⟩
          have HS : Hid (qc = true → lsum K = G.length) := fun e => by rw [hK]; exact caV_good (hqc ▸ e)
          have HKN : Hid ((∀ x ∈ K, 0 ≤ x) ∧ lsum K ≤ 1000000) := by
            unfold Hid
            rw [hK]
            refine ⟨caV_nn G, ?_⟩
            cases e9 : caB G
            · unfold caV; rw [e9]; simp [lsum]
            · rw [caV_good e9]; omega
          have C2 : Hid (∀ W, Ext wy W → Calls Try.prog 36 #[.slice ay G.length cy] W fun e w' => ∃ r, e = .returned (.tuple #[r, .bool qc]) ∧ w'.ownsRow W.heap.size 3 1 r K.length (K.flatMap encI) ∧ Ext W w') := fun W hX => by
            rw [hK, hqc]; exact c_sCheckAll _ _ _ G W (HIy.out.ext hX (Nat.le_refl _)) hX.size
          rw [← hK, ← hqc] at C1
          clear hK hqc
          cases qc
          all_goals
            go_wp2_with fail
            refine C1.out.mono ?_
            rintro e wz ⟨rz, rfl, hoz, hxz⟩
            obtain ⟨az, cz, rfl, _, _, _⟩ := own_form hoz
            have HOz := Lib.hid (OwnI.of hoz)
            clear hoz
            have T__ := Lib.hid (X.out.trans hxz)
            clear X
            have X := T__
            clear T__
            go_wp2_with fail
            refine (C2.out _ hxz).mono ?_
            rintro e wt ⟨rt, rfl, hot, hxt⟩
            obtain ⟨at_, ct, rfl, _, _, _⟩ := own_form hot
            have HOt := Lib.hid (OwnI.of hot)
            clear hot
            have T__ := Lib.hid (X.out.trans hxt)
            clear X
            have X := T__
            clear T__
            have T__ := Lib.hid (HOz.out.ext hxt)
            clear HOz
            have HOz := T__
            clear T__
            have CE := Lib.hid (c_sameInts _ _ _ _ _ _ K K wt HOz.out.read HOt.out.read)
            rw [decide_eq_true rfl] at CE
          · go_wp2_with fail
            refine CE.out.mono ?_
            rintro e wu ⟨rfl, hxu⟩
            have T__ := Lib.hid (X.out.trans hxu)
            clear X
            have X := T__
            clear T__
            go_wp2
            go_ret
            exact ⟨by simp, X.out⟩
          · go_wp2_with fail
            refine CE.out.mono ?_
            rintro e wu ⟨rfl, hxu⟩
            have T__ := Lib.hid (X.out.trans hxu)
            clear X
            have X := T__
            clear T__
            have T__ := Lib.hid (HOt.out.ext hxu)
            clear HOt
            have HOt := T__
            clear T__
            have CP := c_pSum _ _ _ K wu HOt.out.read HKN.out.1 HKN.out.2
            rw [HS.out (by trivial)] at CP
            have HCP := Lib.hid CP
            clear CP
            go_wp2_with fail
            refine HCP.out.mono ?_
            rintro e w' ⟨rfl, rfl⟩
            go_wp2
            go_ret
            exact ⟨by simp, X.out⟩
        · have hgood := hex
          simp only [exB, Bool.and_eq_true] at hgood
          obtain ⟨⟨g1, g2⟩, g3, g4⟩ := hgood
          obtain ⟨i1, i2⟩ := inB_t g2
          obtain ⟨j1, j2⟩ := inB_t g3
          obtain ⟨p, rfl⟩ := Int.eq_ofNat_of_zero_le i1
          obtain ⟨q, rfl⟩ := Int.eq_ofNat_of_zero_le j1
          have hp : p < V.length := by omega
          have hq : q < V.length := by omega
          obtain ⟨x, hx⟩ : ∃ x, V[p]? = some x := ⟨_, List.getElem?_eq_getElem hp⟩
          obtain ⟨y, hy⟩ : ∃ x, V[q]? = some x := ⟨_, List.getElem?_eq_getElem hq⟩
          have hev : exV V (p : Int) (q : Int) = (x != y) := by
            unfold exV
            rw [hex, Bool.true_and, Int.toNat_natCast, Int.toNat_natCast]
            exact hold_swp g1 g4 hx hy
          rw [hex, hev] at CI CS
          have HX := Lib.hid hx
          have HY := Lib.hid hy
          have hpI : (p : Int) < (V.length : Int) := by omega
          have hqI : (q : Int) < (V.length : Int) := by omega
          obtain ⟨b9, o9, z9, hb9, hz9, c09⟩ := Ints_at HOa.out.read hp
          clear hex hev g1 g2 g3 g4 hx hy i1 i2 j1 j2
          subst hb9
          obtain ⟨_, _, z8, hb8, hz8, c08⟩ := Ints_at HOa.out.read hq
          simp only [Option.some.injEq, Addr.mk.injEq, and_true] at hb8
          obtain ⟨rfl, rfl⟩ := hb8
          obtain rfl : z9 = x := Option.some.inj (hz9.out.symm.trans HX.out)
          obtain rfl : z8 = y := Option.some.inj (hz8.out.symm.trans HY.out)
          go_wp2_with fail
          refine CI.out.mono ?_
          rintro e wb ⟨rfl, hxb⟩
          have T__ := Lib.hid (X.out.trans hxb)
          clear X
          have X := T__
          clear T__
          go_wp2_with fail
          refine (CS.out _ hxb).mono ?_
          rintro e wc ⟨rfl, hxc⟩
          have T__ := Lib.hid (X.out.trans hxc)
          clear X
          have X := T__
          clear T__
          have d0 := XT.cell ((hxb.trans hxc).cell c09)
          have d1 := XT.cell ((hxb.trans hxc).cell c08)
          clear CI CS c09 c08
          by_cases hxy : z9 = z8
          · have hxyb : (z9 != z8) = false := by simp [hxy]
            clear hxy
            go_wp2_with fail
            refine region_ext (by kernel_rfl) (by kernel_rfl) ?_
            repeat (go_big_quiet_step (fail))
            refine wpQuiet_nil ?_
            intro wq hxq
            have T__ := Lib.hid (X.out.trans hxq)
            clear X
            have X := T__
            clear T__
            clear d0 d1
            go_wp2_with fail
            refine (c_DrawSyndromesOf _ 0 w.heap.size cs wq (BytesE.ext HB1.out X.out (Nat.le_refl _)) X.out.size).mono ?_
            rintro e wx ⟨vx, S, rfl, hox, hlx, hxx⟩
            obtain ⟨ax, cx, rfl, _, _⟩ := hox.form
            have HOx := Lib.hid hox
            clear hox
            have T__ := Lib.hid (X.out.trans hxx)
            clear X
            have X := T__
            clear T__
            go_wp2_with fail
            refine (c_iSyn _ _ _ S _ HOx.out.read).mono ?_
            rintro e w' ⟨rfl, rfl⟩
            go_wp2_with fail
            refine (c_sSyn _ _ _ S _ HOx.out.read).mono ?_
            rintro e w' ⟨rfl, rfl⟩
            go_wp2_with fail
            refine (c_DrawCheckAll _ 0 w.heap.size cs wx (BytesE.ext HB1.out X.out (Nat.le_refl _)) X.out.size).mono ?_
            rintro e wy ⟨vy, G, rfl, hiy, hly, hxy⟩
            obtain ⟨ay, cy, rfl, _, _⟩ := hiy.form
            have HIy := Lib.hid hiy
            have C1 := Lib.hid (c_iCheckAll _ _ _ G wy hiy (Nat.le_refl _))
            clear hiy
            have T__ := Lib.hid (X.out.trans hxy)
            clear X
            have X := T__
            clear T__
            obtain ⟨K, hK⟩ : ∃ K, K = caV G := ⟨_, rfl⟩
            obtain ⟨qc, hqc⟩ : ∃ q, q = caB G := ⟨_, rfl⟩
            have HS : Hid (qc = true → lsum K = G.length) := fun e => by rw [hK]; exact caV_good (hqc ▸ e)
            have HKN : Hid ((∀ x ∈ K, 0 ≤ x) ∧ lsum K ≤ 1000000) := by
              unfold Hid
              rw [hK]
              refine ⟨caV_nn G, ?_⟩
              cases e9 : caB G
              · unfold caV; rw [e9]; simp [lsum]
              · rw [caV_good e9]; omega
            have C2 : Hid (∀ W, Ext wy W → Calls Try.prog 36 #[.slice ay G.length cy] W fun e w' => ∃ r, e = .returned (.tuple #[r, .bool qc]) ∧ w'.ownsRow W.heap.size 3 1 r K.length (K.flatMap encI) ∧ Ext W w') := fun W hX => by
              rw [hK, hqc]; exact c_sCheckAll _ _ _ G W (HIy.out.ext hX (Nat.le_refl _)) hX.size
            rw [← hK, ← hqc] at C1
            clear hK hqc
            cases qc
            all_goals
              go_wp2_with fail
              refine C1.out.mono ?_
              rintro e wz ⟨rz, rfl, hoz, hxz⟩
              obtain ⟨az, cz, rfl, _, _, _⟩ := own_form hoz
              have HOz := Lib.hid (OwnI.of hoz)
              clear hoz
              have T__ := Lib.hid (X.out.trans hxz)
              clear X
              have X := T__
              clear T__
              go_wp2_with fail
              refine (C2.out _ hxz).mono ?_
              rintro e wt ⟨rt, rfl, hot, hxt⟩
              obtain ⟨at_, ct, rfl, _, _, _⟩ := own_form hot
              have HOt := Lib.hid (OwnI.of hot)
              clear hot
              have T__ := Lib.hid (X.out.trans hxt)
              clear X
              have X := T__
              clear T__
              have T__ := Lib.hid (HOz.out.ext hxt)
              clear HOz
              have HOz := T__
              clear T__
              have CE := Lib.hid (c_sameInts _ _ _ _ _ _ K K wt HOz.out.read HOt.out.read)
              rw [decide_eq_true rfl] at CE
            · go_wp2_with fail
              refine CE.out.mono ?_
              rintro e wu ⟨rfl, hxu⟩
              have T__ := Lib.hid (X.out.trans hxu)
              clear X
              have X := T__
              clear T__
              go_wp2
              go_ret
              exact ⟨by simp, X.out⟩
            · go_wp2_with fail
              refine CE.out.mono ?_
              rintro e wu ⟨rfl, hxu⟩
              have T__ := Lib.hid (X.out.trans hxu)
              clear X
              have X := T__
              clear T__
              have T__ := Lib.hid (HOt.out.ext hxu)
              clear HOt
              have HOt := T__
              clear T__
              have CP := c_pSum _ _ _ K wu HOt.out.read HKN.out.1 HKN.out.2
              rw [HS.out (by trivial)] at CP
              have HCP := Lib.hid CP
              clear CP
              go_wp2_with fail
              refine HCP.out.mono ?_
              rintro e w' ⟨rfl, rfl⟩
              go_wp2
              go_ret
              exact ⟨by simp, X.out⟩
          · have hxyb : (z9 != z8) = true := by simp [hxy]
            clear hxy
            go_wp2_with fail
            refine region_ext (by kernel_rfl) (by kernel_rfl) ?_
            repeat (go_big_quiet_step (fail))
            refine wpQuiet_nil ?_
            intro wq hxq
            have T__ := Lib.hid (X.out.trans hxq)
            clear X
            have X := T__
            clear T__
            clear d0 d1
            go_wp2_with fail
            refine (c_DrawSyndromesOf _ 0 w.heap.size cs wq (BytesE.ext HB1.out X.out (Nat.le_refl _)) X.out.size).mono ?_
            rintro e wx ⟨vx, S, rfl, hox, hlx, hxx⟩
            obtain ⟨ax, cx, rfl, _, _⟩ := hox.form
            have HOx := Lib.hid hox
            clear hox
            have T__ := Lib.hid (X.out.trans hxx)
            clear X
            have X := T__
            clear T__
            go_wp2_with fail
            refine (c_iSyn _ _ _ S _ HOx.out.read).mono ?_
            rintro e w' ⟨rfl, rfl⟩
            go_wp2_with fail
            refine (c_sSyn _ _ _ S _ HOx.out.read).mono ?_
            rintro e w' ⟨rfl, rfl⟩
            go_wp2_with fail
            refine (c_DrawCheckAll _ 0 w.heap.size cs wx (BytesE.ext HB1.out X.out (Nat.le_refl _)) X.out.size).mono ?_
            rintro e wy ⟨vy, G, rfl, hiy, hly, hxy⟩
            obtain ⟨ay, cy, rfl, _, _⟩ := hiy.form
            have HIy := Lib.hid hiy
            have C1 := Lib.hid (c_iCheckAll _ _ _ G wy hiy (Nat.le_refl _))
            clear hiy
            have T__ := Lib.hid (X.out.trans hxy)
            clear X
            have X := T__
            clear T__
            obtain ⟨K, hK⟩ : ∃ K, K = caV G := ⟨_, rfl⟩
            obtain ⟨qc, hqc⟩ : ∃ q, q = caB G := ⟨_, rfl⟩
            have HS : Hid (qc = true → lsum K = G.length) := fun e => by rw [hK]; exact caV_good (hqc ▸ e)
            have HKN : Hid ((∀ x ∈ K, 0 ≤ x) ∧ lsum K ≤ 1000000) := by
              unfold Hid
              rw [hK]
              refine ⟨caV_nn G, ?_⟩
              cases e9 : caB G
              · unfold caV; rw [e9]; simp [lsum]
              · rw [caV_good e9]; omega
            have C2 : Hid (∀ W, Ext wy W → Calls Try.prog 36 #[.slice ay G.length cy] W fun e w' => ∃ r, e = .returned (.tuple #[r, .bool qc]) ∧ w'.ownsRow W.heap.size 3 1 r K.length (K.flatMap encI) ∧ Ext W w') := fun W hX => by
              rw [hK, hqc]; exact c_sCheckAll _ _ _ G W (HIy.out.ext hX (Nat.le_refl _)) hX.size
            rw [← hK, ← hqc] at C1
            clear hK hqc
            cases qc
            all_goals
              go_wp2_with fail
              refine C1.out.mono ?_
              rintro e wz ⟨rz, rfl, hoz, hxz⟩
              obtain ⟨az, cz, rfl, _, _, _⟩ := own_form hoz
              have HOz := Lib.hid (OwnI.of hoz)
              clear hoz
              have T__ := Lib.hid (X.out.trans hxz)
              clear X
              have X := T__
              clear T__
              go_wp2_with fail
              refine (C2.out _ hxz).mono ?_
              rintro e wt ⟨rt, rfl, hot, hxt⟩
              obtain ⟨at_, ct, rfl, _, _, _⟩ := own_form hot
              have HOt := Lib.hid (OwnI.of hot)
              clear hot
              have T__ := Lib.hid (X.out.trans hxt)
              clear X
              have X := T__
              clear T__
              have T__ := Lib.hid (HOz.out.ext hxt)
              clear HOz
              have HOz := T__
              clear T__
              have CE := Lib.hid (c_sameInts _ _ _ _ _ _ K K wt HOz.out.read HOt.out.read)
              rw [decide_eq_true rfl] at CE
            · go_wp2_with fail
              refine CE.out.mono ?_
              rintro e wu ⟨rfl, hxu⟩
              have T__ := Lib.hid (X.out.trans hxu)
              clear X
              have X := T__
              clear T__
              go_wp2
              go_ret
              exact ⟨by simp, X.out⟩
            · go_wp2_with fail
              refine CE.out.mono ?_
              rintro e wu ⟨rfl, hxu⟩
              have T__ := Lib.hid (X.out.trans hxu)
              clear X
              have X := T__
              clear T__
              have T__ := Lib.hid (HOt.out.ext hxu)
              clear HOt
              have HOt := T__
              clear T__
              have CP := c_pSum _ _ _ K wu HOt.out.read HKN.out.1 HKN.out.2
              rw [HS.out (by trivial)] at CP
              have HCP := Lib.hid CP
              clear CP
              go_wp2_with fail
              refine HCP.out.mono ?_
              rintro e w' ⟨rfl, rfl⟩
              go_wp2
              go_ret
              exact ⟨by simp, X.out⟩
  | some M =>
    obtain ⟨g1, g2, g3, g4⟩ := coO_good hco
    rw [hco] at CI CS
    simp only [Option.isSome_some, Option.getD_some] at CI CS
    have hlen : M.length = L.length := by obtain ⟨i, y, rfl⟩ := g4; exact List.length_set
    rw [hlen] at CI CS
    have HLEN := Lib.hid hlen
    have HD : Hid (∀ k, cntD M L k ≤ 1) := fun k => cntD_one g4 k
    clear hco g4 hlen
    go_wp2_with fail
    refine CI.out.mono ?_
    rintro e w2 ⟨r2, rfl, ho2, hx2⟩
    obtain ⟨a2, c2, rfl, _, _, _⟩ := own_form ho2
    have HO2 : Hid (OwnI w2 w1.heap.size w2.heap.size (.slice a2 L.length c2) M) := OwnI.of (by rw [HLEN.out]; exact ho2)
    clear ho2 CI
    have T__ := Lib.hid (X.out.trans hx2)
    clear X
    have X := T__
    clear T__
    go_wp2_with fail
    refine (CS.out _ hx2).mono ?_
    rintro e w3 ⟨r3, rfl, ho3, hx3⟩
    obtain ⟨a3, c3, rfl, _, q31, q32⟩ := own_form ho3
    have HO3 : Hid (OwnI w3 w2.heap.size w3.heap.size (.slice a3 L.length c3) M) := OwnI.of (by rw [HLEN.out]; exact ho3)
    clear ho3 CS
    have T__ := Lib.hid (X.out.trans hx3)
    clear X
    have X := T__
    clear T__
    have T__ := Lib.hid (HO2.out.ext hx3)
    clear HO2
    have HO2 := T__
    clear T__
    have CE := Lib.hid (c_sameInts _ _ _ _ _ _ M M w3 HO2.out.read HO3.out.read)
    rw [decide_eq_true rfl] at CE
    have HRL := Lib.hid (HOL.out.read.ext (hx2.trans hx3) (Nat.le_refl _))
    go_wp2_with fail
    refine CE.out.mono ?_
    rintro e w4 ⟨rfl, hx4⟩
    have T__ := Lib.hid (X.out.trans hx4)
    clear X
    have X := T__
    clear T__
    have T__ := Lib.hid (HO2.out.ext hx4)
    clear HO2
    have HO2 := T__
    clear T__
    have T__ := Lib.hid (HO3.out.ext hx4)
    clear HO3
    have HO3 := T__
    clear T__
    have HRL2 := Lib.hid (HRL.out.ext hx4 (by have := (hx2.trans hx3).size; omega))
    have CY := Lib.hid (c_iSyn _ _ _ M w4 HO2.out.read)
    have ey : synA M = 0 ∧ synB M = 0 := by unfold synA synB; rw [g1, g2, g3]; simp
    rw [ey.1, ey.2, g1] at CY
    clear CE ey g1 g2 g3 HRL
    obtain ⟨n, hn⟩ : ∃ n, n = L.length := ⟨_, rfl⟩
    rw [← hn] at HO3 HRL2 HO2 CY q31 qL1 ⊢
    have HN := Lib.hid hn
    clear hn
    go_wp2_with fail
    refine CY.out.mono ?_
    rintro e w' ⟨rfl, rfl⟩
    clear CY
    go_wp2
    go_loop [13, 78] (fun d t => ∃ k : Nat, k ≤ n ∧ t = .int .i64 k ∧ d = .int .i64 (cntD M L k : Nat)) (fun _ t => n - (intOf t).toNat)
    case atStart => exact ⟨0, by omega, rfl, rfl⟩
    case round =>
      obtain ⟨z, hz, rfl, rfl⟩ := hrel
      have hc1 := HD.out z
      obtain ⟨c, hc⟩ : ∃ c, c = cntD M L z := ⟨_, rfl⟩
      rw [← hc] at hc1 ⊢
      by_cases hlt : z < n
      · obtain ⟨b9, o9, y, rfl, hy, c0⟩ := Ints_at HO3.out.read hlt
        obtain ⟨b8, o8, x, rfl, hx, c1⟩ := Ints_at HRL2.out hlt
        have hltI : (z : Int) < (n : Int) := by omega
        by_cases hyx : y = x
        · have hb : (y != x) = false := by simp [hyx]
          have HS : Hid (cntD M L (z + 1) = c) := by
            unfold Hid
            rw [show cntD M L (z + 1) = cntD M L z + (if M[z]? = L[z]? then 0 else 1) from rfl, ← hc, if_pos (by rw [hy.out, hx.out, hyx])]; rfl
          clear hyx hc
          go_wp2
          go_round
          case rel => exact ⟨z + 1, by omega, by go_num, by rw [HS.out]⟩
          case measure => simp [intOf]; omega
        · have hb : (y != x) = true := by simp [hyx]
          have HS : Hid (cntD M L (z + 1) = c + 1) := by
            unfold Hid
            rw [show cntD M L (z + 1) = cntD M L z + (if M[z]? = L[z]? then 0 else 1) from rfl, ← hc, if_neg (by rw [hy.out, hx.out]; intro e; exact hyx (Option.some.inj e))]
          clear hyx hc
          go_wp2
          go_round
          case rel => exact ⟨z + 1, by omega, by go_num, by rw [HS.out]; go_num⟩
          case measure => simp [intOf]; omega
      · have hge : ¬ ((z : Int) < (n : Int)) := by omega
        have hc1I : (c : Int) ≤ 1 := by omega
        clear hc
        go_wp2_with fail
        refine (c_DrawWrong _ 0 w.heap.size cs w4 (BytesE.ext HB1.out X.out (Nat.le_refl _)) X.out.size).mono ?_
        rintro e wu ⟨vu, U, k, rfl, hou, hlu, hk0, hk1, hxu⟩
        obtain ⟨au, cu, rfl, _, _⟩ := hou.form
        have HOu := Lib.hid hou
        have T__ := Lib.hid (X.out.trans hxu)
        clear X
        have X := T__
        clear T__
        have CI := Lib.hid (c_iWrong _ _ _ U k wu hou.read (Nat.le_refl _))
        obtain ⟨Z, hZ⟩ : ∃ Z, Z = wsV U k := ⟨_, rfl⟩
        obtain ⟨qe, hqe⟩ : ∃ q, q = erB U k := ⟨_, rfl⟩
        have CS : Hid (∀ W, Ext wu W → Calls Try.prog 27 #[.slice au U.length cu, .int .i64 k] W fun e w' => ∃ r, e = .returned (.tuple #[r, .bool qe]) ∧ w'.ownsRow W.heap.size 3 1 r Z.length (Z.flatMap encI) ∧ Ext W w') := fun W hX => by
          rw [hZ, hqe]; exact c_sWrong _ _ _ U k W (HOu.out.read.ext hX (Nat.le_refl _)) hX.size
        have HZM : Hid (∀ n, n ∈ Z → ∃ (q : Nat) (x : Int), k = (q : Int) ∧ q < U.length ∧ U[q]? = some x ∧ 1 ≤ x ∧ x ≤ 61 ∧ 1 ≤ n ∧ n ≤ 61 ∧ dst n x = 1) := fun n hn => wsV_mem (by rw [← hZ]; exact hn)
        rw [← hZ, ← hqe] at CI
        clear hou hZ hqe
        go_wp2_with fail
        refine CI.out.mono ?_
        rintro e wa ⟨ra, rfl, hoa, hxa⟩
        obtain ⟨aa, ca, rfl, _, _, _⟩ := own_form hoa
        have HOa := Lib.hid (OwnI.of hoa)
        clear hoa CI
        have T__ := Lib.hid (X.out.trans hxa)
        clear X
        have X := T__
        clear T__
        go_wp2_with fail
        refine (CS.out _ hxa).mono ?_
        rintro e wb ⟨rb, rfl, hob, hxb⟩
        obtain ⟨ab, cb, rfl, _, qb1, qb2⟩ := own_form hob
        have HOb := Lib.hid (OwnI.of hob)
        clear hob CS
        have T__ := Lib.hid (X.out.trans hxb)
        clear X
        have X := T__
        clear T__
        have T__ := Lib.hid (HOa.out.ext hxb)
        clear HOa
        have HOa := T__
        clear T__
        have CE := Lib.hid (c_sameInts _ _ _ _ _ _ Z Z wb HOa.out.read HOb.out.read)
        rw [decide_eq_true rfl] at CE
        have HRu := Lib.hid (HOu.out.read.ext (hxa.trans hxb) (Nat.le_refl _))
        go_wp2_with fail
        refine CE.out.mono ?_
        rintro e wc ⟨rfl, hxc⟩
        have T__ := Lib.hid (X.out.trans hxc)
        clear X
        have X := T__
        clear T__
        have T__ := Lib.hid (HOb.out.ext hxc)
        clear HOb
        have HOb := T__
        clear T__
        have HRu2 := Lib.hid (HRu.out.ext hxc (by have := (hxa.trans hxb).size; omega))
        obtain ⟨n, hn⟩ : ∃ n, n = Z.length := ⟨_, rfl⟩
        rw [← hn] at HOb qb1 ⊢
        clear CE HRu hn HOa
        go_wp2
        go_loop [141] (fun t => ∃ k : Nat, k ≤ n ∧ t = .int .i64 k) (fun t => n - (intOf t).toNat)
        case atStart => exact ⟨0, by omega, rfl⟩
        case round =>
          obtain ⟨z, hz, rfl⟩ := hrel
          by_cases hlt : z < n
          · obtain ⟨b9, o9, y, rfl, hy, c0⟩ := Ints_at HOb.out.read hlt
            obtain ⟨p, x, hkp, hpl, hx, x1, x61, y1, y61, hd⟩ := HZM.out y (List.mem_of_getElem? hy.out)
            subst hkp
            obtain ⟨b8, o8, x8, rfl, hx8, c1⟩ := Ints_at HRu2.out hpl
            obtain rfl : x8 = x := Option.some.inj (hx8.out.symm.trans hx)
            have CD := Lib.hid (c_SigDist y x8 wc (inB_iff.2 ⟨by omega, by omega⟩) (inB_iff.2 ⟨by omega, by omega⟩))
            rw [hd] at CD
            have hltI : (z : Int) < (n : Int) := by omega
            have hplI : (p : Int) < (U.length : Int) := by omega
            clear hd hx
            go_wp2_with fail
            refine CD.out.mono ?_
            rintro e w' ⟨rfl, rfl⟩
            go_wp2
            go_round
            case rel => exact ⟨z + 1, by omega, by go_num⟩
            case measure => simp [intOf]; omega
          · have hge : ¬ ((z : Int) < (n : Int)) := by omega
            go_wp2_with fail
            refine (c_DrawSees _ 0 w.heap.size cs wc (BytesE.ext HB1.out X.out (Nat.le_refl _)) X.out.size).mono ?_
            rintro e wa ⟨va, V, i, j, rfl, hoa, hla, ⟨hi0, hi1⟩, ⟨hj0, hj1⟩, hxa⟩
            obtain ⟨aa, ca, rfl, _, _⟩ := hoa.form
            have HOa := Lib.hid hoa
            have T__ := Lib.hid (X.out.trans hxa)
            clear X
            have X := T__
            clear T__
            have CI := Lib.hid (c_iSeesExchange _ _ _ V i j wa hoa.read (Nat.le_refl _))
            have CS : Hid (∀ W, Ext wa W → Calls Try.prog 31 #[.slice aa V.length ca, .int .i64 i, .int .i64 j] W fun e w' => e = .returned (.tuple #[.bool (exV V i j), .bool (exB V i j)]) ∧ Ext W w') := fun W hX => c_sSeesExchange _ _ _ V i j W (HOa.out.read.ext hX (Nat.le_refl _)) hX.size
            clear hoa
            cases hex : exB V i j
            · have hev : exV V i j = false := by unfold exV; rw [hex]; rfl
              rw [hex, hev] at CI CS
              clear hex hev
              go_wp2_with fail
              refine CI.out.mono ?_
              rintro e wb ⟨rfl, hxb⟩
              have T__ := Lib.hid (X.out.trans hxb)
              clear X
              have X := T__
              clear T__
              go_wp2_with fail
              refine (CS.out _ hxb).mono ?_
              rintro e wc ⟨rfl, hxc⟩
              have T__ := Lib.hid (X.out.trans hxc)
              clear X
              have X := T__
              clear T__
              clear CI CS
              go_wp2_with fail
              refine region_ext (by kernel_rfl) (by kernel_rfl) ?_
              repeat (go_big_quiet_step (fail))
              refine wpQuiet_nil ?_
              intro wq hxq
              have T__ := Lib.hid (X.out.trans hxq)
              clear X
              have X := T__
              clear T__
              go_wp2_with fail
              refine (c_DrawSyndromesOf _ 0 w.heap.size cs wq (BytesE.ext HB1.out X.out (Nat.le_refl _)) X.out.size).mono ?_
              rintro e wx ⟨vx, S, rfl, hox, hlx, hxx⟩
              obtain ⟨ax, cx, rfl, _, _⟩ := hox.form
              have HOx := Lib.hid hox
              clear hox
              have T__ := Lib.hid (X.out.trans hxx)
              clear X
              have X := T__
              clear T__
              go_wp2_with fail
              refine (c_iSyn _ _ _ S _ HOx.out.read).mono ?_
              rintro e w' ⟨rfl, rfl⟩
              go_wp2_with fail
              refine (c_sSyn _ _ _ S _ HOx.out.read).mono ?_
              rintro e w' ⟨rfl, rfl⟩
              go_wp2_with fail
              refine (c_DrawCheckAll _ 0 w.heap.size cs wx (BytesE.ext HB1.out X.out (Nat.le_refl _)) X.out.size).mono ?_
              rintro e wy ⟨vy, G, rfl, hiy, hly, hxy⟩
              obtain ⟨ay, cy, rfl, _, _⟩ := hiy.form
              have HIy := Lib.hid hiy
              have C1 := Lib.hid (c_iCheckAll _ _ _ G wy hiy (Nat.le_refl _))
              clear hiy
              have T__ := Lib.hid (X.out.trans hxy)
              clear X
              have X := T__
              clear T__
              obtain ⟨K, hK⟩ : ∃ K, K = caV G := ⟨_, rfl⟩
              obtain ⟨qc, hqc⟩ : ∃ q, q = caB G := ⟨_, rfl⟩
              have HS : Hid (qc = true → lsum K = G.length) := fun e => by rw [hK]; exact caV_good (hqc ▸ e)
              have HKN : Hid ((∀ x ∈ K, 0 ≤ x) ∧ lsum K ≤ 1000000) := by
                unfold Hid
                rw [hK]
                refine ⟨caV_nn G, ?_⟩
                cases e9 : caB G
                · unfold caV; rw [e9]; simp [lsum]
                · rw [caV_good e9]; omega
              have C2 : Hid (∀ W, Ext wy W → Calls Try.prog 36 #[.slice ay G.length cy] W fun e w' => ∃ r, e = .returned (.tuple #[r, .bool qc]) ∧ w'.ownsRow W.heap.size 3 1 r K.length (K.flatMap encI) ∧ Ext W w') := fun W hX => by
                rw [hK, hqc]; exact c_sCheckAll _ _ _ G W (HIy.out.ext hX (Nat.le_refl _)) hX.size
              rw [← hK, ← hqc] at C1
              clear hK hqc
              cases qc
              all_goals
                go_wp2_with fail
                refine C1.out.mono ?_
                rintro e wz ⟨rz, rfl, hoz, hxz⟩
                obtain ⟨az, cz, rfl, _, _, _⟩ := own_form hoz
                have HOz := Lib.hid (OwnI.of hoz)
                clear hoz
                have T__ := Lib.hid (X.out.trans hxz)
                clear X
                have X := T__
                clear T__
                go_wp2_with fail
                refine (C2.out _ hxz).mono ?_
                rintro e wt ⟨rt, rfl, hot, hxt⟩
                obtain ⟨at_, ct, rfl, _, _, _⟩ := own_form hot
                have HOt := Lib.hid (OwnI.of hot)
                clear hot
                have T__ := Lib.hid (X.out.trans hxt)
                clear X
                have X := T__
                clear T__
                have T__ := Lib.hid (HOz.out.ext hxt)
                clear HOz
                have HOz := T__
                clear T__
                have CE := Lib.hid (c_sameInts _ _ _ _ _ _ K K wt HOz.out.read HOt.out.read)
                rw [decide_eq_true rfl] at CE
              · go_wp2_with fail
                refine CE.out.mono ?_
                rintro e wu ⟨rfl, hxu⟩
                have T__ := Lib.hid (X.out.trans hxu)
                clear X
                have X := T__
                clear T__
                go_wp2
                go_ret
                exact ⟨by simp, X.out⟩
              · go_wp2_with fail
                refine CE.out.mono ?_
                rintro e wu ⟨rfl, hxu⟩
                have T__ := Lib.hid (X.out.trans hxu)
                clear X
                have X := T__
                clear T__
                have T__ := Lib.hid (HOt.out.ext hxu)
                clear HOt
                have HOt := T__
                clear T__
                have CP := c_pSum _ _ _ K wu HOt.out.read HKN.out.1 HKN.out.2
                rw [HS.out (by trivial)] at CP
                have HCP := Lib.hid CP
                clear CP
                go_wp2_with fail
                refine HCP.out.mono ?_
                rintro e w' ⟨rfl, rfl⟩
                go_wp2
                go_ret
                exact ⟨by simp, X.out⟩
            · have hgood := hex
              simp only [exB, Bool.and_eq_true] at hgood
              obtain ⟨⟨g1, g2⟩, g3, g4⟩ := hgood
              obtain ⟨i1, i2⟩ := inB_t g2
              obtain ⟨j1, j2⟩ := inB_t g3
              obtain ⟨p, rfl⟩ := Int.eq_ofNat_of_zero_le i1
              obtain ⟨q, rfl⟩ := Int.eq_ofNat_of_zero_le j1
              have hp : p < V.length := by omega
              have hq : q < V.length := by omega
              obtain ⟨x, hx⟩ : ∃ x, V[p]? = some x := ⟨_, List.getElem?_eq_getElem hp⟩
              obtain ⟨y, hy⟩ : ∃ x, V[q]? = some x := ⟨_, List.getElem?_eq_getElem hq⟩
              have hev : exV V (p : Int) (q : Int) = (x != y) := by
                unfold exV
                rw [hex, Bool.true_and, Int.toNat_natCast, Int.toNat_natCast]
                exact hold_swp g1 g4 hx hy
              rw [hex, hev] at CI CS
              have HX := Lib.hid hx
              have HY := Lib.hid hy
              have hpI : (p : Int) < (V.length : Int) := by omega
              have hqI : (q : Int) < (V.length : Int) := by omega
              obtain ⟨b9, o9, z9, hb9, hz9, c09⟩ := Ints_at HOa.out.read hp
              clear hex hev g1 g2 g3 g4 hx hy i1 i2 j1 j2
              subst hb9
              obtain ⟨_, _, z8, hb8, hz8, c08⟩ := Ints_at HOa.out.read hq
              simp only [Option.some.injEq, Addr.mk.injEq, and_true] at hb8
              obtain ⟨rfl, rfl⟩ := hb8
              obtain rfl : z9 = x := Option.some.inj (hz9.out.symm.trans HX.out)
              obtain rfl : z8 = y := Option.some.inj (hz8.out.symm.trans HY.out)
              go_wp2_with fail
              refine CI.out.mono ?_
              rintro e wb ⟨rfl, hxb⟩
              have T__ := Lib.hid (X.out.trans hxb)
              clear X
              have X := T__
              clear T__
              go_wp2_with fail
              refine (CS.out _ hxb).mono ?_
              rintro e wc ⟨rfl, hxc⟩
              have T__ := Lib.hid (X.out.trans hxc)
              clear X
              have X := T__
              clear T__
              have d0 := XT.cell ((hxb.trans hxc).cell c09)
              have d1 := XT.cell ((hxb.trans hxc).cell c08)
              clear CI CS c09 c08
              by_cases hxy : z9 = z8
              · have hxyb : (z9 != z8) = false := by simp [hxy]
                clear hxy
                go_wp2_with fail
                refine region_ext (by kernel_rfl) (by kernel_rfl) ?_
                repeat (go_big_quiet_step (fail))
                refine wpQuiet_nil ?_
                intro wq hxq
                have T__ := Lib.hid (X.out.trans hxq)
                clear X
                have X := T__
                clear T__
                clear d0 d1
                go_wp2_with fail
                refine (c_DrawSyndromesOf _ 0 w.heap.size cs wq (BytesE.ext HB1.out X.out (Nat.le_refl _)) X.out.size).mono ?_
                rintro e wx ⟨vx, S, rfl, hox, hlx, hxx⟩
                obtain ⟨ax, cx, rfl, _, _⟩ := hox.form
                have HOx := Lib.hid hox
                clear hox
                have T__ := Lib.hid (X.out.trans hxx)
                clear X
                have X := T__
                clear T__
                go_wp2_with fail
                refine (c_iSyn _ _ _ S _ HOx.out.read).mono ?_
                rintro e w' ⟨rfl, rfl⟩
                go_wp2_with fail
                refine (c_sSyn _ _ _ S _ HOx.out.read).mono ?_
                rintro e w' ⟨rfl, rfl⟩
                go_wp2_with fail
                refine (c_DrawCheckAll _ 0 w.heap.size cs wx (BytesE.ext HB1.out X.out (Nat.le_refl _)) X.out.size).mono ?_
                rintro e wy ⟨vy, G, rfl, hiy, hly, hxy⟩
                obtain ⟨ay, cy, rfl, _, _⟩ := hiy.form
                have HIy := Lib.hid hiy
                have C1 := Lib.hid (c_iCheckAll _ _ _ G wy hiy (Nat.le_refl _))
                clear hiy
                have T__ := Lib.hid (X.out.trans hxy)
                clear X
                have X := T__
                clear T__
                obtain ⟨K, hK⟩ : ∃ K, K = caV G := ⟨_, rfl⟩
                obtain ⟨qc, hqc⟩ : ∃ q, q = caB G := ⟨_, rfl⟩
                have HS : Hid (qc = true → lsum K = G.length) := fun e => by rw [hK]; exact caV_good (hqc ▸ e)
                have HKN : Hid ((∀ x ∈ K, 0 ≤ x) ∧ lsum K ≤ 1000000) := by
                  unfold Hid
                  rw [hK]
                  refine ⟨caV_nn G, ?_⟩
                  cases e9 : caB G
                  · unfold caV; rw [e9]; simp [lsum]
                  · rw [caV_good e9]; omega
                have C2 : Hid (∀ W, Ext wy W → Calls Try.prog 36 #[.slice ay G.length cy] W fun e w' => ∃ r, e = .returned (.tuple #[r, .bool qc]) ∧ w'.ownsRow W.heap.size 3 1 r K.length (K.flatMap encI) ∧ Ext W w') := fun W hX => by
                  rw [hK, hqc]; exact c_sCheckAll _ _ _ G W (HIy.out.ext hX (Nat.le_refl _)) hX.size
                rw [← hK, ← hqc] at C1
                clear hK hqc
                cases qc
                all_goals
                  go_wp2_with fail
                  refine C1.out.mono ?_
                  rintro e wz ⟨rz, rfl, hoz, hxz⟩
                  obtain ⟨az, cz, rfl, _, _, _⟩ := own_form hoz
                  have HOz := Lib.hid (OwnI.of hoz)
                  clear hoz
                  have T__ := Lib.hid (X.out.trans hxz)
                  clear X
                  have X := T__
                  clear T__
                  go_wp2_with fail
                  refine (C2.out _ hxz).mono ?_
                  rintro e wt ⟨rt, rfl, hot, hxt⟩
                  obtain ⟨at_, ct, rfl, _, _, _⟩ := own_form hot
                  have HOt := Lib.hid (OwnI.of hot)
                  clear hot
                  have T__ := Lib.hid (X.out.trans hxt)
                  clear X
                  have X := T__
                  clear T__
                  have T__ := Lib.hid (HOz.out.ext hxt)
                  clear HOz
                  have HOz := T__
                  clear T__
                  have CE := Lib.hid (c_sameInts _ _ _ _ _ _ K K wt HOz.out.read HOt.out.read)
                  rw [decide_eq_true rfl] at CE
                · go_wp2_with fail
                  refine CE.out.mono ?_
                  rintro e wu ⟨rfl, hxu⟩
                  have T__ := Lib.hid (X.out.trans hxu)
                  clear X
                  have X := T__
                  clear T__
                  go_wp2
                  go_ret
                  exact ⟨by simp, X.out⟩
                · go_wp2_with fail
                  refine CE.out.mono ?_
                  rintro e wu ⟨rfl, hxu⟩
                  have T__ := Lib.hid (X.out.trans hxu)
                  clear X
                  have X := T__
                  clear T__
                  have T__ := Lib.hid (HOt.out.ext hxu)
                  clear HOt
                  have HOt := T__
                  clear T__
                  have CP := c_pSum _ _ _ K wu HOt.out.read HKN.out.1 HKN.out.2
                  rw [HS.out (by trivial)] at CP
                  have HCP := Lib.hid CP
                  clear CP
                  go_wp2_with fail
                  refine HCP.out.mono ?_
                  rintro e w' ⟨rfl, rfl⟩
                  go_wp2
                  go_ret
                  exact ⟨by simp, X.out⟩
              · have hxyb : (z9 != z8) = true := by simp [hxy]
                clear hxy
                go_wp2_with fail
                refine region_ext (by kernel_rfl) (by kernel_rfl) ?_
                repeat (go_big_quiet_step (fail))
                refine wpQuiet_nil ?_
                intro wq hxq
                have T__ := Lib.hid (X.out.trans hxq)
                clear X
                have X := T__
                clear T__
                clear d0 d1
                go_wp2_with fail
                refine (c_DrawSyndromesOf _ 0 w.heap.size cs wq (BytesE.ext HB1.out X.out (Nat.le_refl _)) X.out.size).mono ?_
                rintro e wx ⟨vx, S, rfl, hox, hlx, hxx⟩
                obtain ⟨ax, cx, rfl, _, _⟩ := hox.form
                have HOx := Lib.hid hox
                clear hox
                have T__ := Lib.hid (X.out.trans hxx)
                clear X
                have X := T__
                clear T__
                go_wp2_with fail
                refine (c_iSyn _ _ _ S _ HOx.out.read).mono ?_
                rintro e w' ⟨rfl, rfl⟩
                go_wp2_with fail
                refine (c_sSyn _ _ _ S _ HOx.out.read).mono ?_
                rintro e w' ⟨rfl, rfl⟩
                go_wp2_with fail
                refine (c_DrawCheckAll _ 0 w.heap.size cs wx (BytesE.ext HB1.out X.out (Nat.le_refl _)) X.out.size).mono ?_
                rintro e wy ⟨vy, G, rfl, hiy, hly, hxy⟩
                obtain ⟨ay, cy, rfl, _, _⟩ := hiy.form
                have HIy := Lib.hid hiy
                have C1 := Lib.hid (c_iCheckAll _ _ _ G wy hiy (Nat.le_refl _))
                clear hiy
                have T__ := Lib.hid (X.out.trans hxy)
                clear X
                have X := T__
                clear T__
                obtain ⟨K, hK⟩ : ∃ K, K = caV G := ⟨_, rfl⟩
                obtain ⟨qc, hqc⟩ : ∃ q, q = caB G := ⟨_, rfl⟩
                have HS : Hid (qc = true → lsum K = G.length) := fun e => by rw [hK]; exact caV_good (hqc ▸ e)
                have HKN : Hid ((∀ x ∈ K, 0 ≤ x) ∧ lsum K ≤ 1000000) := by
                  unfold Hid
                  rw [hK]
                  refine ⟨caV_nn G, ?_⟩
                  cases e9 : caB G
                  · unfold caV; rw [e9]; simp [lsum]
                  · rw [caV_good e9]; omega
                have C2 : Hid (∀ W, Ext wy W → Calls Try.prog 36 #[.slice ay G.length cy] W fun e w' => ∃ r, e = .returned (.tuple #[r, .bool qc]) ∧ w'.ownsRow W.heap.size 3 1 r K.length (K.flatMap encI) ∧ Ext W w') := fun W hX => by
                  rw [hK, hqc]; exact c_sCheckAll _ _ _ G W (HIy.out.ext hX (Nat.le_refl _)) hX.size
                rw [← hK, ← hqc] at C1
                clear hK hqc
                cases qc
                all_goals
                  go_wp2_with fail
                  refine C1.out.mono ?_
                  rintro e wz ⟨rz, rfl, hoz, hxz⟩
                  obtain ⟨az, cz, rfl, _, _, _⟩ := own_form hoz
                  have HOz := Lib.hid (OwnI.of hoz)
                  clear hoz
                  have T__ := Lib.hid (X.out.trans hxz)
                  clear X
                  have X := T__
                  clear T__
                  go_wp2_with fail
                  refine (C2.out _ hxz).mono ?_
                  rintro e wt ⟨rt, rfl, hot, hxt⟩
                  obtain ⟨at_, ct, rfl, _, _, _⟩ := own_form hot
                  have HOt := Lib.hid (OwnI.of hot)
                  clear hot
                  have T__ := Lib.hid (X.out.trans hxt)
                  clear X
                  have X := T__
                  clear T__
                  have T__ := Lib.hid (HOz.out.ext hxt)
                  clear HOz
                  have HOz := T__
                  clear T__
                  have CE := Lib.hid (c_sameInts _ _ _ _ _ _ K K wt HOz.out.read HOt.out.read)
                  rw [decide_eq_true rfl] at CE
                · go_wp2_with fail
                  refine CE.out.mono ?_
                  rintro e wu ⟨rfl, hxu⟩
                  have T__ := Lib.hid (X.out.trans hxu)
                  clear X
                  have X := T__
                  clear T__
                  go_wp2
                  go_ret
                  exact ⟨by simp, X.out⟩
                · go_wp2_with fail
                  refine CE.out.mono ?_
                  rintro e wu ⟨rfl, hxu⟩
                  have T__ := Lib.hid (X.out.trans hxu)
                  clear X
                  have X := T__
                  clear T__
                  have T__ := Lib.hid (HOt.out.ext hxu)
                  clear HOt
                  have HOt := T__
                  clear T__
                  have CP := c_pSum _ _ _ K wu HOt.out.read HKN.out.1 HKN.out.2
                  rw [HS.out (by trivial)] at CP
                  have HCP := Lib.hid CP
                  clear CP
                  go_wp2_with fail
                  refine HCP.out.mono ?_
                  rintro e w' ⟨rfl, rfl⟩
                  go_wp2
                  go_ret
                  exact ⟨by simp, X.out⟩
set_option maxRecDepth 100000 in
theorem lifted_FnErrors (os : Os) (started : os.Started) (H : Type) (enc : TypeId × Value → H) :
    ReturnsInHanded {} Try.checked os 4 .any (Rows.fnErrorsSpec.pre6 enc Try.prog Try.f4 Rows.fnErrorsRow.domain false) (Rows.fnErrorsSpec.post enc Try.prog Try.f4 false true false false) := by
  refine returnsInHanded_of_change (C := Try.checked) own_Ytphfgfejacbhpaa started (by kernel_rfl) Try.func4
    (ChangeSpec.witness6 (enc := enc) (C := Try.checked) false ⟨#[], #[.slice none 0 0, .slice none 0 0], []⟩ 8 (by kernel_rfl) (by kernel_rfl) (by kernel_rfl) (by kernel_rfl)) ?_
  intro W base args ds gs before hval0 hW hcnd _
  have hval : ∀ (j : Nat) t v, Try.f4.params[j]? = some t → args[j]? = some v → Value.okWide Try.prog W .any base t v := hval0
  have hW' := hW
  obtain ⟨p, q, hA0, hV, rfl, hfz, hnd⟩ := hW
  have hA : DataW.TrodAll enc Try.prog W 0 (fun _ => true) true Try.f4.params.toList args.toList ds p := hA0
  rw [Try.params4] at hA hval
  obtain ⟨v0, vs0, d0, ds0, p0, q0, hargs, rfl, rfl, h0, r0⟩ := trodAll_cons hA
  obtain ⟨v1, vs1, d1, ds1, p1, q1, rfl, rfl, rfl, h1, r1⟩ := trodAll_cons r0
  obtain ⟨rfl, rfl, rfl⟩ := trodAll_nil r1
  obtain rfl : args = #[v0, v1] := by cases args; simp_all
  obtain ⟨rfl, rfl⟩ := trodVars_none hV
  have k0 := h0
  have lt0 : ∀ x ∈ p0, x.block < W.heap.size := by obtain ⟨m, hm⟩ := k0; exact DataW.trod_lt m _ _ _ hm
  obtain ⟨x0, w0⟩ := arg_bytes (hval 0 22 v0 rfl rfl) h0
  have k1 := h1
  have lt1 : ∀ x ∈ p1, x.block < W.heap.size := by obtain ⟨m, hm⟩ := k1; exact DataW.trod_lt m _ _ _ hm
  obtain ⟨x1, w1⟩ := arg_bytes (hval 1 22 v1 rfl rfl) h1
  clear hA0 hval0
  refine (law_Errors v0 x0 v1 x1 W w0 w1).mono fun e W' ⟨he, bel⟩ => ?_
  subst he
  exact ⟨_, rfl, _, _, _, [], _, [], hW', trodAll_mk1 (shut_bool Try.underlying4 _), (trodAll_cons_mk (Below.trod laidOut_Ytphfgfejacbhpaa (by kernel_rfl) (of_decide_eq_true (by kernel_rfl)) k0 bel lt0) (trodAll_cons_mk (Below.trod laidOut_Ytphfgfejacbhpaa (by kernel_rfl) (of_decide_eq_true (by kernel_rfl)) k1 bel lt1) trodAll_mk0)), rfl, bel.frame _, fun h => by cases h⟩

theorem holds_FnErrors : Rows.FnErrorsSaid :=
  OpenClaim.holds_of_wide 4 Try.f4 rfl rfl rfl rfl rfl rfl rfl ⟨rfl, rfl, rfl, rfl, rfl⟩ rfl rfl rfl rfl rfl (by kernel_rfl) Try.func4 (by kernel_rfl)
    (of_decide_eq_true (by kernel_rfl)) (by unfold Func.isWrapper; first | (rw [if_pos (by decide +kernel)]; kernel_rfl) | (rw [if_neg (by decide +kernel)]; exact ⟨rfl, rfl⟩))
    (fun os started H enc _ => lifted_FnErrors os started H enc)
end Go.Proofs.Ytphfgfejacbhpaa
