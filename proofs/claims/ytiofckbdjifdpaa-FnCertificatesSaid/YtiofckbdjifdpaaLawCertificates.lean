

/- FnCertificates: for all arguments the call returns true. No condition. -/
import Derived.Test.YtiofckbdjifdpaaDrawV
import Derived.Test.YtiofckbdjifdpaaCertR
import Derived.Test.YtiofckbdjifdpaaQ
import Derived.Test.YtiofckbdjifdpaaArgBytes
import Derived.Test.YtiofckbdjifdpaaApart
namespace Go.Proofs.Ytiofckbdjifdpaa
open Go.ChangeShapes Go.WideShapes Go.ChangeAt Go.RowKit
open Go.ChangeMaps (open_string shut_string)
set_option linter.unusedVariables false
set_option linter.unusedSimpArgs false
abbrev SitesR (w : World) (v : Value) (xss : List (List Int)) : Prop := Intss w 0 w.heap.size v xss
abbrev IntsR (w : World) (v : Value) (xs : List Int) : Prop := Ints w 0 w.heap.size v xs
theorem SitesR.adv {w w' : World} {v : Value} {xss : List (List Int)} (h : SitesR w v xss) (hx : Ext w w') : SitesR w' v xss := (h.ext hx (Nat.le_refl _)).wide (Nat.le_refl _) hx.size
theorem IntsR.adv {w w' : World} {v : Value} {xs : List Int} (h : IntsR w v xs) (hx : Ext w w') : IntsR w' v xs := (h.ext hx (Nat.le_refl _)).mono (Nat.le_refl _) hx.size
theorem IntsR.of_own {w : World} {base : Nat} {v : Value} {xs : List Int} (h : w.ownsRow base 3 1 v xs.length (xs.flatMap encI)) : IntsR w v xs := (Row.of_own encI_len h).mono (Nat.zero_le _) (Nat.le_refl _)
theorem and_facts {a b : Bool} (h : true = (a && (a && b))) : a = true ∧ b = true := by
  cases a <;> cases b <;> simp_all
set_option maxRecDepth 100000 in
set_option maxHeartbeats 8000000 in
theorem law_Certificates (v0 : Value) (bs : List Int) (v1 : Value) (cs : List Int) (w : World) (h0 : ArgBytes w v0 bs) (h1 : ArgBytes w v1 cs) :
    Calls Try.prog 4 #[v0, v1] w fun e w' => e = .returned (.bool true) ∧ Ext w w' := by
  obtain ⟨hB0, hY0⟩ := h0
  obtain ⟨hB1, hY1⟩ := h1
  obtain ⟨a0, p0, rfl, n0, n0b, _⟩ := id hB0
  obtain ⟨a1, p1, rfl, n1, n1b, _⟩ := id hB1
  have HB0 : Hid (Bytes w 0 w.heap.size _ bs) := ⟨hB0, hY0⟩
  have HB1 : Hid (Bytes w 0 w.heap.size _ cs) := ⟨hB1, hY1⟩
  obtain ⟨l0, hl0⟩ : ∃ n, n = bs.length := ⟨_, rfl⟩
  obtain ⟨l1, hl1⟩ : ∃ n, n = cs.length := ⟨_, rfl⟩
  rw [← hl0] at HB0 n0 ⊢
  rw [← hl1] at HB1 n1 ⊢
  clear hB0 hY0 hB1 hY1 hl0 hl1
  have X := Lib.hid (Ext.refl w)
  by_cases hbig : (1048576 : Int) < wrap64 ((l0 : Int) + (l1 : Int))
  ·
    go_enter Try.func4, Try.ntmps4
    go_wp2_with fail
    go_ret
    exact ⟨rfl, Ext.refl _⟩
  go_enter Try.func4, Try.ntmps4
  go_wp2_with fail
  refine (c_DrawMostApart _ 0 w.heap.size bs w HB0.out (Nat.le_refl _)).mono ?_
  rintro e w1 ⟨va, xa, n, rfl, hI, hl, n0, n1, hx⟩
  obtain ⟨aa, ca, rfl, _, _⟩ := hI.form
  have HA : Hid (SitesR w1 _ xa) := hI.wide (Nat.zero_le _) (Nat.le_refl _)
  obtain ⟨na, hna⟩ : ∃ k, k = xa.length := ⟨_, rfl⟩
  rw [← hna] at HA ⊢
  have T__ := Lib.hid (X.out.trans hx)
  clear X
  have X := T__
  clear T__
  clear hI hl hna hx
  obtain ⟨ok, hok⟩ : ∃ x, x = sitesB xa n := ⟨_, rfl⟩
  obtain ⟨M, hM⟩ : ∃ x, x = maV xa n := ⟨_, rfl⟩
  have HOK := Lib.hid hok
  have HMM := Lib.hid hM
  have CI := Lib.hid (c_iMost _ _ _ xa n w1 HA.out (Nat.le_refl _))
  rw [← hok, ← hM] at CI
  clear hok hM
  go_wp2_with fail
  refine CI.out.mono ?_
  rintro e w2 ⟨r2, rfl, ho, hx⟩
  obtain ⟨a2, c2, rfl, _, _, _⟩ := own_form ho
  have HL : Hid (IntsR w2 _ M) := IntsR.of_own ho
  obtain ⟨nM, hnM⟩ : ∃ k, k = M.length := ⟨_, rfl⟩
  rw [← hnM] at HL ⊢
  have HNM := Lib.hid hnM
  have T__ := Lib.hid (X.out.trans hx)
  clear X
  have X := T__
  clear T__
  have T__ := Lib.hid (SitesR.adv HA.out hx)
  clear HA
  have HA := T__
  clear T__
  clear ho hnM hx CI
  have CI := Lib.hid (c_sMost _ _ _ xa n w2 HA.out (Nat.le_refl _))
  rw [← HOK.out, ← HMM.out, ← HNM.out] at CI
  go_wp2_with fail
  refine CI.out.mono ?_
  rintro e w3 ⟨r3, rfl, ho, hx⟩
  obtain ⟨a3, c3, rfl, _, _, _⟩ := own_form ho
  have HL3 : Hid (IntsR w3 (.slice a3 nM c3) M) := by
    have ho2 : w3.ownsRow w2.heap.size 3 1 (.slice a3 nM c3) M.length (M.flatMap encI) := by rw [← HNM.out]; exact ho
    exact IntsR.of_own ho2
  have T__ := Lib.hid (X.out.trans hx)
  clear X
  have X := T__
  clear T__
  have T__ := Lib.hid (SitesR.adv HA.out hx)
  clear HA
  have HA := T__
  clear T__
  have T__ := Lib.hid (IntsR.adv HL.out hx)
  clear HL
  have HL := T__
  clear T__
  clear ho hx CI
  go_wp2_with fail
  refine (c_DrawAreApart _ 0 w.heap.size cs w3 (HB1.out.ext X.out (Nat.le_refl _)) X.out.size).mono ?_
  rintro e w4 ⟨vb, xb, m, vs, sp, rfl, hI, hl, m0, m1, hS, hx⟩
  obtain ⟨ab, cb, rfl, _, _⟩ := hI.form
  obtain ⟨az, cc, rfl, _, _⟩ := hS.form
  have HB : Hid (SitesR w4 _ xb) := hI.wide (Nat.zero_le _) (Nat.le_refl _)
  have HS : Hid (IntsR w4 _ sp) := hS.mono (Nat.zero_le _) (Nat.le_refl _)
  obtain ⟨nb, hnb⟩ : ∃ k, k = xb.length := ⟨_, rfl⟩
  obtain ⟨ns, hns⟩ : ∃ k, k = sp.length := ⟨_, rfl⟩
  rw [← hnb] at HB ⊢
  rw [← hns] at HS ⊢
  have HNS := Lib.hid hns
  have T__ := Lib.hid (X.out.trans hx)
  clear X
  have X := T__
  clear T__
  have T__ := Lib.hid (SitesR.adv HA.out hx)
  clear HA
  have HA := T__
  clear T__
  have T__ := Lib.hid (IntsR.adv HL.out hx)
  clear HL
  have HL := T__
  clear T__
  have T__ := Lib.hid (IntsR.adv HL3.out hx)
  clear HL3
  have HL3 := T__
  clear T__
  clear hI hl hS hnb hns hx
  obtain ⟨one, hone⟩ : ∃ x, x = apOk xb m sp := ⟨_, rfl⟩
  obtain ⟨p, hp⟩ : ∃ x, x = (apOk xb m sp && apartB xb sp) := ⟨_, rfl⟩
  have HONE := Lib.hid hone
  have HP := Lib.hid hp
  have CI : Hid (∀ W, Ext w4 W → Calls Try.prog 17 #[.slice ab nb cb, .int .i64 m, .slice az ns cc] W fun e w' => e = .returned (.tuple #[.bool p, .bool one]) ∧ Ext W w') := fun W hX => by
    rw [hp, hone]; exact c_iAreApart _ _ _ xb m _ _ _ sp W (HB.out.adv hX) (Nat.le_refl _) (HS.out.adv hX) (Nat.le_refl _)
  have CS : Hid (∀ W, Ext w4 W → Calls Try.prog 18 #[.slice ab nb cb, .int .i64 m, .slice az ns cc] W fun e w' => e = .returned (.tuple #[.bool p, .bool one]) ∧ Ext W w') := fun W hX => by
    rw [hp, hone]; exact c_sAreApart _ _ _ xb m _ _ _ sp W (HB.out.adv hX) (Nat.le_refl _) (HS.out.adv hX) (Nat.le_refl _)
  clear hone hp
  go_wp2_with fail
  refine (CI.out _ (Ext.refl _)).mono ?_
  rintro e w5 ⟨rfl, hx5⟩
  go_wp2_with fail
  refine (CS.out _ hx5).mono ?_
  rintro e w6 ⟨rfl, hx6⟩
  have hx := hx5.trans hx6
  have T__ := Lib.hid (X.out.trans hx)
  clear X
  have X := T__
  clear T__
  have T__ := Lib.hid (SitesR.adv HA.out hx)
  clear HA
  have HA := T__
  clear T__
  have T__ := Lib.hid (SitesR.adv HB.out hx)
  clear HB
  have HB := T__
  clear T__
  have T__ := Lib.hid (IntsR.adv HL.out hx)
  clear HL
  have HL := T__
  clear T__
  have T__ := Lib.hid (IntsR.adv HL3.out hx)
  clear HL3
  have HL3 := T__
  clear T__
  clear hx5 hx6 hx CI CS
  go_wp2_with fail
  refine (c_DrawCountCovers _ 0 w.heap.size cs w6 (HB1.out.ext X.out (Nat.le_refl _)) X.out.size).mono ?_
  rintro e w7 ⟨vc, xc, k, q, rfl, hI, hl, k0, k1, q0, q1, hx⟩
  obtain ⟨ac, cd, rfl, _, _⟩ := hI.form
  have HC : Hid (SitesR w7 _ xc) := hI.wide (Nat.zero_le _) (Nat.le_refl _)
  obtain ⟨nc, hnc⟩ : ∃ k, k = xc.length := ⟨_, rfl⟩
  rw [← hnc] at HC ⊢
  have T__ := Lib.hid (X.out.trans hx)
  clear X
  have X := T__
  clear T__
  have T__ := Lib.hid (SitesR.adv HA.out hx)
  clear HA
  have HA := T__
  clear T__
  have T__ := Lib.hid (SitesR.adv HB.out hx)
  clear HB
  have HB := T__
  clear T__
  have T__ := Lib.hid (IntsR.adv HL.out hx)
  clear HL
  have HL := T__
  clear T__
  have T__ := Lib.hid (IntsR.adv HL3.out hx)
  clear HL3
  have HL3 := T__
  clear T__
  clear hI hl hnc hx
  obtain ⟨three, hth⟩ : ∃ x, x = ccOk xc k q := ⟨_, rfl⟩
  obtain ⟨c, hc⟩ : ∃ x, x = ccV xc k q := ⟨_, rfl⟩
  have HTH := Lib.hid hth
  have HCC := Lib.hid hc
  have CI : Hid (∀ W, Ext w7 W → Calls Try.prog 20 #[.slice ac nc cd, .int .i64 k, .int .i64 q] W fun e w' => e = .returned (.tuple #[.int .i64 c, .bool three]) ∧ Ext W w') := fun W hX => by
    rw [hc, hth]; exact c_iCount _ _ _ xc k q W (HC.out.adv hX) (Nat.le_refl _)
  have CS : Hid (∀ W, Ext w7 W → Calls Try.prog 21 #[.slice ac nc cd, .int .i64 k, .int .i64 q] W fun e w' => e = .returned (.tuple #[.int .i64 c, .bool three]) ∧ Ext W w') := fun W hX => by
    rw [hc, hth]; exact c_sCount _ _ _ xc k q W (HC.out.adv hX) (Nat.le_refl _)
  clear hth hc
  go_wp2_with fail
  refine (CI.out _ (Ext.refl _)).mono ?_
  rintro e w8 ⟨rfl, hx5⟩
  go_wp2_with fail
  refine (CS.out _ hx5).mono ?_
  rintro e w9 ⟨rfl, hx6⟩
  have hx := hx5.trans hx6
  have T__ := Lib.hid (X.out.trans hx)
  clear X
  have X := T__
  clear T__
  have T__ := Lib.hid (SitesR.adv HA.out hx)
  clear HA
  have HA := T__
  clear T__
  have T__ := Lib.hid (SitesR.adv HB.out hx)
  clear HB
  have HB := T__
  clear T__
  have T__ := Lib.hid (SitesR.adv HC.out hx)
  clear HC
  have HC := T__
  clear T__
  have T__ := Lib.hid (IntsR.adv HL.out hx)
  clear HL
  have HL := T__
  clear T__
  have T__ := Lib.hid (IntsR.adv HL3.out hx)
  clear HL3
  have HL3 := T__
  clear T__
  clear hx5 hx6 hx CI CS
  have CE := Lib.hid (c_qInts _ _ _ _ _ _ M M w9 HL.out HL3.out)
  rw [decide_eq_true rfl] at CE
  go_wp2_with fail
  refine CE.out.mono ?_
  rintro e w10 ⟨rfl, hx⟩
  have T__ := Lib.hid (X.out.trans hx)
  clear X
  have X := T__
  clear T__
  have T__ := Lib.hid (SitesR.adv HA.out hx)
  clear HA
  have HA := T__
  clear T__
  have T__ := Lib.hid (SitesR.adv HB.out hx)
  clear HB
  have HB := T__
  clear T__
  have T__ := Lib.hid (SitesR.adv HC.out hx)
  clear HC
  have HC := T__
  clear T__
  have T__ := Lib.hid (IntsR.adv HL.out hx)
  clear HL
  have HL := T__
  clear T__
  clear hx CE HL3
  go_upto_region 14 with fail
  go_cut [132] from 129 to 132 (fun v wx => v = .bool (one && p) ∧ w10 = wx)
  case first =>
    cases one
    all_goals cases p
    all_goals go_wp2
    all_goals (go_meet; exact ⟨rfl, rfl⟩)
  case rest =>
    obtain ⟨rfl, rfl⟩ := hcut
    obtain ⟨g, hg⟩ : ∃ g, g = (one && p) := ⟨_, rfl⟩
    rw [← hg]
    have HG := Lib.hid hg
    clear hg
    go_upto_if 132 with fail
    go_cut [] from 133 to 133 (fun wx => Ext w10 wx)
    case first =>
      cases g
      · go_wp2
        go_meet
        case rel => exact Ext.refl _
      · have hf : apOk xb m sp = true ∧ apartB xb sp = true := by
          have h1 := HG.out
          rw [HONE.out, HP.out] at h1
          exact and_facts h1
        obtain ⟨hf1, hf2⟩ := cert_own hf.1 hf.2
        have CI := c_iMost _ _ _ xb m w10 HB.out (Nat.le_refl _)
        obtain ⟨nO, hnO⟩ : ∃ x, x = (maV xb m).length := ⟨_, rfl⟩
        rw [hf1, ← hnO] at CI
        rw [← hnO, ← HNS.out] at hf2
        have HCI := Lib.hid CI
        clear hf hf1 hnO CI
        go_wp2_with fail
        refine HCI.out.mono ?_
        rintro e w11 ⟨r11, rfl, ho, hx⟩
        obtain ⟨a11, c11, rfl, _, _, _⟩ := own_form ho
        clear ho HCI
        go_wp2
        go_meet
        case rel => exact hx
    case rest =>
      clear HG HONE HP HB HS HNS
      obtain ⟨w12, hw12⟩ : ∃ W, W = wc := ⟨_, rfl⟩
      subst hw12
      have hx := hcut
      have T__ := Lib.hid (X.out.trans hx)
      clear X
      have X := T__
      clear T__
      have T__ := Lib.hid (SitesR.adv HA.out hx)
      clear HA
      have HA := T__
      clear T__
      have T__ := Lib.hid (SitesR.adv HC.out hx)
      clear HC
      have HC := T__
      clear T__
      have T__ := Lib.hid (IntsR.adv HL.out hx)
      clear HL
      have HL := T__
      clear T__
      clear hx hcut
      go_upto_if 148 with fail
      go_cut [] from 149 to 149 (fun wx => Ext w12 wx)
      case first =>
        cases three
        · go_wp2
          go_meet
          case rel => exact Ext.refl _
        · obtain ⟨hc0, hcn, hcy⟩ := count_facts HTH.out.symm
          rw [← HCC.out] at hc0 hcn hcy
          obtain ⟨was, hwas⟩ : ∃ x, x = lcOk xc k 1 := ⟨_, rfl⟩
          obtain ⟨V, hV⟩ : ∃ x, x = lcV xc k 1 := ⟨_, rfl⟩
          obtain ⟨nV, hnV⟩ : ∃ x, x = V.length := ⟨_, rfl⟩
          rw [← hwas] at hcn hcy
          rw [← hV, ← hnV] at hcy
          have HNV := Lib.hid hnV
          have CI : Hid (∀ W, Ext w12 W → Calls Try.prog 23 #[.slice ac nc cd, .int .i64 k, .int .i64 1] W fun e w' => ∃ r, e = .returned (.tuple #[r, .bool was]) ∧ w'.ownsRow W.heap.size 3 1 r nV (V.flatMap encI) ∧ Ext W w') := fun W hX => by
            rw [hwas, hnV, hV]; exact c_iLeast _ _ _ xc k 1 W (HC.out.adv hX) (Nat.le_refl _)
          have CS : Hid (∀ W, Ext w12 W → Calls Try.prog 24 #[.slice ac nc cd, .int .i64 k, .int .i64 1] W fun e w' => ∃ r, e = .returned (.tuple #[r, .bool was]) ∧ w'.ownsRow W.heap.size 3 1 r nV (V.flatMap encI) ∧ Ext W w') := fun W hX => by
            rw [hwas, hnV, hV]; exact c_sLeast _ _ _ xc k 1 W (HC.out.adv hX) (Nat.le_refl _)
          have HCN := Lib.hid hcn
          have HCY := Lib.hid hcy
          clear hwas hV hnV hcn hcy HTH HCC
          go_wp2_with fail
          refine (CI.out _ (Ext.refl _)).mono ?_
          rintro e w13 ⟨r13, rfl, ho, hx13⟩
          obtain ⟨a13, c13, rfl, _, _, _⟩ := own_form ho
          have HL13 : Hid (IntsR w13 (.slice a13 nV c13) V) := by rw [HNV.out] at ho ⊢; exact IntsR.of_own ho
          clear ho
          go_wp2_with fail
          refine (CS.out _ hx13).mono ?_
          rintro e w14 ⟨r14, rfl, ho, hx14⟩
          obtain ⟨a14, c14, rfl, _, _, _⟩ := own_form ho
          have HL14 : Hid (IntsR w14 (.slice a14 nV c14) V) := by rw [HNV.out] at ho ⊢; exact IntsR.of_own ho
          have T__ := Lib.hid (IntsR.adv HL13.out hx14)
          clear HL13
          have HL13 := T__
          clear T__
          have CE := Lib.hid (c_qInts _ _ _ _ _ _ V V w14 HL13.out HL14.out)
          rw [decide_eq_true rfl] at CE
          have hx := hx13.trans hx14
          clear ho hx13 hx14 CI CS HL13 HL14 HNV
          have hc0n : ¬ c < 0 := by omega
          cases was
          · have hcz : ¬ 0 < c := by have := HCN.out rfl; omega
            go_wp2_with fail
            refine CE.out.mono ?_
            rintro e w15 ⟨rfl, hx15⟩
            go_wp2
            go_meet
            case rel => exact hx.trans hx15
          · obtain ⟨hy1, hy2⟩ := HCY.out rfl
            rcases Int.lt_trichotomy q (nV : Int) with h3 | h3 | h3
            · have hcz : c = 0 := hy1 h3
              subst hcz
              have hqb : (q == (nV : Int)) = false := by simp; omega
              clear hy1 hy2
              go_wp2_with fail
              refine CE.out.mono ?_
              rintro e w15 ⟨rfl, hx15⟩
              go_wp2
              go_meet
              case rel => exact hx.trans hx15
            · have hcz : 1 ≤ c := hy2 h3
              have hc1 : 0 < c := by omega
              have hc2 : ¬ c < 1 := by omega
              have hqn : ¬ q < (nV : Int) := by omega
              have hqb : (q == (nV : Int)) = true := by simp [h3]
              clear hy1 hy2 h3
              go_wp2_with fail
              refine CE.out.mono ?_
              rintro e w15 ⟨rfl, hx15⟩
              go_wp2
              go_meet
              case rel => exact hx.trans hx15
            · have hqn : ¬ q < (nV : Int) := by omega
              have hqb : (q == (nV : Int)) = false := by simp; omega
              clear hy1 hy2 h3
              by_cases hcp : 0 < c
              ·
                go_wp2_with fail
                refine CE.out.mono ?_
                rintro e w15 ⟨rfl, hx15⟩
                go_wp2
                go_meet
                case rel => exact hx.trans hx15
              ·
                go_wp2_with fail
                refine CE.out.mono ?_
                rintro e w15 ⟨rfl, hx15⟩
                go_wp2
                go_meet
                case rel => exact hx.trans hx15
      case rest =>
        clear HTH HCC HC
        obtain ⟨w15, hw15⟩ : ∃ W, W = wc := ⟨_, rfl⟩
        subst hw15
        have hx := hcut
        have T__ := Lib.hid (X.out.trans hx)
        clear X
        have X := T__
        clear T__
        have T__ := Lib.hid (SitesR.adv HA.out hx)
        clear HA
        have HA := T__
        clear T__
        have T__ := Lib.hid (IntsR.adv HL.out hx)
        clear HL
        have HL := T__
        clear T__
        clear hx hcut
        cases ok
        · go_wp2
          go_ret
          exact ⟨rfl, X.out⟩
        · obtain ⟨hp1, hp2⟩ := cert_apart HOK.out.symm
          have CA := c_iAreApart _ _ _ xa n _ _ _ (maV xa n) w15 HA.out (Nat.le_refl _) (by rw [← HMM.out]; exact HL.out) (Nat.le_refl _)
          rw [hp1, hp2] at CA
          have HCA := Lib.hid CA
          obtain ⟨was, hwas⟩ : ∃ x, x = lcOk xa n 1 := ⟨_, rfl⟩
          obtain ⟨V, hV⟩ : ∃ x, x = lcV xa n 1 := ⟨_, rfl⟩
          obtain ⟨nV, hnV⟩ : ∃ x, x = V.length := ⟨_, rfl⟩
          have HNV := Lib.hid hnV
          have HMO : Hid (was = true → ¬ (nV : Int) < (nM : Int)) := by
            intro h9
            rw [hwas] at h9
            have h8 := cover_most HOK.out.symm h9
            rw [← HMM.out, ← HNM.out, ← hV, ← hnV] at h8
            omega
          have CI : Hid (∀ W, Ext w15 W → Calls Try.prog 23 #[.slice aa na ca, .int .i64 n, .int .i64 1] W fun e w' => ∃ r, e = .returned (.tuple #[r, .bool was]) ∧ w'.ownsRow W.heap.size 3 1 r nV (V.flatMap encI) ∧ Ext W w') := fun W hX => by
            rw [hwas, hnV, hV]; exact c_iLeast _ _ _ xa n 1 W (HA.out.adv hX) (Nat.le_refl _)
          have CS : Hid (∀ W, Ext w15 W → Calls Try.prog 24 #[.slice aa na ca, .int .i64 n, .int .i64 1] W fun e w' => ∃ r, e = .returned (.tuple #[r, .bool was]) ∧ w'.ownsRow W.heap.size 3 1 r nV (V.flatMap encI) ∧ Ext W w') := fun W hX => by
            rw [hwas, hnV, hV]; exact c_sLeast _ _ _ xa n 1 W (HA.out.adv hX) (Nat.le_refl _)
          clear hwas hV hnV hp1 hp2 CA
          go_wp2_with fail
          refine HCA.out.mono ?_
          rintro e w16 ⟨rfl, hx16⟩
          go_wp2_with fail
          refine (CI.out _ hx16).mono ?_
          rintro e w17 ⟨r17, rfl, ho, hx17⟩
          obtain ⟨a17, c17, rfl, _, _, _⟩ := own_form ho
          have HL17 : Hid (IntsR w17 (.slice a17 nV c17) V) := by rw [HNV.out] at ho ⊢; exact IntsR.of_own ho
          clear ho
          go_wp2_with fail
          refine (CS.out _ (hx16.trans hx17)).mono ?_
          rintro e w18 ⟨r18, rfl, ho, hx18⟩
          obtain ⟨a18, c18, rfl, _, _, _⟩ := own_form ho
          have HL18 : Hid (IntsR w18 (.slice a18 nV c18) V) := by rw [HNV.out] at ho ⊢; exact IntsR.of_own ho
          have T__ := Lib.hid (IntsR.adv HL17.out hx18)
          clear HL17
          have HL17 := T__
          clear T__
          have CE := Lib.hid (c_qInts _ _ _ _ _ _ V V w18 HL17.out HL18.out)
          rw [decide_eq_true rfl] at CE
          have hx := X.out.trans ((hx16.trans hx17).trans hx18)
          clear ho hx16 hx17 hx18 CI CS HL17 HL18 HNV HCA
          cases was
          · go_wp2_with fail
            refine CE.out.mono ?_
            rintro e w19 ⟨rfl, hx19⟩
            go_wp2
            go_ret
            exact ⟨rfl, hx.trans hx19⟩
          · have hmo := HMO.out rfl
            go_wp2_with fail
            refine CE.out.mono ?_
            rintro e w19 ⟨rfl, hx19⟩
            have hmo2 : (nM : Int) ≤ (nV : Int) := by omega
            go_wp2
            go_ret
            exact ⟨rfl, hx.trans hx19⟩
set_option maxRecDepth 100000 in
theorem lifted_FnCertificates (os : Os) (started : os.Started) (H : Type) (enc : TypeId × Value → H) :
    ReturnsInHanded {} Try.checked os 4 .any (Rows.fnCertificatesSpec.pre6 enc Try.prog Try.f4 Rows.fnCertificatesRow.domain false) (Rows.fnCertificatesSpec.post enc Try.prog Try.f4 false true false false) := by
  refine returnsInHanded_of_change (C := Try.checked) own_Ytiofckbdjifdpaa started (by kernel_rfl) Try.func4
    (ChangeSpec.witness6 (enc := enc) (C := Try.checked) false ⟨#[], #[.slice none 0 0, .slice none 0 0], []⟩ 8 (by kernel_rfl) (by kernel_rfl) (by kernel_rfl) (by kernel_rfl)) ?_
  intro W base args ds gs before hval0 hW hcnd _
  have hval : ∀ (j : Nat) t v, Try.f4.params[j]? = some t → args[j]? = some v → Value.okWide Try.prog W .any base t v := hval0
  have hW' := hW
  obtain ⟨p, q, hA0, hV, rfl, hfz, hnd⟩ := hW
  have hA : DataW.TrodAll enc Try.prog W 0 (fun _ => true) true Try.f4.params.toList args.toList ds p := hA0
  rw [Try.params4] at hA hval
  obtain ⟨v0, vs0, d0, ds0, p0, q0, hargs, rfl, rfl, h0, r0⟩ := trodAll_cons hA
  obtain ⟨v1, vs1, d1, ds1, p1, q1, rfl, rfl, rfl, h1, r1⟩ := trodAll_cons r0
  obtain ⟨rfl, rfl, rfl⟩ := trodAll_nil r1
  obtain rfl : args = #[v0, v1] := by cases args; simp_all
  obtain ⟨rfl, rfl⟩ := trodVars_none hV
  have k0 := h0
  have lt0 : ∀ x ∈ p0, x.block < W.heap.size := by obtain ⟨m, hm⟩ := k0; exact DataW.trod_lt m _ _ _ hm
  obtain ⟨x0, w0⟩ := arg_bytes (hval 0 32 v0 rfl rfl) h0
  have k1 := h1
  have lt1 : ∀ x ∈ p1, x.block < W.heap.size := by obtain ⟨m, hm⟩ := k1; exact DataW.trod_lt m _ _ _ hm
  obtain ⟨x1, w1⟩ := arg_bytes (hval 1 32 v1 rfl rfl) h1
  clear hA0 hval0
  refine (law_Certificates v0 x0 v1 x1 W w0 w1).mono fun e W' ⟨he, bel⟩ => ?_
  subst he
  exact ⟨_, rfl, _, _, _, [], _, [], hW', trodAll_mk1 (shut_bool Try.underlying4 _), (trodAll_cons_mk (Below.trod laidOut_Ytiofckbdjifdpaa (by kernel_rfl) (of_decide_eq_true (by kernel_rfl)) k0 bel lt0) (trodAll_cons_mk (Below.trod laidOut_Ytiofckbdjifdpaa (by kernel_rfl) (of_decide_eq_true (by kernel_rfl)) k1 bel lt1) trodAll_mk0)), rfl, bel.frame _, fun h => by cases h⟩

theorem holds_FnCertificates : Rows.FnCertificatesSaid :=
  OpenClaim.holds_of_wide 4 Try.f4 rfl rfl rfl rfl rfl rfl rfl ⟨rfl, rfl, rfl, rfl, rfl⟩ rfl rfl rfl rfl rfl (by kernel_rfl) Try.func4 (by kernel_rfl)
    (of_decide_eq_true (by kernel_rfl)) (by unfold Func.isWrapper; first | (rw [if_pos (by decide +kernel)]; kernel_rfl) | (rw [if_neg (by decide +kernel)]; exact ⟨rfl, rfl⟩))
    (fun os started H enc _ => lifted_FnCertificates os started H enc)
end Go.Proofs.Ytiofckbdjifdpaa
