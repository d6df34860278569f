

/- Drawn sites: what the reference's draw gives. -/
import Derived.Test.YtiofckbdjifdpaaRowsA
import Derived.Test.YtiofckbdjifdpaaAnyE
import Derived.Deep.DeepCutAuto
import Derived.Deep.CutBlock
namespace Go.Proofs.Ytiofckbdjifdpaa
open Go.RowKit
set_option linter.unusedSimpArgs false
set_option linter.unusedVariables false
/-- What a draw of sites gives. -/
def DrawN (b k : Nat) (w : World) (e : Ending) (w' : World) : Prop := ∃ (v : Value) (xss : List (List Int)) (n : Int), e = .returned (.tuple #[v, .int .i64 n]) ∧ Intss w' w.heap.size w'.heap.size v xss ∧ xss.length ≤ 13 ∧ 0 ≤ n ∧ n ≤ 17 ∧ Cur w' b k ∧ Keep b (b + 1) w w'
set_option maxRecDepth 100000 in
set_option maxHeartbeats 4000000 in
theorem c_sites (b k : Nat) (w : World) (h : Cur w b k) (hk : k ≤ 800000) : Calls Try.prog 49 #[.pointer (some ⟨b, 0, none⟩)] w (DrawN b (k + 900) w) := by
  obtain ⟨i0, hi0, hz0, hz1, hz2⟩ := info_parts Try.info_intC
  obtain ⟨j0, hj0, hy0, hy1, hy2⟩ := info_parts Try.info_intSS
  have hbs := h.lt
  have C1 := Lib.hid (c_pick b k 8 w h (by omega) (by omega))
  clear h
  go_enter Try.func49, Try.ntmps49
  go_wp2_with fail
  refine C1.out.mono ?_
  rintro e w1 ⟨r1, rfl, p0, p1, hc, hk1⟩
  have HK := Lib.hid hk1
  have C2 := Lib.hid (c_pick b _ 6 w1 hc (by omega) (by omega))
  clear hc hk1 C1
  go_wp2_with fail
  refine C2.out.mono ?_
  rintro e w2 ⟨r2, rfl, q0, q1, hc, hk1⟩
  have HK2 := Lib.hid (HK.out.trans hk1)
  have C3 := Lib.hid (c_pick b _ 24 w2 hc (by omega) (by omega))
  clear hc hk1 C2 HK
  go_wp2_with fail
  refine C3.out.mono ?_
  rintro e w3 ⟨r, rfl, r0, r24, hc, hk1⟩
  have HK3 := Lib.hid (HK2.out.trans hk1)
  have HC3 := Lib.hid hc
  clear hc hk1 C3 HK2 r24
  go_upto_block 0 with fail
  go_cut [4, 5] (fun v4 v5 wx => ∃ n m : Int, v4 = .int .i64 n ∧ v5 = .int .i64 m ∧ 0 ≤ n ∧ n ≤ 17 ∧ 0 ≤ m ∧ m ≤ 13 ∧ Cur wx b (k + 8) ∧ Keep b (b + 1) w wx)
  case first =>
    rcases (show r = 0 ∨ r = 1 ∨ 2 ≤ r by omega) with rfl | rfl | hr5
    · go_wp2_with fail
      refine (c_amongL b _ [0, 16, 17] 0 17 _ HC3.out (by omega) (by simp) (by simp) (by intro x hx; simp at hx; omega)).mono ?_
      rintro e w4 ⟨q, rfl, q0, q1, hc, hk1⟩
      have HC4 := Lib.hid hc
      have HK4 := Lib.hid (HK3.out.trans hk1)
      clear hc hk1
      go_wp2
      go_meet
      case rel => exact ⟨q, _, rfl, rfl, by omega, by omega, by omega, by omega, HC4.out.mono (by omega), HK4.out⟩
    · go_wp2_with fail
      refine (c_amongL b _ [0, 12, 13] 0 13 _ HC3.out (by omega) (by simp) (by simp) (by intro x hx; simp at hx; omega)).mono ?_
      rintro e w4 ⟨q, rfl, q0, q1, hc, hk1⟩
      have HC4 := Lib.hid hc
      have HK4 := Lib.hid (HK3.out.trans hk1)
      clear hc hk1
      go_wp2
      go_meet
      case rel => exact ⟨_, q, rfl, rfl, by omega, by omega, by omega, by omega, HC4.out.mono (by omega), HK4.out⟩
    · have q0 : (r == 0) = false := by simp; omega
      have q1 : (r == 1) = false := by simp; omega
      go_wp2
      go_meet
      case rel => exact ⟨_, _, rfl, rfl, by omega, by omega, by omega, by omega, HC3.out.mono (by omega), HK3.out⟩
  case rest =>
    clear HC3 HK3 p0 p1 q0 q1 r0
    obtain ⟨n, m, rfl, rfl, n0, n1, m0, m1, hc, hk1⟩ := hcut
    have HK := Lib.hid hk1
    have C1 := Lib.hid (c_pick b _ 3 wc hc (by omega) (by omega))
    clear hc hk1
    go_wp2_with fail
    refine C1.out.mono ?_
    rintro e w5 ⟨ro, rfl, o0, o1, hc, hk1⟩
    have HC := Lib.hid hc
    have HK5 := Lib.hid (HK.out.trans hk1)
    clear hc hk1 C1 HK
    go_upto_block 1 with fail
    go_cut [6] (fun v wx => ∃ (vs : List Value) (xss : List (List Int)), (vs.length : Int) = m ∧ (∀ xs ∈ xss, xs.length ≤ 20) ∧ RowsB wx w.heap.size v vs xss ∧ Cur wx b (k + 10 + 36 * 13) ∧ Keep b (b + 1) w wx)
    case first =>
      go_wp2_with fail
      go_loopg [6, 8, 9] 14 (fun gg v6 v8 v9 wr => ∃ (vs : List Value) (xss : List (List Int)), (vs.length : Int) ≤ m ∧ m ≤ vs.length + gg ∧ Hid (∀ xs ∈ xss, xs.length ≤ 20) ∧ Hid (RowsB wr w.heap.size v6 vs xss) ∧ Hid (Cur wr b (k + 10 + 36 * vs.length)) ∧ Hid (Keep b (b + 1) w wr))
      case atStart => exact ⟨[], [], by simp; omega, by simp; omega, by unfold Hid; simp, RowsB.nil _ _, HC.out.mono (by simp), HK5.out⟩
      case round =>
        clear HC HK5
        obtain ⟨vs, xss, hL, hLg, HB, HR, hC, hK⟩ := hrel
        obtain ⟨wo, hwo⟩ : ∃ W, W = wr := ⟨_, rfl⟩
        subst hwo
        obtain ⟨a5, c5, rfl, _, q1, q2⟩ := own_form HR.out.1.2.1
        have hwr := hK.out.size
        by_cases hlt : (vs.length : Int) < m
        · go_wp2_with fail
          go_loopg [8, 9] 18 (fun gg2 v8 v9 wi => ∃ (L : List Int) (t : Nat), v9 = .int .i64 t ∧ (t : Int) ≤ n ∧ n ≤ t + gg2 ∧ L.length ≤ t ∧ Hid (wi.ownsRow wo.heap.size 3 1 v8 L.length (L.flatMap encI)) ∧ Hid (Cur wi b (k + 10 + 36 * vs.length + 2 * t)) ∧ Hid (Keep b (b + 1) wo wi))
          case atStart => exact ⟨[], 0, rfl, by omega, by simp; omega, by simp, World.ownsRow_nil _ _ _ _, hC.out, Keep.refl _ _ _⟩
          case round =>
            obtain ⟨L, t, rfl, ht, htg, hLt, HO, hC2, hK2⟩ := hrel
            obtain ⟨a6, c6, rfl, _, q3, q4⟩ := own_form HO.out
            by_cases htn : (t : Int) < n
            · go_wp2_with fail
              refine (c_one b _ _ _ hC2.out (by omega) (by omega)).mono ?_
              rintro e w6 ⟨z, rfl, hc, hk1⟩
              have HC6 := Lib.hid hc
              have HK6 := Lib.hid (hK2.out.trans hk1)
              have HO6 := Lib.hid (own_kc HO.out hk1 (by omega))
              clear hc hk1
              cases z
              · go_wp2
                go_roundg (n - (t + 1)).toNat
                case measure => omega
                case rel => exact ⟨L, t + 1, by go_num, by omega, by omega, by omega, HO6.out, HC6.out.mono (by omega), HK6.out⟩
              · have hs6 := HK6.out.size
                go_wp2_with (at_builtin; refine wpList_append_own _ rfl _ _ 24 rfl wo.heap.size 3 i0 (.int .i64 0) 1 8 Try.underlying24 hi0 hz0 hz1 hz2 rfl (by decide) _ _ _ rfl (HO6.out.alloc _) ⟨w6.heap.size, 0, none⟩ 1 1 [.int .i64 (t : Int)] rfl rfl (new_cells1 _ _ _) (by intro u hu; simp at hu; subst hu; rfl) (by unfold maxLen; omega) (by omega) (by simp; omega) ?_; intro v7 w7 hown7 hgrow7 _)
                go_roundg (n - (t + 1)).toNat
                case measure => omega
                case rel => exact ⟨L ++ [(t : Int)], t + 1, by go_num, by omega, by omega, by simp; omega, own_push hown7, (HC6.out.grown hgrow7 (fun q hq => by have := (HO6.out.lt q hq).1; omega)).mono (by omega), keep_grown HK6.out hgrow7 (fun q hq => (HO6.out.lt q hq).1)⟩
            · have HR2 := Lib.hid (HR.out.kc hK2.out hbs)
              have hs2 := hK2.out.size
              go_wp2_with (at_builtin; refine wpList_append_at _ rfl _ _ 22 rfl w.heap.size 24 j0 (.slice none 0 0) 1 24 Try.underlying22 hj0 hy0 hy1 hy2 rfl (by decide) _ _ _ rfl (HR2.out.1.2.1.alloc _) ⟨wr.heap.size, 0, none⟩ 1 1 [.slice a6 L.length c6] rfl rfl (new_cells1 _ _ _) (by intro u hu; simp at hu; subst hu; rfl) (by unfold maxLen; omega) (by omega) (by simp; omega) ?_; intro v8 w8 hown8 hgrow8 hblk8)
              go_roundg (m - (vs.length + 1)).toNat
              case measure => omega
              case rel =>
                refine ⟨vs ++ [.slice a6 L.length c6], xss ++ [L], by simp; omega, by simp; omega, ?_, HR2.out.push (own_mono HO.out hwr) ?_ hown8 hgrow8 hblk8, ?_, ?_⟩
                · intro xs hxs
                  rcases List.mem_append.1 hxs with h1 | h1
                  · exact HB.out xs h1
                  · simp at h1; subst h1; omega
                · intro q hq
                  have h1 := (HO.out.lt q hq).1
                  refine ⟨fun e => by have := (HR.out.1.2.1.lt q e).2; omega, fun i u' hu' e => ?_⟩
                  obtain ⟨xs2, hx2⟩ : ∃ x, xss[i]? = some x := ⟨_, List.getElem?_eq_getElem (by have := (List.getElem?_eq_some_iff.1 hu').1; rw [← HR.out.1.1]; exact this)⟩
                  have := ((HR.out.1.2.2 i u' xs2 hu' hx2).1.lt q e).2
                  omega
                · exact (hC2.out.grown hgrow8 (fun q hq => by have := (HR2.out.1.2.1.lt q hq).1; omega)).mono (by simp; omega)
                · exact keep_grown (hK.out.trans hK2.out) hgrow8 (fun q hq => (HR2.out.1.2.1.lt q hq).1)
        · go_wp2
          go_meet
          case rel => exact ⟨vs, xss, by omega, HB.out, HR.out, hC.out.mono (by omega), hK.out⟩
    case rest =>
      clear HC HK5 o0 o1
      obtain ⟨vs, xss, hvm, hb, hr, hc, hk1⟩ := hcut
      obtain ⟨a5, c5, rfl, q0, q1, q2⟩ := own_form hr.1.2.1
      have HB := Lib.hid hb
      have HR := Lib.hid hr
      have HC := Lib.hid hc
      have HK := Lib.hid hk1
      clear hb hr hc hk1
      by_cases hm : 0 < m
      · obtain ⟨g, rfl, _, hg0, hg1⟩ := HR.out.at0 (by omega)
        obtain ⟨mm, hmm⟩ : ∃ x, x = vs.length := ⟨_, rfl⟩
        have HR' : Hid (RowsB wc w.heap.size (.slice (some ⟨g, 0, none⟩) mm c5) vs xss) := by rw [hmm]; exact HR.out
        have hmI : m = (mm : Int) := by omega
        have hml : vs.length = mm := hmm.symm
        rw [← hmm]
        subst hmI
        have HML := Lib.hid hml
        clear HR hmm hvm hml
        have C1 := Lib.hid (c_one b _ 2 wc HC.out (by omega) (by omega))
        go_wp2_with fail
        refine C1.out.mono ?_
        rintro e w20 ⟨z, rfl, hc, hk1⟩
        have HC20 := Lib.hid hc
        have HK20 := Lib.hid (HK.out.trans hk1)
        have HR20 := Lib.hid (HR'.out.kc hk1 hbs)
        clear hc hk1 C1 HC HK HR'
        go_upto_if 58 with fail
        go_cut [10, 11] (fun _ _ wx => ∃ (vs : List Value) (xss : List (List Int)), vs.length = mm ∧ (∀ xs ∈ xss, xs.length ≤ 60) ∧ RowsB wx w.heap.size (.slice (some ⟨g, 0, none⟩) mm c5) vs xss ∧ Cur wx b (k + 600) ∧ Keep b (b + 1) w wx)
        case first =>
          cases z
          · go_wp2
            go_meet
            case rel => exact ⟨vs, xss, HML.out, fun xs hx => by have := HB.out xs hx; omega, HR20.out, HC20.out.mono (by omega), HK20.out⟩
          · go_wp2_with fail
            refine (c_pick b _ _ _ HC20.out (by omega) (by omega)).mono ?_
            rintro e w21 ⟨i, rfl, i0', i1, hc, hk1⟩
            have HC21 := Lib.hid hc
            have HK21 := Lib.hid (HK20.out.trans hk1)
            have HR21 := Lib.hid (HR20.out.kc hk1 hbs)
            clear hc hk1 HC20 HK20 HR20
            obtain ⟨iN, rfl⟩ := Int.eq_ofNat_of_zero_le i0'
            have hiN : iN < mm := by omega
            have hiI : (iN : Int) < (mm : Int) := by omega
            clear i1
            go_wp2_with fail
            go_loopg [11] 19 (fun gg v11 wr => ∃ (vs : List Value) (xss : List (List Int)) (t : Nat), v11 = .int .i64 t ∧ (t : Int) ≤ n + 1 ∧ n + 1 ≤ t + gg ∧ Hid (vs.length = mm) ∧ Hid (∀ xs ∈ xss, xs.length ≤ 20 + t) ∧ Hid (RowsB wr w.heap.size (.slice (some ⟨g, 0, none⟩) mm c5) vs xss) ∧ Hid (Cur wr b (k + 500 + 2 * t)) ∧ Hid (Keep b (b + 1) w wr))
            case atStart => exact ⟨vs, xss, 0, rfl, by simp; omega, by simp; omega, HML.out, HB.out, HR21.out, HC21.out.mono (by omega), HK21.out⟩
            case round =>
              clear HB HR21 HC21 HK21 HML
              obtain ⟨vs, xss, t, rfl, ht, htg, HML, HB, HR, hC, hK⟩ := hrel
              by_cases htn : (t : Int) < n
              · obtain ⟨u, hu⟩ : ∃ u, vs[iN]? = some u := ⟨_, List.getElem?_eq_getElem (by rw [HML.out]; exact hiN)⟩
                obtain ⟨xs, hxs⟩ : ∃ x, xss[iN]? = some x := ⟨_, List.getElem?_eq_getElem (by rw [← HR.out.1.1, HML.out]; exact hiN)⟩
                have HU := Lib.hid hu
                have HXS := Lib.hid hxs
                have ho := (HR.out.1.2.2 iN u xs hu hxs).1
                have hxl : xs.length ≤ 20 + t := HB.out xs (List.mem_of_getElem? hxs)
                have hR' : RowsB wr w.heap.size (.slice (some ⟨g, 0, none⟩) vs.length c5) vs xss := by rw [HML.out]; exact HR.out
                have e1 := hR'.cell hu
                have CP := Lib.hid (c_l1PutB u w.heap.size xs (t : Int) wr ho hK.out.size (by omega))
                obtain ⟨au, cu, rfl, _, u1, u2⟩ := own_form ho
                have HR' := Lib.hid hR'
                clear hu hxs ho hR'
                go_wp2_with fail
                refine CP.out.mono ?_
                rintro e w22 ⟨r', rfl, base', ho', hbb, hx⟩
                obtain ⟨ar, cr, rfl, _, _, _⟩ := own_form ho'
                have hbk : ∀ q, (Value.slice ar (insL xs (t : Int)).length cr).ownBlock = some q → (Value.slice au xs.length cu).ownBlock = some q ∨ wr.heap.size ≤ q := by
                  intro q hq
                  rcases hbb with hbb | ⟨hbb, _⟩
                  · exact Or.inr (by have := (ho'.lt q hq).1; omega)
                  · exact Or.inl (by rw [← hbb]; exact hq)
                have hb0 : w.heap.size ≤ base' := by
                  rcases hbb with hbb | ⟨_, hbb⟩
                  · have := hK.out.size; omega
                  · omega
                have HUP := Lib.hid (HR'.out.upd HU.out HXS.out ⟨hx.os, hx.tape, hx.output, hx.size, fun q hq _ => hx.block q hq⟩ (own_mono ho' hb0) hbk)
                have e2 := hx.cell e1
                have f2 : w22.frozen? ⟨g, iN, none⟩ = false := (own_ext HR'.out.1.2.1 hx).frozenAt iN
                have HC22 := Lib.hid ((hC.out.ext hx).set (g := g) iN (.slice ar (insL xs (t : Int)).length cr) (by omega))
                have HK22 := Lib.hid (keep_own (base := w.heap.size) iN (.slice ar (insL xs (t : Int)).length cr) hg0 (hK.out.trans (Keep.of_ext hx)) (Nat.le_refl _))
                have HIL : Hid ((insL xs (t : Int)).length ≤ 20 + (t + 1)) := by
                  unfold Hid insL
                  have h3 := putAt_le (t : Int) xs
                  split
                  · omega
                  · simp; omega
                clear e1 ho' hbb hbk hb0 hx CP HR HR'
                go_wp2_with fail
                refine (c_pick b _ 2 _ HC22.out (by omega) (by omega)).mono ?_
                rintro e w23 ⟨q, rfl, q0, q1, hc, hk1⟩
                have HR23 := Lib.hid (HUP.out.kc hk1 hbs)
                have HC23 := Lib.hid hc
                have HK23 := Lib.hid (HK22.out.trans hk1)
                obtain ⟨qN, rfl⟩ := Int.eq_ofNat_of_zero_le q0
                clear hc hk1 e2 f2 HC22 HK22 HUP
                go_wp2
                go_roundg (n + 1 - (t + 1 + qN)).toNat
                case measure => omega
                case rel =>
                  refine ⟨vs.set iN (.slice ar (insL xs (t : Int)).length cr), xss.set iN (insL xs (t : Int)), t + 1 + qN, by go_num, by omega, by omega, by unfold Hid; rw [List.length_set, HML.out], ?_, by have h9 := HR23.out; rw [HML.out] at h9; exact h9, HC23.out.mono (by omega), HK23.out⟩
                  intro ys hys
                  rcases List.mem_or_eq_of_mem_set hys with h1 | h1
                  · have := HB.out ys h1; omega
                  · rw [h1]; have := HIL.out; omega
              · go_wp2
                go_meet
                case rel => exact ⟨vs, xss, HML.out, fun xs hx => by have := HB.out xs hx; omega, HR.out, hC.out.mono (by omega), hK.out⟩
        case rest =>
          clear HB HML HC20 HK20 HR20
          obtain ⟨vs, xss, hml, hb, hr, hc, hk1⟩ := hcut
          have HML := Lib.hid hml
          have HB := Lib.hid hb
          have HR := Lib.hid hr
          have HK := Lib.hid hk1
          have C1 := Lib.hid (c_one b _ 24 wc hc (by omega) (by omega))
          clear hml hb hr hc hk1
          go_wp2_with fail
          refine C1.out.mono ?_
          rintro e w30 ⟨z, rfl, hc, hk1⟩
          have HC30 := Lib.hid hc
          have HK30 := Lib.hid (HK.out.trans hk1)
          have HR30 := Lib.hid (HR.out.kc hk1 hbs)
          clear hc hk1 C1 HK HR
          cases z
          · go_wp2
            go_ret2
            exact ⟨_, xss, n, rfl, HR30.out.1.read, by rw [← HR30.out.1.1, HML.out]; omega, by omega, by omega, HC30.out.mono (by omega), HK30.out⟩
          · go_wp2_with fail
            refine (c_pick b _ _ _ HC30.out (by omega) (by omega)).mono ?_
            rintro e w31 ⟨i, rfl, i0', i1, hc, hk1⟩
            have HC31 := Lib.hid hc
            have HK31 := Lib.hid (HK30.out.trans hk1)
            have HR31 := Lib.hid (HR30.out.kc hk1 hbs)
            clear hc hk1 HC30 HK30 HR30
            obtain ⟨iN, rfl⟩ := Int.eq_ofNat_of_zero_le i0'
            have hiN : iN < mm := by omega
            have hiI : (iN : Int) < (mm : Int) := by omega
            clear i1
            go_upto_region 27 with fail
            obtain ⟨u, hu⟩ : ∃ u, vs[iN]? = some u := ⟨_, List.getElem?_eq_getElem (by rw [HML.out]; exact hiN)⟩
            obtain ⟨xs, hxs⟩ : ∃ x, xss[iN]? = some x := ⟨_, List.getElem?_eq_getElem (by rw [← HR31.out.1.1, HML.out]; exact hiN)⟩
            have HU := Lib.hid hu
            have HXS := Lib.hid hxs
            have ho := (HR31.out.1.2.2 iN u xs hu hxs).1
            have hxl : xs.length ≤ 60 := HB.out xs (List.mem_of_getElem? hxs)
            obtain ⟨au, cu, rfl, _, u1, u2⟩ := own_form ho
            obtain ⟨w32, hw32⟩ : ∃ W, W = w31.drew := ⟨_, rfl⟩
            have hx32 : Ext w31 w32 := by rw [hw32]; exact Ext.drew _
            have HR32 : Hid (RowsB w32 w.heap.size (.slice (some ⟨g, 0, none⟩) vs.length c5) vs xss) := by rw [HML.out]; exact HR31.out.ext hx32
            have HC32 := Lib.hid (HC31.out.ext hx32)
            have HK32 := Lib.hid (HK31.out.trans (Keep.of_ext hx32))
            have hw2 : IntKind.i64.wrap (n - 1) = n - 1 := by rw [IntKind.wrap_i64]; omega
            clear hu hxs ho HR31 HC31 HK31 hx32
            refine wp_region_E (S := fun W => W.cell? ⟨g, iN, none⟩ = some (.slice au xs.length cu)) (by kernel_rfl) ?_
            rw [← hw32]
            clear hw32
            have hSS : (fun W : World => W.cell? ⟨g, iN, none⟩ = some (.slice au xs.length cu)) w32 := HR32.out.cell HU.out
            refine wpAnyE_take (i := 0) (v := ?_) rfl (by kernel_rfl) (by kernel_rfl) (by kernel_rfl) (fun _ _ _ h => h) (Or.inl ⟨by rfl, ?_⟩) (by assumption) ?_
            rotate_left 1
            focus (intro W hSW; (try dsimp only at hSW); go_simp; try with_reducible rfl)
            (try simp only [Act.put, List.setIfInBounds_toArray, List.set_cons_zero, List.set_cons_succ])
            refine wpAnyE_take (i := 1) (v := ?_) rfl (by kernel_rfl) (by kernel_rfl) (by kernel_rfl) (fun _ _ _ h => h) (Or.inl ⟨by rfl, ?_⟩) (by assumption) ?_
            rotate_left 1
            focus (intro W hSW; (try dsimp only at hSW); go_simp; try with_reducible rfl)
            (try simp only [Act.put, List.setIfInBounds_toArray, List.set_cons_zero, List.set_cons_succ])
            refine wpAnyE_take (i := 2) (v := ?_) rfl (by kernel_rfl) (by kernel_rfl) (by kernel_rfl) (fun _ _ _ h => h) (Or.inl ⟨by rfl, ?_⟩) (by assumption) ?_
            rotate_left 1
            focus (intro W hSW; (try dsimp only at hSW); go_simp; try with_reducible rfl)
            (try simp only [Act.put, List.setIfInBounds_toArray, List.set_cons_zero, List.set_cons_succ])
            refine wpAnyE_take (i := 3) (v := ?_) rfl (by kernel_rfl) (by kernel_rfl) (by kernel_rfl) (fun _ _ _ h => h) (Or.inl ⟨by rfl, ?_⟩) (by assumption) ?_
            rotate_left 1
            focus (intro W hSW; (try dsimp only at hSW); go_simp; try with_reducible rfl)
            (try simp only [Act.put, List.setIfInBounds_toArray, List.set_cons_zero, List.set_cons_succ])
            refine wpAnyE_take (i := 4) (v := ?_) rfl (by kernel_rfl) (by kernel_rfl) (by kernel_rfl) (fun _ _ _ h => h) (Or.inl ⟨by rfl, ?_⟩) (by assumption) ?_
            rotate_left 1
            focus (intro W hSW; (try dsimp only at hSW); go_simp; try with_reducible rfl)
            (try simp only [Act.put, List.setIfInBounds_toArray, List.set_cons_zero, List.set_cons_succ])
            refine wpAnyE_take (i := 5) (v := ?_) rfl (by kernel_rfl) (by kernel_rfl) (by kernel_rfl) (fun _ _ _ h => h) (Or.inl ⟨by rfl, ?_⟩) (by assumption) ?_
            rotate_left 1
            focus (intro W hSW; (try dsimp only at hSW); go_simp; try with_reducible rfl)
            (try simp only [Act.put, List.setIfInBounds_toArray, List.set_cons_zero, List.set_cons_succ])
            refine wpAnyE_take (i := 6) (v := ?_) rfl (by kernel_rfl) (by kernel_rfl) (by kernel_rfl) (fun _ _ _ h => h) (Or.inl ⟨by rfl, ?_⟩) (by assumption) ?_
            rotate_left 1
            focus (intro W hSW; (try dsimp only at hSW); go_simp; try with_reducible rfl)
            (try simp only [Act.put, List.setIfInBounds_toArray, List.set_cons_zero, List.set_cons_succ])
            refine wpAnyE_take (i := 7) (v := ?_) rfl (by kernel_rfl) (by kernel_rfl) (by kernel_rfl) (fun _ _ _ h => h) (Or.inl ⟨by rfl, ?_⟩) (by assumption) ?_
            rotate_left 1
            focus (intro W hSW; (try dsimp only at hSW); go_simp; try with_reducible rfl)
            (try simp only [Act.put, List.setIfInBounds_toArray, List.set_cons_zero, List.set_cons_succ])
            refine wpAnyE_take (i := 8) (v := ?_) rfl (by kernel_rfl) (by kernel_rfl) (by kernel_rfl) (fun _ _ _ h => h) (Or.inl ⟨by rfl, ?_⟩) (by assumption) ?_
            rotate_left 1
            focus (intro W hSW; (try dsimp only at hSW); go_simp; try with_reducible rfl)
            (try simp only [Act.put, List.setIfInBounds_toArray, List.set_cons_zero, List.set_cons_succ])
            refine wpAnyE_take (i := 9) (v := ?_) rfl (by kernel_rfl) (by kernel_rfl) (by kernel_rfl) (fun _ _ _ h => h) (Or.inl ⟨by rfl, ?_⟩) (by assumption) ?_
            rotate_left 1
            focus (intro W hSW; (try dsimp only at hSW); go_simp; try with_reducible rfl)
            (try simp only [Act.put, List.setIfInBounds_toArray, List.set_cons_zero, List.set_cons_succ])
            refine wpAnyE_one (i := 10) (by kernel_rfl) rfl (fun K hK => ?_)
            have HK := Lib.hid hK
            clear hK
            go_simp
            refine HK.out _ _ (fun _ => (Ext.alloc _ _).cell hSS) ?_
            clear HK hSS
            refine wpAnyE_one (i := 11) (by kernel_rfl) rfl (fun K hK => ?_)
            have HK := Lib.hid hK
            clear hK
            go_simp
            refine (c_amongL b _ [-1, n - 1, n] (-1) 17 w32 HC32.out (by omega) (by simp) (by simp) (by intro x hx; simp at hx; omega)).mono ?_
            rintro e w33 ⟨q, rfl, q0, q1, hc, hk1⟩
            have HR33 := Lib.hid (HR32.out.kc hk1 hbs)
            have HC33 := Lib.hid hc
            have HK33 := Lib.hid (HK32.out.trans hk1)
            have hSS : (fun W : World => W.cell? ⟨g, iN, none⟩ = some (.slice au xs.length cu)) w33 := HR33.out.cell HU.out
            refine HK.out _ _ (fun _ => hSS) ?_
            clear HK hc hk1 HR32 HC32 HK32
            refine wpAnyE_one (i := 12) (by kernel_rfl) rfl (fun K hK => ?_)
            have HK := Lib.hid hK
            clear hK
            go_simp
            have HR34 := Lib.hid (HR33.out.ext (Ext.alloc w33 (.cells #[.int .i64 q] 3)))
            refine HK.out _ _ (fun _ => (Ext.alloc _ _).cell hSS) ?_
            clear HK hSS
            have hs33 := HK33.out.size
            refine wpAnyE_one (i := 13) (by kernel_rfl) rfl (fun K hK => ?_)
            have HK := Lib.hid hK
            clear hK
            refine step_append_at rfl (.tmp 89) (.tmp 96) 24 rfl w.heap.size 3 i0 (.int .i64 0) 1 8 Try.underlying24 hi0 hz0 hz1 hz2 rfl (by decide) (.slice au xs.length cu) xs.length (xs.flatMap encI) (by simp [Act.eval, Act.put]) (HR34.out.1.2.2 iN _ xs HU.out HXS.out).1 ⟨w33.heap.size, 0, none⟩ 1 1 [.int .i64 q] (by simp [Act.eval, Act.put]) rfl (new_cells1 _ _ _) (by intro u hu; simp at hu; subst hu; rfl) (by unfold maxLen; omega) (by omega) (by simp; omega) ?_
            intro v6 w6 hown6 hgr6 hblk6
            have hown7 := own_push hown6
            obtain ⟨a8, c8, rfl, _, _, _⟩ := own_form hown7
            have hout := HR34.out.outer HU.out HXS.out hgr6
            have e61 : w6.cell? ⟨g, iN, none⟩ = some (.slice au xs.length cu) := by rw [hout.cellAt iN (by rw [HML.out]; omega), HU.out]
            have f61 : w6.frozen? ⟨g, iN, none⟩ = false := hout.frozenAt iN
            have HUP := Lib.hid (HR34.out.upd HU.out HXS.out hgr6 hown7 hblk6)
            have HC6 := Lib.hid ((HC33.out.grown hgr6 (fun q hq => by have := ((HR34.out.1.2.2 iN _ xs HU.out HXS.out).1.lt q hq).1; omega)).set (g := g) iN (.slice a8 (xs ++ [q]).length c8) (by omega))
            have HK6 := Lib.hid (keep_own (base := w.heap.size) iN (.slice a8 (xs ++ [q]).length c8) hg0 (keep_grown HK33.out hgr6 (fun q hq => ((HR34.out.1.2.2 iN _ xs HU.out HXS.out).1.lt q hq).1)) (Nat.le_refl _))
            rw [show (xs ++ [q]).length = xs.length + 1 by simp] at HUP HC6 HK6
            have hSS : (fun W : World => W.cell? ⟨g, iN, none⟩ = some (.slice au xs.length cu)) w6 := e61
            refine HK.out _ _ (fun _ => hSS) ?_
            clear HK hown6 hown7 hgr6 hblk6 hout
            refine wpAnyE_take (i := 14) (v := ?_) rfl (by kernel_rfl) (by kernel_rfl) (by kernel_rfl) (fun _ _ _ h => h) (Or.inl ⟨by rfl, ?_⟩) (by assumption) ?_
            rotate_left 1
            focus (intro W hSW; (try dsimp only at hSW); go_simp; try with_reducible rfl)
            (try simp only [Act.put, List.setIfInBounds_toArray, List.set_cons_zero, List.set_cons_succ])
            clear hSS
            refine wpAnyE_one (i := 15) (by kernel_rfl) rfl (fun K hK => ?_)
            have HK := Lib.hid hK
            clear hK
            go_simp
            refine HK.out _ _ (fun hn => absurd ?_ hn) (wpAnyE_done (by kernel_rfl) ?_ _)
            · intro oj hoj q hq hne
              cases hoj
              revert hne
              revert q
              decide
            clear e61 f61 HK
            go_wp2
            go_ret2
            exact ⟨_, xss.set iN (xs ++ [q]), n, rfl, by have h9 := HUP.out.1.read.mono (Nat.le_refl _); rw [HML.out] at h9; exact h9, by rw [List.length_set, ← HR33.out.1.1, HML.out]; omega, by omega, by omega, HC6.out.mono (by omega), HK6.out⟩
      · have hm0 : m = 0 := by omega
        subst hm0
        go_wp2
        go_ret2
        exact ⟨_, xss, n, rfl, HR.out.1.read, by rw [← HR.out.1.1]; omega, by omega, by omega, HC.out.mono (by omega), HK.out⟩
end Go.Proofs.Ytiofckbdjifdpaa
