

/- Drawn texts of nets: spoilt, DrawParseNet; pIn. -/
import Derived.Test.YtmaaeemhbccpcaaGreatDoorDrawP
import Derived.Test.YtmaaeemhbccpcaaGreatDoorTextS
import Derived.Test.YtmaaeemhbccpcaaGreatDoorSplS
namespace Go.Proofs.YtmaaeemhbccpcaaGreatDoor
open Go.RowKit
set_option linter.unusedSimpArgs false
set_option linter.unusedVariables false
theorem txt_len {x : NetT} (h : NumsOk x) : (txtL x).length ≤ 100000 := by
  have one : ∀ (L : List (Int × Int × Int)) (hd : List UInt8), hd.length ≤ 6 → (∀ t ∈ L, (0 ≤ t.1 ∧ t.1 ≤ 999) ∧ (0 ≤ t.2.1 ∧ t.2.1 ≤ 999) ∧ (0 ≤ t.2.2 ∧ t.2.2 ≤ 999)) → (L.flatMap fun t => hd ++ lineL [t.1, t.2.1, t.2.2] ++ [10]).length ≤ 18 * L.length := by
    intro L hd hl h
    induction L with
    | nil => simp
    | cons t r ih =>
      have i := ih fun u hu => h u (by simp [hu])
      have a := h t (by simp)
      have l := line_len a.1 a.2.1 a.2.2
      rw [List.flatMap_cons, List.length_append, List.length_cons]
      simp only [List.length_append, List.length_cons, List.length_nil]
      omega
  have h1 : (x.1.flatMap towL).length ≤ 18 * x.1.length := one x.1 [116, 111, 119, 101, 114, 32] (by decide) h.1
  have h2 : (x.2.flatMap lnkL).length ≤ 18 * x.2.length := one x.2 [108, 105, 110, 107, 32] (by decide) h.2.1
  have h3 := h.2.2.1
  have h4 := h.2.2.2
  show (x.1.flatMap towL ++ x.2.flatMap lnkL).length ≤ _
  rw [List.length_append]; omega
theorem ba_size2 (l : List UInt8) : (⟨l.toArray⟩ : ByteArray).size = l.length := by simp [ByteArray.size]
theorem ba_get {l : List UInt8} {i : Nat} {c : UInt8} (hc : l[i]? = some c) (h : i < (⟨l.toArray⟩ : ByteArray).size) : (⟨l.toArray⟩ : ByteArray)[i] = c := by
  show (l.toArray)[i] = c
  have := (List.getElem?_eq_some_iff.1 hc).2
  simpa using this
set_option maxRecDepth 100000 in
set_option maxHeartbeats 4000000 in
theorem c_spoilt (b k : Nat) (l W9 : List UInt8) (w : World) (h : Cur w b k) (hk : k ≤ 900000) (hl : l.length ≤ 1048576) (hw0 : 0 < W9.length) (hw1 : W9.length ≤ 1000) :
    Calls Tryz.prog 51 #[.pointer (some ⟨b, 0, none⟩), .string ⟨l.toArray⟩, .string ⟨W9.toArray⟩] w fun e w' => ∃ z : List UInt8, e = .returned (.string ⟨z.toArray⟩) ∧ z.length ≤ l.length + 2 ∧ Cur w' b (k + 20) ∧ Keep b (b + 1) w w' := by
  have C1 := Lib.hid (c_pick b k 2 w h (by omega) (by omega))
  obtain ⟨p, hp⟩ : ∃ p, p = W9.length := ⟨_, rfl⟩
  have hszW : (⟨W9.toArray⟩ : ByteArray).size = p := by rw [hp]; exact ba_size2 _
  have HP := Lib.hid hp
  rw [← hp] at hw0 hw1
  have hbs := h.lt
  clear hp h
  go_enter Tryz.func51, Tryz.ntmps51
  go_wp2_with fail
  refine C1.out.mono ?_
  rintro e w1 ⟨r, rfl, r0, r1, hc, hk1⟩
  have HC1 := Lib.hid hc
  have HK1 := Lib.hid hk1
  clear hc hk1 C1
  go_wp2_with fail
  go_loopw [7, 1] (fun v7 v1 wr => ∃ (n : Nat) (Z : List UInt8) (q : Nat), v7 = .int .i64 n ∧ n ≤ 2 ∧ v1 = .string ⟨Z.toArray⟩ ∧ Z.length + n ≤ l.length + 2 ∧ q + 6 * n ≤ k + 14 ∧ Cur wr b q ∧ Keep b (b + 1) w wr) (fun v7 _ _ => (intOf v7).toNat)
  case atStart => exact ⟨(1 + r).toNat, l, k + 2, by first | go_num | (congr 1; rw [IntKind.wrap_i64]; omega), by omega, rfl, by omega, by omega, HC1.out, HK1.out⟩
  case round =>
    obtain ⟨n, Z, q, rfl, hn2, rfl, hZl, hq, hc, hkp⟩ := hrel
    have HC := Lib.hid hc
    have HKp := Lib.hid hkp
    clear hc hkp HC1 HK1
    obtain ⟨m, hm⟩ : ∃ m, m = Z.length := ⟨_, rfl⟩
    have hszZ : (⟨Z.toArray⟩ : ByteArray).size = m := by rw [hm]; exact ba_size2 _
    have hml : m + n ≤ l.length + 2 := by rw [hm]; exact hZl
    have HM := Lib.hid hm
    clear hm
    by_cases hn0 : n = 0
    · subst hn0
      go_wp2
      go_ret
      exact ⟨Z, rfl, by omega, HC.out.mono (by omega), HKp.out⟩
    · have hnI : (0 : Int) < (n : Int) := by omega
      by_cases hm0 : m = 0
      · have hmI : ¬ ((0 : Int) < (m : Int)) := by omega
        go_wp2
        go_ret
        exact ⟨Z, rfl, by omega, HC.out.mono (by omega), HKp.out⟩
      · have hmI : (0 : Int) < (m : Int) := by omega
        have C2 := Lib.hid (c_pick b q m wr HC.out (by omega) (by omega))
        go_wp2_with fail
        refine C2.out.mono ?_
        rintro e w4 ⟨ri, rfl, i0, i1, hc4, hk4⟩
        obtain ⟨i, rfl⟩ : ∃ i : Nat, ri = i := ⟨ri.toNat, by omega⟩
        have hi : i < m := by omega
        have HC4 := Lib.hid hc4
        have HK4 := Lib.hid (HKp.out.trans hk4)
        have C3 := Lib.hid (c_pick b _ p w4 hc4 (by omega) (by omega))
        clear hc4 hk4 C2 HC HKp i0 i1
        go_wp2_with fail
        refine C3.out.mono ?_
        rintro e w5 ⟨rj, rfl, j0, j1, hc5, hk5⟩
        obtain ⟨j, rfl⟩ : ∃ j : Nat, rj = j := ⟨rj.toNat, by omega⟩
        have hj : j < p := by omega
        have hjI : (j : Int) < (p : Int) := by omega
        have hj0 : (0 : Int) ≤ (j : Int) := by omega
        obtain ⟨c, hcj⟩ : ∃ c, W9[j]? = some c := ⟨_, List.getElem?_eq_getElem (by rw [← HP.out]; exact hj)⟩
        have hidx := fun h => ba_get hcj h
        obtain ⟨u, hu⟩ : ∃ u, u = UInt8.ofNat ((c.toNat : Nat) : Int).toNat := ⟨_, rfl⟩
        have hcv := conv_byte (c.toNat : Int) (by omega) (by have := c.toNat_lt; omega)
        rw [← hu] at hcv
        have HC5 := Lib.hid hc5
        have HK5 := Lib.hid (HK4.out.trans hk5)
        clear hc5 hk5 C3 HC4 HK4 j0 j1 hu hcj
        go_wp2_with fail
        clear hcv hidx
        obtain ⟨w6, hw6⟩ : ∃ W, W = w5.alloc (.cells #[.int .u8 (c.toNat : Int)] 5) := ⟨_, rfl⟩
        rw [← hw6]
        have hx6 : Ext w5 w6 := by rw [hw6]; exact Ext.alloc _ _
        have C4 := Lib.hid (c_pick b _ 3 w6 (HC5.out.ext hx6) (by omega) (by omega))
        have HK6 := Lib.hid (HK5.out.trans (Keep.of_ext hx6))
        clear hw6 hx6 HC5 HK5
        refine C4.out.mono ?_
        rintro e w7 ⟨r3, rfl, k0, k1, hc7, hk7⟩
        have HC7 := Lib.hid hc7
        have HK7 := Lib.hid (HK6.out.trans hk7)
        clear hc7 hk7 C4 HK6
        obtain ⟨A, hA⟩ : ∃ A, A = Z.take i := ⟨_, rfl⟩
        obtain ⟨B, hB⟩ : ∃ A, A = Z.drop i := ⟨_, rfl⟩
        obtain ⟨D, hD⟩ : ∃ A, A = Z.drop (i + 1) := ⟨_, rfl⟩
        have xA : (⟨Z.toArray⟩ : ByteArray).extract 0 i = ⟨A.toArray⟩ := by rw [ba_ext, hA]; simp
        have xB : (⟨Z.toArray⟩ : ByteArray).extract i m = ⟨B.toArray⟩ := by rw [ba_ext, hB, List.take_of_length_le (by rw [List.length_drop, ← HM.out]; omega)]
        have xD : (⟨Z.toArray⟩ : ByteArray).extract (i + 1) m = ⟨D.toArray⟩ := by rw [ba_ext, hD, List.take_of_length_le (by rw [List.length_drop, ← HM.out]; omega)]
        have hA1 : A.length = i := by rw [hA, List.length_take, ← HM.out]; omega
        have hB1 : B.length = m - i := by rw [hB, List.length_drop, ← HM.out]
        have hD1 : D.length = m - (i + 1) := by rw [hD, List.length_drop, ← HM.out]
        have f1 : ¬ 9223372036854775807 < A.length + 1 := by omega
        have f2 : ¬ 9223372036854775807 < A.length + 1 + B.length := by omega
        have f3 : ¬ 9223372036854775807 < A.length + 1 + D.length := by omega
        have f4 : ¬ 9223372036854775807 < A.length + D.length := by omega
        have HA1 := Lib.hid hA1
        have HB1 := Lib.hid hB1
        have HC1 := Lib.hid hD1
        have hiI : (i : Int) ≤ (m : Int) := by omega
        have hi0 : (0 : Int) ≤ (i : Int) := by omega
        have hi1 : (i : Int) + 1 ≤ (m : Int) := by omega
        have hi2 : (0 : Int) ≤ (i : Int) + 1 := by omega
        have hwi : IntKind.i64.wrap ((i : Int) + 1) = (i : Int) + 1 := by rw [IntKind.wrap_i64]; omega
        have hti : ((i : Int) + 1).toNat = i + 1 := by omega
        clear hA hB hD hA1 hB1 hD1
        obtain rfl | rfl | rfl : r3 = 0 ∨ r3 = 1 ∨ r3 = 2 := by omega
        · go_upto_region 9 with fail
          refine region_ext (by kernel_rfl) (by kernel_rfl) ?_
          repeat (go_big_quiet_step (fail))
          refine wpQuiet_nil ?_
          intro wq hxq
          have HCq := Lib.hid (HC7.out.ext hxq)
          have HKq := Lib.hid (HK7.out.trans (Keep.of_ext hxq))
          clear HC7 HK7 hxq
          go_wp2
          go_roundw
          case rel => exact ⟨n - 1, A ++ [u] ++ B, q + 6, by first | go_num | (congr 1; rw [IntKind.wrap_i64]; omega), by omega, congrArg Value.string (by rw [← ba_app, ← ba_app]), by simp only [List.length_append, List.length_cons, List.length_nil]; have a1 := HA1.out; have a2 := HB1.out; have a3 := HC1.out; omega, by omega, HCq.out, HKq.out⟩
          case measure => simp [intOf]; omega
        · go_upto_region 11 with fail
          refine region_ext (by kernel_rfl) (by kernel_rfl) ?_
          repeat (go_big_quiet_step (fail))
          refine wpQuiet_nil ?_
          intro wq hxq
          have HCq := Lib.hid (HC7.out.ext hxq)
          have HKq := Lib.hid (HK7.out.trans (Keep.of_ext hxq))
          clear HC7 HK7 hxq
          go_wp2
          go_roundw
          case rel => exact ⟨n - 1, A ++ [u] ++ D, q + 6, by first | go_num | (congr 1; rw [IntKind.wrap_i64]; omega), by omega, congrArg Value.string (by rw [← ba_app, ← ba_app]), by simp only [List.length_append, List.length_cons, List.length_nil]; have a1 := HA1.out; have a2 := HB1.out; have a3 := HC1.out; omega, by omega, HCq.out, HKq.out⟩
          case measure => simp [intOf]; omega
        · go_upto_region 7 with fail
          refine region_ext (by kernel_rfl) (by kernel_rfl) ?_
          repeat (go_big_quiet_step (fail))
          refine wpQuiet_nil ?_
          intro wq hxq
          have HCq := Lib.hid (HC7.out.ext hxq)
          have HKq := Lib.hid (HK7.out.trans (Keep.of_ext hxq))
          clear HC7 HK7 hxq
          go_wp2
          go_roundw
          case rel => exact ⟨n - 1, A ++ D, q + 6, by first | go_num | (congr 1; rw [IntKind.wrap_i64]; omega), by omega, congrArg Value.string (by rw [← ba_app]), by simp only [List.length_append, List.length_cons, List.length_nil]; have a1 := HA1.out; have a2 := HB1.out; have a3 := HC1.out; omega, by omega, HCq.out, HKq.out⟩
          case measure => simp [intOf]; omega
theorem c_pIn (v : Value) (la ha : Nat) (xs : List Int) (n : Int) (w : World) (h : Ints w la ha v xs) :
    Calls Tryz.prog 19 #[v, .int .i64 n] w fun e w' => e = .returned (.bool (decide (n ∈ xs))) ∧ Ext w w' := by
  obtain ⟨a, ca, rfl, m1, m2, _⟩ := id h
  have H1 := Lib.hid h
  obtain ⟨r, hr⟩ : ∃ r, r = decide (n ∈ xs) := ⟨_, rfl⟩
  rw [← hr]
  obtain ⟨m, hm⟩ : ∃ n, n = xs.length := ⟨_, rfl⟩
  rw [← hm] at m1 H1 ⊢
  have HM := Lib.hid hm
  have HR := Lib.hid hr
  clear h hm hr
  go_enter Tryz.func19, Tryz.ntmps19
  go_wp2_with fail
  go_loopw [9] (fun t wr => ∃ k : Nat, k ≤ m ∧ t = .int .i64 k ∧ Ext w wr ∧ Hid (n ∉ xs.take k)) (fun t _ => m - (intOf t).toNat)
  case atStart => exact ⟨0, by omega, rfl, Ext.refl _, by simp [Hid]⟩
  case round =>
    obtain ⟨k, hk, rfl, hx, hT⟩ := hrel
    by_cases hlt : k < m
    · obtain ⟨b1, o1, g1, rfl, hg1, c0⟩ := Ints_at H1.out hlt
      have c1 := hx.cell c0
      have hltI : (k : Int) < (m : Int) := by omega
      have hk0 : (0 : Int) ≤ (k : Int) := by omega
      clear c0
      by_cases he : g1 = n
      · have hne : (g1 == n) = true := by simp [he]
        have HF : Hid (r = true) := by
          unfold Hid
          rw [HR.out]
          simp only [decide_eq_true_eq]
          rw [← he]
          exact List.mem_of_getElem? hg1.out
        clear he
        go_wp2
        go_ret
        exact ⟨by rw [HF.out]; rfl, hx⟩
      · have hne : (g1 == n) = false := by simp [he]
        have HT2 : Hid (n ∉ xs.take (k + 1)) := by
          unfold Hid
          rw [List.take_add_one, hg1.out]
          intro hm2
          rcases List.mem_append.1 hm2 with h | h
          · exact hT.out h
          · simp at h; exact he h.symm
        clear he
        go_wp2
        go_roundw
        case rel => exact ⟨k + 1, by omega, by go_num, hx, HT2⟩
        case measure => simp [intOf]; omega
    · have hge : ¬ ((k : Int) < (m : Int)) := by omega
      have HF : Hid (r = false) := by
        unfold Hid
        have e := hT.out
        rw [List.take_of_length_le (by rw [← HM.out]; omega)] at e
        rw [HR.out]; simpa using e
      go_wp2
      go_ret
      exact ⟨by rw [HF.out]; rfl, hx⟩
set_option maxRecDepth 100000 in
set_option maxHeartbeats 1000000 in
theorem c_DrawParseNet (v : Value) (la ha : Nat) (bs : List Int) (w : World) (h : Bytes w la ha v bs) (hh : ha ≤ w.heap.size) :
    Calls Tryz.prog 23 #[v] w fun e w' => ∃ z : List UInt8, e = .returned (.string ⟨z.toArray⟩) ∧ z.length ≤ 1048576 ∧ Ext w w' := by
  obtain ⟨a, cap, rfl, _⟩ := h.1.formY
  have HY := Lib.hid h
  clear h
  go_enter Tryz.func23, Tryz.ntmps23
  go_wp2_with fail
  obtain ⟨w1, hw1⟩ : ∃ W, W = w.alloc (.cells #[.slice a bs.length cap, .int .i64 0, .int .u64 0] 79) := ⟨_, rfl⟩
  rw [← hw1]
  have hC : Cur w1 w.heap.size 0 := by rw [hw1]; exact cur_new w _ la ha bs HY.out.1 hh HY.out.2
  have X1 : Ext w w1 := by rw [hw1]; exact Ext.alloc _ _
  have s1 : w.heap.size < w1.heap.size := by rw [hw1, size_alloc]; omega
  clear hw1
  have C1 := Lib.hid (c_netS w.heap.size 0 w1 hC (by omega))
  clear hC
  refine C1.out.mono ?_
  rintro e w2 ⟨ta, tc, T, la2, lc, L, rfl, ho, h1, h2, h3, hc2, hk2, hT, hL⟩
  have X2 := Lib.hid (X1.keep hk2 (Nat.le_refl _))
  have hn : NumsOk (T, L) := ⟨hT, hL, h2, h3⟩
  have CT := Lib.hid (c_neText _ _ _ (T, L) w2 ho.read (Nat.le_refl _) hn)
  have htl := txt_len hn
  obtain ⟨A, hA⟩ : ∃ A, A = txtL (T, L) := ⟨_, rfl⟩
  rw [← hA] at CT htl
  have HC2 := Lib.hid hc2
  clear hA ho hc2 hk2 C1 hT hL hn h1 h2 h3
  go_wp2_with fail
  refine CT.out.mono ?_
  rintro e w3 ⟨rfl, hx3⟩
  have HC3 := Lib.hid (HC2.out.ext hx3)
  have X3 := Lib.hid (X2.out.trans hx3)
  have C3 := Lib.hid (c_one w.heap.size _ 3 w3 HC3.out (by omega) (by omega))
  clear CT HC2 X2 hx3
  go_wp2_with fail
  refine C3.out.mono ?_
  rintro e w4 ⟨t, rfl, hc4, hk4⟩
  have HC4 := Lib.hid hc4
  have X4 := Lib.hid (X3.out.keep hk4 (Nat.le_refl _))
  clear hc4 hk4 C3 HC3 X3
  cases t
  · go_wp2
    go_ret
    exact ⟨A, rfl, by omega, X4.out⟩
  · have C5 := Lib.hid (c_spoilt w.heap.size _ A [48, 49, 57, 32, 108, 105, 110, 107, 10] w4 HC4.out (by omega) (by omega) (by simp) (by simp))
    go_wp2_with fail
    refine C5.out.mono ?_
    rintro e w5 ⟨z, rfl, hz, hc5, hk5⟩
    have X5 := Lib.hid (X4.out.keep hk5 (Nat.le_refl _))
    clear hc5 hk5 C5
    go_wp2
    go_ret
    exact ⟨z, rfl, by omega, X5.out⟩
end Go.Proofs.YtmaaeemhbccpcaaGreatDoor
