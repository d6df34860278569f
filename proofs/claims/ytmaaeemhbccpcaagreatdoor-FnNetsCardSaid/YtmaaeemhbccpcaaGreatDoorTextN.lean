
/- NetText of the program: its contract. -/
import Derived.Test.YtmaaeemhbccpcaaGreatDoorTextI
namespace Go.Proofs.YtmaaeemhbccpcaaGreatDoor
open Go.RowKit
set_option linter.unusedSimpArgs false
set_option linter.unusedVariables false
theorem ba_piece (A L : List UInt8) : ((⟨A.toArray⟩ : ByteArray) ++ (⟨L.toArray⟩ : ByteArray) ++ (⟨[10].toArray⟩ : ByteArray)) = ⟨(A ++ L ++ [10]).toArray⟩ := by
  rw [ba_app, ba_app]
set_option maxRecDepth 100000 in
set_option maxHeartbeats 4000000 in
theorem c_iNetText (v : Value) (la ha : Nat) (x : NetT) (w : World) (h : Nets w la ha v x) (hh : ha ≤ w.heap.size) (ht : Tab10 w) :
    Calls Tryz.prog 6 #[v] w fun e w' => e = .returned (.tuple #[.string ⟨(if netB x then txtL x else []).toArray⟩, .bool (netB x)]) ∧ Ext w w' := by
  obtain ⟨q, hq⟩ : ∃ q, q = netB x := ⟨_, rfl⟩
  rw [← hq]
  have CG : Hid (∀ W, Ext w W → Calls Tryz.prog 13 #[v] W fun e w' => e = .returned (.bool q) ∧ Ext W w') := fun W hX => by rw [hq]; exact c_IsNet v la ha x W (h.ext hX hh) (Nat.le_trans hh hX.size)
  have HQ : Hid (q = true → NumsOk x) := fun hqt => net_nums (hq ▸ hqt : netB x = true)
  obtain ⟨a1, c1, b1, d1, rfl, ⟨m1, m2⟩, m3, m4⟩ := h.form
  obtain ⟨n, hn⟩ : ∃ n, n = x.1.length := ⟨_, rfl⟩
  obtain ⟨m, hm⟩ : ∃ n, n = x.2.length := ⟨_, rfl⟩
  rw [← hn, ← hm] at CG h ⊢
  rw [← hn] at m1
  rw [← hm] at m3
  have HN := Lib.hid hn
  have HM := Lib.hid hm
  have HR0 : Hid (∀ W, Ext w W → Row encTower 3 W la ha (.slice a1 n c1) x.1 ∧ Row encLink 3 W la ha (.slice b1 m d1) x.2) := fun W hX => (h.ext hX hh).parts
  have HT0 : Hid (∀ W, Ext w W → Tab10 W) := fun W hX => ht.ext hX
  obtain ⟨W1, hW1⟩ : ∃ W, W = w.alloc (.cells #[.slice a1 n c1, .slice b1 m d1] 27) := ⟨_, rfl⟩
  have X1 : Hid (Ext w W1) := by unfold Hid; rw [hW1]; exact (Ext.refl w).al _
  have B1 : Hid (W1.heap[w.heap.size]? = some (.cells #[.slice a1 n c1, .slice b1 m d1] 27)) := by unfold Hid; rw [hW1]; exact blk_alloc _ _
  have HW1 := Lib.hid hW1
  clear hn hm hq h hW1 ht
  go_enter Tryz.func6, Tryz.ntmps6
  go_wp2_with fail
  rw [← HW1.out]
  clear HW1
  refine (CG.out _ X1.out).mono ?_
  rintro e w2 ⟨rfl, hx2⟩
  have X2 := Lib.hid (X1.out.trans hx2)
  have B2 := Lib.hid (hx2.blk B1.out)
  clear hx2 B1 X1 CG
  cases q
  · go_wp2
    go_ret2
    exact ⟨rfl, X2.out⟩
  · have HNUM := Lib.hid (HQ.out rfl)
    have hn16 : n ≤ 16 := by rw [HN.out]; exact HNUM.out.2.2.1
    have hm40 : m ≤ 40 := by rw [HM.out]; exact HNUM.out.2.2.2
    have HR : Hid (∀ W, Ext w2 W → Row encTower 3 W la ha (.slice a1 n c1) x.1 ∧ Row encLink 3 W la ha (.slice b1 m d1) x.2) := fun W hX => HR0.out W (X2.out.trans hX)
    have HTAB : Hid (∀ W, Ext w2 W → Tab10 W) := fun W hX => HT0.out W (X2.out.trans hX)
    have k0 := blk_cell B2.out (j := 0) (v := .slice a1 n c1) rfl
    have k1 := blk_cell B2.out (j := 1) (v := .slice b1 m d1) rfl
    have k0n := (Ext.alloc w2 (.cells #[.pointer none, .slice none 0 0] 52)).cell k0
    have hBn := Lib.hid (Bld.new w2)
    clear HQ HR0 HT0
    go_wp2_with fail
    clear k0 k1 k0n
    go_loopw [15] (fun t wr => ∃ (k : Nat) (Z : List UInt8), k ≤ n ∧ t = .int .i64 k ∧ Hid (Z = [] ++ (x.1.take k).flatMap towL) ∧ Z.length ≤ 0 + 18 * k ∧ Bld w2.heap.size Z wr ∧ Ext w2 wr) (fun t _ => n - (intOf t).toNat)
    case atStart => exact ⟨0, [], by omega, rfl, by simp [Hid], by simp, hBn.out, Ext.alloc _ _⟩
    case round =>
      obtain ⟨k, Z, hk, rfl, hZ, hZl, hB, hx⟩ := hrel
      have n1 := blk_cell (hx.blk B2.out) (j := 1) (v := .slice b1 m d1) rfl
      by_cases hlt : k < n
      · obtain ⟨b3, o3, ⟨g1, g2, g3⟩, rfl, hg1, c0, c1, c2⟩ := Towers_at (HR.out _ hx).1 hlt
        simp only at c0 c1 c2
        obtain ⟨u1, u2, u3⟩ := HNUM.out.1 _ (List.mem_of_getElem? hg1.out)
        simp only at u1 u2 u3
        have hl11 := line_len u1 u2 u3
        obtain ⟨L, hL⟩ : ∃ L, L = lineL [g1, g2, g3] := ⟨_, rfl⟩
        rw [← hL] at hl11
        have hltI : (k : Int) < (n : Int) := by omega
        have hk0 : (0 : Int) ≤ (k : Int) := by omega
        have f1 : ¬ 9223372036854775807 < 6 + L.length := by omega
        have f2 : ¬ 9223372036854775807 < 6 + L.length + 1 := by omega
        have hZ2 : Hid (Z ++ ([116, 111, 119, 101, 114, 32] ++ L ++ [10]) = [] ++ (x.1.take (k + 1)).flatMap towL) := by
          unfold Hid
          rw [List.take_add_one, hg1.out, List.flatMap_append, hZ.out, hL, List.append_assoc]
          simp [towL]
        have CS0 := c_joinNL g1 g2 g3 (wr.alloc (.cells #[.int .i64 g1, .int .i64 g2, .int .i64 g3] 54)) u1 u2 u3 (HTAB.out _ (hx.trans (Ext.alloc _ _)))
        rw [← hL, size_alloc] at CS0
        have CS := Lib.hid CS0
        clear CS0
        have HB := Lib.hid hB
        clear hL hg1 hZ hB
        go_wp2_with fail
        refine CS.out.mono ?_
        rintro e w5 ⟨rfl, hx5⟩
        have hB5 := (HB.out.ext (Ext.alloc wr (.cells #[.int .i64 g1, .int .i64 g2, .int .i64 g3] 54))).ext hx5
        have HX5 := Lib.hid (hx.trans ((Ext.alloc _ _).trans hx5))
        have CW0 := c_Write w2.heap.size Z ([116, 111, 119, 101, 114, 32] ++ L ++ [10]) w5 hB5 (by simp only [List.length_append, List.length_cons, List.length_nil]; omega)
        rw [← ba_piece] at CW0
        have CW := Lib.hid CW0
        clear hx hx5 CS c0 c1 c2 n1 HB hB5 CW0
        go_wp2_with fail
        refine CW.out.mono ?_
        rintro e w6 ⟨rfl, hb6, hx6⟩
        have HX6 : Hid (Ext w2 w6) := Below.trans HX5.out hx6
        have HB6 := Lib.hid hb6
        clear hb6 hx6 CW HX5
        go_wp2
        go_roundw
        case rel => exact ⟨k + 1, Z ++ ([116, 111, 119, 101, 114, 32] ++ L ++ [10]), by omega, by go_num, hZ2, by simp only [List.length_append, List.length_cons, List.length_nil]; omega, HB6.out, HX6.out⟩
        case measure => simp [intOf]; omega
      · have hge : ¬ ((k : Int) < (n : Int)) := by omega
        have hZ9 : Hid (Z = x.1.flatMap towL) := by
          unfold Hid
          rw [hZ.out, List.take_of_length_le (by rw [← HN.out]; omega)]; rfl
        have HX9 := Lib.hid hx
        have HB9 := Lib.hid hB
        have hl9 : Z.length ≤ 18 * 16 := by omega
        clear hZ hx hZl hB
        obtain ⟨Z1, hZ1⟩ : ∃ z, z = Z := ⟨_, rfl⟩
        rw [← hZ1] at hZ9 hl9 HB9
        clear hZ1
        go_wp2
        go_loopw [34] (fun t wr => ∃ (k : Nat) (Z : List UInt8), k ≤ m ∧ t = .int .i64 k ∧ Hid (Z = x.1.flatMap towL ++ (x.2.take k).flatMap lnkL) ∧ Z.length ≤ 18 * 16 + 18 * k ∧ Bld w2.heap.size Z wr ∧ Ext w2 wr) (fun t _ => m - (intOf t).toNat)
        case atStart => exact ⟨0, Z1, by omega, rfl, by unfold Hid; rw [hZ9.out, List.take_zero, List.flatMap_nil, List.append_nil], by omega, HB9.out, HX9.out⟩
        case round =>
          obtain ⟨k, Z, hk, rfl, hZ, hZl, hB, hx⟩ := hrel
          have n1 := blk_cell (hx.blk B2.out) (j := 1) (v := .slice b1 m d1) rfl
          by_cases hlt : k < m
          · obtain ⟨b3, o3, ⟨g1, g2, g3⟩, rfl, hg1, c0, c1, c2⟩ := Links_at (HR.out _ hx).2 hlt
            simp only at c0 c1 c2
            obtain ⟨u1, u2, u3⟩ := HNUM.out.2.1 _ (List.mem_of_getElem? hg1.out)
            simp only at u1 u2 u3
            have hl11 := line_len u1 u2 u3
            obtain ⟨L, hL⟩ : ∃ L, L = lineL [g1, g2, g3] := ⟨_, rfl⟩
            rw [← hL] at hl11
            have hltI : (k : Int) < (m : Int) := by omega
            have hk0 : (0 : Int) ≤ (k : Int) := by omega
            have f1 : ¬ 9223372036854775807 < 5 + L.length := by omega
            have f2 : ¬ 9223372036854775807 < 5 + L.length + 1 := by omega
            have hZ2 : Hid (Z ++ ([108, 105, 110, 107, 32] ++ L ++ [10]) = x.1.flatMap towL ++ (x.2.take (k + 1)).flatMap lnkL) := by
              unfold Hid
              rw [List.take_add_one, hg1.out, List.flatMap_append, hZ.out, hL, List.append_assoc]
              simp [lnkL]
            have CS0 := c_joinNL g1 g2 g3 (wr.alloc (.cells #[.int .i64 g1, .int .i64 g2, .int .i64 g3] 42)) u1 u2 u3 (HTAB.out _ (hx.trans (Ext.alloc _ _)))
            rw [← hL, size_alloc] at CS0
            have CS := Lib.hid CS0
            clear CS0
            have HB := Lib.hid hB
            clear hL hg1 hZ hB
            go_wp2_with fail
            refine CS.out.mono ?_
            rintro e w5 ⟨rfl, hx5⟩
            have hB5 := (HB.out.ext (Ext.alloc wr (.cells #[.int .i64 g1, .int .i64 g2, .int .i64 g3] 42))).ext hx5
            have HX5 := Lib.hid (hx.trans ((Ext.alloc _ _).trans hx5))
            have CW0 := c_Write w2.heap.size Z ([108, 105, 110, 107, 32] ++ L ++ [10]) w5 hB5 (by simp only [List.length_append, List.length_cons, List.length_nil]; omega)
            rw [← ba_piece] at CW0
            have CW := Lib.hid CW0
            clear hx hx5 CS c0 c1 c2 n1 HB hB5 CW0
            go_wp2_with fail
            refine CW.out.mono ?_
            rintro e w6 ⟨rfl, hb6, hx6⟩
            have HX6 : Hid (Ext w2 w6) := Below.trans HX5.out hx6
            have HB6 := Lib.hid hb6
            clear hb6 hx6 CW HX5
            go_wp2
            go_roundw
            case rel => exact ⟨k + 1, Z ++ ([108, 105, 110, 107, 32] ++ L ++ [10]), by omega, by go_num, hZ2, by simp only [List.length_append, List.length_cons, List.length_nil]; omega, HB6.out, HX6.out⟩
            case measure => simp [intOf]; omega
          · have hge2 : ¬ ((k : Int) < (m : Int)) := by omega
            have HZ := Lib.hid (hZ.out)
            have CZ := Lib.hid (c_BString w2.heap.size Z wr hB)
            have HX := Lib.hid hx
            clear n1 hB hx hZ
            go_wp2_with fail
            refine CZ.out.mono ?_
            rintro e w9 ⟨rfl, hx9⟩
            have HX9 : Hid (Ext w2 w9) := Below.trans HX.out hx9
            clear CZ hx9
            go_wp2
            go_ret2
            refine ⟨?_, X2.out.trans HX9.out⟩
            rw [HZ.out, List.take_of_length_le (by rw [← HM.out]; omega)]
            rfl
end Go.Proofs.YtmaaeemhbccpcaaGreatDoor
