
/- The reference's text of a net: l1Num, sgLine, neText, NetText. -/
import Derived.Test.YtmaaeemhbccpcaaGreatDoorTextP
import Derived.Test.YtmaaeemhbccpcaaGreatDoorAnyE
import Derived.Test.YtmaaeemhbccpcaaGreatDoorNeGood
import Derived.Laws.IdiomStrings
namespace Go.Proofs.YtmaaeemhbccpcaaGreatDoor
open Go.RowKit
set_option linter.unusedSimpArgs false
set_option linter.unusedVariables false
section
variable {P : Program} {ops : Array Oper} {Q : Exit → Act → World → Prop} {md : Region.Mode} {S : World → Prop}
/-- Two may come up. -/
theorem wpAnyE_duo {i j : Nat} {oi oj : Oper} {k : Nat} {listed : Array Bool} {a : Act} {w : World} (hr : Region.ready md ops listed = [i, j]) (hoi : ops[i]? = some oi) (hoj : ops[j]? = some oj)
    (hi : ∀ K : Act → World → Prop, (∀ a w, (¬ waitsAll md ops i → S w) → wpAnyE P md ops Q S k (listed.setIfInBounds i true) a w → K a w) → if Region.wanted oi (yielded ops a.tmps) = true then Oper.wp P oi a w K Q else K (a.put oi.dst undef) w)
    (hj : ∀ K : Act → World → Prop, (∀ a w, (¬ waitsAll md ops j → S w) → wpAnyE P md ops Q S k (listed.setIfInBounds j true) a w → K a w) → if Region.wanted oj (yielded ops a.tmps) = true then Oper.wp P oj a w K Q else K (a.put oj.dst undef) w) :
    wpAnyE P md ops Q S (k + 1) listed a w := by
  refine ⟨fun h0 => (by rw [h0] at hr; cases hr), fun q hq => ?_⟩
  rw [hr] at hq
  rcases List.mem_cons.1 hq with rfl | hq
  · exact wpOp_step hoi (fun K hK => hi K (fun a w h1 h2 => hK a w ⟨h1, h2⟩))
  · rcases List.mem_singleton.1 hq with rfl
    exact wpOp_step hoj (fun K hK => hj K (fun a w h1 h2 => hK a w ⟨h1, h2⟩))
end
theorem ba_app (a b : List UInt8) : ((⟨a.toArray⟩ : ByteArray) ++ (⟨b.toArray⟩ : ByteArray)) = ⟨(a ++ b).toArray⟩ := by
  apply ByteArray.ext
  simp [ByteArray.data_append]
theorem conv_byteW (x : Int) (h0 : 0 ≤ x) (h1 : x ≤ 255) (p : Nat) (W : World) (hc : W.cell? ⟨p, 0, none⟩ = some (.int .u8 x)) :
    Sem.run Tryz.prog (convert 22 9 (.slice (some ⟨p, 0, none⟩) 1 1)) W = .ok (.string ⟨[UInt8.ofNat x.toNat].toArray⟩) W := by
  have hx : ((UInt8.ofNat x.toNat).toNat : Int) = x := by
    rw [UInt8.toNat_ofNat']
    omega
  refine run_convert_bytes_back (P := Tryz.prog) W 22 9 5 ⟨p, 0, none⟩ 1 [UInt8.ofNat x.toNat] Tryz.underlying22 Tryz.underlying5 Tryz.underlying9 ?_
  intro j hj
  have : j = 0 := by simpa using hj
  subst this
  rw [show ([UInt8.ofNat x.toNat])[0].toNat = (UInt8.ofNat x.toNat).toNat from rfl, hx]
  exact hc
theorem conv_byte (x : Int) (h0 : 0 ≤ x) (h1 : x ≤ 255) (W : World) :
    Sem.run Tryz.prog (convert 22 9 (.slice (some ⟨W.heap.size, 0, none⟩) 1 1)) (W.alloc (.cells #[.int .u8 x] 5)) = .ok (.string ⟨[UInt8.ofNat x.toNat].toArray⟩) (W.alloc (.cells #[.int .u8 x] 5)) :=
  conv_byteW x h0 h1 W.heap.size _ (blk_cell (blk_alloc _ _) (j := 0) rfl)
set_option maxRecDepth 100000 in
theorem c_l1Num0 (n : Int) (w : World) (h0 : 0 ≤ n) (h1 : n < 10) : Calls Tryz.prog 78 #[.int .i64 n] w fun e w' => e = .returned (.string ⟨(numL n).toArray⟩) ∧ Ext w w' := by
  rw [numL_small h0 h1]
  have hcv := conv_byte (48 + n) (by omega) (by omega)
  go_enter Tryz.func78, Tryz.ntmps78
  go_wp2
  go_ret
  exact ⟨by rw [show (48 + n).toNat = 48 + n.toNat by omega]; rfl, (Ext.refl w).al _⟩
set_option maxRecDepth 100000 in
theorem c_l1Num1 (n : Int) (w : World) (h0 : 10 ≤ n) (h1 : n ≤ 999) (hc : ∀ W, Ext w W → Calls Tryz.prog 78 #[.int .i64 (n / 10)] W fun e w' => e = .returned (.string ⟨(numL (n / 10)).toArray⟩) ∧ Ext W w') :
    Calls Tryz.prog 78 #[.int .i64 n] w fun e w' => e = .returned (.string ⟨(numL n).toArray⟩) ∧ Ext w w' := by
  rw [numL_big h0]
  have hlt : ¬ n < 10 := by omega
  have hd1 : n.tdiv 10 = n / 10 := Int.tdiv_eq_ediv_of_nonneg (by omega)
  have hm1 : n.tmod 10 = n % 10 := Int.tmod_eq_emod_of_nonneg (by omega)
  obtain ⟨q, hq⟩ : ∃ q, q = n / 10 := ⟨_, rfl⟩
  obtain ⟨r, hr⟩ : ∃ r, r = n % 10 := ⟨_, rfl⟩
  have hq0 : 0 ≤ q := by omega
  have hr0 : 0 ≤ r := by omega
  have hr1 : r ≤ 9 := by omega
  have hw1 : IntKind.i64.wrap q = q := by rw [IntKind.wrap_i64]; omega
  have hlq : (numL (n / 10)).length ≤ 3 := numL_len (by omega) (by omega)
  rw [← hq] at hc hd1 hlq ⊢
  have hlq2 : ¬ 9223372036854775807 < (numL q).length + 1 := by omega
  rw [← hr] at hm1 ⊢
  have HC := Lib.hid hc
  clear hc hq hr
  go_enter Tryz.func78, Tryz.ntmps78
  go_upto_region 3 with fail
  obtain ⟨w20, hwd⟩ : ∃ W, W = w.drew := ⟨_, rfl⟩
  have X20 : Hid (Ext w w20) := by unfold Hid; rw [hwd]; exact Ext.drew _
  refine wp_region_E (S := fun _ => True) (by kernel_rfl) ?_
  rw [← hwd]
  clear hwd
  refine wpAnyE_take (i := 0) (v := ?_) rfl (by kernel_rfl) (by kernel_rfl) (by kernel_rfl) (fun _ _ _ h => h) (Or.inl ⟨by rfl, ?_⟩) (by trivial) ?_
  rotate_left 1
  focus (intro W hSW; (try dsimp only at hSW); go_simp; try with_reducible rfl)
  (try simp only [Act.put, List.setIfInBounds_toArray, List.set_cons_zero, List.set_cons_succ, List.getElem_toArray, List.getElem_cons_zero, List.getElem_cons_succ])
  refine wpAnyE_take (i := 3) (v := ?_) rfl (by kernel_rfl) (by kernel_rfl) (by kernel_rfl) (fun _ _ _ h => h) (Or.inl ⟨by rfl, ?_⟩) (by trivial) ?_
  rotate_left 1
  focus (intro W hSW; (try dsimp only at hSW); go_simp; try with_reducible rfl)
  (try simp only [Act.put, List.setIfInBounds_toArray, List.set_cons_zero, List.set_cons_succ, List.getElem_toArray, List.getElem_cons_zero, List.getElem_cons_succ])
  refine wpAnyE_take (i := 1) (v := ?_) rfl (by kernel_rfl) (by kernel_rfl) (by kernel_rfl) (fun _ _ _ h => h) (Or.inl ⟨by rfl, ?_⟩) (by trivial) ?_
  rotate_left 1
  focus (intro W hSW; (try dsimp only at hSW); go_simp; try with_reducible rfl)
  (try simp only [Act.put, List.setIfInBounds_toArray, List.set_cons_zero, List.set_cons_succ, List.getElem_toArray, List.getElem_cons_zero, List.getElem_cons_succ])
  refine wpAnyE_take (i := 4) (v := ?_) rfl (by kernel_rfl) (by kernel_rfl) (by kernel_rfl) (fun _ _ _ h => h) (Or.inl ⟨by rfl, ?_⟩) (by trivial) ?_
  rotate_left 1
  focus (intro W hSW; (try dsimp only at hSW); go_simp; try with_reducible rfl)
  (try simp only [Act.put, List.setIfInBounds_toArray, List.set_cons_zero, List.set_cons_succ, List.getElem_toArray, List.getElem_cons_zero, List.getElem_cons_succ])
  refine wpAnyE_take (i := 5) (v := ?_) rfl (by kernel_rfl) (by kernel_rfl) (by kernel_rfl) (fun _ _ _ h => h) (Or.inl ⟨by rfl, ?_⟩) (by trivial) ?_
  rotate_left 1
  focus (intro W hSW; (try dsimp only at hSW); go_simp; try with_reducible rfl)
  (try simp only [Act.put, List.setIfInBounds_toArray, List.set_cons_zero, List.set_cons_succ, List.getElem_toArray, List.getElem_cons_zero, List.getElem_cons_succ])
  refine wpAnyE_take (i := 6) (v := ?_) rfl (by kernel_rfl) (by kernel_rfl) (by kernel_rfl) (fun _ _ _ h => h) (Or.inl ⟨by rfl, ?_⟩) (by trivial) ?_
  rotate_left 1
  focus (intro W hSW; (try dsimp only at hSW); go_simp; try with_reducible rfl)
  (try simp only [Act.put, List.setIfInBounds_toArray, List.set_cons_zero, List.set_cons_succ, List.getElem_toArray, List.getElem_cons_zero, List.getElem_cons_succ])
  obtain ⟨y, hy⟩ : ∃ y, y = IntKind.u8.wrap (IntKind.i64.wrap (48 + r)) := ⟨_, rfl⟩
  rw [← hy]
  have hy1 : y = 48 + r := by
    rw [hy, IntKind.wrap_u8, IntKind.wrap_i64]; omega
  have hy2 : 0 ≤ y := by omega
  have hy3 : y ≤ 255 := by omega
  have HY := Lib.hid hy1
  clear hy hy1
  refine wpAnyE_duo (i := 2) (j := 7) (by kernel_rfl) rfl rfl (fun K hK => ?_) (fun K hK => ?_)
  ·
    have HK := Lib.hid hK
    clear hK
    go_simp
    refine (HC.out w20 X20.out).mono ?_
    rintro e w21 ⟨rfl, hx9⟩
    have X21 := Lib.hid (X20.out.trans hx9)
    try (have g9 := Lib.hid (hx9.cell HB.out); clear HB; have HB := g9; clear g9)
    clear hx9
    refine HK.out _ _ (fun _ => trivial) ?_
    clear HK
    refine wpAnyE_one (i := 7) (by kernel_rfl) rfl (fun K hK => ?_)
    have HK := Lib.hid hK
    clear hK
    go_simp
    obtain ⟨w22, hw9⟩ : ∃ W, W = (w21).alloc (.cells #[.int .u8 y] 5) := ⟨_, rfl⟩
    rw [← hw9]
    obtain ⟨p, hp9⟩ : ∃ p, p = (w21).heap.size := ⟨_, rfl⟩
    rw [← hp9]
    have HB : Hid ((w22).cell? ⟨p, 0, none⟩ = some (.int .u8 y)) := by unfold Hid; rw [hw9, hp9]; exact blk_cell (blk_alloc _ _) (j := 0) rfl
    have hx9 : Ext w21 w22 := by rw [hw9]; exact Ext.alloc _ _
    have X22 := Lib.hid (X21.out.trans hx9)
    clear hw9 hp9 hx9
    refine HK.out _ _ (fun _ => trivial) ?_
    clear HK
    refine wpAnyE_one (i := 8) (by kernel_rfl) rfl (fun K hK => ?_)
    have hcv := conv_byteW y hy2 hy3 p w22 HB.out
    have HK := Lib.hid hK
    clear hK
    go_simp
    clear hcv
    refine HK.out _ _ (fun _ => trivial) ?_
    clear HK
    refine wpAnyE_one (i := 9) (by kernel_rfl) rfl (fun K hK => ?_)
    have HK := Lib.hid hK
    clear hK
    go_simp
    refine HK.out _ _ (fun _ => trivial) ?_
    clear HK
    refine wpAnyE_one (i := 10) (by kernel_rfl) rfl (fun K hK => ?_)
    have HK := Lib.hid hK
    clear hK
    go_simp
    refine HK.out _ _ (fun _ => trivial) (wpAnyE_done (by kernel_rfl) ?_ _)
    clear HK
    go_wp2
    go_ret
    refine ⟨?_, X22.out⟩
    rw [show (#[UInt8.ofNat y.toNat] : Array UInt8) = [UInt8.ofNat y.toNat].toArray from rfl, ba_app, HY.out, show (48 + r).toNat = 48 + r.toNat by omega]
    show Ending.returned (Value.string ⟨(numL q ++ [UInt8.ofNat (48 + r.toNat)]).toArray⟩) = _
    rw [UInt8.ofNat_add]
    rfl
  ·
    have HK := Lib.hid hK
    clear hK
    go_simp
    obtain ⟨w21, hw9⟩ : ∃ W, W = (w20).alloc (.cells #[.int .u8 y] 5) := ⟨_, rfl⟩
    rw [← hw9]
    obtain ⟨p, hp9⟩ : ∃ p, p = (w20).heap.size := ⟨_, rfl⟩
    rw [← hp9]
    have HB : Hid ((w21).cell? ⟨p, 0, none⟩ = some (.int .u8 y)) := by unfold Hid; rw [hw9, hp9]; exact blk_cell (blk_alloc _ _) (j := 0) rfl
    have hx9 : Ext w20 w21 := by rw [hw9]; exact Ext.alloc _ _
    have X21 := Lib.hid (X20.out.trans hx9)
    clear hw9 hp9 hx9
    refine HK.out _ _ (fun _ => trivial) ?_
    clear HK
    refine wpAnyE_duo (i := 2) (j := 8) (by kernel_rfl) rfl rfl (fun K hK => ?_) (fun K hK => ?_)
    ·
      have HK := Lib.hid hK
      clear hK
      go_simp
      refine (HC.out w21 X21.out).mono ?_
      rintro e w22 ⟨rfl, hx9⟩
      have X22 := Lib.hid (X21.out.trans hx9)
      try (have g9 := Lib.hid (hx9.cell HB.out); clear HB; have HB := g9; clear g9)
      clear hx9
      refine HK.out _ _ (fun _ => trivial) ?_
      clear HK
      refine wpAnyE_one (i := 8) (by kernel_rfl) rfl (fun K hK => ?_)
      have hcv := conv_byteW y hy2 hy3 p w22 HB.out
      have HK := Lib.hid hK
      clear hK
      go_simp
      clear hcv
      refine HK.out _ _ (fun _ => trivial) ?_
      clear HK
      refine wpAnyE_one (i := 9) (by kernel_rfl) rfl (fun K hK => ?_)
      have HK := Lib.hid hK
      clear hK
      go_simp
      refine HK.out _ _ (fun _ => trivial) ?_
      clear HK
      refine wpAnyE_one (i := 10) (by kernel_rfl) rfl (fun K hK => ?_)
      have HK := Lib.hid hK
      clear hK
      go_simp
      refine HK.out _ _ (fun _ => trivial) (wpAnyE_done (by kernel_rfl) ?_ _)
      clear HK
      go_wp2
      go_ret
      refine ⟨?_, X22.out⟩
      rw [show (#[UInt8.ofNat y.toNat] : Array UInt8) = [UInt8.ofNat y.toNat].toArray from rfl, ba_app, HY.out, show (48 + r).toNat = 48 + r.toNat by omega]
      show Ending.returned (Value.string ⟨(numL q ++ [UInt8.ofNat (48 + r.toNat)]).toArray⟩) = _
      rw [UInt8.ofNat_add]
      rfl
    ·
      have hcv := conv_byteW y hy2 hy3 p w21 HB.out
      have HK := Lib.hid hK
      clear hK
      go_simp
      clear hcv
      refine HK.out _ _ (fun _ => trivial) ?_
      clear HK
      refine wpAnyE_one (i := 2) (by kernel_rfl) rfl (fun K hK => ?_)
      have HK := Lib.hid hK
      clear hK
      go_simp
      refine (HC.out w21 X21.out).mono ?_
      rintro e w22 ⟨rfl, hx9⟩
      have X22 := Lib.hid (X21.out.trans hx9)
      try (have g9 := Lib.hid (hx9.cell HB.out); clear HB; have HB := g9; clear g9)
      clear hx9
      refine HK.out _ _ (fun _ => trivial) ?_
      clear HK
      refine wpAnyE_one (i := 9) (by kernel_rfl) rfl (fun K hK => ?_)
      have HK := Lib.hid hK
      clear hK
      go_simp
      refine HK.out _ _ (fun _ => trivial) ?_
      clear HK
      refine wpAnyE_one (i := 10) (by kernel_rfl) rfl (fun K hK => ?_)
      have HK := Lib.hid hK
      clear hK
      go_simp
      refine HK.out _ _ (fun _ => trivial) (wpAnyE_done (by kernel_rfl) ?_ _)
      clear HK
      go_wp2
      go_ret
      refine ⟨?_, X22.out⟩
      rw [show (#[UInt8.ofNat y.toNat] : Array UInt8) = [UInt8.ofNat y.toNat].toArray from rfl, ba_app, HY.out, show (48 + r).toNat = 48 + r.toNat by omega]
      show Ending.returned (Value.string ⟨(numL q ++ [UInt8.ofNat (48 + r.toNat)]).toArray⟩) = _
      rw [UInt8.ofNat_add]
      rfl
theorem c_l1Num (n : Int) (w : World) (h0 : 0 ≤ n) (h1 : n ≤ 999) : Calls Tryz.prog 78 #[.int .i64 n] w fun e w' => e = .returned (.string ⟨(numL n).toArray⟩) ∧ Ext w w' := by
  by_cases a : n < 10
  · exact c_l1Num0 n w h0 a
  · refine c_l1Num1 n w (by omega) h1 fun W _ => ?_
    by_cases b : n / 10 < 10
    · exact c_l1Num0 _ W (by omega) b
    · exact c_l1Num1 _ W (by omega) (by omega) fun W' _ => c_l1Num0 _ W' (by omega) (by omega)
set_option maxRecDepth 100000 in
theorem c_sgLine (v : Value) (la ha : Nat) (a b c : Int) (w : World) (h : Ints w la ha v [a, b, c]) (hh : ha ≤ w.heap.size) (ha0 : 0 ≤ a ∧ a ≤ 999) (hb0 : 0 ≤ b ∧ b ≤ 999) (hc0 : 0 ≤ c ∧ c ≤ 999) :
    Calls Tryz.prog 61 #[v] w fun e w' => e = .returned (.string ⟨(lineL [a, b, c]).toArray⟩) ∧ Ext w w' := by
  obtain ⟨ad, cap, rfl, m1, m2, _⟩ := id h
  obtain ⟨b1, o1, g1, rfl, hg1, c0⟩ := Ints_at h (show 0 < 3 by omega)
  obtain ⟨b2, o2, g2, e2, hg2, c1⟩ := Ints_at h (show 1 < 3 by omega)
  obtain ⟨b3, o3, g3, e3, hg3, c2⟩ := Ints_at h (show 2 < 3 by omega)
  obtain ⟨rfl, rfl⟩ : b1 = b2 ∧ o1 = o2 := by simpa using e2
  obtain ⟨rfl, rfl⟩ : b1 = b3 ∧ o1 = o3 := by simpa using e3
  obtain rfl : a = g1 := by simpa using hg1.out
  obtain rfl : b = g2 := by simpa using hg2.out
  obtain rfl : c = g3 := by simpa using hg3.out
  rw [Nat.add_zero] at c0
  have la1 := numL_len ha0.1 ha0.2
  have lb1 := numL_len hb0.1 hb0.2
  have lc1 := numL_len hc0.1 hc0.2
  rw [line3]
  obtain ⟨A, hA⟩ : ∃ A, A = numL a := ⟨_, rfl⟩
  obtain ⟨B, hB⟩ : ∃ A, A = numL b := ⟨_, rfl⟩
  obtain ⟨C, hC⟩ : ∃ A, A = numL c := ⟨_, rfl⟩
  have CA : Hid (∀ W, Calls Tryz.prog 78 #[.int .i64 a] W fun e w' => e = .returned (.string ⟨A.toArray⟩) ∧ Ext W w') := fun W => by rw [hA]; exact c_l1Num a W ha0.1 ha0.2
  have CB : Hid (∀ W, Calls Tryz.prog 78 #[.int .i64 b] W fun e w' => e = .returned (.string ⟨B.toArray⟩) ∧ Ext W w') := fun W => by rw [hB]; exact c_l1Num b W hb0.1 hb0.2
  have CC : Hid (∀ W, Calls Tryz.prog 78 #[.int .i64 c] W fun e w' => e = .returned (.string ⟨C.toArray⟩) ∧ Ext W w') := fun W => by rw [hC]; exact c_l1Num c W hc0.1 hc0.2
  rw [← hA] at la1 ⊢
  rw [← hB] at lb1 ⊢
  rw [← hC] at lc1 ⊢
  clear hA hB hC h hg1 hg2 hg3 e2 e3
  simp only [List.length_cons, List.length_nil] at m1 ⊢
  go_enter Tryz.func61, Tryz.ntmps61
  go_wp2_with fail
  go_loopw [8, 3] (fun t s wr => Ext w wr ∧ ((t = .int .i64 0 ∧ s = .string ⟨#[]⟩) ∨ (t = .int .i64 1 ∧ s = .string ⟨A.toArray⟩) ∨ (t = .int .i64 2 ∧ s = .string ⟨(A ++ [32] ++ B).toArray⟩) ∨ (t = .int .i64 3 ∧ s = .string ⟨(A ++ [32] ++ B ++ [32] ++ C).toArray⟩))) (fun t _ _ => 3 - (intOf t).toNat)
  case atStart => exact ⟨Ext.refl _, Or.inl ⟨rfl, rfl⟩⟩
  case round =>
    obtain ⟨hx, hk⟩ := hrel
    have k0 := hx.cell c0
    have k1 := hx.cell c1
    have k2 := hx.cell c2
    rcases hk with ⟨rfl, rfl⟩ | ⟨rfl, rfl⟩ | ⟨rfl, rfl⟩ | ⟨rfl, rfl⟩
    · go_wp2_with fail
      refine (CA.out _).mono ?_
      rintro e w5 ⟨rfl, hx5⟩
      clear k0 k1 k2
      go_wp2
      go_roundw
      case rel => exact ⟨hx.trans hx5, Or.inr (Or.inl ⟨rfl, congrArg Value.string (ba_app [] A)⟩)⟩
      case measure => simp [intOf]
    · have f1 : ¬ 9223372036854775807 < A.length + 1 := by omega
      have f2 : ¬ 9223372036854775807 < A.length + 1 + B.length := by omega
      go_wp2_with fail
      refine (CB.out _).mono ?_
      rintro e w5 ⟨rfl, hx5⟩
      clear k0 k1 k2
      go_wp2
      go_roundw
      case rel => exact ⟨hx.trans hx5, Or.inr (Or.inr (Or.inl ⟨rfl, congrArg Value.string ((congrArg (· ++ _) (ba_app A [32])).trans (ba_app (A ++ [32]) B))⟩))⟩
      case measure => simp [intOf]
    · have f1 : ¬ 9223372036854775807 < (A ++ [32] ++ B).length + 1 := by simp; omega
      have f1' : ¬ 9223372036854775807 < A.length + (B.length + 1) + 1 := by omega
      have f2 : ¬ 9223372036854775807 < A.length + (B.length + 1) + 1 + C.length := by omega
      go_wp2_with fail
      refine (CC.out _).mono ?_
      rintro e w5 ⟨rfl, hx5⟩
      clear k0 k1 k2
      go_wp2
      go_roundw
      case rel => exact ⟨hx.trans hx5, Or.inr (Or.inr (Or.inr ⟨rfl, by rw [show A ++ 32 :: B = A ++ [32] ++ B by simp]; exact congrArg Value.string ((congrArg (· ++ _) (ba_app (A ++ [32] ++ B) [32])).trans (ba_app (A ++ [32] ++ B ++ [32]) C))⟩))⟩
      case measure => simp [intOf]
    · clear k0 k1 k2
      go_wp2
      go_ret
      exact ⟨rfl, hx⟩
theorem lit_ints3 (a b c : Int) (w : World) : Ints (w.alloc (.cells #[.int .i64 a, .int .i64 b, .int .i64 c] 3)) w.heap.size (w.heap.size + 1) (.slice (some ⟨w.heap.size, 0, none⟩) 3 3) [a, b, c] :=
  ⟨_, _, rfl, Nat.le_refl _, by simp, w.heap.size, 0, fun _ => ⟨rfl, Nat.le_refl _, by omega⟩, fun i x j d hx hd => by
    have e1 : j = 0 ∧ d = .int .i64 x := by
      cases j with
      | zero => simp [encI] at hd; exact ⟨rfl, hd.symm⟩
      | succ j => simp [encI] at hd
    obtain ⟨rfl, rfl⟩ := e1
    refine blk_cell (blk_alloc _ _) ?_
    match i, hx with
    | 0, hx => simp at hx; subst hx; rfl
    | 1, hx => simp at hx; subst hx; rfl
    | 2, hx => simp at hx; subst hx; rfl
    | i + 3, hx => simp at hx⟩
theorem c_sgLineL (a b c : Int) (w : World) (ha0 : 0 ≤ a ∧ a ≤ 999) (hb0 : 0 ≤ b ∧ b ≤ 999) (hc0 : 0 ≤ c ∧ c ≤ 999) :
    Calls Tryz.prog 61 #[.slice (some ⟨w.heap.size, 0, none⟩) 3 3] (w.alloc (.cells #[.int .i64 a, .int .i64 b, .int .i64 c] 3)) fun e w' => e = .returned (.string ⟨(lineL [a, b, c]).toArray⟩) ∧ Ext w w' :=
  (c_sgLine _ w.heap.size (w.heap.size + 1) a b c _ (lit_ints3 a b c w) (by simp) ha0 hb0 hc0).mono fun e w' ⟨he, hx⟩ => ⟨he, (Ext.alloc _ _).trans hx⟩
theorem ba_line (P A L : List UInt8) : ((⟨P.toArray⟩ : ByteArray) ++ ((⟨A.toArray⟩ : ByteArray) ++ (⟨L.toArray⟩ : ByteArray) ++ (⟨[10].toArray⟩ : ByteArray))) = ⟨(P ++ (A ++ L ++ [10])).toArray⟩ := by
  rw [ba_app, ba_app, ba_app]
theorem line_len {a b c : Int} (ha0 : 0 ≤ a ∧ a ≤ 999) (hb0 : 0 ≤ b ∧ b ≤ 999) (hc0 : 0 ≤ c ∧ c ≤ 999) : (lineL [a, b, c]).length ≤ 11 := by
  have b1 := numL_len ha0.1 ha0.2
  have b2 := numL_len hb0.1 hb0.2
  have b3 := numL_len hc0.1 hc0.2
  rw [line3]
  simp only [List.length_append, List.length_cons, List.length_nil]
  omega
theorem tow_nums {t : TowerT} (h : towB t = true) : (0 ≤ t.1 ∧ t.1 ≤ 999) ∧ (0 ≤ t.2.1 ∧ t.2.1 ≤ 999) ∧ (0 ≤ t.2.2 ∧ t.2.2 ≤ 999) := by
  simp only [towB, Bool.and_eq_true] at h
  have a1 := inB_t h.1
  have a2 := inB_t h.2.1
  have a3 := inB_t h.2.2
  omega
theorem lnk_nums {m : Nat} (hm : m ≤ 16) {y : LinkT} (h : lkB m y = true) : (0 ≤ y.1 ∧ y.1 ≤ 999) ∧ (0 ≤ y.2.1 ∧ y.2.1 ≤ 999) ∧ (0 ≤ y.2.2 ∧ y.2.2 ≤ 999) := by
  simp only [lkB, Bool.and_eq_true, decide_eq_true_eq] at h
  have a3 := inB_t h.2.2.2
  omega
/-- A net whose numbers are small. -/
def NumsOk (x : NetT) : Prop := (∀ t ∈ x.1, (0 ≤ t.1 ∧ t.1 ≤ 999) ∧ (0 ≤ t.2.1 ∧ t.2.1 ≤ 999) ∧ (0 ≤ t.2.2 ∧ t.2.2 ≤ 999)) ∧ (∀ y ∈ x.2, (0 ≤ y.1 ∧ y.1 ≤ 999) ∧ (0 ≤ y.2.1 ∧ y.2.1 ≤ 999) ∧ (0 ≤ y.2.2 ∧ y.2.2 ≤ 999)) ∧ x.1.length ≤ 16 ∧ x.2.length ≤ 40
theorem net_nums {x : NetT} (h : netB x = true) : NumsOk x := by
  simp only [netB, Bool.and_eq_true, decide_eq_true_eq, List.all_eq_true] at h
  obtain ⟨h1, h2, h3, h4⟩ := h
  have := inB_t h1
  have hl : ∀ (L : List LinkT) (p : Option LinkT), lnkP x.1.length p L = true → ∀ y ∈ L, lkB x.1.length y = true := by
    intro L
    induction L with
    | nil => intro _ _ y hy; cases hy
    | cons z r ih =>
      intro p hp y hy
      simp only [lnkP, Bool.and_eq_true] at hp
      rcases List.mem_cons.1 hy with rfl | hy
      · exact hp.1.1
      · exact ih _ hp.2 y hy
  exact ⟨fun t ht => tow_nums (h3 t ht), fun y hy => lnk_nums (by omega) (hl _ _ h4 y hy), by omega, by omega⟩
set_option maxRecDepth 100000 in
set_option maxHeartbeats 4000000 in
theorem c_neText (v : Value) (la ha : Nat) (x : NetT) (w : World) (h : Nets w la ha v x) (hh : ha ≤ w.heap.size) (hn : NumsOk x) :
    Calls Tryz.prog 31 #[v] w fun e w' => e = .returned (.string ⟨(txtL x).toArray⟩) ∧ Ext w w' := by
  obtain ⟨a1, c1, b1, d1, rfl, ⟨m1, m2⟩, m3, m4⟩ := h.form
  obtain ⟨n, hn1⟩ : ∃ n, n = x.1.length := ⟨_, rfl⟩
  obtain ⟨m, hm1⟩ : ∃ n, n = x.2.length := ⟨_, rfl⟩
  rw [← hn1, ← hm1] at h ⊢
  rw [← hn1] at m1
  rw [← hm1] at m3
  have hn16 : n ≤ 16 := by rw [hn1]; exact hn.2.2.1
  have hm40 : m ≤ 40 := by rw [hm1]; exact hn.2.2.2
  obtain ⟨W1, hW1⟩ : ∃ W, W = w.alloc (.cells #[.slice a1 n c1, .slice b1 m d1] 27) := ⟨_, rfl⟩
  have X1 : Ext w W1 := by rw [hW1]; exact (Ext.refl w).al _
  have B1 : Hid (W1.heap[w.heap.size]? = some (.cells #[.slice a1 n c1, .slice b1 m d1] 27)) := by unfold Hid; rw [hW1]; exact blk_alloc _ _
  have HR : Hid (∀ W, Ext W1 W → Row encTower 3 W la ha (.slice a1 n c1) x.1 ∧ Row encLink 3 W la ha (.slice b1 m d1) x.2) := fun W hX => (h.ext (X1.trans hX) hh).parts
  have HX1 := Lib.hid X1
  have HW1 := Lib.hid hW1
  have HNUM := Lib.hid hn
  have HN := Lib.hid hn1
  have HM := Lib.hid hm1
  clear h hn hn1 hm1 hW1 X1
  go_enter Tryz.func31, Tryz.ntmps31
  go_wp2_with fail
  rw [← HW1.out]
  clear HW1
  go_loopw [11, 3] (fun t s wr => ∃ (k : Nat) (Z : List UInt8), k ≤ n ∧ t = .int .i64 k ∧ s = .string ⟨Z.toArray⟩ ∧ Hid (Z = [] ++ (x.1.take k).flatMap towL) ∧ Z.length ≤ 0 + 18 * k ∧ Ext W1 wr) (fun t _ _ => n - (intOf t).toNat)
  case atStart => exact ⟨0, [], by omega, rfl, rfl, by simp [Hid], by simp, Ext.refl _⟩
  case round =>
    obtain ⟨k, Z, hk, rfl, rfl, hZ, hZl, hx⟩ := hrel
    have n1 := blk_cell (hx.blk B1.out) (j := 1) rfl
    by_cases hlt : k < n
    · obtain ⟨b1, o1, ⟨g1, g2, g3⟩, rfl, hg1, c0, c1, c2⟩ := Towers_at (HR.out _ hx).1 hlt
      simp only at c0 c1 c2
      obtain ⟨u1, u2, u3⟩ := HNUM.out.1 _ (List.mem_of_getElem? hg1.out)
      simp only at u1 u2 u3
      have hl11 := line_len u1 u2 u3
      obtain ⟨L, hL⟩ : ∃ L, L = lineL [g1, g2, g3] := ⟨_, rfl⟩
      rw [← hL] at hl11
      have hltI : (k : Int) < (n : Int) := by omega
      have hk0 : (0 : Int) ≤ (k : Int) := by omega
      have f1 : ¬ 9223372036854775807 < 6 + L.length := by omega
      have f2 : ¬ 9223372036854775807 < 6 + L.length + 1 := by omega
      have f3 : ¬ 9223372036854775807 < Z.length + (6 + L.length + 1) := by omega
      have hZ2 : Hid (Z ++ ([116, 111, 119, 101, 114, 32] ++ L ++ [10]) = [] ++ (x.1.take (k + 1)).flatMap towL) := by
        unfold Hid
        rw [List.take_add_one, hg1.out, List.flatMap_append, hZ.out, hL, List.append_assoc]
        simp [towL]
      have CS0 := c_sgLineL g1 g2 g3 (wr.alloc (.cells #[.int .i64 g1, .int .i64 g2, .int .i64 g3] 54)) u1 u2 u3
      rw [← hL, size_alloc] at CS0
      have CS := Lib.hid CS0
      clear CS0
      clear hL hg1 hZ
      go_wp2_with fail
      refine CS.out.mono ?_
      rintro e w5 ⟨rfl, hx5⟩
      have HX5 := Lib.hid (hx.trans ((Ext.alloc _ _).trans hx5))
      clear hx hx5 CS c0 c1 c2 n1
      go_wp2
      go_roundw
      case rel => exact ⟨k + 1, Z ++ ([116, 111, 119, 101, 114, 32] ++ L ++ [10]), by omega, by go_num, congrArg Value.string (ba_line Z [116, 111, 119, 101, 114, 32] L), hZ2, by simp only [List.length_append, List.length_cons, List.length_nil]; omega, HX5.out⟩
      case measure => simp [intOf]; omega
    · have hge : ¬ ((k : Int) < (n : Int)) := by omega
      have hZ9 : Hid (Z = x.1.flatMap towL) := by
        unfold Hid
        rw [hZ.out, List.take_of_length_le (by rw [← HN.out]; omega)]; rfl
      have HX9 := Lib.hid hx
      have hl9 : Z.length ≤ 18 * 16 := by omega
      clear hZ hx hZl
      obtain ⟨Z1, hZ1⟩ : ∃ z, z = Z := ⟨_, rfl⟩
      rw [← hZ1] at hZ9 hl9 ⊢
      clear hZ1
      go_wp2
      go_loopw [31, 3] (fun t s wr => ∃ (k : Nat) (Z : List UInt8), k ≤ m ∧ t = .int .i64 k ∧ s = .string ⟨Z.toArray⟩ ∧ Hid (Z = x.1.flatMap towL ++ (x.2.take k).flatMap lnkL) ∧ Z.length ≤ 18 * 16 + 18 * k ∧ Ext W1 wr) (fun t _ _ => m - (intOf t).toNat)
      case atStart => exact ⟨0, Z1, by omega, rfl, rfl, by unfold Hid; rw [hZ9.out, List.take_zero, List.flatMap_nil, List.append_nil], by omega, HX9.out⟩
      case round =>
        obtain ⟨k, Z, hk, rfl, rfl, hZ, hZl, hx⟩ := hrel
        have n1 := blk_cell (hx.blk B1.out) (j := 1) rfl
        by_cases hlt : k < m
        · obtain ⟨b1, o1, ⟨g1, g2, g3⟩, rfl, hg1, c0, c1, c2⟩ := Links_at (HR.out _ hx).2 hlt
          simp only at c0 c1 c2
          obtain ⟨u1, u2, u3⟩ := HNUM.out.2.1 _ (List.mem_of_getElem? hg1.out)
          simp only at u1 u2 u3
          have hl11 := line_len u1 u2 u3
          obtain ⟨L, hL⟩ : ∃ L, L = lineL [g1, g2, g3] := ⟨_, rfl⟩
          rw [← hL] at hl11
          have hltI : (k : Int) < (m : Int) := by omega
          have hk0 : (0 : Int) ≤ (k : Int) := by omega
          have f1 : ¬ 9223372036854775807 < 5 + L.length := by omega
          have f2 : ¬ 9223372036854775807 < 5 + L.length + 1 := by omega
          have f3 : ¬ 9223372036854775807 < Z.length + (5 + L.length + 1) := by omega
          have hZ2 : Hid (Z ++ ([108, 105, 110, 107, 32] ++ L ++ [10]) = x.1.flatMap towL ++ (x.2.take (k + 1)).flatMap lnkL) := by
            unfold Hid
            rw [List.take_add_one, hg1.out, List.flatMap_append, hZ.out, hL, List.append_assoc]
            simp [lnkL]
          have CS0 := c_sgLineL g1 g2 g3 (wr.alloc (.cells #[.int .i64 g1, .int .i64 g2, .int .i64 g3] 42)) u1 u2 u3
          rw [← hL, size_alloc] at CS0
          have CS := Lib.hid CS0
          clear CS0
          clear hL hg1 hZ
          go_wp2_with fail
          refine CS.out.mono ?_
          rintro e w5 ⟨rfl, hx5⟩
          have HX5 := Lib.hid (hx.trans ((Ext.alloc _ _).trans hx5))
          clear hx hx5 CS c0 c1 c2 n1
          go_wp2
          go_roundw
          case rel => exact ⟨k + 1, Z ++ ([108, 105, 110, 107, 32] ++ L ++ [10]), by omega, by go_num, congrArg Value.string (ba_line Z [108, 105, 110, 107, 32] L), hZ2, by simp only [List.length_append, List.length_cons, List.length_nil]; omega, HX5.out⟩
          case measure => simp [intOf]; omega
        · have hge2 : ¬ ((k : Int) < (m : Int)) := by omega
          have HZ := Lib.hid (hZ.out)
          clear n1
          go_wp2
          go_ret
          refine ⟨?_, HX1.out.trans hx⟩
          rw [HZ.out, List.take_of_length_le (by rw [← HM.out]; omega)]
          rfl
set_option maxRecDepth 100000 in
theorem c_sNetText (v : Value) (la ha : Nat) (x : NetT) (w : World) (h : Nets w la ha v x) (hh : ha ≤ w.heap.size) :
    Calls Tryz.prog 7 #[v] w fun e w' => e = .returned (.tuple #[.string ⟨(if netB x then txtL x else []).toArray⟩, .bool (netB x)]) ∧ Ext w w' := by
  obtain ⟨q, hq⟩ : ∃ q, q = netB x := ⟨_, rfl⟩
  rw [← hq]
  have CG : Hid (∀ W, Ext w W → Calls Tryz.prog 30 #[v] W fun e w' => e = .returned (.bool q) ∧ Ext W w') := fun W hX => by rw [hq]; exact c_neGood v la ha x W (h.ext hX hh) (Nat.le_trans hh hX.size)
  have CT : Hid (q = true → ∀ W, Ext w W → Calls Tryz.prog 31 #[v] W fun e w' => e = .returned (.string ⟨(txtL x).toArray⟩) ∧ Ext W w') := fun hqt W hX => c_neText v la ha x W (h.ext hX hh) (Nat.le_trans hh hX.size) (net_nums (hq ▸ hqt : netB x = true))
  obtain ⟨a1, c1, b1, d1, rfl, _, _⟩ := h.form
  obtain ⟨n, hn⟩ : ∃ n, n = x.1.length := ⟨_, rfl⟩
  obtain ⟨m, hm⟩ : ∃ n, n = x.2.length := ⟨_, rfl⟩
  rw [← hn, ← hm] at CG CT ⊢
  obtain ⟨W1, hW1⟩ : ∃ W, W = w.alloc (.cells #[.slice a1 n c1, .slice b1 m d1] 27) := ⟨_, rfl⟩
  have X1 : Hid (Ext w W1) := by unfold Hid; rw [hW1]; exact (Ext.refl w).al _
  have B1 : Hid (W1.heap[w.heap.size]? = some (.cells #[.slice a1 n c1, .slice b1 m d1] 27)) := by unfold Hid; rw [hW1]; exact blk_alloc _ _
  have HW1 := Lib.hid hW1
  clear hn hm hq h hW1
  go_enter Tryz.func7, Tryz.ntmps7
  go_wp2_with fail
  rw [← HW1.out]
  clear HW1
  refine (CG.out _ X1.out).mono ?_
  rintro e w2 ⟨rfl, hx2⟩
  have X2 := Lib.hid (X1.out.trans hx2)
  have B2 := Lib.hid (hx2.blk B1.out)
  clear hx2 B1 X1
  cases q
  · go_wp2
    go_ret2
    exact ⟨rfl, X2.out⟩
  · have k0 := blk_cell B2.out (j := 0) (v := .slice a1 n c1) rfl
    have k1 := blk_cell B2.out (j := 1) (v := .slice b1 m d1) rfl
    have CT2 := Lib.hid (CT.out rfl)
    go_wp2_with fail
    refine (CT2.out _ X2.out).mono ?_
    rintro e w3 ⟨rfl, hx3⟩
    clear k0 k1
    go_wp2
    go_ret2
    exact ⟨rfl, X2.out.trans hx3⟩
end Go.Proofs.YtmaaeemhbccpcaaGreatDoor
