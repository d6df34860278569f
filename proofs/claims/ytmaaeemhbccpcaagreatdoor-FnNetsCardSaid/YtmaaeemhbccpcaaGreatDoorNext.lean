

/- NeighboursOf of the program and of the reference: their contracts. -/
import Derived.Test.YtmaaeemhbccpcaaGreatDoorLinkB
import Derived.Test.YtmaaeemhbccpcaaGreatDoorGB
namespace Go.Proofs.YtmaaeemhbccpcaaGreatDoor
open Go.RowKit
theorem Tryz.info_intC2 : (Tryz.prog.info? 3).map (fun i => (i.zero, i.size, i.bytes)) = some (some (.int .i64 0), 1, 8) := by kernel_rfl
/-- The numbers below k of which f holds. -/
def fupto (f : Nat → Bool) : Nat → List Int
  | 0 => []
  | k + 1 => fupto f k ++ (if f k then [(k : Int)] else [])
theorem fupto_len (f : Nat → Bool) : ∀ k, (fupto f k).length ≤ k
  | 0 => by simp [fupto]
  | k + 1 => by have := fupto_len f k; unfold fupto; split <;> simp <;> omega
def nbF (x : NetT) (i : Int) (k : Nat) : Bool := decide (0 ≤ idxG (lkEq2 i k) 0 x.2)
def nbV (x : NetT) (i : Int) : List Int := if hasT x i then fupto (nbF x i) x.1.length else []
theorem nbV_len (x : NetT) (i : Int) : (nbV x i).length ≤ 1099511627776 := by
  unfold nbV
  split
  · rename_i h
    have h1 := has_netB h
    simp only [netB, Bool.and_eq_true] at h1
    have h2 := (inB_t h1.1).2
    have := fupto_len (nbF x i) x.1.length
    omega
  · simp
set_option maxRecDepth 100000 in
set_option maxHeartbeats 2000000 in
theorem c_iNeighbours (v : Value) (la ha : Nat) (x : NetT) (i : Int) (w : World) (h : Nets w la ha v x) (hh : ha ≤ w.heap.size) :
    Calls Tryz.prog 17 #[v, .int .i64 i] w fun e w' => ∃ r, e = .returned (.tuple #[r, .bool (hasT x i)]) ∧ w'.ownsRow w.heap.size 3 1 r (nbV x i).length ((nbV x i).flatMap encI) ∧ Ext w w' := by
  obtain ⟨i0, hi0, hz0', hz1, hz2⟩ := info_parts Tryz.info_intC2
  obtain ⟨Z, hZ⟩ : ∃ r, r = nbV x i := ⟨_, rfl⟩
  obtain ⟨q, hq⟩ : ∃ q, q = hasT x i := ⟨_, rfl⟩
  rw [← hZ, ← hq]
  unfold nbV at hZ
  rw [← hq] at hZ
  have C1 : Hid (∀ W, Ext w W → Calls Tryz.prog 44 #[v, .int .i64 i] W fun e w' => e = .returned (.bool q) ∧ Ext W w') := fun W hX => by rw [hq]; exact c_isTower v la ha x i W (h.ext hX hh) (Nat.le_trans hh hX.size)
  have CL0 : Hid (q = true → ∀ (k : Nat) W, Ext w W → Calls Tryz.prog 45 #[v, .int .i64 i, .int .i64 k] W fun e w' => e = .returned (.int .i64 (idxG (lkEq2 i k) 0 x.2)) ∧ Ext W w') := fun hqt k W hX => by
    rw [← idx_same (has_netB (hq ▸ hqt : hasT x i = true))]; exact c_linkIndex v la ha x i k W (h.ext hX hh) (Nat.le_trans hh hX.size)
  have hm16 : q = true → x.1.length ≤ 16 := fun hqt => by
    have h1 := has_netB (hq ▸ hqt : hasT x i = true)
    simp only [netB, Bool.and_eq_true] at h1
    have := (inB_t h1.1).2; omega
  clear hq
  obtain ⟨a, ca, b, cb, rfl, ⟨m1, m2⟩, m3, m4⟩ := h.form
  obtain ⟨T, L⟩ := x
  simp only at m1 m3 C1 CL0 hZ hm16 ⊢
  obtain ⟨m, hm⟩ : ∃ n, n = T.length := ⟨_, rfl⟩
  obtain ⟨l, hl⟩ : ∃ n, n = L.length := ⟨_, rfl⟩
  rw [← hm] at m1 C1 CL0 hZ hm16 ⊢
  rw [← hl] at m3 C1 CL0 ⊢
  clear h hm hl
  cases q
  · simp at hZ
    subst hZ
    go_enter Tryz.func17, Tryz.ntmps17
    go_wp2_with fail
    obtain ⟨W1, hW1⟩ : ∃ W, W = w.alloc (.cells #[.slice a m ca, .slice b l cb] 27) := ⟨_, rfl⟩
    rw [← hW1]
    have X1 : Ext w W1 := by rw [hW1]; exact Ext.alloc _ _
    have B1 : W1.heap[w.heap.size]? = some (.cells #[.slice a m ca, .slice b l cb] 27) := by rw [hW1]; exact blk_alloc _ _
    clear hW1
    refine (C1.out _ X1).mono ?_
    rintro e W2 ⟨rfl, X2⟩
    have k0 := blk_cell (X2.blk B1) (j := 0) rfl
    have k1 := blk_cell (X2.blk B1) (j := 1) rfl
    go_wp2
    go_ret2
    exact ⟨_, rfl, World.ownsRow_nil _ _ _ _, X1.trans X2⟩
  · have CL := Lib.hid (CL0.out rfl)
    have HZ : Hid (Z = fupto (nbF (T, L) i) m) := hZ
    have hm17 := hm16 rfl
    clear CL0 hZ hm16
    go_enter Tryz.func17, Tryz.ntmps17
    go_wp2_with fail
    obtain ⟨W1, hW1⟩ : ∃ W, W = w.alloc (.cells #[.slice a m ca, .slice b l cb] 27) := ⟨_, rfl⟩
    rw [← hW1]
    have X1 : Ext w W1 := by rw [hW1]; exact Ext.alloc _ _
    have B1 : W1.heap[w.heap.size]? = some (.cells #[.slice a m ca, .slice b l cb] 27) := by rw [hW1]; exact blk_alloc _ _
    clear hW1
    refine (C1.out _ X1).mono ?_
    rintro e W2 ⟨rfl, X2⟩
    have k0 := blk_cell (X2.blk B1) (j := 0) rfl
    have k1 := blk_cell (X2.blk B1) (j := 1) rfl
    have B2 := X2.blk B1
    have XB := X1.trans X2
    have HSZ := Lib.hid XB.size
    go_wp2
    clear k0 k1
    go_loopw [6, 15] (fun v t wr => ∃ (k : Nat) (V : List Int), k ≤ m ∧ t = .int .i64 k ∧ wr.ownsRow W2.heap.size 3 1 v V.length (V.flatMap encI) ∧ Hid (V = fupto (nbF (T, L) i) k) ∧ Ext W2 wr) (fun _ t _ => m - (intOf t).toNat)
    case atStart => exact ⟨0, [], by omega, rfl, World.ownsRow_nil _ _ _ _, rfl, Ext.refl _⟩
    case round =>
      obtain ⟨k, V, hk, rfl, hown, hV, hx⟩ := hrel
      by_cases hlt : k < m
      · have hltI : (k : Int) < (m : Int) := by omega
        have n0 := blk_cell (hx.blk B2) (j := 0) rfl
        have n1 := blk_cell (hx.blk B2) (j := 1) rfl
        have hlen := fupto_len (nbF (T, L) i) k
        rw [← hV.out] at hlen
        have hVl : V.length ≤ 16 := by omega
        obtain ⟨z, hz⟩ : ∃ z, z = idxG (lkEq2 i k) 0 L := ⟨_, rfl⟩
        have CZ := Lib.hid (CL.out k _ (XB.trans hx))
        rw [← hz] at CZ
        have hsn : Hid (fupto (nbF (T, L) i) (k + 1) = V ++ (if 0 ≤ z then [(k : Int)] else [])) := by
          unfold Hid
          rw [show fupto (nbF (T, L) i) (k + 1) = fupto (nbF (T, L) i) k ++ (if nbF (T, L) i k then [(k : Int)] else []) from rfl, ← hV.out]
          unfold nbF
          simp only
          rw [← hz]
          simp
        have HOWN := Lib.hid hown
        clear hown hz hlen
        by_cases hz0 : 0 ≤ z
        · go_wp2_with (first | (go_at_call 45; refine CZ.out.mono ?_; rintro e w5 ⟨rfl, hx5⟩) | (at_builtin; refine wpList_append_own _ rfl _ _ 31 rfl W2.heap.size 3 i0 (.int .i64 0) 1 8 Tryz.underlying31 hi0 hz0' hz1 hz2 rfl (by decide) _ _ _ rfl ((own_ext HOWN.out hx5).alloc _) ⟨w5.heap.size, 0, none⟩ 1 1 [.int .i64 (k : Int)] rfl rfl (new_cells1 _ _ _) (by intro u hu; simp at hu; subst hu; rfl) (by unfold maxLen; omega) (by omega) (by have := hx.size; have := hx5.size; simp; omega) ?_; intro v3 w6 hown3 hgrow3 _))
          go_roundw
          case rel => exact ⟨k + 1, _, by omega, by go_num, own_push hown3, (by unfold Hid; rw [hsn.out, if_pos hz0]), (hx.trans hx5).push (own_ext HOWN.out hx5) hgrow3 (Nat.le_refl _)⟩
          case measure => simp [intOf]; omega
        · have hz3 : z < 0 := by omega
          go_wp2_with (go_at_call 45; refine CZ.out.mono ?_; rintro e w5 ⟨rfl, hx5⟩)
          go_roundw
          case rel => exact ⟨k + 1, V, by omega, by go_num, own_ext HOWN.out hx5, (by unfold Hid; rw [hsn.out, if_neg (by omega), List.append_nil]), hx.trans hx5⟩
          case measure => simp [intOf]; omega
      · have hge : ¬ ((k : Int) < (m : Int)) := by omega
        have hkm : k = m := by omega
        subst hkm
        have HOWN := Lib.hid hown
        obtain ⟨a5, c5, rfl, _, _, _⟩ := own_form hown
        clear hown
        have HVZ : Hid (Z = V) := HZ.out.trans hV.out.symm
        go_wp2
        go_ret2
        refine ⟨_, rfl, ?_, XB.trans hx⟩
        rw [HVZ.out]
        exact own_mono HOWN.out HSZ.out
set_option maxRecDepth 100000 in
set_option maxHeartbeats 2000000 in
theorem c_neNext (v : Value) (la ha : Nat) (x : NetT) (i : Int) (w : World) (h : Nets w la ha v x) (hh : ha ≤ w.heap.size) (hm16 : x.1.length ≤ 16) :
    Calls Tryz.prog 47 #[v, .int .i64 i] w fun e w' => ∃ r, e = .returned r ∧ w'.ownsRow w.heap.size 3 1 r (fupto (nbF x i) x.1.length).length ((fupto (nbF x i) x.1.length).flatMap encI) ∧ Ext w w' := by
  obtain ⟨i0, hi0, hz0', hz1, hz2⟩ := info_parts Tryz.info_intC2
  obtain ⟨Z, hZ⟩ : ∃ r, r = fupto (nbF x i) x.1.length := ⟨_, rfl⟩
  rw [← hZ]
  have CL : Hid (∀ (k : Nat) W, Ext w W → Calls Tryz.prog 72 #[v, .int .i64 i, .int .i64 k] W fun e w' => e = .returned (.int .i64 (idxG (lkEq2 i k) 0 x.2)) ∧ Ext W w') := fun k W hX => c_neLink v la ha x i k W (h.ext hX hh) (Nat.le_trans hh hX.size)
  obtain ⟨a, ca, b, cb, rfl, ⟨m1, m2⟩, m3, m4⟩ := h.form
  obtain ⟨T, L⟩ := x
  simp only at m1 m3 CL hZ hm16 ⊢
  obtain ⟨m, hm⟩ : ∃ n, n = T.length := ⟨_, rfl⟩
  obtain ⟨l, hl⟩ : ∃ n, n = L.length := ⟨_, rfl⟩
  rw [← hm] at m1 CL hZ hm16 ⊢
  rw [← hl] at m3 CL ⊢
  have HZ := Lib.hid hZ
  clear h hm hl hZ
  go_enter Tryz.func47, Tryz.ntmps47
  go_wp2
  have B2 := blk_alloc w (.cells #[.slice a m ca, .slice b l cb] 27)
  have XB := Ext.alloc w (.cells #[.slice a m ca, .slice b l cb] 27)
  generalize w.alloc (.cells #[.slice a m ca, .slice b l cb] 27) = W2 at *
  have HSZ := Lib.hid XB.size
  go_loopw [5, 10] (fun v t wr => ∃ (k : Nat) (V : List Int), k ≤ m ∧ t = .int .i64 k ∧ wr.ownsRow W2.heap.size 3 1 v V.length (V.flatMap encI) ∧ Hid (V = fupto (nbF (T, L) i) k) ∧ Ext W2 wr) (fun _ t _ => m - (intOf t).toNat)
  case atStart => exact ⟨0, [], by omega, rfl, World.ownsRow_nil _ _ _ _, rfl, Ext.refl _⟩
  case round =>
    obtain ⟨k, V, hk, rfl, hown, hV, hx⟩ := hrel
    by_cases hlt : k < m
    · have hltI : (k : Int) < (m : Int) := by omega
      have n0 := blk_cell (hx.blk B2) (j := 0) rfl
      have n1 := blk_cell (hx.blk B2) (j := 1) rfl
      have hlen := fupto_len (nbF (T, L) i) k
      rw [← hV.out] at hlen
      have hVl : V.length ≤ 16 := by omega
      obtain ⟨z, hz⟩ : ∃ z, z = idxG (lkEq2 i k) 0 L := ⟨_, rfl⟩
      have CZ := Lib.hid (CL.out k _ (XB.trans hx))
      rw [← hz] at CZ
      have hsn : Hid (fupto (nbF (T, L) i) (k + 1) = V ++ (if 0 ≤ z then [(k : Int)] else [])) := by
        unfold Hid
        rw [show fupto (nbF (T, L) i) (k + 1) = fupto (nbF (T, L) i) k ++ (if nbF (T, L) i k then [(k : Int)] else []) from rfl, ← hV.out]
        unfold nbF
        simp only
        rw [← hz]
        simp
      have HOWN := Lib.hid hown
      clear hown hz hlen
      by_cases hz0 : 0 ≤ z
      · go_wp2_with (first | (go_at_call 72; refine CZ.out.mono ?_; rintro e w5 ⟨rfl, hx5⟩) | (at_builtin; refine wpList_append_own _ rfl _ _ 31 rfl W2.heap.size 3 i0 (.int .i64 0) 1 8 Tryz.underlying31 hi0 hz0' hz1 hz2 rfl (by decide) _ _ _ rfl ((own_ext HOWN.out hx5).alloc _) ⟨w5.heap.size, 0, none⟩ 1 1 [.int .i64 (k : Int)] rfl rfl (new_cells1 _ _ _) (by intro u hu; simp at hu; subst hu; rfl) (by unfold maxLen; omega) (by omega) (by have := hx.size; have := hx5.size; simp; omega) ?_; intro v3 w6 hown3 hgrow3 _))
        go_roundw
        case rel => exact ⟨k + 1, _, by omega, by go_num, own_push hown3, (by unfold Hid; rw [hsn.out, if_pos hz0]), (hx.trans hx5).push (own_ext HOWN.out hx5) hgrow3 (Nat.le_refl _)⟩
        case measure => simp [intOf]; omega
      · have hz3 : z < 0 := by omega
        go_wp2_with (go_at_call 72; refine CZ.out.mono ?_; rintro e w5 ⟨rfl, hx5⟩)
        go_roundw
        case rel => exact ⟨k + 1, V, by omega, by go_num, own_ext HOWN.out hx5, (by unfold Hid; rw [hsn.out, if_neg (by omega), List.append_nil]), hx.trans hx5⟩
        case measure => simp [intOf]; omega
    · have hge : ¬ ((k : Int) < (m : Int)) := by omega
      have hkm : k = m := by omega
      subst hkm
      have HOWN := Lib.hid hown
      obtain ⟨a5, c5, rfl, _, _, _⟩ := own_form hown
      clear hown
      have HVZ : Hid (Z = V) := HZ.out.trans hV.out.symm
      go_wp2
      go_ret
      refine ⟨_, rfl, ?_, XB.trans hx⟩
      rw [HVZ.out]
      exact own_mono HOWN.out HSZ.out
set_option maxRecDepth 100000 in
set_option maxHeartbeats 2000000 in
theorem c_sNeighbours (v : Value) (la ha : Nat) (x : NetT) (i : Int) (w : World) (h : Nets w la ha v x) (hh : ha ≤ w.heap.size) :
    Calls Tryz.prog 18 #[v, .int .i64 i] w fun e w' => ∃ r, e = .returned (.tuple #[r, .bool (hasT x i)]) ∧ w'.ownsRow w.heap.size 3 1 r (nbV x i).length ((nbV x i).flatMap encI) ∧ Ext w w' := by
  obtain ⟨Z, hZ⟩ : ∃ r, r = nbV x i := ⟨_, rfl⟩
  obtain ⟨q, hq⟩ : ∃ q, q = hasT x i := ⟨_, rfl⟩
  rw [← hZ, ← hq]
  unfold nbV at hZ
  rw [← hq] at hZ
  have C1 : Hid (∀ W, Ext w W → Calls Tryz.prog 46 #[v, .int .i64 i] W fun e w' => e = .returned (.bool q) ∧ Ext W w') := fun W hX => by rw [hq]; exact c_neHas v la ha x i W (h.ext hX hh) (Nat.le_trans hh hX.size)
  have C2 : Hid (q = true → ∀ W, Ext w W → Calls Tryz.prog 47 #[v, .int .i64 i] W fun e w' => ∃ r, e = .returned r ∧ OwnI w' W.heap.size w'.heap.size r Z ∧ Ext W w') := fun hqt W hX => by
    have h1 := has_netB (hq ▸ hqt : hasT x i = true)
    simp only [netB, Bool.and_eq_true] at h1
    have h2 := (inB_t h1.1).2
    rw [hZ, hqt, if_pos rfl]
    exact (c_neNext v la ha x i W (h.ext hX hh) (Nat.le_trans hh hX.size) (by omega)).mono fun e w' ⟨r, he, ho, hx⟩ => ⟨r, he, OwnI.of ho, hx⟩
  have hZ0 : q = false → Z = [] := fun e => by rw [hZ, e]; rfl
  clear hq hZ
  obtain ⟨a, ca, b, cb, rfl, ⟨m1, m2⟩, m3, m4⟩ := h.form
  obtain ⟨T, L⟩ := x
  simp only at m1 m3 C1 C2 ⊢
  obtain ⟨m, hm⟩ : ∃ n, n = T.length := ⟨_, rfl⟩
  obtain ⟨l, hl⟩ : ∃ n, n = L.length := ⟨_, rfl⟩
  rw [← hm] at m1 C1 C2 ⊢
  rw [← hl] at m3 C1 C2 ⊢
  clear h hm hl
  cases q
  · have e := hZ0 rfl
    subst e
    go_enter Tryz.func18, Tryz.ntmps18
    go_wp2_with fail
    obtain ⟨W1, hW1⟩ : ∃ W, W = w.alloc (.cells #[.slice a m ca, .slice b l cb] 27) := ⟨_, rfl⟩
    rw [← hW1]
    have X1 : Ext w W1 := by rw [hW1]; exact Ext.alloc _ _
    have B1 : W1.heap[w.heap.size]? = some (.cells #[.slice a m ca, .slice b l cb] 27) := by rw [hW1]; exact blk_alloc _ _
    clear hW1
    refine (C1.out _ X1).mono ?_
    rintro e W2 ⟨rfl, X2⟩
    have k0 := blk_cell (X2.blk B1) (j := 0) rfl
    have k1 := blk_cell (X2.blk B1) (j := 1) rfl
    go_wp2
    go_ret2
    exact ⟨_, rfl, World.ownsRow_nil _ _ _ _, X1.trans X2⟩
  · have C3 := Lib.hid (C2.out rfl)
    clear C2 hZ0
    go_enter Tryz.func18, Tryz.ntmps18
    go_wp2_with fail
    obtain ⟨W1, hW1⟩ : ∃ W, W = w.alloc (.cells #[.slice a m ca, .slice b l cb] 27) := ⟨_, rfl⟩
    rw [← hW1]
    have X1 : Ext w W1 := by rw [hW1]; exact Ext.alloc _ _
    have B1 : W1.heap[w.heap.size]? = some (.cells #[.slice a m ca, .slice b l cb] 27) := by rw [hW1]; exact blk_alloc _ _
    clear hW1
    refine (C1.out _ X1).mono ?_
    rintro e W2 ⟨rfl, X2⟩
    have k0 := blk_cell (X2.blk B1) (j := 0) rfl
    have k1 := blk_cell (X2.blk B1) (j := 1) rfl
    go_wp2_with fail
    refine (C3.out _ (X1.trans X2)).mono ?_
    rintro e W3 ⟨r3, rfl, ho, X3⟩
    obtain ⟨a5, c5, rfl, _, _⟩ := ho.form
    have HO := Lib.hid ho
    have s1 := (X1.trans X2).size
    clear ho
    go_wp2
    go_ret2
    exact ⟨_, rfl, own_mono HO.out.own s1, (X1.trans X2).trans X3⟩
end Go.Proofs.YtmaaeemhbccpcaaGreatDoor
