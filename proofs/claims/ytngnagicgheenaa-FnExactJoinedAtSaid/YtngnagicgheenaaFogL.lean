


/- FoggyLinks of the program and of the reference: their contracts. -/
import Derived.Test.YtngnagicgheenaaFogR
import Derived.Test.YtngnagicgheenaaNext
namespace Go.Proofs.Ytngnagicgheenaa
open Go.RowKit
def flOk (x : NetT) (F : List FogT) (t : Int) : Bool := netB x && (fogsB x.2.length F && inB 0 10000 t)
def flF (F : List FogT) (t : Int) (k : Nat) : Bool := !clB F k t
def flV (x : NetT) (F : List FogT) (t : Int) : List Int := if flOk x F t then fupto (flF F t) x.2.length else []
theorem net_links {x : NetT} (h : netB x = true) : x.2.length ≤ 40 := by
  simp only [netB, Bool.and_eq_true, decide_eq_true_eq] at h
  omega
theorem flOk_net {x : NetT} {F : List FogT} {t : Int} (h : flOk x F t = true) : netB x = true ∧ fogsB x.2.length F = true ∧ 0 ≤ t ∧ t ≤ 10000 := by
  simp only [flOk, Bool.and_eq_true] at h
  exact ⟨h.1, h.2.1, (inB_t h.2.2).1, (inB_t h.2.2).2⟩
theorem flV_len (x : NetT) (F : List FogT) (t : Int) : (flV x F t).length ≤ 1099511627776 := by
  unfold flV
  split
  · rename_i h
    have h1 := net_links (flOk_net h).1
    have := fupto_len (flF F t) x.2.length
    omega
  · simp
set_option maxRecDepth 100000 in
set_option maxHeartbeats 2000000 in
theorem c_iFoggyLinks (v : Value) (la ha : Nat) (x : NetT) (vf : Value) (lb hb : Nat) (F : List FogT) (t0 : Int) (w : World) (h : Nets w la ha v x) (hh : ha ≤ w.heap.size) (h2 : Fogs w lb hb vf F) (hh2 : hb ≤ w.heap.size) :
    Calls Try.prog 30 #[v, vf, .int .i64 t0] w fun e w' => ∃ r, e = .returned (.tuple #[r, .bool (flOk x F t0)]) ∧ w'.ownsRow w.heap.size 3 1 r (flV x F t0).length ((flV x F t0).flatMap encI) ∧ Ext w w' := by
  obtain ⟨i0, hi0, hz0', hz1, hz2⟩ := info_parts Try.info_intC2
  obtain ⟨Z, hZ⟩ : ∃ r, r = flV x F t0 := ⟨_, rfl⟩
  obtain ⟨q, hq⟩ : ∃ q, q = flOk x F t0 := ⟨_, rfl⟩
  rw [← hZ, ← hq]
  unfold flV at hZ
  rw [← hq] at hZ
  have CC0 : Hid (q = true → ∀ (k : Nat) W, Ext w W → Calls Try.prog 59 #[vf, .int .i64 k, .int .i64 t0] W fun e w' => e = .returned (.bool (clB F k t0)) ∧ Ext W w') := fun hqt k W hX => by
    have h8 := flOk_net (hq ▸ hqt : flOk x F t0 = true)
    exact c_isClear vf lb hb F k t0 W (h2.ext hX hh2) (Nat.le_trans hh2 hX.size)
  have hl40 : q = true → x.2.length ≤ 40 := fun e => net_links (flOk_net (hq ▸ e : flOk x F t0 = true)).1
  unfold flOk at hq
  obtain ⟨q1, hq1⟩ : ∃ q, q = netB x := ⟨_, rfl⟩
  obtain ⟨q2, hq2⟩ : ∃ q, q = fogsB x.2.length F := ⟨_, rfl⟩
  rw [← hq1, ← hq2] at hq
  have C1 : Hid (∀ W, Ext w W → Calls Try.prog 45 #[v] W fun e w' => e = .returned (.bool q1) ∧ Ext W w') := fun W hX => by rw [hq1]; exact c_IsNet v la ha x W (h.ext hX hh) (Nat.le_trans hh hX.size)
  have C2 : Hid (∀ W, Ext w W → Calls Try.prog 46 #[v, vf] W fun e w' => e = .returned (.bool q2) ∧ Ext W w') := fun W hX => by rw [hq2]; exact c_areFogs v vf la ha lb hb x F W (h.ext hX hh) (Nat.le_trans hh hX.size) (h2.ext hX hh2) (Nat.le_trans hh2 hX.size)
  clear hq1 hq2
  obtain ⟨a, ca, b, cb, rfl, ⟨m1, m2⟩, m3, m4⟩ := h.form
  obtain ⟨a2, ca2, rfl, m5, m6⟩ := Row.form h2
  obtain ⟨T, L⟩ := x
  clear h h2
  dsimp only at *
  generalize T.length = m at *
  generalize L.length = l at *
  generalize F.length = n at *
  cases q1
  · subst hq
    simp at hZ
    subst hZ
    clear CC0 hl40
    go_enter Try.func30, Try.ntmps30
    go_wp2_with fail
    obtain ⟨W1, hW1⟩ : ∃ W, W = w.alloc (.cells #[.slice a m ca, .slice b l cb] 34) := ⟨_, rfl⟩
    rw [← hW1]
    have XX : Ext w W1 := by rw [hW1]; exact Ext.alloc _ _
    have k0 : W1.cell? ⟨w.heap.size, 0, none⟩ = some (.slice a m ca) := by rw [hW1]; exact box_cell _ _ _ 0 _ rfl
    have k1 : W1.cell? ⟨w.heap.size, 1, none⟩ = some (.slice b l cb) := by rw [hW1]; exact box_cell _ _ _ 1 _ rfl
    clear hW1
    refine ((C1).out _ XX).mono ?_
    rintro e wN ⟨rfl, hxN⟩
    replace k0 := hxN.cell k0
    replace k1 := hxN.cell k1
    replace XX := XX.trans hxN
    clear hxN
    go_wp2_with (fail)
    go_ret2
    exact ⟨_, rfl, World.ownsRow_nil _ _ _ _, XX⟩
  cases q2
  · subst hq
    simp at hZ
    subst hZ
    clear CC0 hl40
    go_enter Try.func30, Try.ntmps30
    go_wp2_with fail
    obtain ⟨W1, hW1⟩ : ∃ W, W = w.alloc (.cells #[.slice a m ca, .slice b l cb] 34) := ⟨_, rfl⟩
    rw [← hW1]
    have XX : Ext w W1 := by rw [hW1]; exact Ext.alloc _ _
    have k0 : W1.cell? ⟨w.heap.size, 0, none⟩ = some (.slice a m ca) := by rw [hW1]; exact box_cell _ _ _ 0 _ rfl
    have k1 : W1.cell? ⟨w.heap.size, 1, none⟩ = some (.slice b l cb) := by rw [hW1]; exact box_cell _ _ _ 1 _ rfl
    clear hW1
    refine ((C1).out _ XX).mono ?_
    rintro e wN ⟨rfl, hxN⟩
    replace k0 := hxN.cell k0
    replace k1 := hxN.cell k1
    replace XX := XX.trans hxN
    clear hxN
    go_wp2_with ((go_at_call 46; refine ((C2).out _ XX).mono ?_; rintro e wN ⟨rfl, hxN⟩; replace k0 := hxN.cell k0; replace k1 := hxN.cell k1; replace XX := XX.trans hxN; clear hxN))
    go_ret2
    exact ⟨_, rfl, World.ownsRow_nil _ _ _ _, XX⟩
  cases q3 : inB 0 10000 t0
  · rw [q3] at hq
    subst hq
    simp at hZ
    subst hZ
    clear CC0 hl40
    go_enter Try.func30, Try.ntmps30
    go_wp2_with fail
    obtain ⟨W1, hW1⟩ : ∃ W, W = w.alloc (.cells #[.slice a m ca, .slice b l cb] 34) := ⟨_, rfl⟩
    rw [← hW1]
    have XX : Ext w W1 := by rw [hW1]; exact Ext.alloc _ _
    have k0 : W1.cell? ⟨w.heap.size, 0, none⟩ = some (.slice a m ca) := by rw [hW1]; exact box_cell _ _ _ 0 _ rfl
    have k1 : W1.cell? ⟨w.heap.size, 1, none⟩ = some (.slice b l cb) := by rw [hW1]; exact box_cell _ _ _ 1 _ rfl
    clear hW1
    refine ((C1).out _ XX).mono ?_
    rintro e wN ⟨rfl, hxN⟩
    replace k0 := hxN.cell k0
    replace k1 := hxN.cell k1
    replace XX := XX.trans hxN
    clear hxN
    go_wp2_with (first | (go_at_call 46; refine ((C2).out _ XX).mono ?_; rintro e wN ⟨rfl, hxN⟩; replace k0 := hxN.cell k0; replace k1 := hxN.cell k1; replace XX := XX.trans hxN; clear hxN) | (go_at_call 55; refine (within_c _ _ _ _).mono ?_; rintro e w' ⟨rfl, rfl⟩))
    go_ret2
    exact ⟨_, rfl, World.ownsRow_nil _ _ _ _, XX⟩
  · rw [q3] at hq
    subst hq
    have CL := Lib.hid (CC0.out rfl)
    have HZ : Hid (Z = fupto (flF F t0) l) := hZ
    have hl41 := hl40 rfl
    clear CC0 hZ hl40
    go_enter Try.func30, Try.ntmps30
    go_wp2_with fail
    obtain ⟨W1, hW1⟩ : ∃ W, W = w.alloc (.cells #[.slice a m ca, .slice b l cb] 34) := ⟨_, rfl⟩
    rw [← hW1]
    have XX : Ext w W1 := by rw [hW1]; exact Ext.alloc _ _
    have k0 : W1.cell? ⟨w.heap.size, 0, none⟩ = some (.slice a m ca) := by rw [hW1]; exact box_cell _ _ _ 0 _ rfl
    have k1 : W1.cell? ⟨w.heap.size, 1, none⟩ = some (.slice b l cb) := by rw [hW1]; exact box_cell _ _ _ 1 _ rfl
    clear hW1
    refine ((C1).out _ XX).mono ?_
    rintro e wN ⟨rfl, hxN⟩
    replace k0 := hxN.cell k0
    replace k1 := hxN.cell k1
    replace XX := XX.trans hxN
    clear hxN
    go_wp2_with (first | (go_at_call 46; refine ((C2).out _ XX).mono ?_; rintro e wM ⟨rfl, hxN⟩; replace k0 := hxN.cell k0; replace k1 := hxN.cell k1; replace XX := XX.trans hxN; clear hxN) | (go_at_call 55; refine (within_c _ _ _ _).mono ?_; rintro e w' ⟨rfl, rfl⟩))
    clear k0 k1 C1 C2
    have HSZ := Lib.hid XX.size
    go_loopw [8, 27] (fun v t wr => ∃ (k : Nat) (V : List Int), k ≤ l ∧ t = .int .i64 k ∧ wr.ownsRow wM.heap.size 3 1 v V.length (V.flatMap encI) ∧ Hid (V = fupto (flF F t0) k) ∧ Ext wM wr) (fun _ t _ => l - (intOf t).toNat)
    case atStart => exact ⟨0, [], by omega, rfl, World.ownsRow_nil _ _ _ _, rfl, Ext.refl _⟩
    case round =>
      obtain ⟨k, V, hk, rfl, hown, hV, hx⟩ := hrel
      by_cases hlt : k < l
      · have hltI : (k : Int) < (l : Int) := by omega
        have hlen := fupto_len (flF F t0) k
        rw [← hV.out] at hlen
        have hVl : V.length ≤ 40 := by omega
        obtain ⟨z, hz⟩ : ∃ z, z = clB F k t0 := ⟨_, rfl⟩
        have CZ := Lib.hid (CL.out k _ (XX.trans hx))
        rw [← hz] at CZ
        have hsn : Hid (fupto (flF F t0) (k + 1) = V ++ (if z then [] else [(k : Int)])) := by
          unfold Hid
          rw [show fupto (flF F t0) (k + 1) = fupto (flF F t0) k ++ (if flF F t0 k then [(k : Int)] else []) from rfl, ← hV.out]
          unfold flF
          rw [← hz]
          cases z <;> rfl
        have HOWN := Lib.hid hown
        clear hown hz hlen
        cases z
        · go_wp2_with (first | (go_at_call 59; refine CZ.out.mono ?_; rintro e w5 ⟨rfl, hx5⟩) | (at_builtin; refine wpList_append_own _ rfl _ _ 49 rfl wM.heap.size 3 i0 (.int .i64 0) 1 8 Try.underlying49 hi0 hz0' hz1 hz2 rfl (by decide) _ _ _ rfl ((own_ext HOWN.out hx5).alloc _) ⟨w5.heap.size, 0, none⟩ 1 1 [.int .i64 (k : Int)] rfl rfl (new_cells1 _ _ _) (by intro u hu; simp at hu; subst hu; rfl) (by unfold maxLen; omega) (by omega) (by have := hx.size; have := hx5.size; simp; omega) ?_; intro v3 w6 hown3 hgrow3 _))
          go_roundw
          case rel => exact ⟨k + 1, _, by omega, by go_num, own_push hown3, (by unfold Hid; rw [hsn.out]; rfl), (hx.trans hx5).push (own_ext HOWN.out hx5) hgrow3 (Nat.le_refl _)⟩
          case measure => simp [intOf]; omega
        · go_wp2_with (go_at_call 59; refine CZ.out.mono ?_; rintro e w5 ⟨rfl, hx5⟩)
          go_roundw
          case rel => exact ⟨k + 1, V, by omega, by go_num, own_ext HOWN.out hx5, (by unfold Hid; rw [hsn.out]; simp), hx.trans hx5⟩
          case measure => simp [intOf]; omega
      · have hge : ¬ ((k : Int) < (l : Int)) := by omega
        have hkl : k = l := by omega
        subst hkl
        have HOWN := Lib.hid hown
        obtain ⟨a5, c5, rfl, _, _, _⟩ := own_form hown
        clear hown
        have HVZ : Hid (Z = V) := HZ.out.trans hV.out.symm
        go_wp2
        go_ret2
        refine ⟨_, rfl, ?_, XX.trans hx⟩
        rw [HVZ.out]
        exact own_mono HOWN.out HSZ.out
set_option maxRecDepth 100000 in
set_option maxHeartbeats 2000000 in
theorem c_sFoggyLinks (v : Value) (la ha : Nat) (x : NetT) (vf : Value) (lb hb : Nat) (F : List FogT) (t0 : Int) (w : World) (h : Nets w la ha v x) (hh : ha ≤ w.heap.size) (h2 : Fogs w lb hb vf F) (hh2 : hb ≤ w.heap.size) :
    Calls Try.prog 29 #[v, vf, .int .i64 t0] w fun e w' => ∃ r, e = .returned (.tuple #[r, .bool (flOk x F t0)]) ∧ w'.ownsRow w.heap.size 3 1 r (flV x F t0).length ((flV x F t0).flatMap encI) ∧ Ext w w' := by
  obtain ⟨i0, hi0, hz0', hz1, hz2⟩ := info_parts Try.info_intC2
  obtain ⟨Z, hZ⟩ : ∃ r, r = flV x F t0 := ⟨_, rfl⟩
  obtain ⟨q, hq⟩ : ∃ q, q = flOk x F t0 := ⟨_, rfl⟩
  rw [← hZ, ← hq]
  unfold flV at hZ
  rw [← hq] at hZ
  have CC0 : Hid (q = true → ∀ (k : Nat) W, Ext w W → Calls Try.prog 58 #[vf, .int .i64 k, .int .i64 t0] W fun e w' => e = .returned (.bool (clB F k t0)) ∧ Ext W w') := fun hqt k W hX => by
    have h8 := flOk_net (hq ▸ hqt : flOk x F t0 = true)
    exact c_fgClear vf lb hb x.2.length F k t0 W (h2.ext hX hh2) (fogsB_mem h8.2.1)
  have hl40 : q = true → x.2.length ≤ 40 := fun e => net_links (flOk_net (hq ▸ e : flOk x F t0 = true)).1
  unfold flOk at hq
  obtain ⟨q1, hq1⟩ : ∃ q, q = netB x := ⟨_, rfl⟩
  obtain ⟨q2, hq2⟩ : ∃ q, q = fogsB x.2.length F := ⟨_, rfl⟩
  rw [← hq1, ← hq2] at hq
  have C1 : Hid (∀ W, Ext w W → Calls Try.prog 40 #[v] W fun e w' => e = .returned (.bool q1) ∧ Ext W w') := fun W hX => by rw [hq1]; exact c_neGood v la ha x W (h.ext hX hh) (Nat.le_trans hh hX.size)
  have C2 : Hid (∀ W, Ext w W → Calls Try.prog 41 #[v, vf] W fun e w' => e = .returned (.bool q2) ∧ Ext W w') := fun W hX => by rw [hq2]; exact c_fgGood v vf la ha lb hb x F W (h.ext hX hh) (Nat.le_trans hh hX.size) (h2.ext hX hh2) (Nat.le_trans hh2 hX.size)
  clear hq1 hq2
  obtain ⟨a, ca, b, cb, rfl, ⟨m1, m2⟩, m3, m4⟩ := h.form
  obtain ⟨a2, ca2, rfl, m5, m6⟩ := Row.form h2
  obtain ⟨T, L⟩ := x
  clear h h2
  dsimp only at *
  generalize T.length = m at *
  generalize L.length = l at *
  generalize F.length = n at *
  cases q1
  · subst hq
    simp at hZ
    subst hZ
    clear CC0 hl40
    go_enter Try.func29, Try.ntmps29
    go_wp2_with fail
    obtain ⟨W1, hW1⟩ : ∃ W, W = w.alloc (.cells #[.slice a m ca, .slice b l cb] 34) := ⟨_, rfl⟩
    rw [← hW1]
    have XX : Ext w W1 := by rw [hW1]; exact Ext.alloc _ _
    have k0 : W1.cell? ⟨w.heap.size, 0, none⟩ = some (.slice a m ca) := by rw [hW1]; exact box_cell _ _ _ 0 _ rfl
    have k1 : W1.cell? ⟨w.heap.size, 1, none⟩ = some (.slice b l cb) := by rw [hW1]; exact box_cell _ _ _ 1 _ rfl
    clear hW1
    refine ((C1).out _ XX).mono ?_
    rintro e wN ⟨rfl, hxN⟩
    replace k0 := hxN.cell k0
    replace k1 := hxN.cell k1
    replace XX := XX.trans hxN
    clear hxN
    go_wp2_with (fail)
    go_ret2
    exact ⟨_, rfl, World.ownsRow_nil _ _ _ _, XX⟩
  cases q2
  · subst hq
    simp at hZ
    subst hZ
    clear CC0 hl40
    go_enter Try.func29, Try.ntmps29
    go_wp2_with fail
    obtain ⟨W1, hW1⟩ : ∃ W, W = w.alloc (.cells #[.slice a m ca, .slice b l cb] 34) := ⟨_, rfl⟩
    rw [← hW1]
    have XX : Ext w W1 := by rw [hW1]; exact Ext.alloc _ _
    have k0 : W1.cell? ⟨w.heap.size, 0, none⟩ = some (.slice a m ca) := by rw [hW1]; exact box_cell _ _ _ 0 _ rfl
    have k1 : W1.cell? ⟨w.heap.size, 1, none⟩ = some (.slice b l cb) := by rw [hW1]; exact box_cell _ _ _ 1 _ rfl
    clear hW1
    refine ((C1).out _ XX).mono ?_
    rintro e wN ⟨rfl, hxN⟩
    replace k0 := hxN.cell k0
    replace k1 := hxN.cell k1
    replace XX := XX.trans hxN
    clear hxN
    go_wp2_with ((go_at_call 41; refine ((C2).out _ XX).mono ?_; rintro e wN ⟨rfl, hxN⟩; replace k0 := hxN.cell k0; replace k1 := hxN.cell k1; replace XX := XX.trans hxN; clear hxN))
    go_ret2
    exact ⟨_, rfl, World.ownsRow_nil _ _ _ _, XX⟩
  cases q3 : inB 0 10000 t0
  · rw [q3] at hq
    subst hq
    simp at hZ
    subst hZ
    clear CC0 hl40
    go_enter Try.func29, Try.ntmps29
    go_wp2_with fail
    obtain ⟨W1, hW1⟩ : ∃ W, W = w.alloc (.cells #[.slice a m ca, .slice b l cb] 34) := ⟨_, rfl⟩
    rw [← hW1]
    have XX : Ext w W1 := by rw [hW1]; exact Ext.alloc _ _
    have k0 : W1.cell? ⟨w.heap.size, 0, none⟩ = some (.slice a m ca) := by rw [hW1]; exact box_cell _ _ _ 0 _ rfl
    have k1 : W1.cell? ⟨w.heap.size, 1, none⟩ = some (.slice b l cb) := by rw [hW1]; exact box_cell _ _ _ 1 _ rfl
    clear hW1
    refine ((C1).out _ XX).mono ?_
    rintro e wN ⟨rfl, hxN⟩
    replace k0 := hxN.cell k0
    replace k1 := hxN.cell k1
    replace XX := XX.trans hxN
    clear hxN
    go_wp2_with (first | (go_at_call 41; refine ((C2).out _ XX).mono ?_; rintro e wN ⟨rfl, hxN⟩; replace k0 := hxN.cell k0; replace k1 := hxN.cell k1; replace XX := XX.trans hxN; clear hxN) | (go_at_call 51; refine (c_fgTime _ _).mono ?_; rintro e w' ⟨rfl, rfl⟩))
    go_ret2
    exact ⟨_, rfl, World.ownsRow_nil _ _ _ _, XX⟩
  · rw [q3] at hq
    subst hq
    have CL := Lib.hid (CC0.out rfl)
    have HZ : Hid (Z = fupto (flF F t0) l) := hZ
    have hl41 := hl40 rfl
    clear CC0 hZ hl40
    go_enter Try.func29, Try.ntmps29
    go_wp2_with fail
    obtain ⟨W1, hW1⟩ : ∃ W, W = w.alloc (.cells #[.slice a m ca, .slice b l cb] 34) := ⟨_, rfl⟩
    rw [← hW1]
    have XX : Ext w W1 := by rw [hW1]; exact Ext.alloc _ _
    have k0 : W1.cell? ⟨w.heap.size, 0, none⟩ = some (.slice a m ca) := by rw [hW1]; exact box_cell _ _ _ 0 _ rfl
    have k1 : W1.cell? ⟨w.heap.size, 1, none⟩ = some (.slice b l cb) := by rw [hW1]; exact box_cell _ _ _ 1 _ rfl
    clear hW1
    refine ((C1).out _ XX).mono ?_
    rintro e wN ⟨rfl, hxN⟩
    replace k0 := hxN.cell k0
    replace k1 := hxN.cell k1
    replace XX := XX.trans hxN
    clear hxN
    go_wp2_with (first | (go_at_call 41; refine ((C2).out _ XX).mono ?_; rintro e wM ⟨rfl, hxN⟩; replace k0 := hxN.cell k0; replace k1 := hxN.cell k1; replace XX := XX.trans hxN; clear hxN) | (go_at_call 51; refine (c_fgTime _ _).mono ?_; rintro e w' ⟨rfl, rfl⟩))
    clear k0 k1 C1 C2
    have HSZ := Lib.hid XX.size
    go_loopw [8, 27] (fun v t wr => ∃ (k : Nat) (V : List Int), k ≤ l ∧ t = .int .i64 k ∧ wr.ownsRow wM.heap.size 3 1 v V.length (V.flatMap encI) ∧ Hid (V = fupto (flF F t0) k) ∧ Ext wM wr) (fun _ t _ => l - (intOf t).toNat)
    case atStart => exact ⟨0, [], by omega, rfl, World.ownsRow_nil _ _ _ _, rfl, Ext.refl _⟩
    case round =>
      obtain ⟨k, V, hk, rfl, hown, hV, hx⟩ := hrel
      by_cases hlt : k < l
      · have hltI : (k : Int) < (l : Int) := by omega
        have hlen := fupto_len (flF F t0) k
        rw [← hV.out] at hlen
        have hVl : V.length ≤ 40 := by omega
        obtain ⟨z, hz⟩ : ∃ z, z = clB F k t0 := ⟨_, rfl⟩
        have CZ := Lib.hid (CL.out k _ (XX.trans hx))
        rw [← hz] at CZ
        have hsn : Hid (fupto (flF F t0) (k + 1) = V ++ (if z then [] else [(k : Int)])) := by
          unfold Hid
          rw [show fupto (flF F t0) (k + 1) = fupto (flF F t0) k ++ (if flF F t0 k then [(k : Int)] else []) from rfl, ← hV.out]
          unfold flF
          rw [← hz]
          cases z <;> rfl
        have HOWN := Lib.hid hown
        clear hown hz hlen
        cases z
        · go_wp2_with (first | (go_at_call 58; refine CZ.out.mono ?_; rintro e w5 ⟨rfl, hx5⟩) | (at_builtin; refine wpList_append_own _ rfl _ _ 49 rfl wM.heap.size 3 i0 (.int .i64 0) 1 8 Try.underlying49 hi0 hz0' hz1 hz2 rfl (by decide) _ _ _ rfl ((own_ext HOWN.out hx5).alloc _) ⟨w5.heap.size, 0, none⟩ 1 1 [.int .i64 (k : Int)] rfl rfl (new_cells1 _ _ _) (by intro u hu; simp at hu; subst hu; rfl) (by unfold maxLen; omega) (by omega) (by have := hx.size; have := hx5.size; simp; omega) ?_; intro v3 w6 hown3 hgrow3 _))
          go_roundw
          case rel => exact ⟨k + 1, _, by omega, by go_num, own_push hown3, (by unfold Hid; rw [hsn.out]; rfl), (hx.trans hx5).push (own_ext HOWN.out hx5) hgrow3 (Nat.le_refl _)⟩
          case measure => simp [intOf]; omega
        · go_wp2_with (go_at_call 58; refine CZ.out.mono ?_; rintro e w5 ⟨rfl, hx5⟩)
          go_roundw
          case rel => exact ⟨k + 1, V, by omega, by go_num, own_ext HOWN.out hx5, (by unfold Hid; rw [hsn.out]; simp), hx.trans hx5⟩
          case measure => simp [intOf]; omega
      · have hge : ¬ ((k : Int) < (l : Int)) := by omega
        have hkl : k = l := by omega
        subst hkl
        have HOWN := Lib.hid hown
        obtain ⟨a5, c5, rfl, _, _, _⟩ := own_form hown
        clear hown
        have HVZ : Hid (Z = V) := HZ.out.trans hV.out.symm
        go_wp2
        go_ret2
        refine ⟨_, rfl, ?_, XX.trans hx⟩
        rw [HVZ.out]
        exact own_mono HOWN.out HSZ.out
end Go.Proofs.Ytngnagicgheenaa
