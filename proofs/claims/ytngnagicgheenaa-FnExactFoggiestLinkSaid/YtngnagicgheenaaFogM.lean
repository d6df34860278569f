


/- FoggiestLink of the program and of the reference: their contracts. -/
import Derived.Test.YtngnagicgheenaaFogL
import Derived.Test.YtngnagicgheenaaFogMP
import Derived.Test.YtngnagicgheenaaSet
namespace Go.Proofs.Ytngnagicgheenaa
open Go.RowKit
def fmOk (x : NetT) (F : List FogT) : Bool := netB x && (fogsB x.2.length F && decide (0 < x.2.length))
def fmV (x : NetT) (F : List FogT) : Int × Int := if fmOk x F then fmx 0 (0, -1) (sumsL F x.2.length) else (0, 0)
theorem fmOk_net {x : NetT} {F : List FogT} (h : fmOk x F = true) : netB x = true ∧ fogsB x.2.length F = true ∧ 0 < x.2.length := by
  simp only [fmOk, Bool.and_eq_true, decide_eq_true_eq] at h
  exact ⟨h.1, h.2.1, h.2.2⟩
theorem sumsL_bd {F : List FogT} {l : Nat} {m : Int} (hg : ∀ y ∈ F, fgB m y = true) (h60 : F.length ≤ 60) : ∀ y ∈ sumsL F l, 0 ≤ y ∧ y ≤ 600000 := by
  intro y hy
  unfold sumsL at hy
  obtain ⟨i, _, rfl⟩ := List.mem_map.1 hy
  have := secF_bd (link := (i : Int)) (a := 0) (b := 10000) hg
  omega
set_option maxRecDepth 100000 in
theorem c_Max (v : Value) (la ha : Nat) (xs : List Int) (w : World) (h : Ints w la ha v xs) (h0 : 0 < xs.length) :
    Calls Try.prog 62 #[v] w fun e w' => e = .returned (.int .i64 (Lib.maxOf xs)) ∧ w = w' := by
  obtain ⟨a, cap, rfl, m1, m2⟩ := h.form
  have H := Lib.hid h
  obtain ⟨z, hz⟩ : ∃ z, z = Lib.maxOf xs := ⟨_, rfl⟩
  rw [← hz]
  obtain ⟨n, hn⟩ : ∃ n, n = xs.length := ⟨_, rfl⟩
  rw [← hn] at m1 H h0 ⊢
  have HN := Lib.hid hn
  have HZ := Lib.hid hz
  clear h hn hz
  have h1 : (1 : Int) ≤ (n : Int) := by omega
  obtain ⟨b, o, g, rfl, hg, c0⟩ := Ints_at H.out h0
  have c00 : w.cell? ⟨b, o, none⟩ = some (.int .i64 g) := by simpa using c0
  have hg1 : Hid (g = Lib.maxOf (xs.take 1)) := by
    unfold Hid; rw [Lib.maxOf_one, List.getD_eq_getElem?_getD, hg.out]; rfl
  clear c0
  go_enter Try.func62, Try.ntmps62
  go_wp2
  go_loop [3, 4] (fun m i => ∃ (k : Nat) (y : Int), 0 < k ∧ k ≤ n ∧ i = .int .i64 k ∧ m = .int .i64 y ∧ Hid (y = Lib.maxOf (xs.take k))) (fun _ i => n - (intOf i).toNat)
  case atStart => exact ⟨1, g, by omega, h0, rfl, rfl, hg1.out⟩
  case round =>
    obtain ⟨k, y, hk0, hk, rfl, rfl, hy⟩ := hrel
    by_cases hlt : k < n
    · obtain ⟨b2, o2, x, hbo, hx, c1⟩ := Ints_at H.out hlt
      simp only [Option.some.injEq, Addr.mk.injEq, and_true] at hbo
      obtain ⟨rfl, rfl⟩ := hbo
      have hltI : (k : Int) < (n : Int) := by omega
      have HY : Hid (max y x = Lib.maxOf (xs.take (k + 1))) := by
        unfold Hid
        rw [Lib.maxOf_step xs k hk0 (by rw [← HN.out]; exact hlt), List.getD_eq_getElem?_getD, hx.out, ← hy.out]; rfl
      go_wp2
      go_round
      case rel => exact ⟨k + 1, _, by omega, by omega, by go_num, rfl, (by have := HY.out; unfold Hid; split <;> omega)⟩
      case measure => simp [intOf]; omega
    · have hge : ¬ ((k : Int) < (n : Int)) := by omega
      have HY : Hid (z = y) := by
        unfold Hid
        rw [HZ.out, hy.out, List.take_of_length_le (by rw [← HN.out]; omega)]
      go_wp2
      go_ret
      exact ⟨by rw [HY.out]; rfl, rfl⟩
set_option maxRecDepth 100000 in
set_option maxHeartbeats 2000000 in
theorem c_sFoggiest (v : Value) (la ha : Nat) (x : NetT) (vf : Value) (lb hb : Nat) (F : List FogT) (w : World) (h : Nets w la ha v x) (hh : ha ≤ w.heap.size) (h2 : Fogs w lb hb vf F) (hh2 : hb ≤ w.heap.size) :
    Calls Try.prog 27 #[v, vf] w fun e w' => e = .returned (.tuple #[.int .i64 (fmV x F).1, .int .i64 (fmV x F).2, .bool (fmOk x F)]) ∧ Ext w w' := by
  obtain ⟨p, hp⟩ : ∃ p, p = fmV x F := ⟨_, rfl⟩
  obtain ⟨q, hq⟩ : ∃ q, q = fmOk x F := ⟨_, rfl⟩
  rw [← hp, ← hq]
  unfold fmV at hp
  rw [← hq] at hp
  have HFS : Hid (q = true → (∀ y ∈ F, fgB x.2.length y = true) ∧ F.length ≤ 60 ∧ x.2.length ≤ 40 ∧ 0 < x.2.length) := fun e => by
    obtain ⟨h1, h2, h3⟩ := fmOk_net (hq ▸ e : fmOk x F = true)
    exact ⟨fogsB_mem h2, fogsB_len h2, net_links h1, h3⟩
  unfold fmOk at hq
  obtain ⟨q1, hq1⟩ : ∃ q, q = netB x := ⟨_, rfl⟩
  obtain ⟨q2, hq2⟩ : ∃ q, q = fogsB x.2.length F := ⟨_, rfl⟩
  rw [← hq1, ← hq2] at hq
  have C1 : Hid (∀ W, Ext w W → Calls Try.prog 40 #[v] W fun e w' => e = .returned (.bool q1) ∧ Ext W w') := fun W hX => by rw [hq1]; exact c_neGood v la ha x W (h.ext hX hh) (Nat.le_trans hh hX.size)
  have C2 : Hid (∀ W, Ext w W → Calls Try.prog 41 #[v, vf] W fun e w' => e = .returned (.bool q2) ∧ Ext W w') := fun W hX => by rw [hq2]; exact c_fgGood v vf la ha lb hb x F W (h.ext hX hh) (Nat.le_trans hh hX.size) (h2.ext hX hh2) (Nat.le_trans hh2 hX.size)
  clear hq1 hq2
  have CS0 : Hid ((∀ y ∈ F, fgB x.2.length y = true) → F.length ≤ 60 → ∀ (k : Nat) W, Ext w W → Calls Try.prog 61 #[vf, .int .i64 k, .int .i64 0, .int .i64 10000] W fun e w' => e = .returned (.int .i64 (secF k 0 10000 F)) ∧ Ext W w') :=
    fun e1 e2 k W hX => c_fgSeconds vf lb hb x.2.length F k 0 10000 W (h2.ext hX hh2) e1 e2 (by omega) (by omega) (by omega) (by omega)
  have HBD0 : Hid ((∀ y ∈ F, fgB x.2.length y = true) → F.length ≤ 60 → ∀ y ∈ sumsL F x.2.length, 0 ≤ y ∧ y ≤ 600000) := fun e1 e2 => sumsL_bd e1 e2
  obtain ⟨a, ca, b, cb, rfl, ⟨m1, m2⟩, m3, m4⟩ := h.form
  obtain ⟨a2, ca2, rfl, m5, m6⟩ := Row.form h2
  obtain ⟨T, L⟩ := x
  clear h h2
  dsimp only at *
  generalize T.length = m at *
  generalize L.length = l at *
  generalize F.length = n at *
  cases q1
  · subst hq
    simp at hp
    subst hp
    clear HFS
    go_enter Try.func27, Try.ntmps27
    go_wp2_with fail
    obtain ⟨W1, hW1⟩ : ∃ W, W = w.alloc (.cells #[.slice a m ca, .slice b l cb] 34) := ⟨_, rfl⟩
    rw [← hW1]
    have XX : Ext w W1 := by rw [hW1]; exact Ext.alloc _ _
    have k0 : W1.cell? ⟨w.heap.size, 0, none⟩ = some (.slice a m ca) := by rw [hW1]; exact box_cell _ _ _ 0 _ rfl
    have k1 : W1.cell? ⟨w.heap.size, 1, none⟩ = some (.slice b l cb) := by rw [hW1]; exact box_cell _ _ _ 1 _ rfl
    clear hW1
    refine ((C1).out _ XX).mono ?_
    rintro e wN ⟨rfl, hxN⟩
    replace k0 := hxN.cell k0
    replace k1 := hxN.cell k1
    replace XX := XX.trans hxN
    clear hxN
    go_wp2_with (fail)
    go_ret3
    exact ⟨rfl, XX⟩
  cases q2
  · subst hq
    simp at hp
    subst hp
    clear HFS
    go_enter Try.func27, Try.ntmps27
    go_wp2_with fail
    obtain ⟨W1, hW1⟩ : ∃ W, W = w.alloc (.cells #[.slice a m ca, .slice b l cb] 34) := ⟨_, rfl⟩
    rw [← hW1]
    have XX : Ext w W1 := by rw [hW1]; exact Ext.alloc _ _
    have k0 : W1.cell? ⟨w.heap.size, 0, none⟩ = some (.slice a m ca) := by rw [hW1]; exact box_cell _ _ _ 0 _ rfl
    have k1 : W1.cell? ⟨w.heap.size, 1, none⟩ = some (.slice b l cb) := by rw [hW1]; exact box_cell _ _ _ 1 _ rfl
    clear hW1
    refine ((C1).out _ XX).mono ?_
    rintro e wN ⟨rfl, hxN⟩
    replace k0 := hxN.cell k0
    replace k1 := hxN.cell k1
    replace XX := XX.trans hxN
    clear hxN
    go_wp2_with ((go_at_call 41; refine ((C2).out _ XX).mono ?_; rintro e wN ⟨rfl, hxN⟩; replace k0 := hxN.cell k0; replace k1 := hxN.cell k1; replace XX := XX.trans hxN; clear hxN))
    go_ret3
    exact ⟨rfl, XX⟩
  by_cases h0l : 0 < l
  case neg =>
    rw [decide_eq_false h0l] at hq
    subst hq
    simp at hp
    subst hp
    have h0I : ((l : Int) == 0) = true := by simp; omega
    clear HFS
    go_enter Try.func27, Try.ntmps27
    go_wp2_with fail
    obtain ⟨W1, hW1⟩ : ∃ W, W = w.alloc (.cells #[.slice a m ca, .slice b l cb] 34) := ⟨_, rfl⟩
    rw [← hW1]
    have XX : Ext w W1 := by rw [hW1]; exact Ext.alloc _ _
    have k0 : W1.cell? ⟨w.heap.size, 0, none⟩ = some (.slice a m ca) := by rw [hW1]; exact box_cell _ _ _ 0 _ rfl
    have k1 : W1.cell? ⟨w.heap.size, 1, none⟩ = some (.slice b l cb) := by rw [hW1]; exact box_cell _ _ _ 1 _ rfl
    clear hW1
    refine ((C1).out _ XX).mono ?_
    rintro e wN ⟨rfl, hxN⟩
    replace k0 := hxN.cell k0
    replace k1 := hxN.cell k1
    replace XX := XX.trans hxN
    clear hxN
    go_wp2_with ((go_at_call 41; refine ((C2).out _ XX).mono ?_; rintro e wN ⟨rfl, hxN⟩; replace k0 := hxN.cell k0; replace k1 := hxN.cell k1; replace XX := XX.trans hxN; clear hxN))
    go_ret3
    exact ⟨rfl, XX⟩
  rw [decide_eq_true h0l] at hq
  subst hq
  simp only [Bool.true_and, if_true] at hp
  obtain ⟨hg0, hn60, hl40, _⟩ := HFS.out rfl
  have h0I : ((l : Int) == 0) = false := by simp; omega
  clear HFS
  have CS := Lib.hid (CS0.out hg0 hn60)
  have HBD := Lib.hid (HBD0.out hg0 hn60)
  clear HBD0
  have HP := Lib.hid hp
  clear CS0 hg0 hp
  obtain ⟨S, hS⟩ : ∃ S, S = sumsL F l := ⟨_, rfl⟩
  have HSL : Hid (∀ k, k < l → S[k]? = some (secF (k : Int) 0 10000 F)) := fun k hk => by rw [hS]; exact sumsL_get hk
  have HSN : Hid (S.length = l) := by unfold Hid; rw [hS, sumsL_len]
  rw [← hS] at HP HBD
  clear hS
  go_enter Try.func27, Try.ntmps27
  go_wp2_with fail
  obtain ⟨W1, hW1⟩ : ∃ W, W = w.alloc (.cells #[.slice a m ca, .slice b l cb] 34) := ⟨_, rfl⟩
  rw [← hW1]
  have XX : Ext w W1 := by rw [hW1]; exact Ext.alloc _ _
  have k0 : W1.cell? ⟨w.heap.size, 0, none⟩ = some (.slice a m ca) := by rw [hW1]; exact box_cell _ _ _ 0 _ rfl
  have k1 : W1.cell? ⟨w.heap.size, 1, none⟩ = some (.slice b l cb) := by rw [hW1]; exact box_cell _ _ _ 1 _ rfl
  clear hW1
  refine ((C1).out _ XX).mono ?_
  rintro e wN ⟨rfl, hxN⟩
  replace k0 := hxN.cell k0
  replace k1 := hxN.cell k1
  replace XX := XX.trans hxN
  clear hxN
  go_wp2_with (go_at_call 41; refine ((C2).out _ XX).mono ?_; rintro e wM ⟨rfl, hxN⟩; replace k0 := hxN.cell k0; replace k1 := hxN.cell k1; replace XX := XX.trans hxN; clear hxN)
  clear k0 k1 C1 C2
  go_loopw [7, 8, 29] (fun tb tm tk wr => ∃ (k : Nat) (b m : Int), k ≤ l ∧ tk = .int .i64 k ∧ tb = .int .i64 b ∧ tm = .int .i64 m ∧ -1 ≤ m ∧ m ≤ 600000 ∧ Hid (p = fmx k (b, m) (S.drop k)) ∧ Ext wM wr) (fun _ _ tk _ => l - (intOf tk).toNat)
  case atStart => exact ⟨0, 0, -1, by omega, rfl, rfl, rfl, by omega, by omega, HP.out, Ext.refl _⟩
  case round =>
    obtain ⟨k, b, m, hk, rfl, rfl, rfl, hm0, hm1, hT, hx⟩ := hrel
    by_cases hlt : k < l
    · have hltI : (k : Int) < (l : Int) := by omega
      have hge := HSL.out k hlt
      have hs := hT.out.trans (fmx_drop hge (b, m))
      obtain ⟨y, hy⟩ : ∃ y, y = secF (k : Int) 0 10000 F := ⟨_, rfl⟩
      have CZ := Lib.hid (CS.out k _ (XX.trans hx))
      have hyb := HBD.out _ (List.mem_of_getElem? hge)
      rw [← hy] at CZ hs hyb
      obtain ⟨y0, y1⟩ := hyb
      simp only at hs
      clear hge hy
      by_cases hmy : m < y
      · have HS : Hid (p = fmx (k + 1) ((k : Int), y) (S.drop (k + 1))) := by unfold Hid; rw [hs, if_pos hmy]
        clear hs
        go_wp2_with (go_at_call 61; refine CZ.out.mono ?_; rintro e w5 ⟨rfl, hx5⟩)
        go_roundw
        case rel => exact ⟨k + 1, _, _, by omega, by go_num, rfl, rfl, by omega, by omega, HS.out, hx.trans hx5⟩
        case measure => simp [intOf]; omega
      · have hmy2 : y ≤ m := by omega
        have HS : Hid (p = fmx (k + 1) (b, m) (S.drop (k + 1))) := by unfold Hid; rw [hs, if_neg hmy]
        clear hs
        go_wp2_with (go_at_call 61; refine CZ.out.mono ?_; rintro e w5 ⟨rfl, hx5⟩)
        go_roundw
        case rel => exact ⟨k + 1, _, _, by omega, by go_num, rfl, rfl, by omega, by omega, HS.out, hx.trans hx5⟩
        case measure => simp [intOf]; omega
    · have hge : ¬ ((k : Int) < (l : Int)) := by omega
      have HS : Hid (p = (b, m)) := by
        have e := hT.out
        rw [List.drop_eq_nil_of_le (by rw [HSN.out]; omega)] at e
        exact e
      go_wp2
      go_ret3
      exact ⟨by rw [HS.out]; rfl, XX.trans hx⟩
set_option maxRecDepth 100000 in
set_option maxHeartbeats 4000000 in
theorem c_iFoggiest (v : Value) (la ha : Nat) (x : NetT) (vf : Value) (lb hb : Nat) (F : List FogT) (w : World) (h : Nets w la ha v x) (hh : ha ≤ w.heap.size) (h2 : Fogs w lb hb vf F) (hh2 : hb ≤ w.heap.size) :
    Calls Try.prog 28 #[v, vf] w fun e w' => e = .returned (.tuple #[.int .i64 (fmV x F).1, .int .i64 (fmV x F).2, .bool (fmOk x F)]) ∧ Ext w w' := by
  obtain ⟨i0, hi0, hz0, hz1, hz2⟩ := info_parts Try.info_intC2
  obtain ⟨p, hp⟩ : ∃ p, p = fmV x F := ⟨_, rfl⟩
  obtain ⟨q, hq⟩ : ∃ q, q = fmOk x F := ⟨_, rfl⟩
  rw [← hp, ← hq]
  unfold fmV at hp
  rw [← hq] at hp
  have HFS : Hid (q = true → (∀ y ∈ F, fgB x.2.length y = true) ∧ F.length ≤ 60 ∧ x.2.length ≤ 40 ∧ 0 < x.2.length) := fun e => by
    obtain ⟨h1, h2, h3⟩ := fmOk_net (hq ▸ e : fmOk x F = true)
    exact ⟨fogsB_mem h2, fogsB_len h2, net_links h1, h3⟩
  unfold fmOk at hq
  obtain ⟨q1, hq1⟩ : ∃ q, q = netB x := ⟨_, rfl⟩
  obtain ⟨q2, hq2⟩ : ∃ q, q = fogsB x.2.length F := ⟨_, rfl⟩
  rw [← hq1, ← hq2] at hq
  have C1 : Hid (∀ W, Ext w W → Calls Try.prog 45 #[v] W fun e w' => e = .returned (.bool q1) ∧ Ext W w') := fun W hX => by rw [hq1]; exact c_IsNet v la ha x W (h.ext hX hh) (Nat.le_trans hh hX.size)
  have C2 : Hid (∀ W, Ext w W → Calls Try.prog 46 #[v, vf] W fun e w' => e = .returned (.bool q2) ∧ Ext W w') := fun W hX => by rw [hq2]; exact c_areFogs v vf la ha lb hb x F W (h.ext hX hh) (Nat.le_trans hh hX.size) (h2.ext hX hh2) (Nat.le_trans hh2 hX.size)
  clear hq1 hq2
  have H2 := Lib.hid h2
  have HBD0 : Hid ((∀ y ∈ F, fgB x.2.length y = true) → F.length ≤ 60 → ∀ k, ∀ y ∈ sumsL (F.take k) x.2.length, 0 ≤ y ∧ y ≤ 600000) := fun e1 e2 k => sumsL_bd (fun y hy => e1 y (List.mem_of_mem_take hy)) (Nat.le_trans (by rw [List.length_take]; omega) e2)
  have HT0 : Hid (∀ k, F.length ≤ k → F.take k = F) := fun k hk => List.take_of_length_le hk
  obtain ⟨a, ca, b, cb, rfl, ⟨m1, m2⟩, m3, m4⟩ := h.form
  obtain ⟨a2, ca2, rfl, m5, m6⟩ := Row.form h2
  obtain ⟨T, L⟩ := x
  clear h h2
  dsimp only at *
  generalize T.length = m at *
  generalize L.length = l at *
  generalize F.length = n at *
  cases q1
  · subst hq
    simp at hp
    subst hp
    clear HFS
    go_enter Try.func28, Try.ntmps28
    go_wp2_with fail
    obtain ⟨W1, hW1⟩ : ∃ W, W = w.alloc (.cells #[.slice a m ca, .slice b l cb] 34) := ⟨_, rfl⟩
    rw [← hW1]
    have XX : Ext w W1 := by rw [hW1]; exact Ext.alloc _ _
    have k0 : W1.cell? ⟨w.heap.size, 0, none⟩ = some (.slice a m ca) := by rw [hW1]; exact box_cell _ _ _ 0 _ rfl
    have k1 : W1.cell? ⟨w.heap.size, 1, none⟩ = some (.slice b l cb) := by rw [hW1]; exact box_cell _ _ _ 1 _ rfl
    clear hW1
    refine ((C1).out _ XX).mono ?_
    rintro e wN ⟨rfl, hxN⟩
    replace k0 := hxN.cell k0
    replace k1 := hxN.cell k1
    replace XX := XX.trans hxN
    clear hxN
    go_wp2_with (fail)
    go_ret3
    exact ⟨rfl, XX⟩
  cases q2
  · subst hq
    simp at hp
    subst hp
    clear HFS
    go_enter Try.func28, Try.ntmps28
    go_wp2_with fail
    obtain ⟨W1, hW1⟩ : ∃ W, W = w.alloc (.cells #[.slice a m ca, .slice b l cb] 34) := ⟨_, rfl⟩
    rw [← hW1]
    have XX : Ext w W1 := by rw [hW1]; exact Ext.alloc _ _
    have k0 : W1.cell? ⟨w.heap.size, 0, none⟩ = some (.slice a m ca) := by rw [hW1]; exact box_cell _ _ _ 0 _ rfl
    have k1 : W1.cell? ⟨w.heap.size, 1, none⟩ = some (.slice b l cb) := by rw [hW1]; exact box_cell _ _ _ 1 _ rfl
    clear hW1
    refine ((C1).out _ XX).mono ?_
    rintro e wN ⟨rfl, hxN⟩
    replace k0 := hxN.cell k0
    replace k1 := hxN.cell k1
    replace XX := XX.trans hxN
    clear hxN
    go_wp2_with ((go_at_call 46; refine ((C2).out _ XX).mono ?_; rintro e wN ⟨rfl, hxN⟩; replace k0 := hxN.cell k0; replace k1 := hxN.cell k1; replace XX := XX.trans hxN; clear hxN))
    go_ret3
    exact ⟨rfl, XX⟩
  by_cases h0l : 0 < l
  case neg =>
    rw [decide_eq_false h0l] at hq
    subst hq
    simp at hp
    subst hp
    have h0I : ((l : Int) == 0) = true := by simp; omega
    clear HFS
    go_enter Try.func28, Try.ntmps28
    go_wp2_with fail
    obtain ⟨W1, hW1⟩ : ∃ W, W = w.alloc (.cells #[.slice a m ca, .slice b l cb] 34) := ⟨_, rfl⟩
    rw [← hW1]
    have XX : Ext w W1 := by rw [hW1]; exact Ext.alloc _ _
    have k0 : W1.cell? ⟨w.heap.size, 0, none⟩ = some (.slice a m ca) := by rw [hW1]; exact box_cell _ _ _ 0 _ rfl
    have k1 : W1.cell? ⟨w.heap.size, 1, none⟩ = some (.slice b l cb) := by rw [hW1]; exact box_cell _ _ _ 1 _ rfl
    clear hW1
    refine ((C1).out _ XX).mono ?_
    rintro e wN ⟨rfl, hxN⟩
    replace k0 := hxN.cell k0
    replace k1 := hxN.cell k1
    replace XX := XX.trans hxN
    clear hxN
    go_wp2_with ((go_at_call 46; refine ((C2).out _ XX).mono ?_; rintro e wN ⟨rfl, hxN⟩; replace k0 := hxN.cell k0; replace k1 := hxN.cell k1; replace XX := XX.trans hxN; clear hxN))
    go_ret3
    exact ⟨rfl, XX⟩
  rw [decide_eq_true h0l] at hq
  subst hq
  simp only [Bool.true_and, if_true] at hp
  obtain ⟨hg0, hn60, hl40, _⟩ := HFS.out rfl
  have h0I : ((l : Int) == 0) = false := by simp; omega
  clear HFS
  have HG := Lib.hid hg0
  have HBD := Lib.hid (HBD0.out hg0 hn60)
  have HP : Hid (p = (idxP (Lib.maxOf (sumsL F l)) 0 (sumsL F l), Lib.maxOf (sumsL F l))) := by
    unfold Hid
    rw [hp]
    refine fmx_max (fun e => ?_) (fun y hy => ?_)
    · have h9 := sumsL_len F l
      rw [e] at h9
      simp at h9
      omega
    · have h9 := HBD.out n y (by rw [HT0.out n (Nat.le_refl _)]; exact hy)
      exact h9.1
  clear HBD0 hp hg0
  go_enter Try.func28, Try.ntmps28
  go_wp2_with fail
  obtain ⟨W1, hW1⟩ : ∃ W, W = w.alloc (.cells #[.slice a m ca, .slice b l cb] 34) := ⟨_, rfl⟩
  rw [← hW1]
  have XX : Ext w W1 := by rw [hW1]; exact Ext.alloc _ _
  have k0 : W1.cell? ⟨w.heap.size, 0, none⟩ = some (.slice a m ca) := by rw [hW1]; exact box_cell _ _ _ 0 _ rfl
  have k1 : W1.cell? ⟨w.heap.size, 1, none⟩ = some (.slice b l cb) := by rw [hW1]; exact box_cell _ _ _ 1 _ rfl
  clear hW1
  refine ((C1).out _ XX).mono ?_
  rintro e wN ⟨rfl, hxN⟩
  replace k0 := hxN.cell k0
  replace k1 := hxN.cell k1
  replace XX := XX.trans hxN
  clear hxN
  go_wp2_with (first | (go_at_call 46; refine ((C2).out _ XX).mono ?_; rintro e wM ⟨rfl, hxN⟩; replace k0 := hxN.cell k0; replace k1 := hxN.cell k1; replace XX := XX.trans hxN; clear hxN) | (at_make; refine wpList_make_full _ rfl _ _ 49 rfl wM.heap.size 3 i0 (.int .i64 0) 1 Try.underlying49 hi0 hz0 hz1 _ _ _ _ l rfl rfl rfl rfl (by rw [hz2]; omega) (by unfold maxLen; omega) (Nat.le_refl _) ?_; intro w1 hown hgrow; rw [made_ints] at hown; have hx1 : Ext wM w1 := (Ext.refl wM).gr hgrow (by simp); have hOWN := Lib.hid hown; clear hgrow hown))
  clear k0 k1 C1 C2
  go_loopw [32] (fun tk wr => ∃ (k : Nat) (S : List Int), k ≤ n ∧ tk = .int .i64 k ∧ wr.ownsRow wM.heap.size 3 1 (.slice (some ⟨wM.heap.size, 0, none⟩) l l) l (S.flatMap encI) ∧ Hid (S = sumsL (F.take k) l) ∧ Ext wM wr) (fun tk _ => n - (intOf tk).toNat)
  case atStart => exact ⟨0, List.replicate l 0, by omega, rfl, hOWN.out, (by unfold Hid; rw [List.take_zero, sumsL_nil]), hx1⟩
  case round =>
    clear hOWN
    obtain ⟨k, S, hk, rfl, hown, hS, hx⟩ := hrel
    by_cases hlt : k < n
    · obtain ⟨b8, o8, g, rfl, hg, c0, c1, c2⟩ := Fogs_at (H2.out.ext (XX.trans hx) hh2) hlt
      have hfg := fgB_iff.1 (HG.out g (List.mem_of_getElem? hg.out))
      obtain ⟨g1, ga, gb⟩ := g
      have hl0 := hfg.l0
      have hl1 := hfg.l1
      have hf0 := hfg.f0
      have hft := hfg.ft
      have hf1 := hfg.t1
      simp only at hl0 hl1 hf0 hft hf1 c0 c1 c2
      obtain ⟨q, rfl⟩ := Int.eq_ofNat_of_zero_le hl0
      have hql : q < l := by omega
      have hsn := sumsL_step (l := l) hg.out hfg
      have hy : S[q]? = some (secF (q : Int) 0 10000 (F.take k)) := by rw [hS.out]; exact sumsL_get hql
      obtain ⟨y, hyy⟩ : ∃ y, y = secF (q : Int) 0 10000 (F.take k) := ⟨_, rfl⟩
      rw [← hyy] at hsn hy
      obtain ⟨y0, y1⟩ := HBD.out k y (by rw [← hS.out]; exact List.mem_of_getElem? hy)
      rw [← hS.out] at hsn
      have HSN := Lib.hid hsn
      have hltI : (k : Int) < (n : Int) := by omega
      have HY := Lib.hid hy
      have HOWN := Lib.hid hown
      clear hsn hy hyy hown hfg hl0
      go_wp2_with fail
      obtain ⟨w5, hw5⟩ : ∃ W, W = wr.alloc (.cells #[.int .i64 (q : Int), .int .i64 ga, .int .i64 gb] 65) := ⟨_, rfl⟩
      rw [← hw5]
      have BL : w5.heap[wr.heap.size]? = some (.cells #[.int .i64 (q : Int), .int .i64 ga, .int .i64 gb] 65) := by rw [hw5]; exact blk_alloc _ _
      have X5 : Ext wr w5 := by rw [hw5]; exact Ext.alloc _ _
      have HO5 := Lib.hid (own_ext HOWN.out X5)
      have b0 := blk_cell BL (j := 0) rfl
      have b1 := blk_cell BL (j := 1) rfl
      have b2 := blk_cell BL (j := 2) rfl
      have e0 := own_cellv HO5.out HY.out hql
      have z0 := HO5.out.frozenAt q
      have hqI : (q : Int) < (l : Int) := by omega
      clear hw5 BL c0 c1 c2
      go_region
      go_wp2
      go_roundw
      case rel => exact ⟨k + 1, S.set q (y + (gb - ga)), by omega, by go_num, own_ext (own_set HO5.out q (y + (gb - ga))) (Ext.drew _), HSN.out.symm, ((hx.trans X5).st (Nat.le_refl _) _).dr⟩
      case measure => simp [intOf]; omega
    · have hge : ¬ ((k : Int) < (n : Int)) := by omega
      have hS2 : S = sumsL F l := by rw [hS.out, HT0.out k (by omega)]
      have hSl : S.length = l := by rw [hS2, sumsL_len]
      rw [← hS2] at HP
      have HRI : Hid (Ints wr wM.heap.size wr.heap.size (.slice (some ⟨wM.heap.size, 0, none⟩) l l) S) := by
        have h9 := Row.of_own encI_len (xs := S) (w := wr) (base := wM.heap.size) (e := 3) (v := .slice (some ⟨wM.heap.size, 0, none⟩) l l) (by rw [hSl]; exact hown)
        exact h9
      have CM := Lib.hid (c_Max _ _ _ S wr HRI.out (by omega))
      have CI := Lib.hid (c_Index _ _ _ S (Lib.maxOf S) wr HRI.out)
      obtain ⟨mx, hmx⟩ : ∃ m, m = Lib.maxOf S := ⟨_, rfl⟩
      rw [← hmx] at CM CI HP
      obtain ⟨ix, hix⟩ : ∃ m, m = idxP mx 0 S := ⟨_, rfl⟩
      rw [← hix] at CI HP
      clear hS2 hSl hown hmx hix
      go_wp2_with (first | (go_at_call 62; refine CM.out.mono ?_; rintro e w' ⟨rfl, rfl⟩) | (go_at_call 63; refine CI.out.mono ?_; rintro e w' ⟨rfl, rfl⟩))
      go_ret3
      exact ⟨by rw [HP.out]; rfl, XX.trans hx⟩
end Go.Proofs.Ytngnagicgheenaa
