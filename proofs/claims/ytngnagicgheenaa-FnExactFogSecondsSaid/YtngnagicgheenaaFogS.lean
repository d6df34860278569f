


/- FogSeconds of the program: its contract. -/
import Derived.Test.YtngnagicgheenaaFogR
namespace Go.Proofs.Ytngnagicgheenaa
open Go.RowKit
set_option maxRecDepth 100000 in
set_option maxHeartbeats 4000000 in
theorem c_iFogSeconds (v : Value) (la ha : Nat) (x : NetT) (vf : Value) (lb hb : Nat) (F : List FogT) (i a0 b0 : Int) (w : World) (h : Nets w la ha v x) (hh : ha ≤ w.heap.size) (h2 : Fogs w lb hb vf F) (hh2 : hb ≤ w.heap.size) :
    Calls Try.prog 26 #[v, vf, .int .i64 i, .int .i64 a0, .int .i64 b0] w fun e w' => e = .returned (.tuple #[.int .i64 (if askF x F i a0 b0 then secF i a0 b0 F else 0), .bool (askF x F i a0 b0)]) ∧ Ext w w' := by
  obtain ⟨q, hq⟩ : ∃ q, q = askF x F i a0 b0 := ⟨_, rfl⟩
  obtain ⟨r, hr⟩ : ∃ r, r = secF i a0 b0 F := ⟨_, rfl⟩
  rw [← hq, ← hr]
  have C1 : Hid (∀ W, Ext w W → Calls Try.prog 54 #[v, vf, .int .i64 i, .int .i64 a0, .int .i64 b0] W fun e w' => e = .returned (.bool q) ∧ Ext W w') := fun W hX => by rw [hq]; exact c_fogAsked v vf la ha lb hb x F i a0 b0 W (h.ext hX hh) (Nat.le_trans hh hX.size) (h2.ext hX hh2) (Nat.le_trans hh2 hX.size)
  have HGD : Hid (q = true → (∀ y ∈ F, fgB x.2.length y = true) ∧ F.length ≤ 60 ∧ 0 ≤ a0 ∧ a0 ≤ b0 ∧ b0 ≤ 10000) := fun e => by
    obtain ⟨h1, h2, h3, h4⟩ := askF_good (hq ▸ e : askF x F i a0 b0 = true)
    exact ⟨fogsB_mem h1, fogsB_len h1, h2, h3, h4⟩
  have HR := Lib.hid hr
  clear hq hr
  obtain ⟨a, ca, b, cb, rfl, ⟨m1, m2⟩, m3, m4⟩ := h.form
  obtain ⟨a2, ca2, rfl, m5, m6⟩ := Row.form h2
  have H2 := Lib.hid h2
  obtain ⟨T, L⟩ := x
  clear h h2
  dsimp only at *
  obtain ⟨n, hn⟩ : ∃ n, n = F.length := ⟨_, rfl⟩
  rw [← hn] at m5 H2 C1 HGD ⊢
  have HN := Lib.hid hn
  clear hn
  generalize T.length = m at *
  generalize L.length = l at *
  cases q
  · go_enter Try.func26, Try.ntmps26
    go_wp2_with fail
    obtain ⟨W1, hW1⟩ : ∃ W, W = w.alloc (.cells #[.slice a m ca, .slice b l cb] 34) := ⟨_, rfl⟩
    rw [← hW1]
    have XX : Ext w W1 := by rw [hW1]; exact Ext.alloc _ _
    have k0 : W1.cell? ⟨w.heap.size, 0, none⟩ = some (.slice a m ca) := by rw [hW1]; exact box_cell _ _ _ 0 _ rfl
    have k1 : W1.cell? ⟨w.heap.size, 1, none⟩ = some (.slice b l cb) := by rw [hW1]; exact box_cell _ _ _ 1 _ rfl
    clear hW1
    refine ((C1).out _ XX).mono ?_
    rintro e wN ⟨rfl, hxN⟩
    replace k0 := hxN.cell k0
    replace k1 := hxN.cell k1
    replace XX := XX.trans hxN
    clear hxN
    go_wp2
    go_ret2
    exact ⟨rfl, XX⟩
  · obtain ⟨hg0, hl, ha0, hab, hb1⟩ := HGD.out rfl
    have HG := Lib.hid hg0
    have HBD : Hid (∀ k, 0 ≤ secF i a0 b0 (F.take k) ∧ secF i a0 b0 (F.take k) ≤ 600000) := fun k => by
      have h1 := secF_bd (link := i) (a := a0) (b := b0) (F := F.take k) (fun x hx => hg0 x (List.mem_of_mem_take hx))
      have h2 : (F.take k).length ≤ F.length := by rw [List.length_take]; omega
      have h3 := HN.out
      omega
    clear HGD hg0
    go_enter Try.func26, Try.ntmps26
    go_wp2_with fail
    obtain ⟨W1, hW1⟩ : ∃ W, W = w.alloc (.cells #[.slice a m ca, .slice b l cb] 34) := ⟨_, rfl⟩
    rw [← hW1]
    have XX : Ext w W1 := by rw [hW1]; exact Ext.alloc _ _
    have k0 : W1.cell? ⟨w.heap.size, 0, none⟩ = some (.slice a m ca) := by rw [hW1]; exact box_cell _ _ _ 0 _ rfl
    have k1 : W1.cell? ⟨w.heap.size, 1, none⟩ = some (.slice b l cb) := by rw [hW1]; exact box_cell _ _ _ 1 _ rfl
    clear hW1
    refine ((C1).out _ XX).mono ?_
    rintro e wN ⟨rfl, hxN⟩
    replace k0 := hxN.cell k0
    replace k1 := hxN.cell k1
    replace XX := XX.trans hxN
    clear hxN
    go_wp2
    clear k0 k1
    have H3 := Lib.hid (H2.out.ext XX hh2)
    clear H2
    go_loopw [12, 24] (fun tt tk wr => ∃ (k : Nat) (u : Int), k ≤ n ∧ tk = .int .i64 k ∧ tt = .int .i64 u ∧ Ext wN wr ∧ Hid (u = secF i a0 b0 (F.take k))) (fun _ tk _ => n - (intOf tk).toNat)
    case atStart => exact ⟨0, 0, by omega, rfl, rfl, Ext.refl _, by simp [Hid, secF]⟩
    case round =>
      obtain ⟨k, u, hk, rfl, rfl, hx, hT⟩ := hrel
      obtain ⟨hu0, hu1⟩ := HBD.out k
      rw [← hT.out] at hu0 hu1
      by_cases hlt : k < n
      · obtain ⟨b8, o8, g, rfl, hg, c0, c1, c2⟩ := Fogs_at H3.out hlt
        have hfg := fgB_iff.1 (HG.out g (List.mem_of_getElem? hg.out))
        have hf0 := hfg.f0
        have hft := hfg.ft
        have hf1 := hfg.t1
        have d0 := hx.cell c0
        have d1 := hx.cell c1
        have d2 := hx.cell c2
        have hltI : (k : Int) < (n : Int) := by omega
        have hs := secF_take (link := i) (a := a0) (b := b0) hg.out
        rw [← hT.out] at hs
        unfold secT at hs
        clear c0 c1 c2 hfg
        cases e1 : (g.1 == i)
        · have HS : Hid (u = secF i a0 b0 (F.take (k + 1))) := by
            unfold Hid; rw [hs, if_neg (fun h => by rw [h] at e1; simp at e1)]; omega
          clear hs
          go_wp2
          go_roundw
          case rel => exact ⟨k + 1, u, by omega, by go_num, rfl, hx.trans (Ext.alloc _ _), HS.out⟩
          case measure => simp [intOf]; omega
        · have e1b : g.1 = i := by simpa using e1
          have hb0 : 0 ≤ b0 := by omega
          have ha1 : a0 ≤ 10000 := by omega
          rw [if_pos e1b] at hs
          clear e1b
          by_cases p1 : g.2.2 < b0 <;> by_cases p2 : g.2.1 < a0
          · have p1b : g.2.2 ≤ b0 := by omega
            have p2b : g.2.1 ≤ a0 := by omega
            by_cases p3 : 0 < g.2.2 - a0
            · have HS : Hid (u + (g.2.2 - a0) = secF i a0 b0 (F.take (k + 1))) := by unfold Hid; rw [hs]; omega
              clear hs
              go_wp2
              go_roundw
              case rel => exact ⟨k + 1, u + (g.2.2 - a0), by omega, by go_num, (by first | (simp; done) | (simp; omega) | omega), hx.trans (Ext.alloc _ _), HS.out⟩
              case measure => simp [intOf]; omega
            · first
              | (exfalso; omega)
              | (have HS : Hid (u = secF i a0 b0 (F.take (k + 1))) := (by unfold Hid; rw [hs]; omega)
                 clear hs
                 go_wp2
                 go_roundw
                 case rel => exact ⟨k + 1, u, by omega, by go_num, (by first | (simp; done) | (simp; omega) | omega), hx.trans (Ext.alloc _ _), HS.out⟩
                 case measure => simp [intOf]; omega)
          · have p1b : g.2.2 ≤ b0 := by omega
            have p2b : a0 ≤ g.2.1 := by omega
            by_cases p3 : 0 < g.2.2 - g.2.1
            · have HS : Hid (u + (g.2.2 - g.2.1) = secF i a0 b0 (F.take (k + 1))) := by unfold Hid; rw [hs]; omega
              clear hs
              go_wp2
              go_roundw
              case rel => exact ⟨k + 1, u + (g.2.2 - g.2.1), by omega, by go_num, (by first | (simp; done) | (simp; omega) | omega), hx.trans (Ext.alloc _ _), HS.out⟩
              case measure => simp [intOf]; omega
            · first
              | (exfalso; omega)
              | (have HS : Hid (u = secF i a0 b0 (F.take (k + 1))) := (by unfold Hid; rw [hs]; omega)
                 clear hs
                 go_wp2
                 go_roundw
                 case rel => exact ⟨k + 1, u, by omega, by go_num, (by first | (simp; done) | (simp; omega) | omega), hx.trans (Ext.alloc _ _), HS.out⟩
                 case measure => simp [intOf]; omega)
          · have p1b : b0 ≤ g.2.2 := by omega
            have p2b : g.2.1 ≤ a0 := by omega
            by_cases p3 : 0 < b0 - a0
            · have HS : Hid (u + (b0 - a0) = secF i a0 b0 (F.take (k + 1))) := by unfold Hid; rw [hs]; omega
              clear hs
              go_wp2
              go_roundw
              case rel => exact ⟨k + 1, u + (b0 - a0), by omega, by go_num, (by first | (simp; done) | (simp; omega) | omega), hx.trans (Ext.alloc _ _), HS.out⟩
              case measure => simp [intOf]; omega
            · first
              | (exfalso; omega)
              | (have HS : Hid (u = secF i a0 b0 (F.take (k + 1))) := (by unfold Hid; rw [hs]; omega)
                 clear hs
                 go_wp2
                 go_roundw
                 case rel => exact ⟨k + 1, u, by omega, by go_num, (by first | (simp; done) | (simp; omega) | omega), hx.trans (Ext.alloc _ _), HS.out⟩
                 case measure => simp [intOf]; omega)
          · have p1b : b0 ≤ g.2.2 := by omega
            have p2b : a0 ≤ g.2.1 := by omega
            by_cases p3 : 0 < b0 - g.2.1
            · have HS : Hid (u + (b0 - g.2.1) = secF i a0 b0 (F.take (k + 1))) := by unfold Hid; rw [hs]; omega
              clear hs
              go_wp2
              go_roundw
              case rel => exact ⟨k + 1, u + (b0 - g.2.1), by omega, by go_num, (by first | (simp; done) | (simp; omega) | omega), hx.trans (Ext.alloc _ _), HS.out⟩
              case measure => simp [intOf]; omega
            · first
              | (exfalso; omega)
              | (have HS : Hid (u = secF i a0 b0 (F.take (k + 1))) := (by unfold Hid; rw [hs]; omega)
                 clear hs
                 go_wp2
                 go_roundw
                 case rel => exact ⟨k + 1, u, by omega, by go_num, (by first | (simp; done) | (simp; omega) | omega), hx.trans (Ext.alloc _ _), HS.out⟩
                 case measure => simp [intOf]; omega)
      · have hge : ¬ ((k : Int) < (n : Int)) := by omega
        have HS : Hid (r = u) := by
          unfold Hid
          rw [HR.out, hT.out, List.take_of_length_le (by rw [← HN.out]; omega)]
        go_wp2
        go_ret2
        exact ⟨by rw [HS.out]; rfl, XX.trans hx⟩
end Go.Proofs.Ytngnagicgheenaa
