
/- GreedyCover of the reference: its contract. -/
import Derived.Test.YtiofckbdjifdpaaGreedP
namespace Go.Proofs.Ytiofckbdjifdpaa
open Go.RowKit
def gcOk (xss : List (List Int)) (n : Int) : Bool := sitesB xss n && coverB xss n.toNat (upto xss.length) 1
def gcV (xss : List (List Int)) (n : Int) : List Int := if gcOk xss n then (greedF xss n.toNat n.toNat []).getD [] else []
theorem frN_snoc {P : Int → Bool} {l : List Int} {q : Nat} {s : Int} (h : l[q]? = some s) : frN P (l.take (q + 1)) = frN P (l.take q) + (if P s then 1 else 0) := by
  unfold frN
  rw [take_snoc' h, List.filter_append, List.length_append, List.filter_cons]
  split <;> simp
theorem frN_le (P : Int → Bool) (l : List Int) : frN P l ≤ l.length := List.length_filter_le _ _
set_option maxRecDepth 100000 in
set_option maxHeartbeats 8000000 in
theorem c_sGreedy (va : Value) (la ha : Nat) (xss : List (List Int)) (n : Nat) (Z : List Int) (w : World) (h : Intss w la ha va xss) (hh : ha ≤ w.heap.size) (gs : GoodS xss n) (hZ : greedF xss n n [] = some Z) (hg : sitesB xss n = true) (hc : coverB xss n (upto xss.length) 1 = true) :
    Calls Try.prog 28 #[va, .int .i64 n] w fun e w' => ∃ r, e = .returned (.tuple #[r, .bool true]) ∧ w'.ownsRow w.heap.size 3 1 r Z.length (Z.flatMap encI) ∧ Ext w w' := by
  obtain ⟨i0, hi0, hz0, hz1, hz2⟩ := info_parts Try.info_intC
  have s12 := gs.s12
  have n16 := gs.n16
  have C1 : Hid (Calls Try.prog 42 #[va, .int .i64 n] w fun e w' => e = .returned (.bool true) ∧ Ext w w') := by
    have := c_stGood va la ha xss n w h hh
    rwa [hg] at this
  have C2 : Hid (∀ W, Ext w W → Calls Try.prog 64 #[va] W fun e w' => ∃ a c, e = .returned (.slice a xss.length c) ∧ OwnI w' W.heap.size w'.heap.size (.slice a xss.length c) (upto xss.length) ∧ Ext W w') :=
    fun W hX => (c_stAll va la ha xss W (h.ext hX hh) (by omega)).mono fun e w' ⟨v, he, ho, hx⟩ => by
      rw [upto_len] at ho
      obtain ⟨a, c, rfl, _⟩ := own_form ho
      exact ⟨a, c, he, OwnI.of (by rw [upto_len]; exact ho), hx⟩
  have CC : Hid (∀ W v lb hb l, Ext w W → Ints W lb hb v l → hb ≤ W.heap.size → GoodC xss.length l → Calls Try.prog 62 #[va, .int .i64 n, v, .int .i64 1] W fun e w' => e = .returned (.bool (coverB xss n l 1)) ∧ Ext W w') :=
    fun W v lb hb l hX hr hbb hg => c_stCovers va v la ha lb hb xss n l 1 W (h.ext hX hh) (Nat.le_trans hh hX.size) hr hbb gs hg
  have CT : Hid (∀ W v lb hb l, Ext w W → Ints W lb hb v l → hb ≤ W.heap.size → GoodC xss.length l → Calls Try.prog 65 #[va, .int .i64 n, v] W fun e w' => ∃ a c, e = .returned (.slice a n c) ∧ OwnI w' W.heap.size w'.heap.size (.slice a n c) (timesL xss n l) ∧ Ext W w') :=
    fun W v lb hb l hX hr hbb hg => (c_stTimes va v la ha lb hb xss n l W (h.ext hX hh) (Nat.le_trans hh hX.size) hr hbb gs hg).mono fun e w' ⟨v, he, ho, hx⟩ => by
      have ho2 := ho.own
      rw [timesL_len] at ho2
      obtain ⟨a, c, rfl, _⟩ := own_form ho2
      exact ⟨a, c, he, ho, hx⟩
  have GS := Lib.hid gs
  have HZ := Lib.hid hZ
  obtain ⟨a, cap, rfl, m1, m2⟩ := h.form
  have H := Lib.hid h
  obtain ⟨s, hs⟩ : ∃ s, s = xss.length := ⟨_, rfl⟩
  rw [← hs] at m1 s12 H C1 C2 CC CT hc ⊢
  have HC := Lib.hid hc
  have HS := Lib.hid hs
  have HUG : Hid (GoodC s (upto s)) := upto_good _ s12
  clear h gs hZ hg hc hs
  go_enter Try.func28, Try.ntmps28
  go_wp2_with (first | (go_at_call 42; refine C1.out.mono ?_; rintro e w2 ⟨rfl, hx2⟩) | (go_at_call 64; refine (C2.out _ hx2).mono ?_; rintro e w3 ⟨a3, c3, rfl, ho3, hx3⟩) | (go_at_call 62; refine (CC.out _ _ _ _ _ (hx2.trans hx3) ho3.read (Nat.le_refl _) HUG.out).mono ?_; rw [HC.out]; rintro e w4 ⟨rfl, hx4⟩))
  have X4 := (hx2.trans hx3).trans hx4
  clear hx2 hx3 hx4 ho3
  go_loopg [6] n (fun gg vo wr => ∃ out : List Int, wr.ownsRow w.heap.size 3 1 vo out.length (out.flatMap encI) ∧ Hid (Picked xss out) ∧ Hid (greedF xss n gg out = some Z) ∧ Ext w wr)
  case atStart => exact ⟨[], World.ownsRow_nil _ _ _ _, ⟨List.nodup_nil, by simp⟩, HZ.out, X4⟩
  case round =>
    obtain ⟨out, hown, hP, hG, hx⟩ := hrel
    obtain ⟨wo, hwo⟩ : ∃ W, W = wr := ⟨_, rfl⟩
    subst hwo
    have HGC : Hid (GoodC s out) := by unfold Hid; rw [HS.out]; exact hP.out.good (by rw [← HS.out]; exact s12)
    have ho12 := HGC.out.len
    obtain ⟨a5, c5, rfl, _, _, _⟩ := own_form hown
    have hRo : Ints wo w.heap.size wo.heap.size (.slice a5 out.length c5) out := Row.of_own encI_len hown
    obtain ⟨t, ht⟩ : ∃ t, t = coverB xss n out 1 := ⟨_, rfl⟩
    have CV := Lib.hid (CC.out wo _ _ _ out hx hRo (Nat.le_refl _) HGC.out)
    rw [← ht] at CV
    have hcl := ht.trans (cover_left GS.out out)
    have HOWN := Lib.hid hown
    clear hown ht
    cases t
    · have hlf : lfN xss n out ≠ 0 := by simpa using hcl.symm
      obtain ⟨g, hgk⟩ : ∃ g, gk = g + 1 := by
        cases e : gk with
        | zero => have h9 := hG.out; rw [e] at h9; unfold greedF at h9; rw [if_neg hlf] at h9; cases h9
        | succ g => exact ⟨g, rfl⟩
      have hG2 := hG.out
      rw [hgk] at hG2
      unfold greedF at hG2
      rw [if_neg hlf] at hG2
      have hb0 : (gB (unB xss out) 0 0 0 xss).2 ≠ 0 := fun e => by rw [if_pos e] at hG2; cases hG2
      rw [if_neg hb0] at hG2
      obtain ⟨P, hPP⟩ : ∃ P, P = unB xss out := ⟨_, rfl⟩
      rw [← hPP] at hG2 hb0
      have HG2 := Lib.hid hG2
      have HB0 := Lib.hid hb0
      have HPP := Lib.hid hPP
      clear hG2 hb0 hlf hcl hPP hRo
      have CW : Hid (∀ W, Ext wo W → Calls Try.prog 65 #[.slice a s cap, .int .i64 n, .slice a5 out.length c5] W fun e w' => ∃ a c, e = .returned (.slice a n c) ∧ OwnI w' W.heap.size w'.heap.size (.slice a n c) (timesL xss n out) ∧ Ext W w') := fun W hX =>
        CT.out W _ w.heap.size W.heap.size out (hx.trans hX) (Row.of_own encI_len (own_ext HOWN.out hX)) (Nat.le_refl _) HGC.out
      go_wp2_with (first | (go_at_call 62; refine CV.out.mono ?_; rintro e w5 ⟨rfl, hx5⟩) | (go_at_call 65; refine (CW.out _ hx5).mono ?_; rintro e w6 ⟨a6, c6, rfl, ho6, hx6⟩))
      have HT6 := Lib.hid ho6.read
      have HO6 := Lib.hid (own_ext HOWN.out (hx5.trans hx6))
      have X6 := (hx.trans hx5).trans hx6
      have H6 := Lib.hid (H.out.ext X6 hh)
      have hh6 : ha ≤ w6.heap.size := Nat.le_trans hh X6.size
      clear ho6 hx5 hx6
      go_loopw [8, 9, 38] (fun vb vm tk wr2 => ∃ (k : Nat) (b : Int) (mm : Nat), k ≤ s ∧ mm ≤ 16 ∧ tk = .int .i64 k ∧ vb = .int .i64 b ∧ vm = .int .i64 mm ∧ Hid (gB P 0 0 0 xss = gB P k b mm (xss.drop k)) ∧ Ext w6 wr2) (fun _ _ tk _ => s - (intOf tk).toNat)
      case atStart => exact ⟨0, 0, 0, by omega, by omega, rfl, rfl, rfl, rfl, Ext.refl _⟩
      case round =>
        obtain ⟨k, b, mm, hk, hm16, rfl, rfl, rfl, hB, hx7⟩ := hrel
        by_cases hlt : k < s
        · obtain ⟨b8, o8, a8, c8, l, rfl, hl, c1, HL, q1, q2⟩ := Intss_at H6.out (k := k) hlt
          have hlm := List.mem_of_getElem? hl.out
          have hl16 := GS.out.len l hlm
          have HLM := Lib.hid hlm
          have d1 := hx7.cell c1
          have hltI : (k : Int) < (s : Int) := by omega
          obtain ⟨nl, hnl⟩ : ∃ nl, nl = l.length := ⟨_, rfl⟩
          rw [← hnl] at hl16 q1 HL d1
          have HNL := Lib.hid hnl
          have HBD := Lib.hid (hB.out.trans (gB_drop hl.out b mm))
          clear c1 hlm hnl
          go_wp2
          go_loopw [12, 45] (fun vf tq wr3 => ∃ (q : Nat), q ≤ nl ∧ tq = .int .i64 q ∧ vf = .int .i64 (frN P (l.take q) : Nat) ∧ Ext w6 wr3) (fun _ tq _ => nl - (intOf tq).toNat)
          case atStart => exact ⟨0, by omega, rfl, rfl, hx7⟩
          case round =>
            obtain ⟨q, hq, rfl, rfl, hx8⟩ := hrel
            obtain ⟨f, hf⟩ : ∃ f, f = frN P (l.take q) := ⟨_, rfl⟩
            rw [← hf]
            have hf16 : f ≤ 16 := by
              have h1 := frN_le P (l.take q)
              rw [List.length_take_of_le (by rw [← HNL.out]; omega)] at h1
              omega
            have HF := Lib.hid hf
            clear hf
            by_cases hlt2 : q < nl
            · obtain ⟨b3, o3, sp, rfl, hsp, c2⟩ := Ints_at (HL.out.ext hx8 hh6) hlt2
              obtain ⟨s1, s2⟩ := GS.out.mem l HLM.out sp (List.mem_of_getElem? hsp.out)
              obtain ⟨p, rfl⟩ := Int.eq_ofNat_of_zero_le s1
              have hpn : p < n := by omega
              obtain ⟨b4, o4, y, rfl, hy, c4⟩ := Ints_at HT6.out hpn
              have d4 := hx8.cell c4
              obtain ⟨c, hcc⟩ : ∃ c, c = cntL xss out p := ⟨_, rfl⟩
              have hyv : y = (c : Int) := by
                have h1 := hy.out
                rw [timesL_get GS.out.pn out hpn, ← hcc] at h1
                exact (Option.some.inj h1).symm
              subst hyv
              have hPp : P p = (c == 0) := by rw [HPP.out, hcc]; rfl
              have hsn := frN_snoc (P := P) hsp.out
              have hlt2I : (q : Int) < (nl : Int) := by omega
              by_cases hc0 : c = 0
              · have hc1 : ((c : Int) == 0) = true := by simp [hc0]
                have HFS : Hid (frN P (l.take (q + 1)) = f + 1) := by unfold Hid; rw [hsn, hPp, hc0, ← HF.out]; rfl
                clear c4 hcc hPp hsn hc0
                go_wp2
                go_roundw
                case rel => exact ⟨q + 1, by omega, by go_num, (by rw [HFS.out]; go_num), hx8⟩
                case measure => simp [intOf]; omega
              · have hc1 : ((c : Int) == 0) = false := by simp; omega
                have HFS : Hid (frN P (l.take (q + 1)) = f) := by unfold Hid; rw [hsn, hPp, ← HF.out, beq_eq_false_iff_ne.2 hc0]; rfl
                clear c4 hcc hPp hsn hc0
                go_wp2
                go_roundw
                case rel => exact ⟨q + 1, by omega, by go_num, (by rw [HFS.out]), hx8⟩
                case measure => simp [intOf]; omega
            · have hge : ¬ ((q : Int) < (nl : Int)) := by omega
              have HFL : Hid (f = frN P l) := by unfold Hid; rw [HF.out, List.take_of_length_le (by rw [← HNL.out]; omega)]
              by_cases hgt : mm < f
              · have hgtI : (mm : Int) < (f : Int) := by omega
                have HBN : Hid (gB P 0 0 0 xss = gB P (k + 1) (k : Int) f (xss.drop (k + 1))) := by
                  have h1 := HBD.out
                  rw [← HFL.out, if_pos hgt] at h1; exact h1
                go_wp2
                go_roundw
                case rel => exact ⟨k + 1, _, f, by omega, hf16, by go_num, rfl, rfl, HBN.out, hx8⟩
                case measure => simp [intOf]; omega
              · have hgtI : ¬ ((mm : Int) < (f : Int)) := by omega
                have HBN : Hid (gB P 0 0 0 xss = gB P (k + 1) b mm (xss.drop (k + 1))) := by
                  have h1 := HBD.out
                  rw [← HFL.out, if_neg hgt] at h1; exact h1
                go_wp2
                go_roundw
                case rel => exact ⟨k + 1, b, mm, by omega, hm16, by go_num, rfl, rfl, HBN.out, hx8⟩
                case measure => simp [intOf]; omega
        · have hge : ¬ ((k : Int) < (s : Int)) := by omega
          have hgb : gB P 0 0 0 xss = (b, mm) := by
            have h1 := hB.out
            rw [List.drop_eq_nil_of_le (by rw [← HS.out]; omega)] at h1
            exact h1
          have HG3 : Hid (greedF xss n g (out ++ [b]) = some Z) := by
            have h1 := HG2.out
            rw [hgb] at h1; exact h1
          have HPK : Hid (Picked xss (out ++ [b])) := by
            have h2 := HB0.out
            rcases gB_site P xss 0 0 0 with h1 | ⟨j, l, h1, h3, h4⟩
            · rw [h1] at h2; exact absurd rfl h2
            · rw [h3, Nat.zero_add] at hgb
              have h5 : ((j : Nat) : Int) = b := congrArg Prod.fst hgb
              rw [← h5]
              exact hP.out.add h1 (by rw [← HPP.out]; omega)
          clear hgb
          go_wp2_with (at_builtin; refine wpList_append_own _ rfl _ _ 24 rfl w.heap.size 3 i0 (.int .i64 0) 1 8 Try.underlying24 hi0 hz0 hz1 hz2 rfl (by decide) _ _ _ rfl ((own_ext HO6.out hx7).alloc _) ⟨wr.heap.size, 0, none⟩ 1 1 [.int .i64 b] rfl rfl (new_cells1 _ _ _) (by intro u hu; simp at hu; subst hu; rfl) (by unfold maxLen; omega) (by omega) (by have := X6.size; have := hx7.size; simp; omega) ?_; intro v3 w8 hown3 hgrow3 _)
          go_roundg g
          case measure => omega
          case rel => exact ⟨out ++ [b], own_push hown3, HPK.out, HG3.out, (X6.trans hx7).push (own_ext HO6.out hx7) hgrow3 (Nat.le_refl _)⟩
    · have hlf : lfN xss n out = 0 := by simpa using hcl.symm
      have HOZ : Hid (out = Z) := by
        have h9 := hG.out
        cases e : gk with
        | zero => rw [e] at h9; unfold greedF at h9; rw [if_pos hlf] at h9; exact Option.some.inj h9
        | succ g => rw [e] at h9; unfold greedF at h9; rw [if_pos hlf] at h9; exact Option.some.inj h9
      clear hlf hcl hRo
      go_wp2_with (go_at_call 62; refine CV.out.mono ?_; rintro e w5 ⟨rfl, hx5⟩)
      go_ret2
      refine ⟨_, rfl, ?_, hx.trans hx5⟩
      rw [← HOZ.out]
      exact own_ext HOWN.out hx5
end Go.Proofs.Ytiofckbdjifdpaa
