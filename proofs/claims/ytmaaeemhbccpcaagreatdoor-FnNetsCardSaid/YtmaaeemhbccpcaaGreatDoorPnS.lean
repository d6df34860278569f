
/- ParseNet of the reference: its contract. -/
import Derived.Test.YtmaaeemhbccpcaaGreatDoorPnK
import Derived.Test.YtmaaeemhbccpcaaGreatDoorRdS
import Derived.Test.YtmaaeemhbccpcaaGreatDoorNeGood
namespace Go.Proofs.YtmaaeemhbccpcaaGreatDoor
open Go.RowKit
set_option linter.unusedSimpArgs false
set_option linter.unusedVariables false
theorem imOk_sp (l : List UInt8) : imOk l = if (splitB 10 l).length ≤ 57 ∧ netB (spParse l) = true ∧ txtL (spParse l) = l then some (spParse l) else none := by
  rw [im_pn]
  by_cases h : (splitB 10 l).length ≤ 57 ∧ netB (spParse l) = true ∧ txtL (spParse l) = l
  · have ho : pnOk l = true := by
      unfold pnOk
      rw [h.2.1, decide_eq_true h.1, decide_eq_true h.2.2]; rfl
    rw [if_pos h, if_pos ho]
    unfold pnV
    rw [if_pos ho]
  · rw [if_neg h, if_neg]
    intro ho
    simp only [pnOk, Bool.and_eq_true, decide_eq_true_eq] at ho
    exact h ⟨ho.1, ho.2.1, ho.2.2⟩
theorem imOk_bound (l : List UInt8) : ((imOk l).getD ([], [])).1.length + ((imOk l).getD ([], [])).2.length ≤ 1048576 := by
  rw [im_pn]
  split
  · exact pnV_bound l
  · simp
theorem stepS_eq (n : NetT) (line : List UInt8) : stepS n line = match splitB 32 line with
  | [w, a, b, c] => if w = wTow then (n.1 ++ [(rdL a, rdL b, rdL c)], n.2) else if w = wLnk then (n.1, n.2 ++ [(rdL a, rdL b, rdL c)]) else n
  | _ => n := rfl
theorem stepS_other {n : NetT} {line : List UInt8} (h : (splitB 32 line).length ≠ 4) : stepS n line = n := by
  rw [stepS_eq]
  split
  · rename_i w a b c e
    rw [e] at h
    exact absurd rfl h
  · rfl
theorem fold_drop {n : NetT} {P : List (List UInt8)} {k : Nat} {p : List UInt8} (h : P[k]? = some p) : (P.drop k).foldl stepS n = (P.drop (k + 1)).foldl stepS (stepS n p) := by
  have hk : k < P.length := (List.getElem?_eq_some_iff.1 h).1
  have e : P.drop k = p :: P.drop (k + 1) := by
    rw [List.drop_eq_getElem_cons hk]; congr 1; exact (List.getElem?_eq_some_iff.1 h).2
  rw [e]; rfl
set_option maxRecDepth 100000 in
set_option maxHeartbeats 4000000 in
theorem c_sParse (l : List UInt8) (w : World) (hl : l.length ≤ 1048576) :
    Calls Tryz.prog 24 #[.string ⟨l.toArray⟩] w fun e w' => ∃ v, e = .returned (.tuple #[v, .bool (imOk l).isSome]) ∧ OwnNet w' w.heap.size w'.heap.size v ((imOk l).getD ([], [])) ∧ Ext w w' := by
  obtain ⟨t0, ht0, htz0, htz1, htz2⟩ := info_parts Tryz.info_tower
  obtain ⟨l0, hl0, hlz0, hlz1, hlz2⟩ := info_parts Tryz.info_link
  obtain ⟨O, hO⟩ : ∃ O, O = imOk l := ⟨_, rfl⟩
  rw [← hO]
  rw [imOk_sp] at hO
  obtain ⟨W0, hW0⟩ : ∃ W, W = w.alloc (.cells #[.slice none 0 0, .slice none 0 0] 27) := ⟨_, rfl⟩
  have HX0 : Hid (Ext w W0) := by unfold Hid; rw [hW0]; exact Ext.alloc _ _
  have HR0 : Hid (W0.heap[w.heap.size]? = some (.cells #[.slice none 0 0, .slice none 0 0] 27)) := by unfold Hid; rw [hW0]; exact blk_alloc _ _
  have hs0 : w.heap.size + 1 ≤ W0.heap.size := by rw [hW0, size_alloc]; omega
  have CL := Lib.hid (c_l1Split l 10 W0 hl)
  have HW0 := Lib.hid hW0
  have hpl : ∀ p ∈ splitB 10 l, p.length ≤ 1048576 := fun p hp => Nat.le_trans (splitB_piece 10 l p hp) hl
  obtain ⟨F, hF⟩ : ∃ F, F = spParse l := ⟨_, rfl⟩
  rw [← hF] at hO
  unfold spParse at hF
  obtain ⟨P, hP⟩ : ∃ P, P = splitB 10 l := ⟨_, rfl⟩
  rw [← hP] at CL hF hO hpl
  obtain ⟨n, hn⟩ : ∃ n, n = P.length := ⟨_, rfl⟩
  rw [← hn] at CL hO
  have hpb : n ≤ 1048577 := by
    have := splitB_len 10 l
    rw [hn, hP]; omega
  have HN := Lib.hid hn
  have HF := Lib.hid hF
  have HOK := Lib.hid hO
  have HPL := Lib.hid hpl
  clear hn hF hO hpl hP hW0 hl
  by_cases hn57 : n ≤ 57
  case neg =>
    have hgt : (57 : Int) < (n : Int) := by omega
    have HOF : Hid (True → O = none) := fun _ => by rw [HOK.out, if_neg (fun e => hn57 e.1)]
    clear hn57
    go_enter Tryz.func24, Tryz.ntmps24
    go_wp2_with fail
    rw [← HW0.out]
    clear HW0
    refine CL.out.mono ?_
    rintro e W1 ⟨v, rfl, ho, hx⟩
    obtain ⟨a, cap, rfl, _, _, _⟩ := own_form ho
    have HX1 := Lib.hid (HX0.out.trans hx)
    have HR1 := Lib.hid (hx.blk HR0.out)
    clear ho hx
    have z0 := blk_cell (HR1.out) (j := 0) (v := .slice none 0 0) rfl
    have z1 := blk_cell (HR1.out) (j := 1) (v := .slice none 0 0) rfl
    have f0 := blk_free (HR1.out) 0
    have f1 := blk_free (HR1.out) 1
    have XX9 : Hid (Ext w W1) := HX1.out
    have HRS9 := Lib.hid (HR1.out)
    go_wp2
    obtain ⟨w9, hw9⟩ : ∃ W, W = (W1.setCell ⟨w.heap.size, 0, none⟩ (.slice none 0 0)).setCell ⟨w.heap.size, 1, none⟩ (.slice none 0 0) := ⟨_, rfl⟩
    rw [← hw9]
    have g1 : (W1.setCell ⟨w.heap.size, 0, none⟩ (.slice none 0 0)).heap[w.heap.size]? = some (.cells #[.slice none 0 0, .slice none 0 0] 27) := by rw [heap_setCell_same _ _ _ _ _ _ HRS9.out]; rfl
    have g2 : w9.heap[w.heap.size]? = some (.cells #[.slice none 0 0, .slice none 0 0] 27) := by rw [hw9, heap_setCell_same _ _ _ _ _ _ g1]; rfl
    have y0 := blk_cell g2 (j := 0) (v := .slice none 0 0) rfl
    have y1 := blk_cell g2 (j := 1) (v := .slice none 0 0) rfl
    have X9 : Ext w w9 := by rw [hw9]; exact (XX9.out.st (p := ⟨w.heap.size, 0, none⟩) (Nat.le_refl _) _).st (p := ⟨w.heap.size, 1, none⟩) (Nat.le_refl _) _
    clear hw9
    refine bodyPost_ret (v := .tuple #[.agg #[.slice none 0 0, .slice none 0 0], .bool false]) (by simp [results, Tryz.results24, go_sem, y0, y1]) rfl ⟨.agg #[.slice none 0 0, .slice none 0 0], ?_, ?_, X9⟩
    · rw [HOF.out trivial]; rfl
    · rw [HOF.out trivial]; exact own_nilNet _ _ _
  case pos =>
    have hngt : ¬ ((57 : Int) < (n : Int)) := by omega
    go_enter Tryz.func24, Tryz.ntmps24
    go_wp2_with fail
    rw [← HW0.out]
    clear HW0
    refine CL.out.mono ?_
    rintro e W1 ⟨v, rfl, ho, hx⟩
    obtain ⟨a, cap, rfl, hag, _, _⟩ := own_form ho
    have HO1 := Lib.hid ho
    have HX1 := Lib.hid (HX0.out.trans hx)
    have HR1 := Lib.hid (hx.blk HR0.out)
    have HAG := Lib.hid hag
    have hs1 : w.heap.size + 1 ≤ W1.heap.size := Nat.le_trans hs0 hx.size
    clear ho hx hag CL HX0 HR0 hs0
    obtain ⟨W2, hW2⟩ : ∃ W, W = W1.alloc (.cells #[.slice none 0 0, .slice none 0 0] 27) := ⟨_, rfl⟩
    obtain ⟨bo, hbo⟩ : ∃ n, n = W1.heap.size := ⟨_, rfl⟩
    have hX2 : Ext W1 W2 := by rw [hW2]; exact Ext.alloc _ _
    have hs2 : W2.heap.size = W1.heap.size + 1 := by rw [hW2, size_alloc]
    obtain ⟨lb, hlb⟩ : ∃ n, n = W2.heap.size := ⟨_, rfl⟩
    have HS2 : Hid (NY lb bo W2 none 0 [] none 0 [] W2) := ⟨by omega, by omega, by omega, by rw [hW2, hbo]; exact blk_alloc _ _, World.ownsRow_nil _ _ _ _, World.ownsRow_nil _ _ _ _, Keep.refl _ _ _⟩
    have HX2 := Lib.hid (HX1.out.trans hX2)
    have HR2 := Lib.hid (hX2.blk HR1.out)
    have HO2 := Lib.hid (own_ext HO1.out hX2)
    have hbo1 : w.heap.size + 1 ≤ bo := by omega
    have HGB : Hid (∀ g, a = some ⟨g, 0, none⟩ → g < bo) := fun g e => by
      have := (HO1.out.lt g (by rw [e]; rfl)).2
      omega
    have HW2 := Lib.hid hW2
    have HBO := Lib.hid hbo
    clear hW2 hbo hX2 hs2 hlb HX1 HR1 HO1
    go_wp2_with fail
    rw [← HBO.out]
    rw [← HW2.out]
    clear HW2 HBO hs1
    go_loopw [21] (fun t wr => ∃ (k : Nat) (ta : Option Addr) (tc : Nat) (T : List TowerT) (la : Option Addr) (lc : Nat) (L : List LinkT), k ≤ n ∧ t = .int .i64 k ∧ Hid (F = (P.drop k).foldl stepS (T, L)) ∧ T.length + L.length ≤ k ∧ Hid (NY lb bo W2 ta tc T la lc L wr)) (fun t _ => n - (intOf t).toNat)
    case atStart => exact ⟨0, none, 0, [], none, 0, [], by omega, rfl, by unfold Hid; rw [HF.out, List.drop_zero], by simp, HS2⟩
    case round =>
      obtain ⟨k, ta, tc, T, la, lc, L, hk, rfl, hFD, hTL, hS⟩ := hrel
      have HSr := Lib.hid hS.out
      have HXr : Hid (Ext w wr) := HX2.out.keep hS.out.keep (by omega)
      have HRr : Hid (wr.heap[w.heap.size]? = some (.cells #[.slice none 0 0, .slice none 0 0] 27)) := hS.out.keep.blk HR2.out (Or.inl (by omega))
      clear hS
      by_cases hlt : k < n
      · obtain ⟨p, hp⟩ : ∃ p, P[k]? = some p := ⟨_, List.getElem?_eq_getElem (by rw [← HN.out]; exact hlt)⟩
        obtain ⟨g, rfl⟩ := HAG.out (by omega)
        have c0 := HSr.out.old (str_cell HO2.out hlt hp) (HGB.out g rfl)
        have hpl := HPL.out p (List.mem_of_getElem? hp)
        have hltI : (k : Int) < (n : Int) := by omega
        have hk0 : (0 : Int) ≤ (k : Int) := by omega
        have hst := fold_drop (n := (T, L)) hp
        rw [← hFD.out] at hst
        have CC := Lib.hid (c_l1Split p 32 wr hpl)
        have hoth := stepS_other (n := (T, L)) (line := p)
        have hgood := stepS_eq (T, L) p
        have hpp : ∀ x ∈ splitB 32 p, x.length ≤ 1048576 := fun x hx => Nat.le_trans (splitB_piece 32 p x hx) hpl
        obtain ⟨Q, hQ⟩ : ∃ Q, Q = splitB 32 p := ⟨_, rfl⟩
        rw [← hQ] at CC hoth hgood hpp
        clear hQ hp hpl
        go_wp2_with fail
        refine CC.out.mono ?_
        rintro e W6 ⟨v6, rfl, ho6, hx6⟩
        have HX6 := Lib.hid hx6
        have HO6 := Lib.hid ho6
        obtain ⟨a6, cap6, rfl, hag6, _⟩ := own_form ho6
        have HS6 := Lib.hid (HSr.out.ext hx6)
        clear ho6 hx6 CC c0
        by_cases hQ4 : Q.length = 4
        · obtain ⟨p0, p1, p2, p3, rfl⟩ : ∃ p0 p1 p2 p3, Q = [p0, p1, p2, p3] := by
            match Q, hQ4 with
            | [a, b, c, d], _ => exact ⟨a, b, c, d, rfl⟩
          obtain ⟨g6, rfl⟩ := hag6 (by simp)
          have d0 := str_cell (L := [p0, p1, p2, p3]) (k := 0) HO6.out (by simp) rfl
          have d1 := str_cell (L := [p0, p1, p2, p3]) (k := 1) HO6.out (by simp) rfl
          have d2 := str_cell (L := [p0, p1, p2, p3]) (k := 2) HO6.out (by simp) rfl
          have d3 := str_cell (L := [p0, p1, p2, p3]) (k := 3) HO6.out (by simp) rfl
          have D0 := Lib.hid d0
          have C1 := XT.cell d1
          have C2 := XT.cell d2
          have C3 := XT.cell d3
          obtain ⟨r1, hr1⟩ : ∃ r, r = rdL p1 := ⟨_, rfl⟩
          obtain ⟨r2, hr2⟩ : ∃ r, r = rdL p2 := ⟨_, rfl⟩
          obtain ⟨r3, hr3⟩ : ∃ r, r = rdL p3 := ⟨_, rfl⟩
          have R1 : Hid (∀ W, Calls Tryz.prog 53 #[.string ⟨p1.toArray⟩] W fun e w' => e = .returned (.int .i64 r1) ∧ Ext W w') := fun W => by rw [hr1]; exact c_l1Read p1 W (hpp p1 (by simp))
          have R2 : Hid (∀ W, Calls Tryz.prog 53 #[.string ⟨p2.toArray⟩] W fun e w' => e = .returned (.int .i64 r2) ∧ Ext W w') := fun W => by rw [hr2]; exact c_l1Read p2 W (hpp p2 (by simp))
          have R3 : Hid (∀ W, Calls Tryz.prog 53 #[.string ⟨p3.toArray⟩] W fun e w' => e = .returned (.int .i64 r3) ∧ Ext W w') := fun W => by rw [hr3]; exact c_l1Read p3 W (hpp p3 (by simp))
          rw [hgood] at hst
          simp only [← hr1, ← hr2, ← hr3] at hst
          simp only [List.length_cons, List.length_nil]
          clear hr1 hr2 hr3 hpp hoth hgood hag6 HO6 hQ4 d0 d1 d2 d3
          go_upto_region 10 with fail
          refine region_ext (by kernel_rfl) (by kernel_rfl) ?_
          repeat (go_big_quiet_step ((go_at_call 53; with_reducible (first | refine Calls.ext_of (R1.out _) | refine Calls.ext_of (R2.out _) | refine Calls.ext_of (R3.out _)))))
          refine wpQuiet_nil ?_
          intro wq hxq
          have HXq := Lib.hid (HX6.out.trans hxq)
          have HS7 := Lib.hid (HS6.out.ext hxq)
          have d0 := hxq.cell D0.out
          clear C1 C2 C3 R1 R2 R3 hxq D0
          by_cases hw : p0 = wTow
          · have hwb : (p0 == [116, 111, 119, 101, 114]) = true := by simp [hw, wTow]
            have hwb2 : (p0 == [108, 105, 110, 107]) = false := by rw [hw]; decide
            have HFN : Hid (F = (P.drop (k + 1)).foldl stepS (T ++ [(r1, r2, r3)], L)) := by
              unfold Hid
              rw [hst, if_pos hw]
            have e0 := blk_cell HS7.out.box (j := 0) (v := .slice ta T.length tc) rfl
            clear hst hw
            go_wp2_with (at_builtin; refine wpList_append_own _ rfl _ _ 24 rfl lb 54 t0 (.agg #[.int .i64 0, .int .i64 0, .int .i64 0]) 3 24 Tryz.underlying24 ht0 htz0 htz1 htz2 rfl (by decide) _ _ _ rfl (own_ext HS7.out.ownT (Ext.alloc _ _)) ⟨wq.heap.size, 0, none⟩ 1 1 [.int .i64 r1, .int .i64 r2, .int .i64 r3] rfl rfl (newY_cells3 _ _ _ _ _) (by intro u hu; simp at hu; rcases hu with rfl | rfl | rfl <;> rfl) (by unfold maxLen; omega) (by omega) (by have := HS7.out.lbw; simp; omega) ?_; intro v6 w6 hown6 hgr6 _; obtain ⟨a8, c8, rfl, _, _, _⟩ := own_form hown6; have hb6 := grownY_blk hgr6 (blk_old HS7.out.box) (ownY_nbox HS7.out.ownT HS7.out.box (by decide)); have e61 := blk_cell hb6 (j := 0) (v := .slice ta T.length tc) rfl; have f61 := blk_free hb6 0)
            have hl9 : (T ++ [((r1, r2, r3) : TowerT)]).length = T.length + 1 := by simp
            have hp9 := (HS7.out.ext (Ext.alloc _ _)).pushT (ta' := a8) (tc' := c8) (T' := T ++ [((r1, r2, r3) : TowerT)]) (by rw [hl9, flatY_T]; exact hown6) hgr6
            rw [hl9] at hp9
            have HS90 := Lib.hid hp9
            clear hown6 hgr6 hp9 hl9 hb6 e61 f61
            go_roundw
            case rel => exact ⟨k + 1, a8, c8, T ++ [(r1, r2, r3)], la, lc, L, by omega, by go_num, HFN, by simp; omega, by simpa using HS90⟩
            case measure => simp [intOf]; omega
          · have hwb : (p0 == [116, 111, 119, 101, 114]) = false := by
              simpa [wTow] using hw
            by_cases hw2 : p0 = wLnk
            · have hwb2 : (p0 == [108, 105, 110, 107]) = true := by simp [hw2, wLnk]
              have HFN : Hid (F = (P.drop (k + 1)).foldl stepS (T, L ++ [(r1, r2, r3)])) := by
                unfold Hid
                rw [hst, if_neg hw, if_pos hw2]
              have e1 := blk_cell HS7.out.box (j := 1) (v := .slice la L.length lc) rfl
              clear hst hw hw2
              go_wp2_with (at_builtin; refine wpList_append_own _ rfl _ _ 25 rfl lb 42 l0 (.agg #[.int .i64 0, .int .i64 0, .int .i64 0]) 3 24 Tryz.underlying25 hl0 hlz0 hlz1 hlz2 rfl (by decide) _ _ _ rfl (own_ext HS7.out.ownL (Ext.alloc _ _)) ⟨wq.heap.size, 0, none⟩ 1 1 [.int .i64 r1, .int .i64 r2, .int .i64 r3] rfl rfl (newY_cells3 _ _ _ _ _) (by intro u hu; simp at hu; rcases hu with rfl | rfl | rfl <;> rfl) (by unfold maxLen; omega) (by omega) (by have := HS7.out.lbw; simp; omega) ?_; intro v6 w6 hown6 hgr6 _; obtain ⟨a8, c8, rfl, _, _, _⟩ := own_form hown6; have hb6 := grownY_blk hgr6 (blk_old HS7.out.box) (ownY_nbox HS7.out.ownL HS7.out.box (by decide)); have e61 := blk_cell hb6 (j := 1) (v := .slice la L.length lc) rfl; have f61 := blk_free hb6 1)
              have hl9 : (L ++ [((r1, r2, r3) : LinkT)]).length = L.length + 1 := by simp
              have hp9 := (HS7.out.ext (Ext.alloc _ _)).pushL (la' := a8) (lc' := c8) (L' := L ++ [((r1, r2, r3) : LinkT)]) (by rw [hl9, flatY_L]; exact hown6) hgr6
              rw [hl9] at hp9
              have HS90 := Lib.hid hp9
              clear hown6 hgr6 hp9 hl9 hb6 e61 f61
              go_roundw
              case rel => exact ⟨k + 1, ta, tc, T, a8, c8, L ++ [(r1, r2, r3)], by omega, by go_num, HFN, by simp; omega, by simpa using HS90⟩
              case measure => simp [intOf]; omega
            · have hwb2 : (p0 == [108, 105, 110, 107]) = false := by
                simpa [wLnk] using hw2
              have HFN : Hid (F = (P.drop (k + 1)).foldl stepS (T, L)) := by
                unfold Hid
                rw [hst, if_neg hw, if_neg hw2]
              clear hst hw hw2
              go_wp2
              go_roundw
              case rel => exact ⟨k + 1, ta, tc, T, la, lc, L, by omega, by go_num, HFN, by omega, HS7⟩
              case measure => simp [intOf]; omega
        · have hne : ((Q.length : Int) != 4) = true := by simp; omega
          have HFN : Hid (F = (P.drop (k + 1)).foldl stepS (T, L)) := by
            unfold Hid
            rw [hst, hoth hQ4]
          clear hst hoth hgood hpp hag6 hQ4
          go_wp2
          go_roundw
          case rel => exact ⟨k + 1, ta, tc, T, la, lc, L, by omega, by go_num, HFN, by omega, HS6⟩
          case measure => simp [intOf]; omega
      · have hge : ¬ ((k : Int) < (n : Int)) := by omega
        have HFE : Hid (F = (T, L)) := by
          unfold Hid
          rw [hFD.out, List.drop_of_length_le (by rw [← HN.out]; omega)]; rfl
        clear hFD
        have e0 := blk_cell HSr.out.box (j := 0) (v := .slice ta T.length tc) rfl
        have e1 := blk_cell HSr.out.box (j := 1) (v := .slice la L.length lc) rfl
        have CG := Lib.hid (c_neGood _ _ _ (T, L) wr HSr.out.own.read (Nat.le_refl _))
        obtain ⟨qn, hqn⟩ : ∃ q, q = netB (T, L) := ⟨_, rfl⟩
        rw [← hqn] at CG
        have HQN := Lib.hid hqn
        clear hqn
        go_wp2_with fail
        refine CG.out.mono ?_
        rintro e W5 ⟨rfl, hx5⟩
        have HS5 := Lib.hid (HSr.out.ext hx5)
        have HX5 := Lib.hid (HXr.out.trans hx5)
        have HR5 := Lib.hid (hx5.blk HRr.out)
        clear hx5 e0 e1 CG
        cases qn with
        | false =>
          have HOF : Hid (True → O = none) := fun _ => by
            rw [HOK.out, HFE.out, if_neg]
            intro e
            have := HQN.out
            rw [e.2.1] at this; cases this
          have z0 := blk_cell (HR5.out) (j := 0) (v := .slice none 0 0) rfl
          have z1 := blk_cell (HR5.out) (j := 1) (v := .slice none 0 0) rfl
          have f0 := blk_free (HR5.out) 0
          have f1 := blk_free (HR5.out) 1
          have XX9 : Hid (Ext w W5) := HX5.out
          have HRS9 := Lib.hid (HR5.out)
          go_wp2
          obtain ⟨w9, hw9⟩ : ∃ W, W = (W5.setCell ⟨w.heap.size, 0, none⟩ (.slice none 0 0)).setCell ⟨w.heap.size, 1, none⟩ (.slice none 0 0) := ⟨_, rfl⟩
          rw [← hw9]
          have g1 : (W5.setCell ⟨w.heap.size, 0, none⟩ (.slice none 0 0)).heap[w.heap.size]? = some (.cells #[.slice none 0 0, .slice none 0 0] 27) := by rw [heap_setCell_same _ _ _ _ _ _ HRS9.out]; rfl
          have g2 : w9.heap[w.heap.size]? = some (.cells #[.slice none 0 0, .slice none 0 0] 27) := by rw [hw9, heap_setCell_same _ _ _ _ _ _ g1]; rfl
          have y0 := blk_cell g2 (j := 0) (v := .slice none 0 0) rfl
          have y1 := blk_cell g2 (j := 1) (v := .slice none 0 0) rfl
          have X9 : Ext w w9 := by rw [hw9]; exact (XX9.out.st (p := ⟨w.heap.size, 0, none⟩) (Nat.le_refl _) _).st (p := ⟨w.heap.size, 1, none⟩) (Nat.le_refl _) _
          clear hw9
          refine bodyPost_ret (v := .tuple #[.agg #[.slice none 0 0, .slice none 0 0], .bool false]) (by simp [results, Tryz.results24, go_sem, y0, y1]) rfl ⟨.agg #[.slice none 0 0, .slice none 0 0], ?_, ?_, X9⟩
          · rw [HOF.out trivial]; rfl
          · rw [HOF.out trivial]; exact own_nilNet _ _ _
        | true =>
          have k0 := blk_cell HS5.out.box (j := 0) (v := .slice ta T.length tc) rfl
          have k1 := blk_cell HS5.out.box (j := 1) (v := .slice la L.length lc) rfl
          have CT := Lib.hid (c_neText _ _ _ (T, L) W5 HS5.out.own.read (Nat.le_refl _) (net_nums HQN.out.symm))
          obtain ⟨A, hA⟩ : ∃ A, A = txtL (T, L) := ⟨_, rfl⟩
          rw [← hA] at CT
          have HAA := Lib.hid hA
          clear hA
          go_wp2_with fail
          refine CT.out.mono ?_
          rintro e W7 ⟨rfl, hx7⟩
          have HS7 := Lib.hid (HS5.out.ext hx7)
          have HX7 := Lib.hid (HX5.out.trans hx7)
          have HR7 := Lib.hid (hx7.blk HR5.out)
          clear hx7 k0 k1 CT
          by_cases hAl : A = l
          · have hb : (A == l) = true := by simpa using hAl
            have HOE : Hid (O = some (T, L)) := by
              unfold Hid
              rw [HOK.out, HFE.out, if_pos ⟨hn57, HQN.out.symm, by rw [← HAA.out]; exact hAl⟩]
            have k0 := blk_cell HS7.out.box (j := 0) (v := .slice ta T.length tc) rfl
            have k1 := blk_cell HS7.out.box (j := 1) (v := .slice la L.length lc) rfl
            have z0 := blk_cell HR7.out (j := 0) (v := .slice none 0 0) rfl
            have z1 := blk_cell HR7.out (j := 1) (v := .slice none 0 0) rfl
            have f0 := blk_free HR7.out 0
            have f1 := blk_free HR7.out 1
            clear hAl
            go_wp2
            obtain ⟨w9, hw9⟩ : ∃ W, W = (W7.setCell ⟨w.heap.size, 0, none⟩ (.slice ta T.length tc)).setCell ⟨w.heap.size, 1, none⟩ (.slice la L.length lc) := ⟨_, rfl⟩
            rw [← hw9]
            have g1 : (W7.setCell ⟨w.heap.size, 0, none⟩ (.slice ta T.length tc)).heap[w.heap.size]? = some (.cells #[.slice ta T.length tc, .slice none 0 0] 27) := by rw [heap_setCell_same _ _ _ _ _ _ HR7.out]; rfl
            have g2 : w9.heap[w.heap.size]? = some (.cells #[.slice ta T.length tc, .slice la L.length lc] 27) := by rw [hw9, heap_setCell_same _ _ _ _ _ _ g1]; rfl
            have y0 := blk_cell g2 (j := 0) (v := .slice ta T.length tc) rfl
            have y1 := blk_cell g2 (j := 1) (v := .slice la L.length lc) rfl
            have X9 : Ext w w9 := by rw [hw9]; exact (HX7.out.st (p := ⟨w.heap.size, 0, none⟩) (Nat.le_refl _) _).st (p := ⟨w.heap.size, 1, none⟩) (Nat.le_refl _) _
            have hlbo := HS7.out.bol
            have o1 : w9.ownsRow w.heap.size 54 3 (.slice ta T.length tc) T.length (T.flatMap encTower) := by
              rw [hw9]
              exact own_mono (ownsRow_setCell_below (ownsRow_setCell_below HS7.out.ownT (by dsimp only; omega) _) (by dsimp only; omega) _) (by omega)
            have o2 : w9.ownsRow w.heap.size 42 3 (.slice la L.length lc) L.length (L.flatMap encLink) := by
              rw [hw9]
              exact own_mono (ownsRow_setCell_below (ownsRow_setCell_below HS7.out.ownL (by dsimp only; omega) _) (by dsimp only; omega) _) (by omega)
            clear hw9
            refine bodyPost_ret (v := .tuple #[.agg #[.slice ta T.length tc, .slice la L.length lc], .bool true]) (by simp [results, Tryz.results24, go_sem, y0, y1]) rfl ⟨.agg #[.slice ta T.length tc, .slice la L.length lc], ?_, ?_, X9⟩
            · rw [HOE.out]; rfl
            · rw [HOE.out]
              exact ⟨_, _, rfl, ⟨o1, fun q hq => (o1.lt q hq).2⟩, ⟨o2, fun q hq => (o2.lt q hq).2⟩, ownY_ntype o1 o2 (by decide)⟩
          · have hb : (A == l) = false := by simpa using hAl
            have HOF : Hid (True → O = none) := fun _ => by
              rw [HOK.out, HFE.out, if_neg]
              intro e
              exact hAl (by rw [HAA.out]; exact e.2.2)
            clear hAl
            have z0 := blk_cell (HR7.out) (j := 0) (v := .slice none 0 0) rfl
            have z1 := blk_cell (HR7.out) (j := 1) (v := .slice none 0 0) rfl
            have f0 := blk_free (HR7.out) 0
            have f1 := blk_free (HR7.out) 1
            have XX9 : Hid (Ext w W7) := HX7.out
            have HRS9 := Lib.hid (HR7.out)
            go_wp2
            obtain ⟨w9, hw9⟩ : ∃ W, W = (W7.setCell ⟨w.heap.size, 0, none⟩ (.slice none 0 0)).setCell ⟨w.heap.size, 1, none⟩ (.slice none 0 0) := ⟨_, rfl⟩
            rw [← hw9]
            have g1 : (W7.setCell ⟨w.heap.size, 0, none⟩ (.slice none 0 0)).heap[w.heap.size]? = some (.cells #[.slice none 0 0, .slice none 0 0] 27) := by rw [heap_setCell_same _ _ _ _ _ _ HRS9.out]; rfl
            have g2 : w9.heap[w.heap.size]? = some (.cells #[.slice none 0 0, .slice none 0 0] 27) := by rw [hw9, heap_setCell_same _ _ _ _ _ _ g1]; rfl
            have y0 := blk_cell g2 (j := 0) (v := .slice none 0 0) rfl
            have y1 := blk_cell g2 (j := 1) (v := .slice none 0 0) rfl
            have X9 : Ext w w9 := by rw [hw9]; exact (XX9.out.st (p := ⟨w.heap.size, 0, none⟩) (Nat.le_refl _) _).st (p := ⟨w.heap.size, 1, none⟩) (Nat.le_refl _) _
            clear hw9
            refine bodyPost_ret (v := .tuple #[.agg #[.slice none 0 0, .slice none 0 0], .bool false]) (by simp [results, Tryz.results24, go_sem, y0, y1]) rfl ⟨.agg #[.slice none 0 0, .slice none 0 0], ?_, ?_, X9⟩
            · rw [HOF.out trivial]; rfl
            · rw [HOF.out trivial]; exact own_nilNet _ _ _
end Go.Proofs.YtmaaeemhbccpcaaGreatDoor
