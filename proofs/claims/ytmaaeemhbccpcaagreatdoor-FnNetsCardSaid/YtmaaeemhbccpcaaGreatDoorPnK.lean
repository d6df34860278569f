
/- ParseNet of the program: its contract. -/
import Derived.Test.YtmaaeemhbccpcaaGreatDoorPnJ
import Derived.Test.YtmaaeemhbccpcaaGreatDoorNY
import Derived.Test.YtmaaeemhbccpcaaGreatDoorIsNet
namespace Go.Proofs.YtmaaeemhbccpcaaGreatDoor
open Go.RowKit
set_option linter.unusedSimpArgs false
set_option linter.unusedVariables false
theorem grownY_cell {W w6 : World} {row : Option Nat} (hg : W.grownBy w6 row) {p : Addr} {v : Value} (h : W.cell? p = some v) (hr : row ≠ some p.block) : w6.cell? p = some v := by
  rw [World.cell?_of_block (w := W) (hg.block p.block (World.block_lt_of_cell? W p h) (fun e => hr e.symm))]
  exact h
theorem lines_bd {l : List UInt8} {L : List (List UInt8)} (h : linesO l = some L) : L.length ≤ l.length + 1 ∧ ∀ p ∈ L, p.length ≤ l.length := by
  unfold linesO at h
  split at h
  · simp at h; subst h; simp
  · split at h
    · simp at h
      subst h
      have hT : (Lib.trimSuffix l [10]).length ≤ l.length := by
        unfold Lib.trimSuffix
        split <;> simp
      have h1 := splitB_len 10 (Lib.trimSuffix l [10])
      exact ⟨by omega, fun p hp => Nat.le_trans (splitB_piece 10 _ p hp) hT⟩
    · cases h
theorem imOk_eq (l : List UInt8) : imOk l = match linesO l with
    | none => none
    | some L => match imFold ([], []) L with
      | none => none
      | some n => if netB n then some n else none := rfl
theorem imStep_eq (n : NetT) (line : List UInt8) : imStep n line = match snO (splitB 32 (cutP 32 line).2) with
  | some [a, b, c] => if (cutP 32 line).1 = wTow ∧ n.2 = [] then some (n.1 ++ [(a, b, c)], n.2) else if (cutP 32 line).1 = wLnk then some (n.1, n.2 ++ [(a, b, c)]) else none
  | _ => none := rfl
theorem imFold_drop {n : NetT} {P : List (List UInt8)} {k : Nat} {p : List UInt8} (h : P[k]? = some p) : imFold n (P.drop k) = match imStep n p with
    | none => none
    | some m => imFold m (P.drop (k + 1)) := by
  have hk : k < P.length := (List.getElem?_eq_some_iff.1 h).1
  have e : P.drop k = p :: P.drop (k + 1) := by
    rw [List.drop_eq_getElem_cons hk]; congr 1; exact (List.getElem?_eq_some_iff.1 h).2
  rw [e]; rfl
theorem imStep_bad {n : NetT} {line : List UInt8} (h : ∀ a b c, snO (splitB 32 (cutP 32 line).2) ≠ some [a, b, c]) : imStep n line = none := by
  rw [imStep_eq]
  split
  · rename_i a b c e; exact absurd e (h a b c)
  · rfl
theorem own_nilNet (w : World) (lo hi : Nat) : OwnNet w lo hi (.agg #[.slice none 0 0, .slice none 0 0]) ([], []) :=
  ⟨_, _, rfl, ⟨World.ownsRow_nil _ _ _ _, fun q hq => by simp [Value.ownBlock] at hq⟩, ⟨World.ownsRow_nil _ _ _ _, fun q hq => by simp [Value.ownBlock] at hq⟩, fun q hq => by simp [Value.ownBlock] at hq⟩
set_option maxRecDepth 100000 in
set_option maxHeartbeats 4000000 in
theorem c_iParse (l : List UInt8) (w : World) (hl : l.length ≤ 1048576) (h : PnW w) :
    Calls Tryz.prog 14 #[.string ⟨l.toArray⟩] w fun e w' => ∃ v, e = .returned (.tuple #[v, .bool (imOk l).isSome]) ∧ OwnNet w' w.heap.size w'.heap.size v ((imOk l).getD ([], [])) ∧ Ext w w' := by
  obtain ⟨t0, ht0, htz0, htz1, htz2⟩ := info_parts Tryz.info_tower
  obtain ⟨l0, hl0, hlz0, hlz1, hlz2⟩ := info_parts Tryz.info_link
  have HPN : Hid (∀ W, Ext w W → PnW W) := fun W hX => h.ext hX
  obtain ⟨O, hO⟩ : ∃ O, O = imOk l := ⟨_, rfl⟩
  rw [← hO]
  rw [imOk_eq] at hO
  obtain ⟨W0, hW0⟩ : ∃ W, W = w.alloc (.cells #[.slice none 0 0, .slice none 0 0] 27) := ⟨_, rfl⟩
  have HX0 : Hid (Ext w W0) := by unfold Hid; rw [hW0]; exact Ext.alloc _ _
  have HR0 : Hid (W0.heap[w.heap.size]? = some (.cells #[.slice none 0 0, .slice none 0 0] 27)) := by unfold Hid; rw [hW0]; exact blk_alloc _ _
  have hs0 : w.heap.size + 1 ≤ W0.heap.size := by rw [hW0, size_alloc]; omega
  have CL := Lib.hid (c_linesOf l W0 hl (HPN.out _ HX0.out))
  have HW0 := Lib.hid hW0
  obtain ⟨R, hR⟩ : ∃ R, R = linesO l := ⟨_, rfl⟩
  rw [← hR] at CL hO
  have hbd : ∀ P, R = some P → P.length ≤ 1048577 ∧ ∀ p ∈ P, p.length ≤ 1048576 := fun P hP => by
    have := lines_bd (hR ▸ hP : linesO l = some P)
    exact ⟨by omega, fun p hp => Nat.le_trans (this.2 p hp) hl⟩
  clear hR hW0 h hl
  cases R with
  | none =>
    have HOF : Hid (True → O = none) := fun _ => hO
    clear hO hbd
    go_enter Tryz.func14, Tryz.ntmps14
    go_wp2_with fail
    rw [← HW0.out]
    clear HW0
    refine CL.out.mono ?_
    rintro e W1 ⟨v, rfl, ho, hx⟩
    obtain ⟨a, cap, rfl, _, _, _⟩ := own_form ho
    have HX1 := Lib.hid (HX0.out.trans hx)
    have HR1 := Lib.hid (hx.blk HR0.out)
    clear ho hx
    have z0 := blk_cell (HR1.out) (j := 0) (v := .slice none 0 0) rfl
    have z1 := blk_cell (HR1.out) (j := 1) (v := .slice none 0 0) rfl
    have f0 := blk_free (HR1.out) 0
    have f1 := blk_free (HR1.out) 1
    have XX9 : Hid (Ext w W1) := HX1.out
    have HRS9 := Lib.hid (HR1.out)
    go_wp2
    obtain ⟨w9, hw9⟩ : ∃ W, W = (W1.setCell ⟨w.heap.size, 0, none⟩ (.slice none 0 0)).setCell ⟨w.heap.size, 1, none⟩ (.slice none 0 0) := ⟨_, rfl⟩
    rw [← hw9]
    have g1 : (W1.setCell ⟨w.heap.size, 0, none⟩ (.slice none 0 0)).heap[w.heap.size]? = some (.cells #[.slice none 0 0, .slice none 0 0] 27) := by rw [heap_setCell_same _ _ _ _ _ _ HRS9.out]; rfl
    have g2 : w9.heap[w.heap.size]? = some (.cells #[.slice none 0 0, .slice none 0 0] 27) := by rw [hw9, heap_setCell_same _ _ _ _ _ _ g1]; rfl
    have y0 := blk_cell g2 (j := 0) (v := .slice none 0 0) rfl
    have y1 := blk_cell g2 (j := 1) (v := .slice none 0 0) rfl
    have X9 : Ext w w9 := by rw [hw9]; exact (XX9.out.st (p := ⟨w.heap.size, 0, none⟩) (Nat.le_refl _) _).st (p := ⟨w.heap.size, 1, none⟩) (Nat.le_refl _) _
    clear hw9
    refine bodyPost_ret (v := .tuple #[.agg #[.slice none 0 0, .slice none 0 0], .bool false]) (by simp [results, Tryz.results14, go_sem, y0, y1]) rfl ⟨.agg #[.slice none 0 0, .slice none 0 0], ?_, ?_, X9⟩
    · rw [HOF.out trivial]; rfl
    · rw [HOF.out trivial]; exact own_nilNet _ _ _
  | some P =>
    obtain ⟨hn20, hpl⟩ := hbd P rfl
    simp only [Option.getD_some, Option.isSome_some] at CL hO
    obtain ⟨n, hn⟩ : ∃ n, n = P.length := ⟨_, rfl⟩
    rw [← hn] at CL hn20
    obtain ⟨F, hF⟩ : ∃ F, F = imFold ([], []) P := ⟨_, rfl⟩
    rw [← hF] at hO
    have HN := Lib.hid hn
    have HF := Lib.hid hF
    have HOK := Lib.hid hO
    have HPL := Lib.hid hpl
    have HOF : Hid (F = none → O = none) := fun e => by rw [HOK.out, e]
    clear hn hF hO hbd hpl
    go_enter Tryz.func14, Tryz.ntmps14
    go_wp2_with fail
    rw [← HW0.out]
    clear HW0
    refine CL.out.mono ?_
    rintro e W1 ⟨v, rfl, ho, hx⟩
    obtain ⟨a, cap, rfl, hag, _, _⟩ := own_form ho
    have HO1 := Lib.hid ho
    have HX1 := Lib.hid (HX0.out.trans hx)
    have HR1 := Lib.hid (hx.blk HR0.out)
    have HAG := Lib.hid hag
    have hs1 : w.heap.size + 1 ≤ W1.heap.size := Nat.le_trans hs0 hx.size
    clear ho hx hag CL HX0 HR0 hs0
    obtain ⟨W2, hW2⟩ : ∃ W, W = W1.alloc (.cells #[.slice none 0 0, .slice none 0 0] 27) := ⟨_, rfl⟩
    obtain ⟨bo, hbo⟩ : ∃ n, n = W1.heap.size := ⟨_, rfl⟩
    have hX2 : Ext W1 W2 := by rw [hW2]; exact Ext.alloc _ _
    have hs2 : W2.heap.size = W1.heap.size + 1 := by rw [hW2, size_alloc]
    obtain ⟨lb, hlb⟩ : ∃ n, n = W2.heap.size := ⟨_, rfl⟩
    have HS2 : Hid (NY lb bo W2 none 0 [] none 0 [] W2) := ⟨by omega, by omega, by omega, by rw [hW2, hbo]; exact blk_alloc _ _, World.ownsRow_nil _ _ _ _, World.ownsRow_nil _ _ _ _, Keep.refl _ _ _⟩
    have HX2 := Lib.hid (HX1.out.trans hX2)
    have HR2 := Lib.hid (hX2.blk HR1.out)
    have HO2 := Lib.hid (own_ext HO1.out hX2)
    have hbo1 : w.heap.size + 1 ≤ bo := by omega
    have HGB : Hid (∀ g, a = some ⟨g, 0, none⟩ → g < bo) := fun g e => by
      have := (HO1.out.lt g (by rw [e]; rfl)).2
      omega
    have HW2 := Lib.hid hW2
    have HBO := Lib.hid hbo
    clear hW2 hbo hX2 hs2 hlb HX1 HR1 HO1
    go_wp2_with fail
    rw [← HBO.out]
    rw [← HW2.out]
    clear HW2 HBO hs1
    go_loopw [24] (fun t wr => ∃ (k : Nat) (ta : Option Addr) (tc : Nat) (T : List TowerT) (la : Option Addr) (lc : Nat) (L : List LinkT), k ≤ n ∧ t = .int .i64 k ∧ Hid (F = imFold (T, L) (P.drop k)) ∧ T.length + L.length ≤ k ∧ Hid (NY lb bo W2 ta tc T la lc L wr)) (fun t _ => n - (intOf t).toNat)
    case atStart => exact ⟨0, none, 0, [], none, 0, [], by omega, rfl, by unfold Hid; rw [HF.out, List.drop_zero], by simp, HS2⟩
    case round =>
      obtain ⟨k, ta, tc, T, la, lc, L, hk, rfl, hFD, hTL, hS⟩ := hrel
      have HSr := Lib.hid hS.out
      have HXr : Hid (Ext w wr) := HX2.out.keep hS.out.keep (by omega)
      have HRr : Hid (wr.heap[w.heap.size]? = some (.cells #[.slice none 0 0, .slice none 0 0] 27)) := hS.out.keep.blk HR2.out (Or.inl (by omega))
      clear hS
      by_cases hlt : k < n
      · obtain ⟨p, hp⟩ : ∃ p, P[k]? = some p := ⟨_, List.getElem?_eq_getElem (by rw [← HN.out]; exact hlt)⟩
        obtain ⟨g, rfl⟩ := HAG.out (by omega)
        have c0 := HSr.out.old (str_cell HO2.out hlt hp) (HGB.out g rfl)
        have hpl := HPL.out p (List.mem_of_getElem? hp)
        have hltI : (k : Int) < (n : Int) := by omega
        have hk0 : (0 : Int) ≤ (k : Int) := by omega
        have hst := imFold_drop (n := (T, L)) hp
        rw [← hFD.out] at hst
        obtain ⟨cl1, cl2⟩ := cutP_len 32 p
        have CC := Lib.hid (c_Cut p wr hpl (HPN.out _ HXr.out))
        have CS0 : Hid (∀ W, Ext wr W → Calls Tryz.prog 43 #[.string ⟨(cutP 32 p).2.toArray⟩, .string ⟨#[32]⟩] W fun e w' => ∃ v, e = .returned (.tuple #[v, .bool (snO (splitB 32 (cutP 32 p).2)).isSome]) ∧ OwnI w' W.heap.size w'.heap.size v ((snO (splitB 32 (cutP 32 p).2)).getD []) ∧ Ext W w') := fun W hX => c_splitNumbers _ W (by omega) (HPN.out _ (HXr.out.trans hX))
        have hbad := imStep_bad (n := (T, L)) (line := p)
        have hgood := imStep_eq (T, L) p
        obtain ⟨q, hq⟩ : ∃ q, q = (cutP 32 p).1 := ⟨_, rfl⟩
        obtain ⟨rest, hre⟩ : ∃ q, q = (cutP 32 p).2 := ⟨_, rfl⟩
        obtain ⟨N, hN⟩ : ∃ N, N = snO (splitB 32 rest) := ⟨_, rfl⟩
        rw [← hq, ← hre] at CC
        rw [← hre, ← hN] at CS0 hbad
        rw [← hq, ← hre, ← hN] at hgood
        clear hq hre hN hp hpl cl1 cl2
        go_wp2_with fail
        refine CC.out.mono ?_
        rintro e W5 ⟨x5, rfl, hx5⟩
        have HX5 := Lib.hid hx5
        clear c0 hx5 CC
        go_wp2_with fail
        refine (CS0.out _ HX5.out).mono ?_
        rintro e W6 ⟨v6, rfl, ho6, hx6⟩
        have HX6 := Lib.hid (HX5.out.trans hx6)
        have hs5 := HX5.out.size
        have HO6 := Lib.hid ho6
        obtain ⟨a6, cap6, rfl, hag6, _⟩ := own_form ho6.own
        clear ho6 hx6 CS0
        have HS6 := Lib.hid (HSr.out.ext HX6.out)
        have hbadF : (∀ a b c, N ≠ some [a, b, c]) → F = none := fun hh => by rw [hst, hbad hh]
        clear hbad
        cases N with
        | none =>
          have HFF := Lib.hid (hbadF (fun a b c e => by cases e))
          clear hbadF hgood hst
          have z0 := blk_cell (HX6.out.blk HRr.out) (j := 0) (v := .slice none 0 0) rfl
          have z1 := blk_cell (HX6.out.blk HRr.out) (j := 1) (v := .slice none 0 0) rfl
          have f0 := blk_free (HX6.out.blk HRr.out) 0
          have f1 := blk_free (HX6.out.blk HRr.out) 1
          have XX9 : Hid (Ext w W6) := HXr.out.trans HX6.out
          have HRS9 := Lib.hid (HX6.out.blk HRr.out)
          go_wp2
          obtain ⟨w9, hw9⟩ : ∃ W, W = (W6.setCell ⟨w.heap.size, 0, none⟩ (.slice none 0 0)).setCell ⟨w.heap.size, 1, none⟩ (.slice none 0 0) := ⟨_, rfl⟩
          rw [← hw9]
          have g1 : (W6.setCell ⟨w.heap.size, 0, none⟩ (.slice none 0 0)).heap[w.heap.size]? = some (.cells #[.slice none 0 0, .slice none 0 0] 27) := by rw [heap_setCell_same _ _ _ _ _ _ HRS9.out]; rfl
          have g2 : w9.heap[w.heap.size]? = some (.cells #[.slice none 0 0, .slice none 0 0] 27) := by rw [hw9, heap_setCell_same _ _ _ _ _ _ g1]; rfl
          have y0 := blk_cell g2 (j := 0) (v := .slice none 0 0) rfl
          have y1 := blk_cell g2 (j := 1) (v := .slice none 0 0) rfl
          have X9 : Ext w w9 := by rw [hw9]; exact (XX9.out.st (p := ⟨w.heap.size, 0, none⟩) (Nat.le_refl _) _).st (p := ⟨w.heap.size, 1, none⟩) (Nat.le_refl _) _
          clear hw9
          refine bodyPost_ret (v := .tuple #[.agg #[.slice none 0 0, .slice none 0 0], .bool false]) (by simp [results, Tryz.results14, go_sem, y0, y1]) rfl ⟨.agg #[.slice none 0 0, .slice none 0 0], ?_, ?_, X9⟩
          · rw [HOF.out HFF.out]; rfl
          · rw [HOF.out HFF.out]; exact own_nilNet _ _ _
        | some Q =>
          simp only [Option.getD_some, Option.isSome_some] at HO6 hag6 ⊢
          by_cases hQ : Q.length = 3
          · obtain ⟨a, b, c, rfl⟩ : ∃ a b c, Q = [a, b, c] := by
              match Q, hQ with
              | [a, b, c], _ => exact ⟨a, b, c, rfl⟩
            obtain ⟨g3, rfl⟩ := hag6 (by simp)
            have HV : Hid (∀ j x, ([.int .i64 a, .int .i64 b, .int .i64 c] : List Value)[j]? = some x → W6.cell? ⟨g3, j, none⟩ = some x) := fun j x hx => by
              have := HO6.out.own.cellAt j (by have := (List.getElem?_eq_some_iff.1 hx).1; simpa using this)
              rw [this]
              exact hx
            have hg3 : W5.heap.size ≤ g3 := (HO6.out.own.lt g3 rfl).1
            simp only [List.length_cons, List.length_nil] at hgood ⊢
            clear HO6 hag6 hQ hbadF
            have e0 := blk_cell HS6.out.box (j := 0) (v := .slice ta T.length tc) rfl
            have e1 := blk_cell HS6.out.box (j := 1) (v := .slice la L.length lc) rfl
            have l0c := HV.out 0 _ rfl
            have l1c := HV.out 1 _ rfl
            have l2c := HV.out 2 _ rfl
            by_cases hw : q = wTow
            · have hwb : (q == [116, 111, 119, 101, 114]) = true := by simp [hw, wTow]
              have hwb2 : (q == [108, 105, 110, 107]) = false := by rw [hw]; decide
              by_cases hL : L = []
              · have HFN : Hid (F = imFold (T ++ [(a, b, c)], L) (P.drop (k + 1))) := by
                  unfold Hid
                  rw [hst, hgood, if_pos ⟨hw, hL⟩]
                have hll : ((L.length : Int) == 0) = true := by rw [hL]; rfl
                have HNE : Hid ((Value.slice ta T.length tc).ownBlock ≠ some g3) := fun e => by
                  have := (HSr.out.ownT.lt g3 e).2
                  omega
                clear hst hgood hL hw
                go_upto_region 14 with fail
                clear e0 e1 l0c l1c l2c
                obtain ⟨w20, hwd⟩ : ∃ W, W = W6.drew := ⟨_, rfl⟩
                have HX20 : Hid (Ext W6 w20) := by unfold Hid; rw [hwd]; exact Ext.drew _
                have HS20 := Lib.hid (HS6.out.ext HX20.out)
                have HV20 : Hid (∀ j x, ([.int .i64 a, .int .i64 b, .int .i64 c] : List Value)[j]? = some x → w20.cell? ⟨g3, j, none⟩ = some x) := fun j x hx => HX20.out.cell (HV.out j x hx)
                refine wp_region_E (S := fun W => W.cell? ⟨bo, 0, none⟩ = some (.slice ta T.length tc) ∧ W.cell? ⟨g3, 0, none⟩ = some (.int .i64 a) ∧ W.cell? ⟨g3, 1, none⟩ = some (.int .i64 b) ∧ W.cell? ⟨g3, 2, none⟩ = some (.int .i64 c)) (by kernel_rfl) ?_
                rw [← hwd]
                clear hwd
                have hSS : (fun W : World => W.cell? ⟨bo, 0, none⟩ = some (.slice ta T.length tc) ∧ W.cell? ⟨g3, 0, none⟩ = some (.int .i64 a) ∧ W.cell? ⟨g3, 1, none⟩ = some (.int .i64 b) ∧ W.cell? ⟨g3, 2, none⟩ = some (.int .i64 c)) w20 := ⟨blk_cell HS20.out.box (j := 0) (v := .slice ta T.length tc) rfl, HV20.out 0 _ rfl, HV20.out 1 _ rfl, HV20.out 2 _ rfl⟩
                refine wpAnyE_take (i := 0) (v := ?_) rfl (by kernel_rfl) (by kernel_rfl) (by kernel_rfl) (fun _ _ _ h => h) (Or.inl ⟨by rfl, ?_⟩) (by assumption) ?_
                rotate_left 1
                focus (intro W hSW; (try dsimp only at hSW); obtain ⟨hs0, hs1, hs2, hs3⟩ := hSW; go_simp; try with_reducible rfl)
                (try simp only [Act.put, List.setIfInBounds_toArray, List.set_cons_zero, List.set_cons_succ])
                refine wpAnyE_take (i := 1) (v := ?_) rfl (by kernel_rfl) (by kernel_rfl) (by kernel_rfl) (fun _ _ _ h => h) (Or.inl ⟨by rfl, ?_⟩) (by assumption) ?_
                rotate_left 1
                focus (intro W hSW; (try dsimp only at hSW); obtain ⟨hs0, hs1, hs2, hs3⟩ := hSW; go_simp; try with_reducible rfl)
                (try simp only [Act.put, List.setIfInBounds_toArray, List.set_cons_zero, List.set_cons_succ])
                refine wpAnyE_take (i := 2) (v := ?_) rfl (by kernel_rfl) (by kernel_rfl) (by kernel_rfl) (fun _ _ _ h => h) (Or.inl ⟨by rfl, ?_⟩) (by assumption) ?_
                rotate_left 1
                focus (intro W hSW; (try dsimp only at hSW); obtain ⟨hs0, hs1, hs2, hs3⟩ := hSW; go_simp; try with_reducible rfl)
                (try simp only [Act.put, List.setIfInBounds_toArray, List.set_cons_zero, List.set_cons_succ])
                refine wpAnyE_take (i := 3) (v := ?_) rfl (by kernel_rfl) (by kernel_rfl) (by kernel_rfl) (fun _ _ _ h => h) (Or.inl ⟨by rfl, ?_⟩) (by assumption) ?_
                rotate_left 1
                focus (intro W hSW; (try dsimp only at hSW); obtain ⟨hs0, hs1, hs2, hs3⟩ := hSW; go_simp; try with_reducible rfl)
                (try simp only [Act.put, List.setIfInBounds_toArray, List.set_cons_zero, List.set_cons_succ])
                refine wpAnyE_take (i := 4) (v := ?_) rfl (by kernel_rfl) (by kernel_rfl) (by kernel_rfl) (fun _ _ _ h => h) (Or.inl ⟨by rfl, ?_⟩) (by assumption) ?_
                rotate_left 1
                focus (intro W hSW; (try dsimp only at hSW); obtain ⟨hs0, hs1, hs2, hs3⟩ := hSW; go_simp; try with_reducible rfl)
                (try simp only [Act.put, List.setIfInBounds_toArray, List.set_cons_zero, List.set_cons_succ])
                refine wpAnyE_take (i := 5) (v := ?_) rfl (by kernel_rfl) (by kernel_rfl) (by kernel_rfl) (fun _ _ _ h => h) (Or.inl ⟨by rfl, ?_⟩) (by assumption) ?_
                rotate_left 1
                focus (intro W hSW; (try dsimp only at hSW); obtain ⟨hs0, hs1, hs2, hs3⟩ := hSW; go_simp; try with_reducible rfl)
                (try simp only [Act.put, List.setIfInBounds_toArray, List.set_cons_zero, List.set_cons_succ])
                refine wpAnyE_take (i := 6) (v := ?_) rfl (by kernel_rfl) (by kernel_rfl) (by kernel_rfl) (fun _ _ _ h => h) (Or.inl ⟨by rfl, ?_⟩) (by assumption) ?_
                rotate_left 1
                focus (intro W hSW; (try dsimp only at hSW); obtain ⟨hs0, hs1, hs2, hs3⟩ := hSW; go_simp; try with_reducible rfl)
                (try simp only [Act.put, List.setIfInBounds_toArray, List.set_cons_zero, List.set_cons_succ])
                refine wpAnyE_take (i := 7) (v := ?_) rfl (by kernel_rfl) (by kernel_rfl) (by kernel_rfl) (fun _ _ _ h => h) (Or.inl ⟨by rfl, ?_⟩) (by assumption) ?_
                rotate_left 1
                focus (intro W hSW; (try dsimp only at hSW); obtain ⟨hs0, hs1, hs2, hs3⟩ := hSW; go_simp; try with_reducible rfl)
                (try simp only [Act.put, List.setIfInBounds_toArray, List.set_cons_zero, List.set_cons_succ])
                refine wpAnyE_take (i := 8) (v := ?_) rfl (by kernel_rfl) (by kernel_rfl) (by kernel_rfl) (fun _ _ _ h => h) (Or.inl ⟨by rfl, ?_⟩) (by assumption) ?_
                rotate_left 1
                focus (intro W hSW; (try dsimp only at hSW); obtain ⟨hs0, hs1, hs2, hs3⟩ := hSW; go_simp; try with_reducible rfl)
                (try simp only [Act.put, List.setIfInBounds_toArray, List.set_cons_zero, List.set_cons_succ])
                refine wpAnyE_take (i := 9) (v := ?_) rfl (by kernel_rfl) (by kernel_rfl) (by kernel_rfl) (fun _ _ _ h => h) (Or.inl ⟨by rfl, ?_⟩) (by assumption) ?_
                rotate_left 1
                focus (intro W hSW; (try dsimp only at hSW); obtain ⟨hs0, hs1, hs2, hs3⟩ := hSW; go_simp; try with_reducible rfl)
                (try simp only [Act.put, List.setIfInBounds_toArray, List.set_cons_zero, List.set_cons_succ])
                refine wpAnyE_take (i := 10) (v := ?_) rfl (by kernel_rfl) (by kernel_rfl) (by kernel_rfl) (fun _ _ _ h => h) (Or.inl ⟨by rfl, ?_⟩) (by assumption) ?_
                rotate_left 1
                focus (intro W hSW; (try dsimp only at hSW); obtain ⟨hs0, hs1, hs2, hs3⟩ := hSW; go_simp; try with_reducible rfl)
                (try simp only [Act.put, List.setIfInBounds_toArray, List.set_cons_zero, List.set_cons_succ])
                refine wpAnyE_take (i := 11) (v := ?_) rfl (by kernel_rfl) (by kernel_rfl) (by kernel_rfl) (fun _ _ _ h => h) (Or.inl ⟨by rfl, ?_⟩) (by assumption) ?_
                rotate_left 1
                focus (intro W hSW; (try dsimp only at hSW); obtain ⟨hs0, hs1, hs2, hs3⟩ := hSW; go_simp; try with_reducible rfl)
                (try simp only [Act.put, List.setIfInBounds_toArray, List.set_cons_zero, List.set_cons_succ])
                refine wpAnyE_one (i := 12) (by kernel_rfl) rfl (fun K hK => ?_)
                have HK := Lib.hid hK
                clear hK
                go_simp
                obtain ⟨w29, hw9⟩ : ∃ W, W = w20.alloc (.cells #[.int .i64 a, .int .i64 b, .int .i64 c] 54) := ⟨_, rfl⟩
                rw [← hw9]
                obtain ⟨q9, hp9⟩ : ∃ p, p = w20.heap.size := ⟨_, rfl⟩
                rw [← hp9]
                have hx9 : Ext w20 w29 := by rw [hw9]; exact Ext.alloc _ _
                have HC9 : Hid (∀ j u, ([.int .i64 a, .int .i64 b, .int .i64 c] : List Value)[j]? = some u → w29.cell? ((⟨q9, 0, none⟩ : Addr).add j) = some u) := by unfold Hid; rw [hw9, hp9]; exact newY_cells3 _ _ _ _ _
                have HS29 := Lib.hid (HS20.out.ext hx9)
                have HV29 : Hid (∀ j x, ([.int .i64 a, .int .i64 b, .int .i64 c] : List Value)[j]? = some x → w29.cell? ⟨g3, j, none⟩ = some x) := fun j x hx => hx9.cell (HV20.out j x hx)
                clear hw9 hp9 hx9 hSS HS20 HV20
                have hSS : (fun W : World => W.cell? ⟨bo, 0, none⟩ = some (.slice ta T.length tc) ∧ W.cell? ⟨g3, 0, none⟩ = some (.int .i64 a) ∧ W.cell? ⟨g3, 1, none⟩ = some (.int .i64 b) ∧ W.cell? ⟨g3, 2, none⟩ = some (.int .i64 c)) w29 := ⟨blk_cell HS29.out.box (j := 0) (v := .slice ta T.length tc) rfl, HV29.out 0 _ rfl, HV29.out 1 _ rfl, HV29.out 2 _ rfl⟩
                refine HK.out _ _ (fun _ => hSS) ?_
                clear HK
                refine wpAnyE_one (i := 13) (by kernel_rfl) rfl (fun K hK => ?_)
                have HK := Lib.hid hK
                clear hK
                refine step_append_own rfl (.tmp 59) (.tmp 70) 24 rfl lb 54 t0 (.agg #[.int .i64 0, .int .i64 0, .int .i64 0]) 3 24 Tryz.underlying24 ht0 htz0 htz1 htz2 rfl (by decide) (.slice ta T.length tc) T.length (T.flatMap encTower) (by simp [Act.eval, Act.put]) HS29.out.ownT ⟨q9, 0, none⟩ 1 1 [.int .i64 a, .int .i64 b, .int .i64 c] (by simp [Act.eval, Act.put]) rfl HC9.out (by intro u hu; simp at hu; rcases hu with rfl | rfl | rfl <;> rfl) (by unfold maxLen; omega) (by omega) HS29.out.lbw ?_
                intro v6 w6 hown6 hgr6
                obtain ⟨a8, c8, rfl, _, _, _⟩ := own_form hown6
                have hb6 := grownY_blk hgr6 HS29.out.box (ownY_nbox HS29.out.ownT HS29.out.box (by decide))
                have hl9 : (T ++ [((a, b, c) : TowerT)]).length = T.length + 1 := by simp
                have hp9 := HS29.out.pushT (ta' := a8) (tc' := c8) (T' := T ++ [((a, b, c) : TowerT)]) (by rw [hl9, flatY_T]; exact hown6) hgr6
                rw [hl9] at hp9
                have HS90 := Lib.hid hp9
                clear hSS
                have hSS : (fun W : World => W.cell? ⟨bo, 0, none⟩ = some (.slice ta T.length tc) ∧ W.cell? ⟨g3, 0, none⟩ = some (.int .i64 a) ∧ W.cell? ⟨g3, 1, none⟩ = some (.int .i64 b) ∧ W.cell? ⟨g3, 2, none⟩ = some (.int .i64 c)) w6 := ⟨blk_cell hb6 (j := 0) (v := .slice ta T.length tc) rfl, grownY_cell hgr6 (HV29.out 0 _ rfl) HNE.out, grownY_cell hgr6 (HV29.out 1 _ rfl) HNE.out, grownY_cell hgr6 (HV29.out 2 _ rfl) HNE.out⟩
                clear hown6 hgr6 hp9 hl9 HC9
                refine HK.out _ _ (fun _ => hSS) ?_
                clear HK
                refine wpAnyE_take (i := 14) (v := ?_) rfl (by kernel_rfl) (by kernel_rfl) (by kernel_rfl) (fun _ _ _ h => h) (Or.inl ⟨by rfl, ?_⟩) (by assumption) ?_
                rotate_left 1
                focus (intro W hSW; (try dsimp only at hSW); obtain ⟨hs0, hs1, hs2, hs3⟩ := hSW; go_simp; try with_reducible rfl)
                (try simp only [Act.put, List.setIfInBounds_toArray, List.set_cons_zero, List.set_cons_succ])
                have e61 := blk_cell hb6 (j := 0) (v := .slice ta T.length tc) rfl
                have f61 := blk_free hb6 0
                clear hSS hb6
                refine wpAnyE_one (i := 15) (by kernel_rfl) rfl (fun K hK => ?_)
                have HK := Lib.hid hK
                clear hK
                go_simp
                refine HK.out _ _ (fun hn => absurd ?_ hn) (wpAnyE_done (by kernel_rfl) ?_ _)
                · intro oj hoj q hq hne
                  cases hoj
                  revert hne
                  revert q
                  decide
                clear e61 f61 HK
                go_wp2
                go_roundw
                case rel => exact ⟨k + 1, a8, c8, T ++ [(a, b, c)], la, lc, L, by omega, by go_num, HFN, by simp; omega, by simpa using HS90⟩
                case measure => simp [intOf]; omega
              · have hFF : F = none := by
                  rw [hst, hgood, if_neg (fun e => hL e.2), if_neg (by rw [hw]; decide)]
                have HFF := Lib.hid hFF
                have hll : ((L.length : Int) == 0) = false := by
                  have : L.length ≠ 0 := fun e => hL (List.eq_nil_of_length_eq_zero e)
                  simp; omega
                clear hst hgood hL hw hFF
                have z0 := blk_cell (HX6.out.blk HRr.out) (j := 0) (v := .slice none 0 0) rfl
                have z1 := blk_cell (HX6.out.blk HRr.out) (j := 1) (v := .slice none 0 0) rfl
                have f0 := blk_free (HX6.out.blk HRr.out) 0
                have f1 := blk_free (HX6.out.blk HRr.out) 1
                have XX9 : Hid (Ext w W6) := HXr.out.trans HX6.out
                have HRS9 := Lib.hid (HX6.out.blk HRr.out)
                go_wp2
                obtain ⟨w9, hw9⟩ : ∃ W, W = (W6.setCell ⟨w.heap.size, 0, none⟩ (.slice none 0 0)).setCell ⟨w.heap.size, 1, none⟩ (.slice none 0 0) := ⟨_, rfl⟩
                rw [← hw9]
                have g1 : (W6.setCell ⟨w.heap.size, 0, none⟩ (.slice none 0 0)).heap[w.heap.size]? = some (.cells #[.slice none 0 0, .slice none 0 0] 27) := by rw [heap_setCell_same _ _ _ _ _ _ HRS9.out]; rfl
                have g2 : w9.heap[w.heap.size]? = some (.cells #[.slice none 0 0, .slice none 0 0] 27) := by rw [hw9, heap_setCell_same _ _ _ _ _ _ g1]; rfl
                have y0 := blk_cell g2 (j := 0) (v := .slice none 0 0) rfl
                have y1 := blk_cell g2 (j := 1) (v := .slice none 0 0) rfl
                have X9 : Ext w w9 := by rw [hw9]; exact (XX9.out.st (p := ⟨w.heap.size, 0, none⟩) (Nat.le_refl _) _).st (p := ⟨w.heap.size, 1, none⟩) (Nat.le_refl _) _
                clear hw9
                refine bodyPost_ret (v := .tuple #[.agg #[.slice none 0 0, .slice none 0 0], .bool false]) (by simp [results, Tryz.results14, go_sem, y0, y1]) rfl ⟨.agg #[.slice none 0 0, .slice none 0 0], ?_, ?_, X9⟩
                · rw [HOF.out HFF.out]; rfl
                · rw [HOF.out HFF.out]; exact own_nilNet _ _ _
            · have hwb : (q == [116, 111, 119, 101, 114]) = false := by
                simpa [wTow] using hw
              by_cases hw2 : q = wLnk
              · have hwb2 : (q == [108, 105, 110, 107]) = true := by simp [hw2, wLnk]
                have HFN : Hid (F = imFold (T, L ++ [(a, b, c)]) (P.drop (k + 1))) := by
                  unfold Hid
                  rw [hst, hgood, if_neg (fun e => hw e.1), if_pos hw2]
                have HNE : Hid ((Value.slice la L.length lc).ownBlock ≠ some g3) := fun e => by
                  have := (HSr.out.ownL.lt g3 e).2
                  omega
                clear hst hgood hw2 hw
                go_upto_region 16 with fail
                clear e0 e1 l0c l1c l2c
                obtain ⟨w20, hwd⟩ : ∃ W, W = W6.drew := ⟨_, rfl⟩
                have HX20 : Hid (Ext W6 w20) := by unfold Hid; rw [hwd]; exact Ext.drew _
                have HS20 := Lib.hid (HS6.out.ext HX20.out)
                have HV20 : Hid (∀ j x, ([.int .i64 a, .int .i64 b, .int .i64 c] : List Value)[j]? = some x → w20.cell? ⟨g3, j, none⟩ = some x) := fun j x hx => HX20.out.cell (HV.out j x hx)
                refine wp_region_E (S := fun W => W.cell? ⟨bo, 1, none⟩ = some (.slice la L.length lc) ∧ W.cell? ⟨g3, 0, none⟩ = some (.int .i64 a) ∧ W.cell? ⟨g3, 1, none⟩ = some (.int .i64 b) ∧ W.cell? ⟨g3, 2, none⟩ = some (.int .i64 c)) (by kernel_rfl) ?_
                rw [← hwd]
                clear hwd
                have hSS : (fun W : World => W.cell? ⟨bo, 1, none⟩ = some (.slice la L.length lc) ∧ W.cell? ⟨g3, 0, none⟩ = some (.int .i64 a) ∧ W.cell? ⟨g3, 1, none⟩ = some (.int .i64 b) ∧ W.cell? ⟨g3, 2, none⟩ = some (.int .i64 c)) w20 := ⟨blk_cell HS20.out.box (j := 1) (v := .slice la L.length lc) rfl, HV20.out 0 _ rfl, HV20.out 1 _ rfl, HV20.out 2 _ rfl⟩
                refine wpAnyE_take (i := 0) (v := ?_) rfl (by kernel_rfl) (by kernel_rfl) (by kernel_rfl) (fun _ _ _ h => h) (Or.inl ⟨by rfl, ?_⟩) (by assumption) ?_
                rotate_left 1
                focus (intro W hSW; (try dsimp only at hSW); obtain ⟨hs0, hs1, hs2, hs3⟩ := hSW; go_simp; try with_reducible rfl)
                (try simp only [Act.put, List.setIfInBounds_toArray, List.set_cons_zero, List.set_cons_succ])
                refine wpAnyE_take (i := 1) (v := ?_) rfl (by kernel_rfl) (by kernel_rfl) (by kernel_rfl) (fun _ _ _ h => h) (Or.inl ⟨by rfl, ?_⟩) (by assumption) ?_
                rotate_left 1
                focus (intro W hSW; (try dsimp only at hSW); obtain ⟨hs0, hs1, hs2, hs3⟩ := hSW; go_simp; try with_reducible rfl)
                (try simp only [Act.put, List.setIfInBounds_toArray, List.set_cons_zero, List.set_cons_succ])
                refine wpAnyE_take (i := 2) (v := ?_) rfl (by kernel_rfl) (by kernel_rfl) (by kernel_rfl) (fun _ _ _ h => h) (Or.inl ⟨by rfl, ?_⟩) (by assumption) ?_
                rotate_left 1
                focus (intro W hSW; (try dsimp only at hSW); obtain ⟨hs0, hs1, hs2, hs3⟩ := hSW; go_simp; try with_reducible rfl)
                (try simp only [Act.put, List.setIfInBounds_toArray, List.set_cons_zero, List.set_cons_succ])
                refine wpAnyE_take (i := 3) (v := ?_) rfl (by kernel_rfl) (by kernel_rfl) (by kernel_rfl) (fun _ _ _ h => h) (Or.inl ⟨by rfl, ?_⟩) (by assumption) ?_
                rotate_left 1
                focus (intro W hSW; (try dsimp only at hSW); obtain ⟨hs0, hs1, hs2, hs3⟩ := hSW; go_simp; try with_reducible rfl)
                (try simp only [Act.put, List.setIfInBounds_toArray, List.set_cons_zero, List.set_cons_succ])
                refine wpAnyE_take (i := 4) (v := ?_) rfl (by kernel_rfl) (by kernel_rfl) (by kernel_rfl) (fun _ _ _ h => h) (Or.inl ⟨by rfl, ?_⟩) (by assumption) ?_
                rotate_left 1
                focus (intro W hSW; (try dsimp only at hSW); obtain ⟨hs0, hs1, hs2, hs3⟩ := hSW; go_simp; try with_reducible rfl)
                (try simp only [Act.put, List.setIfInBounds_toArray, List.set_cons_zero, List.set_cons_succ])
                refine wpAnyE_take (i := 5) (v := ?_) rfl (by kernel_rfl) (by kernel_rfl) (by kernel_rfl) (fun _ _ _ h => h) (Or.inl ⟨by rfl, ?_⟩) (by assumption) ?_
                rotate_left 1
                focus (intro W hSW; (try dsimp only at hSW); obtain ⟨hs0, hs1, hs2, hs3⟩ := hSW; go_simp; try with_reducible rfl)
                (try simp only [Act.put, List.setIfInBounds_toArray, List.set_cons_zero, List.set_cons_succ])
                refine wpAnyE_take (i := 6) (v := ?_) rfl (by kernel_rfl) (by kernel_rfl) (by kernel_rfl) (fun _ _ _ h => h) (Or.inl ⟨by rfl, ?_⟩) (by assumption) ?_
                rotate_left 1
                focus (intro W hSW; (try dsimp only at hSW); obtain ⟨hs0, hs1, hs2, hs3⟩ := hSW; go_simp; try with_reducible rfl)
                (try simp only [Act.put, List.setIfInBounds_toArray, List.set_cons_zero, List.set_cons_succ])
                refine wpAnyE_take (i := 7) (v := ?_) rfl (by kernel_rfl) (by kernel_rfl) (by kernel_rfl) (fun _ _ _ h => h) (Or.inl ⟨by rfl, ?_⟩) (by assumption) ?_
                rotate_left 1
                focus (intro W hSW; (try dsimp only at hSW); obtain ⟨hs0, hs1, hs2, hs3⟩ := hSW; go_simp; try with_reducible rfl)
                (try simp only [Act.put, List.setIfInBounds_toArray, List.set_cons_zero, List.set_cons_succ])
                refine wpAnyE_take (i := 8) (v := ?_) rfl (by kernel_rfl) (by kernel_rfl) (by kernel_rfl) (fun _ _ _ h => h) (Or.inl ⟨by rfl, ?_⟩) (by assumption) ?_
                rotate_left 1
                focus (intro W hSW; (try dsimp only at hSW); obtain ⟨hs0, hs1, hs2, hs3⟩ := hSW; go_simp; try with_reducible rfl)
                (try simp only [Act.put, List.setIfInBounds_toArray, List.set_cons_zero, List.set_cons_succ])
                refine wpAnyE_take (i := 9) (v := ?_) rfl (by kernel_rfl) (by kernel_rfl) (by kernel_rfl) (fun _ _ _ h => h) (Or.inl ⟨by rfl, ?_⟩) (by assumption) ?_
                rotate_left 1
                focus (intro W hSW; (try dsimp only at hSW); obtain ⟨hs0, hs1, hs2, hs3⟩ := hSW; go_simp; try with_reducible rfl)
                (try simp only [Act.put, List.setIfInBounds_toArray, List.set_cons_zero, List.set_cons_succ])
                refine wpAnyE_take (i := 10) (v := ?_) rfl (by kernel_rfl) (by kernel_rfl) (by kernel_rfl) (fun _ _ _ h => h) (Or.inl ⟨by rfl, ?_⟩) (by assumption) ?_
                rotate_left 1
                focus (intro W hSW; (try dsimp only at hSW); obtain ⟨hs0, hs1, hs2, hs3⟩ := hSW; go_simp; try with_reducible rfl)
                (try simp only [Act.put, List.setIfInBounds_toArray, List.set_cons_zero, List.set_cons_succ])
                refine wpAnyE_take (i := 11) (v := ?_) rfl (by kernel_rfl) (by kernel_rfl) (by kernel_rfl) (fun _ _ _ h => h) (Or.inl ⟨by rfl, ?_⟩) (by assumption) ?_
                rotate_left 1
                focus (intro W hSW; (try dsimp only at hSW); obtain ⟨hs0, hs1, hs2, hs3⟩ := hSW; go_simp; try with_reducible rfl)
                (try simp only [Act.put, List.setIfInBounds_toArray, List.set_cons_zero, List.set_cons_succ])
                refine wpAnyE_one (i := 12) (by kernel_rfl) rfl (fun K hK => ?_)
                have HK := Lib.hid hK
                clear hK
                go_simp
                obtain ⟨w29, hw9⟩ : ∃ W, W = w20.alloc (.cells #[.int .i64 a, .int .i64 b, .int .i64 c] 42) := ⟨_, rfl⟩
                rw [← hw9]
                obtain ⟨q9, hp9⟩ : ∃ p, p = w20.heap.size := ⟨_, rfl⟩
                rw [← hp9]
                have hx9 : Ext w20 w29 := by rw [hw9]; exact Ext.alloc _ _
                have HC9 : Hid (∀ j u, ([.int .i64 a, .int .i64 b, .int .i64 c] : List Value)[j]? = some u → w29.cell? ((⟨q9, 0, none⟩ : Addr).add j) = some u) := by unfold Hid; rw [hw9, hp9]; exact newY_cells3 _ _ _ _ _
                have HS29 := Lib.hid (HS20.out.ext hx9)
                have HV29 : Hid (∀ j x, ([.int .i64 a, .int .i64 b, .int .i64 c] : List Value)[j]? = some x → w29.cell? ⟨g3, j, none⟩ = some x) := fun j x hx => hx9.cell (HV20.out j x hx)
                clear hw9 hp9 hx9 hSS HS20 HV20
                have hSS : (fun W : World => W.cell? ⟨bo, 1, none⟩ = some (.slice la L.length lc) ∧ W.cell? ⟨g3, 0, none⟩ = some (.int .i64 a) ∧ W.cell? ⟨g3, 1, none⟩ = some (.int .i64 b) ∧ W.cell? ⟨g3, 2, none⟩ = some (.int .i64 c)) w29 := ⟨blk_cell HS29.out.box (j := 1) (v := .slice la L.length lc) rfl, HV29.out 0 _ rfl, HV29.out 1 _ rfl, HV29.out 2 _ rfl⟩
                refine HK.out _ _ (fun _ => hSS) ?_
                clear HK
                refine wpAnyE_one (i := 13) (by kernel_rfl) rfl (fun K hK => ?_)
                have HK := Lib.hid hK
                clear hK
                refine step_append_own rfl (.tmp 77) (.tmp 88) 25 rfl lb 42 l0 (.agg #[.int .i64 0, .int .i64 0, .int .i64 0]) 3 24 Tryz.underlying25 hl0 hlz0 hlz1 hlz2 rfl (by decide) (.slice la L.length lc) L.length (L.flatMap encLink) (by simp [Act.eval, Act.put]) HS29.out.ownL ⟨q9, 0, none⟩ 1 1 [.int .i64 a, .int .i64 b, .int .i64 c] (by simp [Act.eval, Act.put]) rfl HC9.out (by intro u hu; simp at hu; rcases hu with rfl | rfl | rfl <;> rfl) (by unfold maxLen; omega) (by omega) HS29.out.lbw ?_
                intro v6 w6 hown6 hgr6
                obtain ⟨a8, c8, rfl, _, _, _⟩ := own_form hown6
                have hb6 := grownY_blk hgr6 HS29.out.box (ownY_nbox HS29.out.ownL HS29.out.box (by decide))
                have hl9 : (L ++ [((a, b, c) : LinkT)]).length = L.length + 1 := by simp
                have hp9 := HS29.out.pushL (la' := a8) (lc' := c8) (L' := L ++ [((a, b, c) : LinkT)]) (by rw [hl9, flatY_L]; exact hown6) hgr6
                rw [hl9] at hp9
                have HS90 := Lib.hid hp9
                clear hSS
                have hSS : (fun W : World => W.cell? ⟨bo, 1, none⟩ = some (.slice la L.length lc) ∧ W.cell? ⟨g3, 0, none⟩ = some (.int .i64 a) ∧ W.cell? ⟨g3, 1, none⟩ = some (.int .i64 b) ∧ W.cell? ⟨g3, 2, none⟩ = some (.int .i64 c)) w6 := ⟨blk_cell hb6 (j := 1) (v := .slice la L.length lc) rfl, grownY_cell hgr6 (HV29.out 0 _ rfl) HNE.out, grownY_cell hgr6 (HV29.out 1 _ rfl) HNE.out, grownY_cell hgr6 (HV29.out 2 _ rfl) HNE.out⟩
                clear hown6 hgr6 hp9 hl9 HC9
                refine HK.out _ _ (fun _ => hSS) ?_
                clear HK
                refine wpAnyE_take (i := 14) (v := ?_) rfl (by kernel_rfl) (by kernel_rfl) (by kernel_rfl) (fun _ _ _ h => h) (Or.inl ⟨by rfl, ?_⟩) (by assumption) ?_
                rotate_left 1
                focus (intro W hSW; (try dsimp only at hSW); obtain ⟨hs0, hs1, hs2, hs3⟩ := hSW; go_simp; try with_reducible rfl)
                (try simp only [Act.put, List.setIfInBounds_toArray, List.set_cons_zero, List.set_cons_succ])
                have e61 := blk_cell hb6 (j := 1) (v := .slice la L.length lc) rfl
                have f61 := blk_free hb6 1
                clear hSS hb6
                refine wpAnyE_one (i := 15) (by kernel_rfl) rfl (fun K hK => ?_)
                have HK := Lib.hid hK
                clear hK
                go_simp
                refine HK.out _ _ (fun hn => absurd ?_ hn) (wpAnyE_done (by kernel_rfl) ?_ _)
                · intro oj hoj q hq hne
                  cases hoj
                  revert hne
                  revert q
                  decide
                clear e61 f61 HK
                go_wp2
                go_roundw
                case rel => exact ⟨k + 1, ta, tc, T, a8, c8, L ++ [(a, b, c)], by omega, by go_num, HFN, by simp; omega, by simpa using HS90⟩
                case measure => simp [intOf]; omega
              · have hwb2 : (q == [108, 105, 110, 107]) = false := by
                  simpa [wLnk] using hw2
                have hFF : F = none := by
                  rw [hst, hgood, if_neg (fun e => hw e.1), if_neg hw2]
                have HFF := Lib.hid hFF
                clear hst hgood hw2 hw hFF
                have z0 := blk_cell (HX6.out.blk HRr.out) (j := 0) (v := .slice none 0 0) rfl
                have z1 := blk_cell (HX6.out.blk HRr.out) (j := 1) (v := .slice none 0 0) rfl
                have f0 := blk_free (HX6.out.blk HRr.out) 0
                have f1 := blk_free (HX6.out.blk HRr.out) 1
                have XX9 : Hid (Ext w W6) := HXr.out.trans HX6.out
                have HRS9 := Lib.hid (HX6.out.blk HRr.out)
                go_wp2
                obtain ⟨w9, hw9⟩ : ∃ W, W = (W6.setCell ⟨w.heap.size, 0, none⟩ (.slice none 0 0)).setCell ⟨w.heap.size, 1, none⟩ (.slice none 0 0) := ⟨_, rfl⟩
                rw [← hw9]
                have g1 : (W6.setCell ⟨w.heap.size, 0, none⟩ (.slice none 0 0)).heap[w.heap.size]? = some (.cells #[.slice none 0 0, .slice none 0 0] 27) := by rw [heap_setCell_same _ _ _ _ _ _ HRS9.out]; rfl
                have g2 : w9.heap[w.heap.size]? = some (.cells #[.slice none 0 0, .slice none 0 0] 27) := by rw [hw9, heap_setCell_same _ _ _ _ _ _ g1]; rfl
                have y0 := blk_cell g2 (j := 0) (v := .slice none 0 0) rfl
                have y1 := blk_cell g2 (j := 1) (v := .slice none 0 0) rfl
                have X9 : Ext w w9 := by rw [hw9]; exact (XX9.out.st (p := ⟨w.heap.size, 0, none⟩) (Nat.le_refl _) _).st (p := ⟨w.heap.size, 1, none⟩) (Nat.le_refl _) _
                clear hw9
                refine bodyPost_ret (v := .tuple #[.agg #[.slice none 0 0, .slice none 0 0], .bool false]) (by simp [results, Tryz.results14, go_sem, y0, y1]) rfl ⟨.agg #[.slice none 0 0, .slice none 0 0], ?_, ?_, X9⟩
                · rw [HOF.out HFF.out]; rfl
                · rw [HOF.out HFF.out]; exact own_nilNet _ _ _
          · have HFF := Lib.hid (hbadF (fun a b c e => hQ (by cases e; rfl)))
            have hne : ((Q.length : Int) != 3) = true := by simp; omega
            clear hbadF hgood hst hag6 hQ
            have z0 := blk_cell (HX6.out.blk HRr.out) (j := 0) (v := .slice none 0 0) rfl
            have z1 := blk_cell (HX6.out.blk HRr.out) (j := 1) (v := .slice none 0 0) rfl
            have f0 := blk_free (HX6.out.blk HRr.out) 0
            have f1 := blk_free (HX6.out.blk HRr.out) 1
            have XX9 : Hid (Ext w W6) := HXr.out.trans HX6.out
            have HRS9 := Lib.hid (HX6.out.blk HRr.out)
            go_wp2
            obtain ⟨w9, hw9⟩ : ∃ W, W = (W6.setCell ⟨w.heap.size, 0, none⟩ (.slice none 0 0)).setCell ⟨w.heap.size, 1, none⟩ (.slice none 0 0) := ⟨_, rfl⟩
            rw [← hw9]
            have g1 : (W6.setCell ⟨w.heap.size, 0, none⟩ (.slice none 0 0)).heap[w.heap.size]? = some (.cells #[.slice none 0 0, .slice none 0 0] 27) := by rw [heap_setCell_same _ _ _ _ _ _ HRS9.out]; rfl
            have g2 : w9.heap[w.heap.size]? = some (.cells #[.slice none 0 0, .slice none 0 0] 27) := by rw [hw9, heap_setCell_same _ _ _ _ _ _ g1]; rfl
            have y0 := blk_cell g2 (j := 0) (v := .slice none 0 0) rfl
            have y1 := blk_cell g2 (j := 1) (v := .slice none 0 0) rfl
            have X9 : Ext w w9 := by rw [hw9]; exact (XX9.out.st (p := ⟨w.heap.size, 0, none⟩) (Nat.le_refl _) _).st (p := ⟨w.heap.size, 1, none⟩) (Nat.le_refl _) _
            clear hw9
            refine bodyPost_ret (v := .tuple #[.agg #[.slice none 0 0, .slice none 0 0], .bool false]) (by simp [results, Tryz.results14, go_sem, y0, y1]) rfl ⟨.agg #[.slice none 0 0, .slice none 0 0], ?_, ?_, X9⟩
            · rw [HOF.out HFF.out]; rfl
            · rw [HOF.out HFF.out]; exact own_nilNet _ _ _
      · have hge : ¬ ((k : Int) < (n : Int)) := by omega
        have HFE : Hid (F = some (T, L)) := by
          unfold Hid
          rw [hFD.out, List.drop_of_length_le (by rw [← HN.out]; omega)]; rfl
        clear hFD
        have e0 := blk_cell HSr.out.box (j := 0) (v := .slice ta T.length tc) rfl
        have e1 := blk_cell HSr.out.box (j := 1) (v := .slice la L.length lc) rfl
        have CG := Lib.hid (c_IsNet _ _ _ (T, L) wr HSr.out.own.read (Nat.le_refl _))
        obtain ⟨qn, hqn⟩ : ∃ q, q = netB (T, L) := ⟨_, rfl⟩
        rw [← hqn] at CG
        have HQN := Lib.hid hqn
        clear hqn
        go_wp2_with fail
        refine CG.out.mono ?_
        rintro e W5 ⟨rfl, hx5⟩
        have HS5 := Lib.hid (HSr.out.ext hx5)
        have HX5 := Lib.hid (HXr.out.trans hx5)
        have HR5 := Lib.hid (hx5.blk HRr.out)
        clear hx5 e0 e1 CG
        cases qn with
        | false =>
          have HOF : Hid (True → O = none) := fun _ => by rw [HOK.out, HFE.out]; simp only; rw [← HQN.out]; rfl
          have z0 := blk_cell (HR5.out) (j := 0) (v := .slice none 0 0) rfl
          have z1 := blk_cell (HR5.out) (j := 1) (v := .slice none 0 0) rfl
          have f0 := blk_free (HR5.out) 0
          have f1 := blk_free (HR5.out) 1
          have XX9 : Hid (Ext w W5) := HX5.out
          have HRS9 := Lib.hid (HR5.out)
          go_wp2
          obtain ⟨w9, hw9⟩ : ∃ W, W = (W5.setCell ⟨w.heap.size, 0, none⟩ (.slice none 0 0)).setCell ⟨w.heap.size, 1, none⟩ (.slice none 0 0) := ⟨_, rfl⟩
          rw [← hw9]
          have g1 : (W5.setCell ⟨w.heap.size, 0, none⟩ (.slice none 0 0)).heap[w.heap.size]? = some (.cells #[.slice none 0 0, .slice none 0 0] 27) := by rw [heap_setCell_same _ _ _ _ _ _ HRS9.out]; rfl
          have g2 : w9.heap[w.heap.size]? = some (.cells #[.slice none 0 0, .slice none 0 0] 27) := by rw [hw9, heap_setCell_same _ _ _ _ _ _ g1]; rfl
          have y0 := blk_cell g2 (j := 0) (v := .slice none 0 0) rfl
          have y1 := blk_cell g2 (j := 1) (v := .slice none 0 0) rfl
          have X9 : Ext w w9 := by rw [hw9]; exact (XX9.out.st (p := ⟨w.heap.size, 0, none⟩) (Nat.le_refl _) _).st (p := ⟨w.heap.size, 1, none⟩) (Nat.le_refl _) _
          clear hw9
          refine bodyPost_ret (v := .tuple #[.agg #[.slice none 0 0, .slice none 0 0], .bool false]) (by simp [results, Tryz.results14, go_sem, y0, y1]) rfl ⟨.agg #[.slice none 0 0, .slice none 0 0], ?_, ?_, X9⟩
          · rw [HOF.out trivial]; rfl
          · rw [HOF.out trivial]; exact own_nilNet _ _ _
        | true =>
          have HOE : Hid (O = some (T, L)) := by unfold Hid; rw [HOK.out, HFE.out]; simp only; rw [← HQN.out]; rfl
          have k0 := blk_cell HS5.out.box (j := 0) (v := .slice ta T.length tc) rfl
          have k1 := blk_cell HS5.out.box (j := 1) (v := .slice la L.length lc) rfl
          have z0 := blk_cell HR5.out (j := 0) (v := .slice none 0 0) rfl
          have z1 := blk_cell HR5.out (j := 1) (v := .slice none 0 0) rfl
          have f0 := blk_free HR5.out 0
          have f1 := blk_free HR5.out 1
          go_wp2
          obtain ⟨w9, hw9⟩ : ∃ W, W = (W5.setCell ⟨w.heap.size, 0, none⟩ (.slice ta T.length tc)).setCell ⟨w.heap.size, 1, none⟩ (.slice la L.length lc) := ⟨_, rfl⟩
          rw [← hw9]
          have g1 : (W5.setCell ⟨w.heap.size, 0, none⟩ (.slice ta T.length tc)).heap[w.heap.size]? = some (.cells #[.slice ta T.length tc, .slice none 0 0] 27) := by rw [heap_setCell_same _ _ _ _ _ _ HR5.out]; rfl
          have g2 : w9.heap[w.heap.size]? = some (.cells #[.slice ta T.length tc, .slice la L.length lc] 27) := by rw [hw9, heap_setCell_same _ _ _ _ _ _ g1]; rfl
          have y0 := blk_cell g2 (j := 0) (v := .slice ta T.length tc) rfl
          have y1 := blk_cell g2 (j := 1) (v := .slice la L.length lc) rfl
          have X9 : Ext w w9 := by rw [hw9]; exact (HX5.out.st (p := ⟨w.heap.size, 0, none⟩) (Nat.le_refl _) _).st (p := ⟨w.heap.size, 1, none⟩) (Nat.le_refl _) _
          have hlbo := HS5.out.bol
          have o1 : w9.ownsRow w.heap.size 54 3 (.slice ta T.length tc) T.length (T.flatMap encTower) := by
            rw [hw9]
            exact own_mono (ownsRow_setCell_below (ownsRow_setCell_below HS5.out.ownT (by dsimp only; omega) _) (by dsimp only; omega) _) (by omega)
          have o2 : w9.ownsRow w.heap.size 42 3 (.slice la L.length lc) L.length (L.flatMap encLink) := by
            rw [hw9]
            exact own_mono (ownsRow_setCell_below (ownsRow_setCell_below HS5.out.ownL (by dsimp only; omega) _) (by dsimp only; omega) _) (by omega)
          clear hw9
          refine bodyPost_ret (v := .tuple #[.agg #[.slice ta T.length tc, .slice la L.length lc], .bool true]) (by simp [results, Tryz.results14, go_sem, y0, y1]) rfl ⟨.agg #[.slice ta T.length tc, .slice la L.length lc], ?_, ?_, X9⟩
          · rw [HOE.out]; rfl
          · rw [HOE.out]
            exact ⟨_, _, rfl, ⟨o1, fun q hq => (o1.lt q hq).2⟩, ⟨o2, fun q hq => (o2.lt q hq).2⟩, ownY_ntype o1 o2 (by decide)⟩
end Go.Proofs.YtmaaeemhbccpcaaGreatDoor
