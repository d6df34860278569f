
/- AddLink of the program: its contract. -/
import Derived.Test.YtiipjlcmekakaaaAddS
import Derived.Test.YtiipjlcmekakaaaInsL
import Derived.Test.YtiipjlcmekakaaaIsNet
import Derived.Test.YtiipjlcmekakaaaCmpL
namespace Go.Proofs.Ytiipjlcmekakaaa
open Go.RowKit
set_option linter.unusedSimpArgs false
set_option linter.unusedVariables false
theorem own_ne_box9 {w : World} {base sz n b : Nat} {e t : TypeId} {v : Value} {xs : List Value} {C : Array Value} (hown : w.ownsRow base e sz v n xs) (hb : w.heap[b]? = some (.cells C t (0, 0))) (hne : e ≠ t) : v.ownBlock ≠ some b := by
  intro hk
  rcases hown.2 with ⟨rfl, h0⟩ | ⟨g, cap, cur, rfl, hb2, hg, _⟩
  · simp [Value.ownBlock] at hk
  · simp only [Value.ownBlock, Option.some.injEq] at hk
    subst hk
    rw [hb] at hg
    simp only [Option.some.injEq, Obj.cells.injEq] at hg
    exact hne hg.2.1.symm
set_option maxRecDepth 100000 in
set_option maxHeartbeats 4000000 in
theorem c_iAddLink (v : Value) (la ha : Nat) (x : NetT) (y : LinkT) (w : World) (h : Nets w la ha v x) (hh : ha ≤ w.heap.size) :
    Calls Try.prog 9 #[v, .agg #[.int .i64 y.1, .int .i64 y.2.1, .int .i64 y.2.2]] w fun e w' => ∃ r, e = .returned (.tuple #[r, .bool (adOk x y)]) ∧ OwnNet w' w.heap.size w'.heap.size r (adV x y) ∧ Ext w w' := by
  obtain ⟨l0, hl0, hlz0, hlz1, hlz2⟩ := info_parts Try.info_link
  obtain ⟨ok, hok⟩ : ∃ k, k = adOk x y := ⟨_, rfl⟩
  obtain ⟨V, hV⟩ : ∃ V, V = adV x y := ⟨_, rfl⟩
  rw [← hok, ← hV]
  have HOK : Hid (ok = (netB x && netB (adN x y))) := hok
  have HV0 : Hid (ok = false → V = ([], [])) := fun e => by rw [hV, adV, ← hok, e]; rfl
  have HV1 : Hid (ok = true → V = adN x y) := fun e => by rw [hV, adV, ← hok, e]; rfl
  clear hok hV
  obtain ⟨a, ca, b, cb, rfl, _, _⟩ := h.form
  obtain ⟨hT, hL⟩ := h.parts
  obtain ⟨y1, y2, y3⟩ := y
  obtain ⟨q, hq⟩ : ∃ q, q = netB x := ⟨_, rfl⟩
  have CG : Hid (∀ W, Ext w W → Calls Try.prog 14 #[.agg #[.slice a x.1.length ca, .slice b x.2.length cb]] W fun e w' => e = .returned (.bool q) ∧ Ext W w') := fun W hX => by rw [hq]; exact c_IsNet _ la ha x W (h.ext hX hh) (Nat.le_trans hh hX.size)
  have HNET : Hid (∀ W, Ext w W → Nets W la ha (.agg #[.slice a x.1.length ca, .slice b x.2.length cb]) x) := fun W hX => h.ext hX hh
  have HQ := Lib.hid hq
  have HL := Lib.hid hL
  obtain ⟨W1, hW1⟩ : ∃ W, W = (((w.alloc (.cells #[.slice a x.1.length ca, .slice b x.2.length cb] 27)).alloc (.cells #[.int .i64 y1, .int .i64 y2, .int .i64 y3] 29)).alloc (.cells #[.slice none 0 0, .slice none 0 0] 27)) := ⟨_, rfl⟩
  have X1 : Hid (Ext w W1) := by unfold Hid; rw [hW1]; exact (((Ext.refl w).al _).al _).al _
  have B1 : Hid (W1.heap[w.heap.size]? = some (.cells #[.slice a x.1.length ca, .slice b x.2.length cb] 27)) := by unfold Hid; rw [hW1]; exact blk_old (blk_old (blk_alloc _ _))
  have B2 : Hid (W1.heap[w.heap.size + 1]? = some (.cells #[.int .i64 y1, .int .i64 y2, .int .i64 y3] 29)) := by unfold Hid; rw [hW1]; exact blk_old (blk_alloc2 _ _ _)
  have B3 : Hid (W1.heap[w.heap.size + 2]? = some (.cells #[.slice none 0 0, .slice none 0 0] 27)) := by unfold Hid; rw [hW1]; exact blk_alloc3 _ _ _ _
  have s1 : W1.heap.size = w.heap.size + 3 := by rw [hW1, size_alloc, size_alloc, size_alloc]
  have HW1 := Lib.hid hW1
  obtain ⟨m, hm⟩ : ∃ n, n = x.1.length := ⟨_, rfl⟩
  obtain ⟨l, hl⟩ : ∃ n, n = x.2.length := ⟨_, rfl⟩
  rw [← hm, ← hl] at CG HNET B1 HW1 ⊢
  rw [← hl] at HL
  have HM := Lib.hid hm
  have HLL := Lib.hid hl
  clear hW1 h hT hL hq hm hl
  go_enter Try.func9, Try.ntmps9
  go_upto_region 1 with fail
  rw [← HW1.out]
  have k0 := blk_cell B1.out (j := 0) (v := .slice a m ca) rfl
  have k1 := blk_cell B1.out (j := 1) (v := .slice b l cb) rfl
  go_wp2_with fail
  refine (CG.out _ X1.out).mono ?_
  rintro e w2 ⟨rfl, hx2⟩
  clear k0 k1 HW1
  have X2 := Lib.hid (X1.out.trans hx2)
  have hs20 : w.heap.size + 3 ≤ w2.heap.size := by have := hx2.size; omega
  have B1 := Lib.hid (hx2.blk B1.out)
  have B2 := Lib.hid (hx2.blk B2.out)
  have B3 := Lib.hid (hx2.blk B3.out)
  clear hx2
  cases q
  · obtain rfl : ok = false := by rw [HOK.out, ← HQ.out]; rfl
    have HZ := Lib.hid (HV0.out rfl)
    have z0 := blk_cell B3.out (j := 0) (v := .slice none 0 0) rfl
    have z1 := blk_cell B3.out (j := 1) (v := .slice none 0 0) rfl
    have f0 := blk_free B3.out 0
    have f1 := blk_free B3.out 1
    go_wp2
    refine bodyPost_ret (v := .tuple #[.agg #[.slice none 0 0, .slice none 0 0], .bool false]) (by simp [results, Try.results9, go_sem, z0, z1]) rfl ⟨_, rfl, ?_, (X2.out.st (p := ⟨w.heap.size + 2, 0, none⟩) (by dsimp only; omega) _).st (p := ⟨w.heap.size + 2, 1, none⟩) (by dsimp only; omega) _⟩
    rw [HZ.out]
    exact ⟨_, _, rfl, ⟨World.ownsRow_nil _ _ _ _, fun q hq => by simp [Value.ownBlock] at hq⟩, ⟨World.ownsRow_nil _ _ _ _, fun q hq => by simp [Value.ownBlock] at hq⟩, fun q hq => by simp [Value.ownBlock] at hq⟩
  · have k0 := blk_cell B1.out (j := 0) (v := .slice a m ca) rfl
    have k1 := blk_cell B1.out (j := 1) (v := .slice b l cb) rfl
    have hl40 : l ≤ 40 := by rw [HLL.out]; exact net_links HQ.out.symm
    have hm16 : 0 < m ∧ m ≤ 16 := by
      have hb := HQ.out.symm
      simp only [netB, Bool.and_eq_true] at hb
      have := inB_t hb.1
      have := HM.out
      omega
    have CO : Hid (Calls Try.prog 41 #[.agg #[.slice a m ca, .slice b l cb]] w2 fun e w' => ∃ r, e = .returned r ∧ OwnNet w' w2.heap.size w'.heap.size r x ∧ Ext w2 w') := c_cloneNet _ la ha x w2 (HNET.out _ X2.out) (Nat.le_trans hh X2.out.size) (by rw [← HM.out]; omega) (by rw [← HLL.out]; omega) (by rw [← HM.out]; omega)
    go_wp2_with fail
    refine CO.out.mono ?_
    rintro e w3 ⟨r3, rfl, ho3, hx3⟩
    obtain ⟨vt, vl, rfl, hoT, hoL, hoD⟩ := ho3
    obtain ⟨at3, ct3, rfl, _, _, _⟩ := own_form hoT.own
    obtain ⟨al3, cl3, rfl, _, _, _⟩ := own_form hoL.own
    have HT3 : Hid (w3.ownsRow w2.heap.size 75 3 (.slice at3 m ct3) m (x.1.flatMap encTower)) := by unfold Hid; rw [HM.out]; exact hoT.own
    have HL3 : Hid (w3.ownsRow w2.heap.size 29 3 (.slice al3 l cl3) l (x.2.flatMap encLink)) := by unfold Hid; rw [HLL.out]; exact hoL.own
    rw [← HM.out, ← HLL.out]
    have hs30 : w.heap.size + 3 ≤ w3.heap.size := by have := hx3.size; omega
    have hs2_3 : w2.heap.size ≤ w3.heap.size := hx3.size
    have X3 := Lib.hid (X2.out.trans hx3)
    have B1 := Lib.hid (hx3.blk B1.out)
    have B2 := Lib.hid (hx3.blk B2.out)
    have B3 := Lib.hid (hx3.blk B3.out)
    have hLk3 : Links w3 w2.heap.size w3.heap.size (.slice al3 l cl3) x.2 := by rw [HLL.out]; exact hoL.read encLink_len
    clear hx3 hoT hoL hoD CO k0 k1
    go_upto_block 0 with fail
    obtain ⟨w4, hw4⟩ : ∃ W, W = w3.alloc (.cells #[.slice at3 m ct3, .slice al3 l cl3] 27) := ⟨_, rfl⟩
    rw [← hw4]
    have hx4 : Ext w3 w4 := by rw [hw4]; exact Ext.alloc _ _
    have B6 : Hid (w4.heap[w3.heap.size]? = some (.cells #[.slice at3 m ct3, .slice al3 l cl3] 27)) := by unfold Hid; rw [hw4]; exact blk_alloc _ _
    have X4 := Lib.hid (X3.out.trans hx4)
    have B1 := Lib.hid (hx4.blk B1.out)
    have B2 := Lib.hid (hx4.blk B2.out)
    have B3 := Lib.hid (hx4.blk B3.out)
    have HT4 := Lib.hid (own_ext HT3.out hx4)
    have HL4 := Lib.hid (own_ext HL3.out hx4)
    have HN4 := Lib.hid (hLk3.ext hx4 (Nat.le_refl _))
    have hs34 := hx4.size
    clear hw4 hx4 HL3 hLk3
    obtain ⟨K, hK⟩ : ∃ K, K = adK (y1, y2, y3) x.2 := ⟨_, rfl⟩
    have hKl : K ≤ l := by rw [hK, HLL.out]; exact adK_le _ _
    have HKK := Lib.hid hK
    clear hK
    go_cut [7] from 14 to 30 (fun v wx => v = .int .i64 (K : Int) ∧ Ext w4 wx)
    case first =>
      go_wp2_with fail
      go_loopg [7] 41 (fun gg v wr => ∃ k : Nat, v = .int .i64 k ∧ k ≤ K ∧ K ≤ k + gg ∧ Ext w4 wr)
      case atStart => exact ⟨0, rfl, by omega, by omega, Ext.refl _⟩
      case round =>
        obtain ⟨k, rfl, hk, hkg, hxr⟩ := hrel
        have B6r := Lib.hid (hxr.blk B6.out)
        have B2r := Lib.hid (hxr.blk B2.out)
        have n1 := blk_cell B6r.out (j := 1) (v := .slice al3 l cl3) rfl
        have p0 := blk_cell B2r.out (j := 0) (v := .int .i64 y1) rfl
        have p1 := blk_cell B2r.out (j := 1) (v := .int .i64 y2) rfl
        have p2 := blk_cell B2r.out (j := 2) (v := .int .i64 y3) rfl
        by_cases hkl : k < l
        · obtain ⟨b9, o9, z, rfl, hz, c0, c1, c2⟩ := Links_at (HN4.out.ext hxr hs34) hkl
          obtain ⟨z1, z2, z3⟩ := z
          simp only at c0 c1 c2
          have hklI : (k : Int) < (l : Int) := by omega
          have hk0I : (0 : Int) ≤ (k : Int) := by omega
          obtain ⟨bf, hbf⟩ : ∃ t, t = cmpL (z1, z2, z3) (y1, y2, y3) := ⟨_, rfl⟩
          have CB : Hid (∀ W, Calls Try.prog 42 #[.agg #[.int .i64 z1, .int .i64 z2, .int .i64 z3], .agg #[.int .i64 y1, .int .i64 y2, .int .i64 y3]] W fun e w' => e = .returned (.int .i64 bf) ∧ Ext W w') := fun W => by rw [hbf]; exact c_compareLinks (z1, z2, z3) (y1, y2, y3) W
          have HBF : Hid (decide (0 ≤ bf) = !befL (z1, z2, z3) (y1, y2, y3)) := by unfold Hid; rw [hbf]; exact cmpL_bef _ _
          clear hbf
          by_cases hbz : bf < 0
          · have hbi : decide (bf < 0) = true := decide_eq_true hbz
            have hbt : befL (z1, z2, z3) (y1, y2, y3) = true := by
              have h9 := HBF.out
              rw [decide_eq_false (by omega)] at h9
              revert h9; cases befL (z1, z2, z3) (y1, y2, y3) <;> simp
            go_upto_region 5 with fail
            go_region_held3 (fun w' => Ext wr w' ∧ w'.cell? ⟨w3.heap.size, 1, none⟩ = some (.slice (some ⟨b9, o9, none⟩) l cl3) ∧ w'.cell? ⟨w.heap.size + 1, 0, none⟩ = some (.int .i64 y1) ∧ w'.cell? ⟨w.heap.size + 1, 1, none⟩ = some (.int .i64 y2) ∧ w'.cell? ⟨w.heap.size + 1, 2, none⟩ = some (.int .i64 y3) ∧ w'.cell? ⟨b9, o9 + k * 3, none⟩ = some (.int .i64 z1) ∧ w'.cell? ⟨b9, o9 + k * 3 + 1, none⟩ = some (.int .i64 z2) ∧ w'.cell? ⟨b9, o9 + k * 3 + 2, none⟩ = some (.int .i64 z3))
                        (first | exact ⟨Ext.drew _, n1, p0, p1, p2, c0, c1, c2⟩ | exact ⟨hxs, hxs.cell n1, hxs.cell p0, hxs.cell p1, hxs.cell p2, hxs.cell c0, hxs.cell c1, hxs.cell c2⟩)
                        (first | (go_at_call 42; refine (CB.out _).mono ?_; rintro e w5 ⟨rfl, hx5⟩; have hxs := (Ext.drew wr).trans hx5))
            have hkK : k < K := by
              rcases Nat.lt_or_ge k K with h9 | h9
              · exact h9
              · have h8 : k = adK (y1, y2, y3) x.2 := by rw [← HKK.out]; omega
                have := adK_at (y := (y1, y2, y3)) (by rw [← h8]; exact hz.out)
                rw [hbt] at this; cases this
            go_wp2
            go_roundg (K - (k + 1))
            case measure => omega
            case rel => exact ⟨k + 1, by go_num, by omega, by omega, hxr.trans hxs⟩
          · have hbi : decide (bf < 0) = false := decide_eq_false hbz
            have hbt : befL (z1, z2, z3) (y1, y2, y3) = false := by
              have h9 := HBF.out
              rw [decide_eq_true (by omega)] at h9
              revert h9; cases befL (z1, z2, z3) (y1, y2, y3) <;> simp
            go_upto_region 5 with fail
            go_region_held3 (fun w' => Ext wr w' ∧ w'.cell? ⟨w3.heap.size, 1, none⟩ = some (.slice (some ⟨b9, o9, none⟩) l cl3) ∧ w'.cell? ⟨w.heap.size + 1, 0, none⟩ = some (.int .i64 y1) ∧ w'.cell? ⟨w.heap.size + 1, 1, none⟩ = some (.int .i64 y2) ∧ w'.cell? ⟨w.heap.size + 1, 2, none⟩ = some (.int .i64 y3) ∧ w'.cell? ⟨b9, o9 + k * 3, none⟩ = some (.int .i64 z1) ∧ w'.cell? ⟨b9, o9 + k * 3 + 1, none⟩ = some (.int .i64 z2) ∧ w'.cell? ⟨b9, o9 + k * 3 + 2, none⟩ = some (.int .i64 z3))
                        (first | exact ⟨Ext.drew _, n1, p0, p1, p2, c0, c1, c2⟩ | exact ⟨hxs, hxs.cell n1, hxs.cell p0, hxs.cell p1, hxs.cell p2, hxs.cell c0, hxs.cell c1, hxs.cell c2⟩)
                        (first | (go_at_call 42; refine (CB.out _).mono ?_; rintro e w5 ⟨rfl, hx5⟩; have hxs := (Ext.drew wr).trans hx5))
            have hkK : k = K := by
              rcases Nat.lt_or_ge k K with h9 | h9
              · have := adK_lt (y := (y1, y2, y3)) (by rw [← HKK.out]; exact h9) hz.out
                rw [hbt] at this; cases this
              · omega
            subst hkK
            go_wp2
            go_meet
            case rel => exact ⟨rfl, hxr.trans hxs⟩
        · have hkK : k = K := by omega
          subst hkK
          have hklI : ¬ (k : Int) < (l : Int) := by omega
          have hklb : decide ((k : Int) < (l : Int)) = false := decide_eq_false hklI
          have hkln : decide (k < l) = false := decide_eq_false (by omega)
          clear p0 p1 p2 B2r
          go_upto_region 5 with fail
          have N1 := XT.cell n1
          clear n1
          refine region_ext (by kernel_rfl) (by kernel_rfl) ?_
          repeat (go_big_quiet_step (fail))
          refine wpQuiet_nil ?_
          intro wq hxq
          go_wp2
          go_meet
          case rel => exact ⟨rfl, hxr.trans hxq⟩
    case rest =>
      obtain ⟨rfl, hxc⟩ := hcut
      have X5 := Lib.hid (X4.out.trans hxc)
      have B2 := Lib.hid (hxc.blk B2.out)
      have B3 := Lib.hid (hxc.blk B3.out)
      have B6 := Lib.hid (hxc.blk B6.out)
      have HT5 := Lib.hid (own_ext HT4.out hxc)
      have HL5 := Lib.hid (own_ext HL4.out hxc)
      have hs3c : w3.heap.size < wc.heap.size := (Array.getElem?_eq_some_iff.1 B6.out).1
      have hs33 : w.heap.size + 3 ≤ w3.heap.size := hs30
      clear hxc HT4 HL4 HN4
      obtain ⟨w6, hw6⟩ : ∃ W, W = wc.alloc (.cells #[.int .i64 y1, .int .i64 y2, .int .i64 y3] 29) := ⟨_, rfl⟩
      have hx6 : Ext wc w6 := by rw [hw6]; exact Ext.alloc _ _
      have B9 : w6.heap[wc.heap.size]? = some (.cells #[.int .i64 y1, .int .i64 y2, .int .i64 y3] 29) := by rw [hw6]; exact blk_alloc _ _
      have HT6 := Lib.hid (own_ext HT5.out hx6)
      have HL6 := own_ext HL5.out hx6
      have CI := c_InsL w2.heap.size l K wc.heap.size (.slice al3 l cl3) (x.2.flatMap encLink) y1 y2 y3 w6 HL6 (encLink_one _) hKl (by omega) (Nat.le_trans hs2_3 (Nat.le_trans (Nat.le_of_lt hs3c) hx6.size)) B9 (fun e => by have := (HL5.out.lt _ e).2; omega)
      have X6 := Lib.hid (X5.out.trans hx6)
      have B6q := Lib.hid (hx6.blk B6.out)
      have B3q := Lib.hid (hx6.blk B3.out)
      have B2q := blk_cell B2.out (j := 0) (v := .int .i64 y1) rfl
      have B2r := blk_cell B2.out (j := 1) (v := .int .i64 y2) rfl
      have B2s := blk_cell B2.out (j := 2) (v := .int .i64 y3) rfl
      have B61 := blk_cell B6.out (j := 1) (v := .slice al3 l cl3) rfl
      have HLQ := Lib.hid HL6
      have HW6 := Lib.hid hw6
      clear hw6 hx6 B9 HL6 HT5 HL5
      have hs23 : w2.heap.size ≤ w3.heap.size := hs2_3
      have CIH := Lib.hid CI
      clear CI
      go_upto_region 8 with (rw [← HW6.out]; go_at_call 43; refine CIH.out.mono ?_; rintro e w7 ⟨r7, rfl, hown7, hgr7⟩; obtain ⟨a9, c9, rfl, _, _, _⟩ := own_form hown7; have B67 := Lib.hid (grown_old9 hgr7 B6q.out (own_ne_box9 HLQ.out B6q.out (by decide))); have B37 := Lib.hid (grown_old9 hgr7 B3q.out (own_ne_box9 HLQ.out B3q.out (by decide))); have HG7 := Lib.hid hgr7; have HO7 := Lib.hid hown7; have e61 := blk_cell B67.out (j := 1) (v := .slice al3 l cl3) rfl; have f61 := blk_free B67.out 1; clear hown7 hgr7)
      have X7 := Lib.hid (X6.out.gr HG7.out (fun q hq => by have := (HLQ.out.lt q hq).1; omega))
      have HT7 : Hid (w7.ownsRow w2.heap.size 75 3 (.slice at3 m ct3) m (x.1.flatMap encTower)) := by
        refine Lib.hid (HT6.out.kept HG7.out ?_)
        rcases hq9 : (Value.slice at3 m ct3).ownBlock with _ | q9
        · exact Or.inl rfl
        · exact Or.inr (fun e => own_ne_type HT6.out HLQ.out (by decide) q9 hq9 e.symm)
      clear e61 f61
      obtain ⟨w10, hw10⟩ : ∃ W, W = w7.setCell ⟨w3.heap.size, 1, none⟩ (.slice a9 (l + 1) c9) := ⟨_, rfl⟩
      rw [← hw10]
      have B10 : Hid (w10.heap[w3.heap.size]? = some (.cells #[.slice at3 m ct3, .slice a9 (l + 1) c9] 27)) := by unfold Hid; rw [hw10, heap_setCell_same _ _ _ _ _ _ B67.out]; rfl
      have HN : Hid (OwnNet w10 w2.heap.size w10.heap.size (.agg #[.slice at3 m ct3, .slice a9 (l + 1) c9]) (adN x (y1, y2, y3))) := by
        have hl2 : (adN x (y1, y2, y3)).2.length = l + 1 := by
          unfold adN
          rw [← HKK.out]
          simp only [List.length_append, List.length_take, List.length_drop, List.length_cons, List.length_nil]
          rw [← HLL.out]
          omega
        have hf2 : (adN x (y1, y2, y3)).2.flatMap encLink = InsAt (x.2.flatMap encLink) K [.int .i64 y1, .int .i64 y2, .int .i64 y3] := by
          unfold adN InsAt
          rw [← HKK.out, ← flat_take encLink_len, ← flat_drop encLink_len]
          simp [encLink]
        have ho2 : w10.ownsRow w2.heap.size 29 3 (.slice a9 (l + 1) c9) (adN x (y1, y2, y3)).2.length ((adN x (y1, y2, y3)).2.flatMap encLink) := by
          rw [hl2, hf2, hw10]
          exact own_setne HO7.out (own_ne_box9 HO7.out B67.out (by decide))
        have ho1 : w10.ownsRow w2.heap.size 75 3 (.slice at3 m ct3) (adN x (y1, y2, y3)).1.length ((adN x (y1, y2, y3)).1.flatMap encTower) := by
          show w10.ownsRow w2.heap.size 75 3 (.slice at3 m ct3) x.1.length (x.1.flatMap encTower)
          rw [← HM.out, hw10]
          exact own_setne HT7.out (own_ne_box9 HT7.out B67.out (by decide))
        exact ⟨_, _, rfl, ⟨own_mono ho1 (Nat.le_refl _), fun q hq => (ho1.lt q hq).2⟩, ⟨own_mono ho2 (by omega), fun q hq => (ho2.lt q hq).2⟩, own_ne_type ho1 ho2 (by decide)⟩
      have X10 : Hid (Ext w w10) := by unfold Hid; rw [hw10]; exact X7.out.st (p := ⟨w3.heap.size, 1, none⟩) (by dsimp only; omega) _
      have B3' : Hid (w10.heap[w.heap.size + 2]? = some (.cells #[.slice none 0 0, .slice none 0 0] 27)) := by
        unfold Hid
        rw [hw10, heap_setCell_other _ _ _ _ (by show w.heap.size + 2 ≠ w3.heap.size; omega)]
        exact B37.out
      have CG2 : Hid (Calls Try.prog 14 #[.agg #[.slice at3 m ct3, .slice a9 (l + 1) c9]] w10 fun e w' => e = .returned (.bool ok) ∧ Ext w10 w') := by
        have h9 := c_IsNet _ w2.heap.size w10.heap.size (adN x (y1, y2, y3)) w10 HN.out.read (Nat.le_refl _)
        have e9 : netB (adN x (y1, y2, y3)) = ok := by rw [HOK.out, ← HQ.out, Bool.true_and]
        rw [e9] at h9
        exact h9
      have k60 := blk_cell B10.out (j := 0) (v := .slice at3 m ct3) rfl
      have k61 := blk_cell B10.out (j := 1) (v := .slice a9 (l + 1) c9) rfl
      clear hw10 B67 HO7 HT7 B37
      go_wp2_with fail
      refine CG2.out.mono ?_
      rintro e w11 ⟨rfl, hx11⟩
      clear k60 k61 CG2 B3
      have B3 := Lib.hid (hx11.blk B3'.out)
      have X11 := Lib.hid (X10.out.trans hx11)
      have HN11 := Lib.hid (HN.out.ext hx11)
      have B11 := Lib.hid (hx11.blk B10.out)
      have hs11 := hx11.size
      clear B3' X10 HN B10 hx11
      cases ok
      ·
        have HZ := Lib.hid (HV0.out rfl)
        have z0 := blk_cell B3.out (j := 0) (v := .slice none 0 0) rfl
        have z1 := blk_cell B3.out (j := 1) (v := .slice none 0 0) rfl
        have f0 := blk_free B3.out 0
        have f1 := blk_free B3.out 1
        go_wp2
        refine bodyPost_ret (v := .tuple #[.agg #[.slice none 0 0, .slice none 0 0], .bool false]) (by simp [results, Try.results9, go_sem, z0, z1]) rfl ⟨_, rfl, ?_, (X11.out.st (p := ⟨w.heap.size + 2, 0, none⟩) (by dsimp only; omega) _).st (p := ⟨w.heap.size + 2, 1, none⟩) (by dsimp only; omega) _⟩
        rw [HZ.out]
        exact ⟨_, _, rfl, ⟨World.ownsRow_nil _ _ _ _, fun q hq => by simp [Value.ownBlock] at hq⟩, ⟨World.ownsRow_nil _ _ _ _, fun q hq => by simp [Value.ownBlock] at hq⟩, fun q hq => by simp [Value.ownBlock] at hq⟩
      · have HVV := Lib.hid (HV1.out rfl)
        have k60 := blk_cell B11.out (j := 0) (v := .slice at3 m ct3) rfl
        have k61 := blk_cell B11.out (j := 1) (v := .slice a9 (l + 1) c9) rfl
        have z0 := blk_cell B3.out (j := 0) (v := .slice none 0 0) rfl
        have z1 := blk_cell B3.out (j := 1) (v := .slice none 0 0) rfl
        have f0 := blk_free B3.out 0
        have f1 := blk_free B3.out 1
        go_wp2
        obtain ⟨w12, hw12⟩ : ∃ W, W = (w11.setCell ⟨w.heap.size + 1 + 1, 0, none⟩ (.slice at3 m ct3)).setCell ⟨w.heap.size + 1 + 1, 1, none⟩ (.slice a9 (l + 1) c9) := ⟨_, rfl⟩
        rw [← hw12]
        have g1 : (w11.setCell ⟨w.heap.size + 2, 0, none⟩ (.slice at3 m ct3)).heap[w.heap.size + 2]? = some (.cells #[.slice at3 m ct3, .slice none 0 0] 27) := by rw [heap_setCell_same _ _ _ _ _ _ B3.out]; rfl
        have g2 : w12.heap[w.heap.size + 2]? = some (.cells #[.slice at3 m ct3, .slice a9 (l + 1) c9] 27) := by rw [hw12]; exact (heap_setCell_same _ _ _ _ _ _ g1).trans rfl
        have k70 := blk_cell g2 (j := 0) (v := .slice at3 m ct3) rfl
        have k71 := blk_cell g2 (j := 1) (v := .slice a9 (l + 1) c9) rfl
        have HK12 : Keep (w.heap.size + 2) (w.heap.size + 3) w11 w12 := by rw [hw12]; exact (keep_setj9 w11 (w.heap.size + 2) 0 _).trans (keep_setj9 _ (w.heap.size + 2) 1 _)
        have HO12 := Lib.hid (HN11.out.keepd HK12 (Or.inr hs20))
        have X12 : Hid (Ext w w12) := by
          unfold Hid; rw [hw12]
          exact (X11.out.st (p := ⟨w.heap.size + 1 + 1, 0, none⟩) (by dsimp only; omega) _).st (p := ⟨w.heap.size + 1 + 1, 1, none⟩) (by dsimp only; omega) _
        have hs12 := HK12.size
        clear hw12 g1 g2 HK12
        refine bodyPost_ret (v := .tuple #[.agg #[.slice at3 m ct3, .slice a9 (l + 1) c9], .bool true]) (by simp [results, Try.results9, go_sem, k70, k71]) rfl ⟨_, rfl, ?_, X12.out⟩
        rw [HVV.out]
        obtain ⟨vt, vl, e, q1, q2, q3⟩ := HO12.out
        exact ⟨vt, vl, e, q1.mono (by omega) (Nat.le_trans hs11 hs12), q2.mono (by omega) (Nat.le_trans hs11 hs12), q3⟩
end Go.Proofs.Ytiipjlcmekakaaa
