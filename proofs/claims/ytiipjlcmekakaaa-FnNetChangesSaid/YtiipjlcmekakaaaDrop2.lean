


/- DropTower of the reference: its contract. -/
import Derived.Test.YtiipjlcmekakaaaDrop
import Derived.Test.YtiipjlcmekakaaaBridge
namespace Go.Proofs.Ytiipjlcmekakaaa
open Go.RowKit
set_option linter.unusedVariables false
set_option linter.unusedSimpArgs false
theorem own_ne_box {w : World} {base sz n b : Nat} {e t : TypeId} {v : Value} {xs : List Value} {C : Array Value} (hown : w.ownsRow base e sz v n xs) (hb : w.heap[b]? = some (.cells C t (0, 0))) (hne : e ≠ t) : v.ownBlock ≠ some b := by
  intro hk
  rcases hown.2 with ⟨rfl, h0⟩ | ⟨g, cap, cur, rfl, hb2, hg, _⟩
  · simp [Value.ownBlock] at hk
  · simp only [Value.ownBlock, Option.some.injEq] at hk
    subst hk
    rw [hb] at hg
    simp only [Option.some.injEq, Obj.cells.injEq] at hg
    exact hne hg.2.1.symm
theorem keep_al {lo hi : Nat} {w w2 : World} (h : Keep lo hi w w2) (o : Obj) : Keep lo hi w (w2.alloc o) := h.trans (Keep.of_ext (Ext.alloc _ _))
theorem keep_push {lo hi base sz n : Nat} {w w2 w3 : World} {e : TypeId} {v : Value} {xs : List Value} {o : Obj} (h : Keep lo hi w w2) (hown : w2.ownsRow base e sz v n xs) (hg : (w2.alloc o).grownBy w3 v.ownBlock) (hb : w.heap.size ≤ base) : Keep lo hi w w3 := by
  have h2 := keep_al h o
  exact ⟨hg.os.trans h2.os, hg.tape.trans h2.tape, hg.output.trans h2.output, Nat.le_trans h2.size hg.size, fun i hi2 ho => (hg.block i (Nat.lt_of_lt_of_le hi2 h2.size) (fun e => by have := (hown.lt i e.symm).1; omega)).trans (h2.block i hi2 ho)⟩
theorem keep_st {b : Nat} {w w2 : World} (h : Keep b (b + 1) w w2) (j : Nat) (v : Value) : Keep b (b + 1) w (w2.setCell ⟨b, j, none⟩ v) := by
  have h1 : Below b w2 (w2.setCell ⟨b, j, none⟩ v) := Below.setCell (Below.refl b w2) (Nat.le_refl _) v
  refine h.trans ⟨h1.os, h1.tape, h1.output, h1.size, fun i _ ho => ?_⟩
  exact heap_setCell_other _ _ _ _ (by dsimp only; omega)
theorem drop_S {W W' : World} {b1 : Nat} {x y : Value} {t : TypeId} (h1 : W.heap[b1]? = some (.cells #[x, y] t (0, 0))) (hX : Ext W W') : W'.cell? ⟨b1, 0, none⟩ = some x ∧ W'.cell? ⟨b1, 1, none⟩ = some y :=
  without_S (hX.blk h1)
theorem own_lit3b (w : World) (o : Obj) (e : TypeId) : ((w.alloc o).alloc (.cells #[] e)).ownsRow w.heap.size e 3 (.slice (some ⟨w.heap.size + 1, 0, none⟩) 0 0) 0 [] := by
  have h := own_lit3 (w.alloc o) e
  rw [size_alloc] at h
  exact own_mono h (by omega)
theorem drop_own {w w' : World} {o : Obj} {e : TypeId} {n sz : Nat} {v : Value} {C : List Value} (h : w'.ownsRow (w.alloc o).heap.size e sz v n C) : w'.ownsRow w.heap.size e sz v n C := own_mono h (by simp)
theorem drop_gr {w w1 w2 : World} {row : Option Nat} (hg : w1.grownBy w2 row) (hr : ∀ q, row = some q → w.heap.size ≤ q) (hx : Ext w w1) : Hid (Ext w w2) := hx.gr hg hr
set_option maxRecDepth 100000 in
set_option maxHeartbeats 4000000 in
theorem c_sDropTower (v : Value) (la ha : Nat) (x : NetT) (j : Int) (w : World) (h : Nets w la ha v x) (hh : ha ≤ w.heap.size) :
    Calls Try.prog 17 #[v, .int .i64 j] w fun e w' => ∃ r, e = .returned (.tuple #[r, .bool (dtOk x j)]) ∧ OwnNet w' w.heap.size w'.heap.size r (dtV x j) ∧ Ext w w' := by
  obtain ⟨l0, hl0, hlz0, hlz1, hlz2⟩ := info_parts Try.info_link
  obtain ⟨i0, hi0, hz0, hz1, hz2⟩ := info_parts Try.info_tower
  obtain ⟨V, hV⟩ : ∃ V, V = dtV x j := ⟨_, rfl⟩
  obtain ⟨p, hp⟩ : ∃ p, p = dtOk x j := ⟨_, rfl⟩
  obtain ⟨q, hq⟩ : ∃ q, q = hasT x j := ⟨_, rfl⟩
  have C1 : Hid (∀ W, Ext w W → Calls Try.prog 49 #[v, .int .i64 j] W fun e w' => e = .returned (.bool q) ∧ Ext W w') := fun W hX => by rw [hq]; exact c_neHas v la ha x j W (h.ext hX hh) (Nat.le_trans hh hX.size)
  rw [← hV, ← hp]
  obtain ⟨a, ca, b, cb, rfl, ⟨m1, m2⟩, m3, m4⟩ := h.form
  have HT := Lib.hid h.parts.1
  have HL := Lib.hid h.parts.2
  obtain ⟨T, L⟩ := x
  have HQ : Hid (q = true → netB (T, L) = true ∧ inB 0 ((T.length : Int) - 1) j = true) := fun e => by
    have h2 : hasT (T, L) j = true := hq ▸ e
    simpa only [hasT, Bool.and_eq_true] using h2
  have HP : Hid (p = (q && decide (T.length ≠ 1))) := by unfold Hid; rw [hp, hq]; rfl
  have HV0 : Hid (p = false → V = ([], [])) := fun e => by rw [hV, dtV, ← hp, e]; rfl
  have HV1 : Hid (p = true → ∀ i : Nat, (i : Int) = j → V = (butT T i, dlL i L L.length)) := fun e i hi => by rw [hV, dtV, ← hp, e, ← hi]; rfl
  simp only at m1 m3 HT HL ⊢
  clear h hV hp hq
  obtain ⟨m, hm⟩ : ∃ n, n = T.length := ⟨_, rfl⟩
  obtain ⟨l, hl⟩ : ∃ n, n = L.length := ⟨_, rfl⟩
  rw [← hm] at m1 C1 HT HP HQ ⊢
  rw [← hl] at m3 C1 HL HV1 ⊢
  have HM := Lib.hid hm
  have HLL := Lib.hid hl
  clear hm hl
  cases q
  · obtain rfl : p = false := by rw [HP.out]; rfl
    have HZ := Lib.hid (HV0.out rfl)
    go_enter Try.func17, Try.ntmps17
    go_wp2_with fail
    obtain ⟨W1, hW1⟩ : ∃ W, W = ((w.alloc (.cells #[.slice (a) m ca, .slice b l cb] 27)).alloc (.cells #[.slice none 0 0, .slice none 0 0] 27)) := ⟨_, rfl⟩
    rw [← hW1]
    have X1 : Ext w W1 := by rw [hW1]; exact ((Ext.refl w).al _).al _
    have B1 : W1.heap[w.heap.size]? = some (.cells #[.slice (a) m ca, .slice b l cb] 27) := by rw [hW1]; exact blk_old (blk_alloc _ _)
    have B2 : W1.heap[w.heap.size + 1]? = some (.cells #[.slice none 0 0, .slice none 0 0] 27) := by rw [hW1]; exact blk_alloc2 _ _ _
    have hs1 : W1.heap.size = w.heap.size + 2 := by rw [hW1, size_alloc, size_alloc]
    clear hW1
    refine ((C1).out _ X1).mono ?_
    rintro e wN ⟨rfl, hxN⟩
    have XX := X1.trans hxN
    have HB1 := Lib.hid (hxN.blk B1)
    have HB2 := Lib.hid (hxN.blk B2)
    have hsN := hxN.size
    have k0 := blk_cell HB1.out (j := 0) rfl
    have k1 := blk_cell HB1.out (j := 1) rfl
    have n0 := blk_cell HB2.out (j := 0) rfl
    have n1 := blk_cell HB2.out (j := 1) rfl
    have r0 := blk_free HB2.out 0
    have r1 := blk_free HB2.out 1
    clear hxN B1 B2 X1
    go_wp2
    refine bodyPost_ret (v := .tuple #[.agg #[.slice none 0 0, .slice none 0 0], .bool false]) (by simp [results, Try.results17, go_sem, n0, n1]) rfl ⟨_, rfl, ?_, (XX.st (p := ⟨w.heap.size + 1, 0, none⟩) (by dsimp only; omega) _).st (p := ⟨w.heap.size + 1, 1, none⟩) (by dsimp only; omega) _⟩
    rw [HZ.out]
    exact ⟨_, _, rfl, ⟨World.ownsRow_nil _ _ _ _, fun q hq => by simp [Value.ownBlock] at hq⟩, ⟨World.ownsRow_nil _ _ _ _, fun q hq => by simp [Value.ownBlock] at hq⟩, fun q hq => by simp [Value.ownBlock] at hq⟩
  by_cases hm1 : m = 1
  · obtain rfl : p = false := by rw [HP.out, hm1]; rfl
    have HZ := Lib.hid (HV0.out rfl)
    have hmI : ((m : Int) == 1) = true := by simp [hm1]
    clear hm1
    go_enter Try.func17, Try.ntmps17
    go_wp2_with fail
    obtain ⟨W1, hW1⟩ : ∃ W, W = ((w.alloc (.cells #[.slice (a) m ca, .slice b l cb] 27)).alloc (.cells #[.slice none 0 0, .slice none 0 0] 27)) := ⟨_, rfl⟩
    rw [← hW1]
    have X1 : Ext w W1 := by rw [hW1]; exact ((Ext.refl w).al _).al _
    have B1 : W1.heap[w.heap.size]? = some (.cells #[.slice (a) m ca, .slice b l cb] 27) := by rw [hW1]; exact blk_old (blk_alloc _ _)
    have B2 : W1.heap[w.heap.size + 1]? = some (.cells #[.slice none 0 0, .slice none 0 0] 27) := by rw [hW1]; exact blk_alloc2 _ _ _
    have hs1 : W1.heap.size = w.heap.size + 2 := by rw [hW1, size_alloc, size_alloc]
    clear hW1
    refine ((C1).out _ X1).mono ?_
    rintro e wN ⟨rfl, hxN⟩
    have XX := X1.trans hxN
    have HB1 := Lib.hid (hxN.blk B1)
    have HB2 := Lib.hid (hxN.blk B2)
    have hsN := hxN.size
    have k0 := blk_cell HB1.out (j := 0) rfl
    have k1 := blk_cell HB1.out (j := 1) rfl
    have n0 := blk_cell HB2.out (j := 0) rfl
    have n1 := blk_cell HB2.out (j := 1) rfl
    have r0 := blk_free HB2.out 0
    have r1 := blk_free HB2.out 1
    clear hxN B1 B2 X1
    go_wp2
    refine bodyPost_ret (v := .tuple #[.agg #[.slice none 0 0, .slice none 0 0], .bool false]) (by simp [results, Try.results17, go_sem, n0, n1]) rfl ⟨_, rfl, ?_, (XX.st (p := ⟨w.heap.size + 1, 0, none⟩) (by dsimp only; omega) _).st (p := ⟨w.heap.size + 1, 1, none⟩) (by dsimp only; omega) _⟩
    rw [HZ.out]
    exact ⟨_, _, rfl, ⟨World.ownsRow_nil _ _ _ _, fun q hq => by simp [Value.ownBlock] at hq⟩, ⟨World.ownsRow_nil _ _ _ _, fun q hq => by simp [Value.ownBlock] at hq⟩, fun q hq => by simp [Value.ownBlock] at hq⟩
  obtain rfl : p = true := by rw [HP.out]; simp [hm1]
  obtain ⟨hn, hj⟩ := HQ.out rfl
  have hjj := inB_t hj
  obtain ⟨i, rfl⟩ : ∃ i : Nat, j = (i : Int) := ⟨j.toNat, by omega⟩
  have HV := Lib.hid (HV1.out rfl i rfl)
  have HLK : Hid (∀ y ∈ L, lkB (m : Int) y = true) := by unfold Hid; rw [HM.out]; exact netB_links hn
  have hm16 : m ≤ 16 := by
    simp only [netB, Bool.and_eq_true] at hn
    have := inB_t hn.1
    have := HM.out
    omega
  have hl40 : l ≤ 40 := by rw [HLL.out]; exact net_links hn
  have him : i < m := by omega
  have HTL : Hid ((butT T i).length = m - 1) := by unfold Hid; rw [butT_len (by rw [← HM.out]; exact him), HM.out]
  have hmI : ((m : Int) == 1) = false := by simp; omega
  clear hm1
  clear hn hj HQ HV0 HV1 HP
  obtain ⟨mq, hm1'⟩ : ∃ n, n = m - 1 := ⟨_, rfl⟩
  rw [← hm1'] at HTL
  have HM1 := Lib.hid hm1'
  have hmq : mq = i + (m - (i + 1)) := by omega
  have HMQ := Lib.hid hmq
  clear hm1' hmq
  obtain ⟨nw1, hn1⟩ : ∃ n, n = (T.take i).flatMap encTower := ⟨_, rfl⟩
  obtain ⟨nw2, hn2⟩ : ∃ n, n = (T.drop (i + 1)).flatMap encTower := ⟨_, rfl⟩
  have hlen1 : nw1.length = i * 3 := by rw [hn1, flat_len encTower_len, List.length_take]; rw [← HM.out]; congr 1; omega
  have hlen2 : nw2.length = (m - (i + 1)) * 3 := by rw [hn2, flat_len encTower_len, List.length_drop, ← HM.out]
  obtain ⟨b8, o8, rfl, _⟩ : ∃ b8 o8, a = some ⟨b8, o8, none⟩ ∧ True := by
    obtain ⟨a9, c9, e9, _, _, b9, o9, h9, _⟩ := HT.out
    simp only [Value.slice.injEq] at e9
    obtain ⟨rfl, _, _⟩ := e9
    exact ⟨b9, o9, (h9 (by rw [← HM.out]; omega)).1, trivial⟩
  have hsrc := row_src encTower_len HT.out (by omega)
  have hsA : Hid (∀ W, Ext w W → ∀ t u, nw1[t]? = some u → W.cell? ((⟨b8, o8, none⟩ : Addr).add t) = some u) := fun W hX t u hu => by
    rw [add_lit1]
    refine hX.cell (hsrc t u ?_)
    rw [hn1, flat_take encTower_len, List.getElem?_take] at hu
    split at hu
    · exact hu
    · cases hu
  obtain ⟨A, hA, hsB⟩ : ∃ A : Addr, (if ca = i + 1 then some (⟨b8, o8, none⟩ : Addr) else some ⟨b8, o8 + (i + 1) * 3, none⟩) = some A ∧ Hid (∀ W, Ext w W → ∀ t u, nw2[t]? = some u → W.cell? (A.add t) = some u) := by
    by_cases hcp : ca = i + 1
    · refine ⟨⟨b8, o8, none⟩, by simp [hcp], fun W hX t u hu => ?_⟩
      have h0 : nw2.length = 0 := by rw [hlen2]; omega
      rw [List.length_eq_zero_iff.1 h0] at hu
      simp at hu
    · refine ⟨⟨b8, o8 + (i + 1) * 3, none⟩, by simp [hcp], fun W hX t u hu => ?_⟩
      rw [add_lit1]
      have e1 : o8 + (i + 1) * 3 + t = o8 + ((i + 1) * 3 + t) := by omega
      rw [e1]
      refine hX.cell (hsrc _ u ?_)
      rw [hn2, flat_drop encTower_len, List.getElem?_drop] at hu
      exact hu
  have o1 : Hid (∀ u ∈ nw1, u.oneCell' = true) := by unfold Hid; rw [hn1]; exact encTower_one _
  have o2 : Hid (∀ u ∈ nw2, u.oneCell' = true) := by unfold Hid; rw [hn2]; exact encTower_one _
  have HN : Hid (nw1 ++ nw2 = (butT T i).flatMap encTower) := by unfold Hid butT; rw [hn1, hn2, List.flatMap_append]
  have H1 := Lib.hid hlen1
  have H2 := Lib.hid hlen2
  have hkc : i ≤ ca := by omega
  have hkI : (i : Int) ≤ (m : Int) := by omega
  have hkI2 : (i : Int) + 1 ≤ (m : Int) := by omega
  have hwr : IntKind.i64.wrap ((i : Int) + 1) = (i : Int) + 1 := by rw [IntKind.wrap_i64]; omega
  have hp0 : (0 : Int) ≤ (i : Int) + 1 := by omega
  have hp2 : ((i : Int) + 1).toNat = i + 1 := by omega
  clear hlen1 hlen2 hsrc hn1 hn2
  go_enter Try.func17, Try.ntmps17
  go_wp2_with fail
  obtain ⟨W1, hW1⟩ : ∃ W, W = ((w.alloc (.cells #[.slice ((some ⟨b8, o8, none⟩)) m ca, .slice b l cb] 27)).alloc (.cells #[.slice none 0 0, .slice none 0 0] 27)) := ⟨_, rfl⟩
  rw [← hW1]
  have X1 : Ext w W1 := by rw [hW1]; exact ((Ext.refl w).al _).al _
  have B1 : W1.heap[w.heap.size]? = some (.cells #[.slice ((some ⟨b8, o8, none⟩)) m ca, .slice b l cb] 27) := by rw [hW1]; exact blk_old (blk_alloc _ _)
  have B2 : W1.heap[w.heap.size + 1]? = some (.cells #[.slice none 0 0, .slice none 0 0] 27) := by rw [hW1]; exact blk_alloc2 _ _ _
  have hs1 : W1.heap.size = w.heap.size + 2 := by rw [hW1, size_alloc, size_alloc]
  clear hW1
  refine ((C1).out _ X1).mono ?_
  rintro e wN ⟨rfl, hxN⟩
  have XX := X1.trans hxN
  have HB1 := Lib.hid (hxN.blk B1)
  have HB2 := Lib.hid (hxN.blk B2)
  have hsN := hxN.size
  have k0 := blk_cell HB1.out (j := 0) rfl
  have k1 := blk_cell HB1.out (j := 1) rfl
  have n0 := blk_cell HB2.out (j := 0) rfl
  have n1 := blk_cell HB2.out (j := 1) rfl
  have r0 := blk_free HB2.out 0
  have r1 := blk_free HB2.out 1
  clear hxN B1 B2 X1
  have XD : Hid (Ext w (wN.alloc (.cells #[] 75)).drew) := (XX.al _).dr
  go_wp2_with fail
  go_region_held3 (fun w' => w'.cell? ⟨w.heap.size, 0, none⟩ = some (.slice (some ⟨b8, o8, none⟩) m ca) ∧ w'.cell? ⟨w.heap.size, 1, none⟩ = some (.slice b l cb))
    (first | exact drop_S HB1.out (Ext.drew _) | exact drop_S HB1.out (Ext.alloc _ _) | exact drop_S HB1.out ((Ext.alloc _ _).dr) | exact drop_S HB1.out (((Ext.alloc _ _).al _).dr) | exact drop_S HB1.out ((Ext.alloc _ _).al _) | exact drop_S HB1.out XN7.out | exact drop_S HB1.out (XN7.out.al _) | exact drop_S HB1.out XN8.out | exact drop_S HB1.out (XN8.out.al _) | exact drop_S HB1.out ((XN8.out.st (by dsimp only; omega) _).st (by dsimp only; omega) _))
    ((first
      |
        (refine step_append_own rfl (.tmp 20) (.tmp 24) 24 rfl wN.heap.size 75 i0 (.agg #[.int .i64 0, .int .i64 0, .int .i64 0]) 3 24 Try.underlying24 hi0 hz0 hz1 hz2 rfl (by decide) (.slice (some ⟨wN.heap.size, 0, none⟩) 0 0) 0 [] (by simp [Act.eval, Act.put]) (own_ext (own_lit3 wN _) (Ext.drew _)) ⟨b8, o8, none⟩ i ca nw1 (by simp [Act.eval, Act.put]) H1.out (hsA.out _ (by first | exact (XX.al _).dr | exact ((XX.al _).al _).dr)) o1.out (by unfold maxLen; omega) (by omega) (by simp; try omega) ?_; intro v7 w7 hown7 hgr7; obtain ⟨a7, c7, rfl, _⟩ := own_form hown7; have XN7 : Hid (Ext wN w7) := drop_gr hgr7 (by simp [Value.ownBlock]) (by first | exact (Ext.alloc _ _).dr | exact ((Ext.alloc _ _).al _).dr); have HO7 := Lib.hid hown7; have hsz7 := hgr7.size; have hsz9 := XN7.out.size; have HG7 := Lib.hid hgr7; skip; clear hown7 hgr7)
      |
        (refine step_append_own rfl (.tmp 20) (.tmp 24) 24 rfl wN.heap.size 75 i0 (.agg #[.int .i64 0, .int .i64 0, .int .i64 0]) 3 24 Try.underlying24 hi0 hz0 hz1 hz2 rfl (by decide) (.slice (some ⟨wN.heap.size, 0, none⟩) 0 0) 0 [] (by simp [Act.eval, Act.put]) (own_ext (own_lit3 wN _) ((Ext.alloc _ _).dr)) ⟨b8, o8, none⟩ i ca nw1 (by simp [Act.eval, Act.put]) H1.out (hsA.out _ (by first | exact (XX.al _).dr | exact ((XX.al _).al _).dr)) o1.out (by unfold maxLen; omega) (by omega) (by simp; try omega) ?_; intro v7 w7 hown7 hgr7; obtain ⟨a7, c7, rfl, _⟩ := own_form hown7; have XN7 : Hid (Ext wN w7) := drop_gr hgr7 (by simp [Value.ownBlock]) (by first | exact (Ext.alloc _ _).dr | exact ((Ext.alloc _ _).al _).dr); have HO7 := Lib.hid hown7; have hsz7 := hgr7.size; have hsz9 := XN7.out.size; have HG7 := Lib.hid hgr7; have hb7 : w7.heap[wN.heap.size + 1]? = some (.cells #[.slice none 0 0, .slice none 0 0] 27) := grown_old hgr7 ((Ext.drew _).blk (blk_alloc2 _ _ _)) (by simp [Value.ownBlock]); clear hown7 hgr7)
      |
        (refine step_append_own rfl (.tmp 20) (.tmp 24) 24 rfl wN.heap.size 75 i0 (.agg #[.int .i64 0, .int .i64 0, .int .i64 0]) 3 24 Try.underlying24 hi0 hz0 hz1 hz2 rfl (by decide) (.slice (some ⟨wN.heap.size + 1, 0, none⟩) 0 0) 0 [] (by simp [Act.eval, Act.put]) (own_ext (own_lit3b wN _ _) (Ext.drew _)) ⟨b8, o8, none⟩ i ca nw1 (by simp [Act.eval, Act.put]) H1.out (hsA.out _ (by first | exact (XX.al _).dr | exact ((XX.al _).al _).dr)) o1.out (by unfold maxLen; omega) (by omega) (by simp; try omega) ?_; intro v7 w7 hown7 hgr7; obtain ⟨a7, c7, rfl, _⟩ := own_form hown7; have XN7 : Hid (Ext wN w7) := drop_gr hgr7 (by simp [Value.ownBlock]) (by first | exact (Ext.alloc _ _).dr | exact ((Ext.alloc _ _).al _).dr); have HO7 := Lib.hid hown7; have hsz7 := hgr7.size; have hsz9 := XN7.out.size; have HG7 := Lib.hid hgr7; have hb7 : w7.heap[wN.heap.size]? = some (.cells #[.slice none 0 0, .slice none 0 0] 27) := grown_old hgr7 ((Ext.drew _).blk (blk_old (blk_alloc _ _))) (by simp [Value.ownBlock]); clear hown7 hgr7)
      | (refine step_append_own rfl (.tmp 25) (.tmp 30) 24 rfl wN.heap.size 75 i0 (.agg #[.int .i64 0, .int .i64 0, .int .i64 0]) 3 24 Try.underlying24 hi0 hz0 hz1 hz2 rfl (by decide) (.slice a7 (0 + i) c7) (0 + i) ([] ++ nw1) (by simp [Act.eval, Act.put]) (by first | exact HO7.out | exact HO7.out.alloc _) A (m - (i + 1)) (ca - (i + 1)) nw2 (by simp [Act.eval, Act.put, hA]) H2.out (hsB.out _ (by first | exact XX.trans XN7.out | exact XX.trans (XN7.out.al _))) o2.out (by unfold maxLen; omega) (by omega) (by simp at hsz7 ⊢; omega) ?_; intro v8 w8 hown8 hgr8; obtain ⟨a8, c8, rfl, _⟩ := own_form hown8; have XN8 : Hid (Ext wN w8) := drop_gr hgr8 (fun q hq => (HO7.out.lt q hq).1) (by first | exact XN7.out | exact XN7.out.al _); have HO8 := Lib.hid hown8; have hsz8 := hgr8.size; have HG8 := Lib.hid hgr8; (first | (have hb8 := grown_old hgr8 hb7 (own_ne_box HO7.out hb7 (by decide))) | (have hA8 : w7.grownBy w8 _ := HG8.out; clear hA8) | (have hb8 := grown_old hgr8 (blk_alloc w7 (.cells #[.slice none 0 0, .slice none 0 0] 27)) (own_ne_box (HO7.out.alloc _) (blk_alloc w7 (.cells #[.slice none 0 0, .slice none 0 0] 27)) (by decide)))); (try (have e80 := blk_cell hb8 (j := 0) (v := .slice none 0 0) rfl; have e81 := blk_cell hb8 (j := 1) (v := .slice none 0 0) rfl; have f80 := blk_free hb8 0; have f81 := blk_free hb8 1)); clear hown8 hgr8)))
  all_goals
    have HT8 : Hid (w8.ownsRow (w.heap.size + 2) 75 3 (.slice a8 mq c8) mq ((butT T i).flatMap encTower)) := by
      unfold Hid
      have e9 := HO8.out
      rw [List.nil_append, HN.out, Nat.zero_add, ← HMQ.out] at e9
      exact own_mono e9 (by omega)
    have hs8 := XN8.out.size
    rw [← HMQ.out]
    have HY := Lib.hid (XX.trans XN8.out)
    have HY1 := Lib.hid (XN8.out.blk HB1.out)
    have HY2 := Lib.hid (XN8.out.blk HB2.out)
    clear k0 k1 n0 n1 r0 r1 HO7 HO8 HG7 HG8
  · obtain ⟨bo, hbo⟩ : ∃ b, b = w8.heap.size := ⟨_, rfl⟩
    obtain ⟨Ws, hWs⟩ : ∃ W, W = w8.alloc (.cells #[.slice a8 mq c8, .slice none 0 0] 27) := ⟨_, rfl⟩
    have hbo2 : w.heap.size + 2 ≤ bo := by omega
    have hB0 : Ws.heap[bo]? = some (.cells #[.slice a8 mq c8, .slice none 0 0] 27) := by rw [hWs, hbo]; exact blk_alloc _ _
    have hWE : Ext w Ws := by rw [hWs]; exact HY.out.al _
    have hT7 : Ws.ownsRow (w.heap.size + 2) 75 3 (.slice a8 mq c8) mq ((butT T i).flatMap encTower) := by rw [hWs]; exact HT8.out.alloc _
    have hTN : ∀ q, (Value.slice a8 mq c8).ownBlock = some q → q ≠ bo := fun q hq => by have := (HT8.out.lt q hq).2; omega
    have hN1 : Ws.heap[w.heap.size]? = some (.cells #[.slice (some ⟨b8, o8, none⟩) m ca, .slice b l cb] 27) := by rw [hWs]; exact blk_old HY1.out
    have hR : Ws.heap[w.heap.size + 1]? = some (.cells #[.slice none 0 0, .slice none 0 0] 27) := by rw [hWs]; exact blk_old HY2.out
    rw [← hWs, ← hbo]
    clear hWs hbo
    have HB0 := Lib.hid hB0
    have HWE := Lib.hid hWE
    have HT7 := Lib.hid hT7
    have HTN := Lib.hid hTN
    have HN1 := Lib.hid hN1
    have HR := Lib.hid hR
    have u1 := blk_cell hN1 (j := 1) (v := .slice b l cb) rfl
    have hbs : bo < Ws.heap.size := (Array.getElem?_eq_some_iff.1 hB0).1
    clear hB0 hWE hT7 hTN hN1 hR
    go_wp2_with fail
    clear u1
    go_loopw [36] (fun tk wr => ∃ (k : Nat) (a6 : Option Addr) (c6 : Nat) (U : List LinkT), k ≤ l ∧ tk = .int .i64 k ∧ Hid (wr.heap[bo]? = some (.cells #[.slice a8 mq c8, .slice a6 U.length c6] 27)) ∧
        wr.ownsRow Ws.heap.size 29 3 (.slice a6 U.length c6) U.length (U.flatMap encLink) ∧ Hid (U = dlL i L k) ∧ Keep bo (bo + 1) Ws wr) (fun tk _ => l - (intOf tk).toNat)
    case atStart => exact ⟨0, none, 0, [], by omega, rfl, HB0.out, World.ownsRow_nil _ _ _ _, rfl, Keep.refl _ _ _⟩
    case round =>
      obtain ⟨k, a6, c6, U, hk, rfl, hB, hown, hU, hx⟩ := hrel
      have HOWN := Lib.hid hown
      have XW := HWE.out.keep hx (by omega)
      have hUl := dlL_len i L k
      rw [← hU.out] at hUl
      have hszr := hx.size
      clear hown
      by_cases hlt : k < l
      · have hltI : (k : Int) < (l : Int) := by omega
        obtain ⟨b9, o9, y, rfl, hy, c0, c1, c2⟩ := Links_at (HL.out.ext XW hh) hlt
        obtain ⟨y1, y2, y3⟩ := y
        have hlk := HLK.out _ (List.mem_of_getElem? hy.out)
        simp only [lkB, Bool.and_eq_true, decide_eq_true_eq] at hlk
        obtain ⟨q1, q2, q3, _⟩ := hlk
        have hsn := Lib.hid (dlL_succ (i := i) hy.out)
        simp only at c0 c1 c2 q1 q2 q3
        have n1 := blk_cell (hx.blk HN1.out (Or.inl (by omega))) (j := 1) (v := .slice (some ⟨b9, o9, none⟩) l cb) rfl
        have s1 := blk_cell hB.out (j := 1) rfl
        have s2 := blk_free hB.out 1
        have hbw : bo < wr.heap.size := (Array.getElem?_eq_some_iff.1 hB.out).1
        have hbw2 : ¬ (bo = wr.heap.size) := by omega
        by_cases e1 : y1 = i
        · have hb1 : (y1 == (i : Int)) = true := by simp [e1]
          rw [show dl i (y1, y2, y3) = [] by simp [dl, e1]] at hsn
          go_wp2
          go_roundw
          case rel => exact ⟨k + 1, a6, c6, U, by omega, by go_num, blk_old hB.out, HOWN.out.alloc _, (by unfold Hid; rw [hsn.out, ← hU.out, List.append_nil]), keep_al hx _⟩
          case measure => simp [intOf]; omega
        have hb1 : (y1 == (i : Int)) = false := by simp [e1]
        by_cases e2 : y2 = i
        · have hb2 : (y2 == (i : Int)) = true := by simp [e2]
          rw [show dl i (y1, y2, y3) = [] by simp [dl, e2]] at hsn
          go_wp2
          go_roundw
          case rel => exact ⟨k + 1, a6, c6, U, by omega, by go_num, blk_old hB.out, HOWN.out.alloc _, (by unfold Hid; rw [hsn.out, ← hU.out, List.append_nil]), keep_al hx _⟩
          case measure => simp [intOf]; omega
        have hb2 : (y2 == (i : Int)) = false := by simp [e2]
        by_cases e3 : (i : Int) < y1
        · have e4 : (i : Int) < y2 := by omega
          rw [show dl i (y1, y2, y3) = [(y1 - 1, y2 - 1, y3)] by simp [dl, e1, e2, e3, e4]] at hsn
          have s3 := blk_cell (blk_old hB.out (o' := .cells #[.int .i64 (y1 - 1), .int .i64 (y2 - 1), .int .i64 y3] 29)) (j := 1) (v := .slice a6 U.length c6) rfl
          have s4 := blk_free (blk_old hB.out (o' := .cells #[.int .i64 (y1 - 1), .int .i64 (y2 - 1), .int .i64 y3] 29)) 1
          go_wp2_with
            (at_builtin; refine wpList_append_own _ rfl _ _ 25 rfl Ws.heap.size 29 l0 (.agg #[.int .i64 0, .int .i64 0, .int .i64 0]) 3 24 Try.underlying25 hl0 hlz0 hlz1 hlz2 rfl (by decide) _ _ _ rfl ((HOWN.out.alloc _).alloc _) ⟨wr.heap.size + 1, 0, none⟩ 1 1 [.int .i64 (y1 - 1), .int .i64 (y2 - 1), .int .i64 (y3)] rfl rfl (new_cells3b _ _ _ _ _ _) (by intro u hu; simp at hu; rcases hu with rfl | rfl | rfl <;> rfl) (by unfold maxLen; omega) (by omega) (by simp; omega) ?_; intro v6 w6 hown6 hgrow6 _; obtain ⟨a9, c9, rfl, _, _, _⟩ := own_form hown6; have hb6 := grown_box (blk_old hB.out) (HOWN.out.alloc _) hgrow6 hbs; have e61 := blk_cell hb6 (j := 1) rfl; have f61 := blk_free hb6 1)
          have h61 := Lib.hid (own_set_box (j := 1) (z := .slice a9 (U.length + 1) c9) hown6 hbs)
          have h62 := Lib.hid (box_set1 (z := .slice a9 (U.length + 1) c9) hb6)
          have h63 := Lib.hid (keep_st (keep_push (keep_al hx _) (HOWN.out.alloc _) hgrow6 (Nat.le_refl _)) 1 (.slice a9 (U.length + 1) c9))
          clear hown6 hgrow6 hb6 e61 f61
          go_roundw
          case rel => exact ⟨k + 1, a9, c9, U ++ [(y1 - 1, y2 - 1, y3)], by omega, by go_num, (by rw [List.length_append]; exact h62.out), (by rw [List.length_append, ← link_snoc]; exact h61.out), (by unfold Hid; rw [hsn.out, ← hU.out]), h63.out⟩
          case measure => simp [intOf]; omega
        · by_cases e4 : (i : Int) < y2
          · rw [show dl i (y1, y2, y3) = [(y1, y2 - 1, y3)] by simp [dl, e1, e2, e3, e4]] at hsn
            have s3 := blk_cell (blk_old hB.out (o' := .cells #[.int .i64 (y1), .int .i64 (y2 - 1), .int .i64 y3] 29)) (j := 1) (v := .slice a6 U.length c6) rfl
            have s4 := blk_free (blk_old hB.out (o' := .cells #[.int .i64 (y1), .int .i64 (y2 - 1), .int .i64 y3] 29)) 1
            go_wp2_with
              (at_builtin; refine wpList_append_own _ rfl _ _ 25 rfl Ws.heap.size 29 l0 (.agg #[.int .i64 0, .int .i64 0, .int .i64 0]) 3 24 Try.underlying25 hl0 hlz0 hlz1 hlz2 rfl (by decide) _ _ _ rfl ((HOWN.out.alloc _).alloc _) ⟨wr.heap.size + 1, 0, none⟩ 1 1 [.int .i64 (y1), .int .i64 (y2 - 1), .int .i64 (y3)] rfl rfl (new_cells3b _ _ _ _ _ _) (by intro u hu; simp at hu; rcases hu with rfl | rfl | rfl <;> rfl) (by unfold maxLen; omega) (by omega) (by simp; omega) ?_; intro v6 w6 hown6 hgrow6 _; obtain ⟨a9, c9, rfl, _, _, _⟩ := own_form hown6; have hb6 := grown_box (blk_old hB.out) (HOWN.out.alloc _) hgrow6 hbs; have e61 := blk_cell hb6 (j := 1) rfl; have f61 := blk_free hb6 1)
            have h61 := Lib.hid (own_set_box (j := 1) (z := .slice a9 (U.length + 1) c9) hown6 hbs)
            have h62 := Lib.hid (box_set1 (z := .slice a9 (U.length + 1) c9) hb6)
            have h63 := Lib.hid (keep_st (keep_push (keep_al hx _) (HOWN.out.alloc _) hgrow6 (Nat.le_refl _)) 1 (.slice a9 (U.length + 1) c9))
            clear hown6 hgrow6 hb6 e61 f61
            go_roundw
            case rel => exact ⟨k + 1, a9, c9, U ++ [(y1, y2 - 1, y3)], by omega, by go_num, (by rw [List.length_append]; exact h62.out), (by rw [List.length_append, ← link_snoc]; exact h61.out), (by unfold Hid; rw [hsn.out, ← hU.out]), h63.out⟩
            case measure => simp [intOf]; omega
          · rw [show dl i (y1, y2, y3) = [(y1, y2, y3)] by simp [dl, e1, e2, e3, e4]] at hsn
            have s3 := blk_cell (blk_old hB.out (o' := .cells #[.int .i64 (y1), .int .i64 (y2), .int .i64 y3] 29)) (j := 1) (v := .slice a6 U.length c6) rfl
            have s4 := blk_free (blk_old hB.out (o' := .cells #[.int .i64 (y1), .int .i64 (y2), .int .i64 y3] 29)) 1
            go_wp2_with
              (at_builtin; refine wpList_append_own _ rfl _ _ 25 rfl Ws.heap.size 29 l0 (.agg #[.int .i64 0, .int .i64 0, .int .i64 0]) 3 24 Try.underlying25 hl0 hlz0 hlz1 hlz2 rfl (by decide) _ _ _ rfl ((HOWN.out.alloc _).alloc _) ⟨wr.heap.size + 1, 0, none⟩ 1 1 [.int .i64 (y1), .int .i64 (y2), .int .i64 (y3)] rfl rfl (new_cells3b _ _ _ _ _ _) (by intro u hu; simp at hu; rcases hu with rfl | rfl | rfl <;> rfl) (by unfold maxLen; omega) (by omega) (by simp; omega) ?_; intro v6 w6 hown6 hgrow6 _; obtain ⟨a9, c9, rfl, _, _, _⟩ := own_form hown6; have hb6 := grown_box (blk_old hB.out) (HOWN.out.alloc _) hgrow6 hbs; have e61 := blk_cell hb6 (j := 1) rfl; have f61 := blk_free hb6 1)
            have h61 := Lib.hid (own_set_box (j := 1) (z := .slice a9 (U.length + 1) c9) hown6 hbs)
            have h62 := Lib.hid (box_set1 (z := .slice a9 (U.length + 1) c9) hb6)
            have h63 := Lib.hid (keep_st (keep_push (keep_al hx _) (HOWN.out.alloc _) hgrow6 (Nat.le_refl _)) 1 (.slice a9 (U.length + 1) c9))
            clear hown6 hgrow6 hb6 e61 f61
            go_roundw
            case rel => exact ⟨k + 1, a9, c9, U ++ [(y1, y2, y3)], by omega, by go_num, (by rw [List.length_append]; exact h62.out), (by rw [List.length_append, ← link_snoc]; exact h61.out), (by unfold Hid; rw [hsn.out, ← hU.out]), h63.out⟩
            case measure => simp [intOf]; omega
      · have hge : ¬ ((k : Int) < (l : Int)) := by omega
        have hkl : k = l := by omega
        have HU3 : Hid (U = dlL i L l) := by unfold Hid; rw [hU.out, hkl]
        have d0 := blk_cell hB.out (j := 0) rfl
        have d1 := blk_cell hB.out (j := 1) rfl
        have r1 := hx.blk HR.out (Or.inl (by omega))
        have t0 := blk_cell r1 (j := 0) rfl
        have t1 := blk_cell r1 (j := 1) rfl
        have t2 := blk_free r1 0
        have t3 := blk_free r1 1
        clear hkl
        go_wp2
        obtain ⟨w9, hw9⟩ : ∃ W, W = ((wr.setCell ⟨w.heap.size + 1, 0, none⟩ (.slice a8 mq c8)).setCell ⟨w.heap.size + 1, 1, none⟩ (.slice a6 U.length c6)) := ⟨_, rfl⟩
        rw [← hw9]
        have g1 : (wr.setCell ⟨w.heap.size + 1, 0, none⟩ (.slice a8 mq c8)).heap[w.heap.size + 1]? = some (.cells #[.slice a8 mq c8, .slice none 0 0] 27) := by rw [heap_setCell_same _ _ _ _ _ _ r1]; rfl
        have g2 : w9.heap[w.heap.size + 1]? = some (.cells #[.slice a8 mq c8, .slice a6 U.length c6] 27) := by rw [hw9, heap_setCell_same _ _ _ _ _ _ g1]; rfl
        have k90 := blk_cell g2 (j := 0) rfl
        have k91 := blk_cell g2 (j := 1) rfl
        have X9 : Hid (Ext w w9) := by unfold Hid; rw [hw9]; exact (XW.st (by dsimp only; omega) _).st (by dsimp only; omega) _
        have HO9 : Hid (w9.ownsRow Ws.heap.size 29 3 (.slice a6 U.length c6) U.length (U.flatMap encLink)) := by
          unfold Hid
          rw [hw9]
          exact ownsRow_setCell_below (ownsRow_setCell_below HOWN.out (by dsimp only; omega) _) (by dsimp only; omega) _
        have HT9 : Hid (w9.ownsRow (w.heap.size + 2) 75 3 (.slice a8 mq c8) mq ((butT T i).flatMap encTower)) := by
          unfold Hid
          rw [hw9]
          exact ownsRow_setCell_below (ownsRow_setCell_below (own_keep HT7.out hx (fun q hq => by have := HTN.out q hq; omega)) (by dsimp only; omega) _) (by dsimp only; omega) _
        have hs9 : w9.heap.size = wr.heap.size := by rw [hw9]; simp
        have hown4 := HT7.out
        clear hw9 g1 g2
        refine bodyPost_ret (v := .tuple #[.agg #[.slice a8 mq c8, .slice a6 U.length c6], .bool true]) (by simp [results, Try.results17, go_sem, k90, k91]) rfl ⟨_, rfl, ?_, X9.out⟩
        rw [HV.out, HU3.out.symm]
        refine ⟨_, _, rfl, ⟨?_, fun q hq => ?_⟩, ⟨?_, fun q hq => ?_⟩, fun q hq => ?_⟩
        · show w9.ownsRow _ _ _ _ (butT T i).length _
          rw [HTL.out]
          exact own_mono HT9.out (by omega)
        · have := (HT9.out.lt q hq).2; exact this
        · exact own_mono HO9.out (by omega)
        · have := (HO9.out.lt q hq).2; exact this
        · intro hq2
          have h1 := (hown4.lt q hq).2
          have h2 := (HO9.out.lt q hq2).1
          omega
  · obtain ⟨bo, hbo⟩ : ∃ b, b = w7.heap.size := ⟨_, rfl⟩
    rw [← hbo] at hb8 ⊢
    obtain ⟨Ws, hWs⟩ : ∃ W, W = (w8.setCell ⟨bo, 0, none⟩ (.slice a8 mq c8)).setCell ⟨bo, 1, none⟩ (.slice none 0 0) := ⟨_, rfl⟩
    have hbo2 : w.heap.size + 2 ≤ bo := by omega
    have hB0 : Ws.heap[bo]? = some (.cells #[.slice a8 mq c8, .slice none 0 0] 27) := by
      have g1 : (w8.setCell ⟨bo, 0, none⟩ (.slice a8 mq c8)).heap[bo]? = some (.cells #[.slice a8 mq c8, .slice none 0 0] 27) := by rw [heap_setCell_same _ _ _ _ _ _ hb8]; rfl
      rw [hWs, heap_setCell_same _ _ _ _ _ _ g1]; rfl
    have hKS : Keep bo (bo + 1) w8 Ws := by rw [hWs]; exact keep_st (keep_st (Keep.refl _ _ _) 0 _) 1 _
    have hTN : ∀ q, (Value.slice a8 mq c8).ownBlock = some q → q ≠ bo := fun q hq e => own_ne_box HT8.out hb8 (by decide) (e ▸ hq)
    have hWE : Ext w Ws := HY.out.keep hKS (by omega)
    have hT7 : Ws.ownsRow (w.heap.size + 2) 75 3 (.slice a8 mq c8) mq ((butT T i).flatMap encTower) := own_keep HT8.out hKS (fun q hq => by have := hTN q hq; omega)
    have hN1 : Ws.heap[w.heap.size]? = some (.cells #[.slice (some ⟨b8, o8, none⟩) m ca, .slice b l cb] 27) := hKS.blk HY1.out (Or.inl (by omega))
    have hR : Ws.heap[w.heap.size + 1]? = some (.cells #[.slice none 0 0, .slice none 0 0] 27) := hKS.blk HY2.out (Or.inl (by omega))
    rw [← hWs]
    clear hWs hbo hKS hb8 e80 e81 f80 f81
    try clear hb7
    have HB0 := Lib.hid hB0
    have HWE := Lib.hid hWE
    have HT7 := Lib.hid hT7
    have HTN := Lib.hid hTN
    have HN1 := Lib.hid hN1
    have HR := Lib.hid hR
    have u1 := blk_cell hN1 (j := 1) (v := .slice b l cb) rfl
    have hbs : bo < Ws.heap.size := (Array.getElem?_eq_some_iff.1 hB0).1
    clear hB0 hWE hT7 hTN hN1 hR
    go_wp2_with fail
    clear u1
    go_loopw [36] (fun tk wr => ∃ (k : Nat) (a6 : Option Addr) (c6 : Nat) (U : List LinkT), k ≤ l ∧ tk = .int .i64 k ∧ Hid (wr.heap[bo]? = some (.cells #[.slice a8 mq c8, .slice a6 U.length c6] 27)) ∧
        wr.ownsRow Ws.heap.size 29 3 (.slice a6 U.length c6) U.length (U.flatMap encLink) ∧ Hid (U = dlL i L k) ∧ Keep bo (bo + 1) Ws wr) (fun tk _ => l - (intOf tk).toNat)
    case atStart => exact ⟨0, none, 0, [], by omega, rfl, HB0.out, World.ownsRow_nil _ _ _ _, rfl, Keep.refl _ _ _⟩
    case round =>
      obtain ⟨k, a6, c6, U, hk, rfl, hB, hown, hU, hx⟩ := hrel
      have HOWN := Lib.hid hown
      have XW := HWE.out.keep hx (by omega)
      have hUl := dlL_len i L k
      rw [← hU.out] at hUl
      have hszr := hx.size
      clear hown
      by_cases hlt : k < l
      · have hltI : (k : Int) < (l : Int) := by omega
        obtain ⟨b9, o9, y, rfl, hy, c0, c1, c2⟩ := Links_at (HL.out.ext XW hh) hlt
        obtain ⟨y1, y2, y3⟩ := y
        have hlk := HLK.out _ (List.mem_of_getElem? hy.out)
        simp only [lkB, Bool.and_eq_true, decide_eq_true_eq] at hlk
        obtain ⟨q1, q2, q3, _⟩ := hlk
        have hsn := Lib.hid (dlL_succ (i := i) hy.out)
        simp only at c0 c1 c2 q1 q2 q3
        have n1 := blk_cell (hx.blk HN1.out (Or.inl (by omega))) (j := 1) (v := .slice (some ⟨b9, o9, none⟩) l cb) rfl
        have s1 := blk_cell hB.out (j := 1) rfl
        have s2 := blk_free hB.out 1
        have hbw : bo < wr.heap.size := (Array.getElem?_eq_some_iff.1 hB.out).1
        have hbw2 : ¬ (bo = wr.heap.size) := by omega
        by_cases e1 : y1 = i
        · have hb1 : (y1 == (i : Int)) = true := by simp [e1]
          rw [show dl i (y1, y2, y3) = [] by simp [dl, e1]] at hsn
          go_wp2
          go_roundw
          case rel => exact ⟨k + 1, a6, c6, U, by omega, by go_num, blk_old hB.out, HOWN.out.alloc _, (by unfold Hid; rw [hsn.out, ← hU.out, List.append_nil]), keep_al hx _⟩
          case measure => simp [intOf]; omega
        have hb1 : (y1 == (i : Int)) = false := by simp [e1]
        by_cases e2 : y2 = i
        · have hb2 : (y2 == (i : Int)) = true := by simp [e2]
          rw [show dl i (y1, y2, y3) = [] by simp [dl, e2]] at hsn
          go_wp2
          go_roundw
          case rel => exact ⟨k + 1, a6, c6, U, by omega, by go_num, blk_old hB.out, HOWN.out.alloc _, (by unfold Hid; rw [hsn.out, ← hU.out, List.append_nil]), keep_al hx _⟩
          case measure => simp [intOf]; omega
        have hb2 : (y2 == (i : Int)) = false := by simp [e2]
        by_cases e3 : (i : Int) < y1
        · have e4 : (i : Int) < y2 := by omega
          rw [show dl i (y1, y2, y3) = [(y1 - 1, y2 - 1, y3)] by simp [dl, e1, e2, e3, e4]] at hsn
          have s3 := blk_cell (blk_old hB.out (o' := .cells #[.int .i64 (y1 - 1), .int .i64 (y2 - 1), .int .i64 y3] 29)) (j := 1) (v := .slice a6 U.length c6) rfl
          have s4 := blk_free (blk_old hB.out (o' := .cells #[.int .i64 (y1 - 1), .int .i64 (y2 - 1), .int .i64 y3] 29)) 1
          go_wp2_with
            (at_builtin; refine wpList_append_own _ rfl _ _ 25 rfl Ws.heap.size 29 l0 (.agg #[.int .i64 0, .int .i64 0, .int .i64 0]) 3 24 Try.underlying25 hl0 hlz0 hlz1 hlz2 rfl (by decide) _ _ _ rfl ((HOWN.out.alloc _).alloc _) ⟨wr.heap.size + 1, 0, none⟩ 1 1 [.int .i64 (y1 - 1), .int .i64 (y2 - 1), .int .i64 (y3)] rfl rfl (new_cells3b _ _ _ _ _ _) (by intro u hu; simp at hu; rcases hu with rfl | rfl | rfl <;> rfl) (by unfold maxLen; omega) (by omega) (by simp; omega) ?_; intro v6 w6 hown6 hgrow6 _; obtain ⟨a9, c9, rfl, _, _, _⟩ := own_form hown6; have hb6 := grown_box (blk_old hB.out) (HOWN.out.alloc _) hgrow6 hbs; have e61 := blk_cell hb6 (j := 1) rfl; have f61 := blk_free hb6 1)
          have h61 := Lib.hid (own_set_box (j := 1) (z := .slice a9 (U.length + 1) c9) hown6 hbs)
          have h62 := Lib.hid (box_set1 (z := .slice a9 (U.length + 1) c9) hb6)
          have h63 := Lib.hid (keep_st (keep_push (keep_al hx _) (HOWN.out.alloc _) hgrow6 (Nat.le_refl _)) 1 (.slice a9 (U.length + 1) c9))
          clear hown6 hgrow6 hb6 e61 f61
          go_roundw
          case rel => exact ⟨k + 1, a9, c9, U ++ [(y1 - 1, y2 - 1, y3)], by omega, by go_num, (by rw [List.length_append]; exact h62.out), (by rw [List.length_append, ← link_snoc]; exact h61.out), (by unfold Hid; rw [hsn.out, ← hU.out]), h63.out⟩
          case measure => simp [intOf]; omega
        · by_cases e4 : (i : Int) < y2
          · rw [show dl i (y1, y2, y3) = [(y1, y2 - 1, y3)] by simp [dl, e1, e2, e3, e4]] at hsn
            have s3 := blk_cell (blk_old hB.out (o' := .cells #[.int .i64 (y1), .int .i64 (y2 - 1), .int .i64 y3] 29)) (j := 1) (v := .slice a6 U.length c6) rfl
            have s4 := blk_free (blk_old hB.out (o' := .cells #[.int .i64 (y1), .int .i64 (y2 - 1), .int .i64 y3] 29)) 1
            go_wp2_with
              (at_builtin; refine wpList_append_own _ rfl _ _ 25 rfl Ws.heap.size 29 l0 (.agg #[.int .i64 0, .int .i64 0, .int .i64 0]) 3 24 Try.underlying25 hl0 hlz0 hlz1 hlz2 rfl (by decide) _ _ _ rfl ((HOWN.out.alloc _).alloc _) ⟨wr.heap.size + 1, 0, none⟩ 1 1 [.int .i64 (y1), .int .i64 (y2 - 1), .int .i64 (y3)] rfl rfl (new_cells3b _ _ _ _ _ _) (by intro u hu; simp at hu; rcases hu with rfl | rfl | rfl <;> rfl) (by unfold maxLen; omega) (by omega) (by simp; omega) ?_; intro v6 w6 hown6 hgrow6 _; obtain ⟨a9, c9, rfl, _, _, _⟩ := own_form hown6; have hb6 := grown_box (blk_old hB.out) (HOWN.out.alloc _) hgrow6 hbs; have e61 := blk_cell hb6 (j := 1) rfl; have f61 := blk_free hb6 1)
            have h61 := Lib.hid (own_set_box (j := 1) (z := .slice a9 (U.length + 1) c9) hown6 hbs)
            have h62 := Lib.hid (box_set1 (z := .slice a9 (U.length + 1) c9) hb6)
            have h63 := Lib.hid (keep_st (keep_push (keep_al hx _) (HOWN.out.alloc _) hgrow6 (Nat.le_refl _)) 1 (.slice a9 (U.length + 1) c9))
            clear hown6 hgrow6 hb6 e61 f61
            go_roundw
            case rel => exact ⟨k + 1, a9, c9, U ++ [(y1, y2 - 1, y3)], by omega, by go_num, (by rw [List.length_append]; exact h62.out), (by rw [List.length_append, ← link_snoc]; exact h61.out), (by unfold Hid; rw [hsn.out, ← hU.out]), h63.out⟩
            case measure => simp [intOf]; omega
          · rw [show dl i (y1, y2, y3) = [(y1, y2, y3)] by simp [dl, e1, e2, e3, e4]] at hsn
            have s3 := blk_cell (blk_old hB.out (o' := .cells #[.int .i64 (y1), .int .i64 (y2), .int .i64 y3] 29)) (j := 1) (v := .slice a6 U.length c6) rfl
            have s4 := blk_free (blk_old hB.out (o' := .cells #[.int .i64 (y1), .int .i64 (y2), .int .i64 y3] 29)) 1
            go_wp2_with
              (at_builtin; refine wpList_append_own _ rfl _ _ 25 rfl Ws.heap.size 29 l0 (.agg #[.int .i64 0, .int .i64 0, .int .i64 0]) 3 24 Try.underlying25 hl0 hlz0 hlz1 hlz2 rfl (by decide) _ _ _ rfl ((HOWN.out.alloc _).alloc _) ⟨wr.heap.size + 1, 0, none⟩ 1 1 [.int .i64 (y1), .int .i64 (y2), .int .i64 (y3)] rfl rfl (new_cells3b _ _ _ _ _ _) (by intro u hu; simp at hu; rcases hu with rfl | rfl | rfl <;> rfl) (by unfold maxLen; omega) (by omega) (by simp; omega) ?_; intro v6 w6 hown6 hgrow6 _; obtain ⟨a9, c9, rfl, _, _, _⟩ := own_form hown6; have hb6 := grown_box (blk_old hB.out) (HOWN.out.alloc _) hgrow6 hbs; have e61 := blk_cell hb6 (j := 1) rfl; have f61 := blk_free hb6 1)
            have h61 := Lib.hid (own_set_box (j := 1) (z := .slice a9 (U.length + 1) c9) hown6 hbs)
            have h62 := Lib.hid (box_set1 (z := .slice a9 (U.length + 1) c9) hb6)
            have h63 := Lib.hid (keep_st (keep_push (keep_al hx _) (HOWN.out.alloc _) hgrow6 (Nat.le_refl _)) 1 (.slice a9 (U.length + 1) c9))
            clear hown6 hgrow6 hb6 e61 f61
            go_roundw
            case rel => exact ⟨k + 1, a9, c9, U ++ [(y1, y2, y3)], by omega, by go_num, (by rw [List.length_append]; exact h62.out), (by rw [List.length_append, ← link_snoc]; exact h61.out), (by unfold Hid; rw [hsn.out, ← hU.out]), h63.out⟩
            case measure => simp [intOf]; omega
      · have hge : ¬ ((k : Int) < (l : Int)) := by omega
        have hkl : k = l := by omega
        have HU3 : Hid (U = dlL i L l) := by unfold Hid; rw [hU.out, hkl]
        have d0 := blk_cell hB.out (j := 0) rfl
        have d1 := blk_cell hB.out (j := 1) rfl
        have r1 := hx.blk HR.out (Or.inl (by omega))
        have t0 := blk_cell r1 (j := 0) rfl
        have t1 := blk_cell r1 (j := 1) rfl
        have t2 := blk_free r1 0
        have t3 := blk_free r1 1
        clear hkl
        go_wp2
        obtain ⟨w9, hw9⟩ : ∃ W, W = ((wr.setCell ⟨w.heap.size + 1, 0, none⟩ (.slice a8 mq c8)).setCell ⟨w.heap.size + 1, 1, none⟩ (.slice a6 U.length c6)) := ⟨_, rfl⟩
        rw [← hw9]
        have g1 : (wr.setCell ⟨w.heap.size + 1, 0, none⟩ (.slice a8 mq c8)).heap[w.heap.size + 1]? = some (.cells #[.slice a8 mq c8, .slice none 0 0] 27) := by rw [heap_setCell_same _ _ _ _ _ _ r1]; rfl
        have g2 : w9.heap[w.heap.size + 1]? = some (.cells #[.slice a8 mq c8, .slice a6 U.length c6] 27) := by rw [hw9, heap_setCell_same _ _ _ _ _ _ g1]; rfl
        have k90 := blk_cell g2 (j := 0) rfl
        have k91 := blk_cell g2 (j := 1) rfl
        have X9 : Hid (Ext w w9) := by unfold Hid; rw [hw9]; exact (XW.st (by dsimp only; omega) _).st (by dsimp only; omega) _
        have HO9 : Hid (w9.ownsRow Ws.heap.size 29 3 (.slice a6 U.length c6) U.length (U.flatMap encLink)) := by
          unfold Hid
          rw [hw9]
          exact ownsRow_setCell_below (ownsRow_setCell_below HOWN.out (by dsimp only; omega) _) (by dsimp only; omega) _
        have HT9 : Hid (w9.ownsRow (w.heap.size + 2) 75 3 (.slice a8 mq c8) mq ((butT T i).flatMap encTower)) := by
          unfold Hid
          rw [hw9]
          exact ownsRow_setCell_below (ownsRow_setCell_below (own_keep HT7.out hx (fun q hq => by have := HTN.out q hq; omega)) (by dsimp only; omega) _) (by dsimp only; omega) _
        have hs9 : w9.heap.size = wr.heap.size := by rw [hw9]; simp
        have hown4 := HT7.out
        clear hw9 g1 g2
        refine bodyPost_ret (v := .tuple #[.agg #[.slice a8 mq c8, .slice a6 U.length c6], .bool true]) (by simp [results, Try.results17, go_sem, k90, k91]) rfl ⟨_, rfl, ?_, X9.out⟩
        rw [HV.out, HU3.out.symm]
        refine ⟨_, _, rfl, ⟨?_, fun q hq => ?_⟩, ⟨?_, fun q hq => ?_⟩, fun q hq => ?_⟩
        · show w9.ownsRow _ _ _ _ (butT T i).length _
          rw [HTL.out]
          exact own_mono HT9.out (by omega)
        · have := (HT9.out.lt q hq).2; exact this
        · exact own_mono HO9.out (by omega)
        · have := (HO9.out.lt q hq).2; exact this
        · intro hq2
          have h1 := (hown4.lt q hq).2
          have h2 := (HO9.out.lt q hq2).1
          omega
  · obtain ⟨bo, hbo⟩ : ∃ b, b = wN.heap.size + 1 := ⟨_, rfl⟩
    rw [← hbo] at hb8 ⊢
    obtain ⟨Ws, hWs⟩ : ∃ W, W = (w8.setCell ⟨bo, 0, none⟩ (.slice a8 mq c8)).setCell ⟨bo, 1, none⟩ (.slice none 0 0) := ⟨_, rfl⟩
    have hbo2 : w.heap.size + 2 ≤ bo := by omega
    have hB0 : Ws.heap[bo]? = some (.cells #[.slice a8 mq c8, .slice none 0 0] 27) := by
      have g1 : (w8.setCell ⟨bo, 0, none⟩ (.slice a8 mq c8)).heap[bo]? = some (.cells #[.slice a8 mq c8, .slice none 0 0] 27) := by rw [heap_setCell_same _ _ _ _ _ _ hb8]; rfl
      rw [hWs, heap_setCell_same _ _ _ _ _ _ g1]; rfl
    have hKS : Keep bo (bo + 1) w8 Ws := by rw [hWs]; exact keep_st (keep_st (Keep.refl _ _ _) 0 _) 1 _
    have hTN : ∀ q, (Value.slice a8 mq c8).ownBlock = some q → q ≠ bo := fun q hq e => own_ne_box HT8.out hb8 (by decide) (e ▸ hq)
    have hWE : Ext w Ws := HY.out.keep hKS (by omega)
    have hT7 : Ws.ownsRow (w.heap.size + 2) 75 3 (.slice a8 mq c8) mq ((butT T i).flatMap encTower) := own_keep HT8.out hKS (fun q hq => by have := hTN q hq; omega)
    have hN1 : Ws.heap[w.heap.size]? = some (.cells #[.slice (some ⟨b8, o8, none⟩) m ca, .slice b l cb] 27) := hKS.blk HY1.out (Or.inl (by omega))
    have hR : Ws.heap[w.heap.size + 1]? = some (.cells #[.slice none 0 0, .slice none 0 0] 27) := hKS.blk HY2.out (Or.inl (by omega))
    rw [← hWs]
    clear hWs hbo hKS hb8 e80 e81 f80 f81
    try clear hb7
    have HB0 := Lib.hid hB0
    have HWE := Lib.hid hWE
    have HT7 := Lib.hid hT7
    have HTN := Lib.hid hTN
    have HN1 := Lib.hid hN1
    have HR := Lib.hid hR
    have u1 := blk_cell hN1 (j := 1) (v := .slice b l cb) rfl
    have hbs : bo < Ws.heap.size := (Array.getElem?_eq_some_iff.1 hB0).1
    clear hB0 hWE hT7 hTN hN1 hR
    go_wp2_with fail
    clear u1
    go_loopw [36] (fun tk wr => ∃ (k : Nat) (a6 : Option Addr) (c6 : Nat) (U : List LinkT), k ≤ l ∧ tk = .int .i64 k ∧ Hid (wr.heap[bo]? = some (.cells #[.slice a8 mq c8, .slice a6 U.length c6] 27)) ∧
        wr.ownsRow Ws.heap.size 29 3 (.slice a6 U.length c6) U.length (U.flatMap encLink) ∧ Hid (U = dlL i L k) ∧ Keep bo (bo + 1) Ws wr) (fun tk _ => l - (intOf tk).toNat)
    case atStart => exact ⟨0, none, 0, [], by omega, rfl, HB0.out, World.ownsRow_nil _ _ _ _, rfl, Keep.refl _ _ _⟩
    case round =>
      obtain ⟨k, a6, c6, U, hk, rfl, hB, hown, hU, hx⟩ := hrel
      have HOWN := Lib.hid hown
      have XW := HWE.out.keep hx (by omega)
      have hUl := dlL_len i L k
      rw [← hU.out] at hUl
      have hszr := hx.size
      clear hown
      by_cases hlt : k < l
      · have hltI : (k : Int) < (l : Int) := by omega
        obtain ⟨b9, o9, y, rfl, hy, c0, c1, c2⟩ := Links_at (HL.out.ext XW hh) hlt
        obtain ⟨y1, y2, y3⟩ := y
        have hlk := HLK.out _ (List.mem_of_getElem? hy.out)
        simp only [lkB, Bool.and_eq_true, decide_eq_true_eq] at hlk
        obtain ⟨q1, q2, q3, _⟩ := hlk
        have hsn := Lib.hid (dlL_succ (i := i) hy.out)
        simp only at c0 c1 c2 q1 q2 q3
        have n1 := blk_cell (hx.blk HN1.out (Or.inl (by omega))) (j := 1) (v := .slice (some ⟨b9, o9, none⟩) l cb) rfl
        have s1 := blk_cell hB.out (j := 1) rfl
        have s2 := blk_free hB.out 1
        have hbw : bo < wr.heap.size := (Array.getElem?_eq_some_iff.1 hB.out).1
        have hbw2 : ¬ (bo = wr.heap.size) := by omega
        by_cases e1 : y1 = i
        · have hb1 : (y1 == (i : Int)) = true := by simp [e1]
          rw [show dl i (y1, y2, y3) = [] by simp [dl, e1]] at hsn
          go_wp2
          go_roundw
          case rel => exact ⟨k + 1, a6, c6, U, by omega, by go_num, blk_old hB.out, HOWN.out.alloc _, (by unfold Hid; rw [hsn.out, ← hU.out, List.append_nil]), keep_al hx _⟩
          case measure => simp [intOf]; omega
        have hb1 : (y1 == (i : Int)) = false := by simp [e1]
        by_cases e2 : y2 = i
        · have hb2 : (y2 == (i : Int)) = true := by simp [e2]
          rw [show dl i (y1, y2, y3) = [] by simp [dl, e2]] at hsn
          go_wp2
          go_roundw
          case rel => exact ⟨k + 1, a6, c6, U, by omega, by go_num, blk_old hB.out, HOWN.out.alloc _, (by unfold Hid; rw [hsn.out, ← hU.out, List.append_nil]), keep_al hx _⟩
          case measure => simp [intOf]; omega
        have hb2 : (y2 == (i : Int)) = false := by simp [e2]
        by_cases e3 : (i : Int) < y1
        · have e4 : (i : Int) < y2 := by omega
          rw [show dl i (y1, y2, y3) = [(y1 - 1, y2 - 1, y3)] by simp [dl, e1, e2, e3, e4]] at hsn
          have s3 := blk_cell (blk_old hB.out (o' := .cells #[.int .i64 (y1 - 1), .int .i64 (y2 - 1), .int .i64 y3] 29)) (j := 1) (v := .slice a6 U.length c6) rfl
          have s4 := blk_free (blk_old hB.out (o' := .cells #[.int .i64 (y1 - 1), .int .i64 (y2 - 1), .int .i64 y3] 29)) 1
          go_wp2_with
            (at_builtin; refine wpList_append_own _ rfl _ _ 25 rfl Ws.heap.size 29 l0 (.agg #[.int .i64 0, .int .i64 0, .int .i64 0]) 3 24 Try.underlying25 hl0 hlz0 hlz1 hlz2 rfl (by decide) _ _ _ rfl ((HOWN.out.alloc _).alloc _) ⟨wr.heap.size + 1, 0, none⟩ 1 1 [.int .i64 (y1 - 1), .int .i64 (y2 - 1), .int .i64 (y3)] rfl rfl (new_cells3b _ _ _ _ _ _) (by intro u hu; simp at hu; rcases hu with rfl | rfl | rfl <;> rfl) (by unfold maxLen; omega) (by omega) (by simp; omega) ?_; intro v6 w6 hown6 hgrow6 _; obtain ⟨a9, c9, rfl, _, _, _⟩ := own_form hown6; have hb6 := grown_box (blk_old hB.out) (HOWN.out.alloc _) hgrow6 hbs; have e61 := blk_cell hb6 (j := 1) rfl; have f61 := blk_free hb6 1)
          have h61 := Lib.hid (own_set_box (j := 1) (z := .slice a9 (U.length + 1) c9) hown6 hbs)
          have h62 := Lib.hid (box_set1 (z := .slice a9 (U.length + 1) c9) hb6)
          have h63 := Lib.hid (keep_st (keep_push (keep_al hx _) (HOWN.out.alloc _) hgrow6 (Nat.le_refl _)) 1 (.slice a9 (U.length + 1) c9))
          clear hown6 hgrow6 hb6 e61 f61
          go_roundw
          case rel => exact ⟨k + 1, a9, c9, U ++ [(y1 - 1, y2 - 1, y3)], by omega, by go_num, (by rw [List.length_append]; exact h62.out), (by rw [List.length_append, ← link_snoc]; exact h61.out), (by unfold Hid; rw [hsn.out, ← hU.out]), h63.out⟩
          case measure => simp [intOf]; omega
        · by_cases e4 : (i : Int) < y2
          · rw [show dl i (y1, y2, y3) = [(y1, y2 - 1, y3)] by simp [dl, e1, e2, e3, e4]] at hsn
            have s3 := blk_cell (blk_old hB.out (o' := .cells #[.int .i64 (y1), .int .i64 (y2 - 1), .int .i64 y3] 29)) (j := 1) (v := .slice a6 U.length c6) rfl
            have s4 := blk_free (blk_old hB.out (o' := .cells #[.int .i64 (y1), .int .i64 (y2 - 1), .int .i64 y3] 29)) 1
            go_wp2_with
              (at_builtin; refine wpList_append_own _ rfl _ _ 25 rfl Ws.heap.size 29 l0 (.agg #[.int .i64 0, .int .i64 0, .int .i64 0]) 3 24 Try.underlying25 hl0 hlz0 hlz1 hlz2 rfl (by decide) _ _ _ rfl ((HOWN.out.alloc _).alloc _) ⟨wr.heap.size + 1, 0, none⟩ 1 1 [.int .i64 (y1), .int .i64 (y2 - 1), .int .i64 (y3)] rfl rfl (new_cells3b _ _ _ _ _ _) (by intro u hu; simp at hu; rcases hu with rfl | rfl | rfl <;> rfl) (by unfold maxLen; omega) (by omega) (by simp; omega) ?_; intro v6 w6 hown6 hgrow6 _; obtain ⟨a9, c9, rfl, _, _, _⟩ := own_form hown6; have hb6 := grown_box (blk_old hB.out) (HOWN.out.alloc _) hgrow6 hbs; have e61 := blk_cell hb6 (j := 1) rfl; have f61 := blk_free hb6 1)
            have h61 := Lib.hid (own_set_box (j := 1) (z := .slice a9 (U.length + 1) c9) hown6 hbs)
            have h62 := Lib.hid (box_set1 (z := .slice a9 (U.length + 1) c9) hb6)
            have h63 := Lib.hid (keep_st (keep_push (keep_al hx _) (HOWN.out.alloc _) hgrow6 (Nat.le_refl _)) 1 (.slice a9 (U.length + 1) c9))
            clear hown6 hgrow6 hb6 e61 f61
            go_roundw
            case rel => exact ⟨k + 1, a9, c9, U ++ [(y1, y2 - 1, y3)], by omega, by go_num, (by rw [List.length_append]; exact h62.out), (by rw [List.length_append, ← link_snoc]; exact h61.out), (by unfold Hid; rw [hsn.out, ← hU.out]), h63.out⟩
            case measure => simp [intOf]; omega
          · rw [show dl i (y1, y2, y3) = [(y1, y2, y3)] by simp [dl, e1, e2, e3, e4]] at hsn
            have s3 := blk_cell (blk_old hB.out (o' := .cells #[.int .i64 (y1), .int .i64 (y2), .int .i64 y3] 29)) (j := 1) (v := .slice a6 U.length c6) rfl
            have s4 := blk_free (blk_old hB.out (o' := .cells #[.int .i64 (y1), .int .i64 (y2), .int .i64 y3] 29)) 1
            go_wp2_with
              (at_builtin; refine wpList_append_own _ rfl _ _ 25 rfl Ws.heap.size 29 l0 (.agg #[.int .i64 0, .int .i64 0, .int .i64 0]) 3 24 Try.underlying25 hl0 hlz0 hlz1 hlz2 rfl (by decide) _ _ _ rfl ((HOWN.out.alloc _).alloc _) ⟨wr.heap.size + 1, 0, none⟩ 1 1 [.int .i64 (y1), .int .i64 (y2), .int .i64 (y3)] rfl rfl (new_cells3b _ _ _ _ _ _) (by intro u hu; simp at hu; rcases hu with rfl | rfl | rfl <;> rfl) (by unfold maxLen; omega) (by omega) (by simp; omega) ?_; intro v6 w6 hown6 hgrow6 _; obtain ⟨a9, c9, rfl, _, _, _⟩ := own_form hown6; have hb6 := grown_box (blk_old hB.out) (HOWN.out.alloc _) hgrow6 hbs; have e61 := blk_cell hb6 (j := 1) rfl; have f61 := blk_free hb6 1)
            have h61 := Lib.hid (own_set_box (j := 1) (z := .slice a9 (U.length + 1) c9) hown6 hbs)
            have h62 := Lib.hid (box_set1 (z := .slice a9 (U.length + 1) c9) hb6)
            have h63 := Lib.hid (keep_st (keep_push (keep_al hx _) (HOWN.out.alloc _) hgrow6 (Nat.le_refl _)) 1 (.slice a9 (U.length + 1) c9))
            clear hown6 hgrow6 hb6 e61 f61
            go_roundw
            case rel => exact ⟨k + 1, a9, c9, U ++ [(y1, y2, y3)], by omega, by go_num, (by rw [List.length_append]; exact h62.out), (by rw [List.length_append, ← link_snoc]; exact h61.out), (by unfold Hid; rw [hsn.out, ← hU.out]), h63.out⟩
            case measure => simp [intOf]; omega
      · have hge : ¬ ((k : Int) < (l : Int)) := by omega
        have hkl : k = l := by omega
        have HU3 : Hid (U = dlL i L l) := by unfold Hid; rw [hU.out, hkl]
        have d0 := blk_cell hB.out (j := 0) rfl
        have d1 := blk_cell hB.out (j := 1) rfl
        have r1 := hx.blk HR.out (Or.inl (by omega))
        have t0 := blk_cell r1 (j := 0) rfl
        have t1 := blk_cell r1 (j := 1) rfl
        have t2 := blk_free r1 0
        have t3 := blk_free r1 1
        clear hkl
        go_wp2
        obtain ⟨w9, hw9⟩ : ∃ W, W = ((wr.setCell ⟨w.heap.size + 1, 0, none⟩ (.slice a8 mq c8)).setCell ⟨w.heap.size + 1, 1, none⟩ (.slice a6 U.length c6)) := ⟨_, rfl⟩
        rw [← hw9]
        have g1 : (wr.setCell ⟨w.heap.size + 1, 0, none⟩ (.slice a8 mq c8)).heap[w.heap.size + 1]? = some (.cells #[.slice a8 mq c8, .slice none 0 0] 27) := by rw [heap_setCell_same _ _ _ _ _ _ r1]; rfl
        have g2 : w9.heap[w.heap.size + 1]? = some (.cells #[.slice a8 mq c8, .slice a6 U.length c6] 27) := by rw [hw9, heap_setCell_same _ _ _ _ _ _ g1]; rfl
        have k90 := blk_cell g2 (j := 0) rfl
        have k91 := blk_cell g2 (j := 1) rfl
        have X9 : Hid (Ext w w9) := by unfold Hid; rw [hw9]; exact (XW.st (by dsimp only; omega) _).st (by dsimp only; omega) _
        have HO9 : Hid (w9.ownsRow Ws.heap.size 29 3 (.slice a6 U.length c6) U.length (U.flatMap encLink)) := by
          unfold Hid
          rw [hw9]
          exact ownsRow_setCell_below (ownsRow_setCell_below HOWN.out (by dsimp only; omega) _) (by dsimp only; omega) _
        have HT9 : Hid (w9.ownsRow (w.heap.size + 2) 75 3 (.slice a8 mq c8) mq ((butT T i).flatMap encTower)) := by
          unfold Hid
          rw [hw9]
          exact ownsRow_setCell_below (ownsRow_setCell_below (own_keep HT7.out hx (fun q hq => by have := HTN.out q hq; omega)) (by dsimp only; omega) _) (by dsimp only; omega) _
        have hs9 : w9.heap.size = wr.heap.size := by rw [hw9]; simp
        have hown4 := HT7.out
        clear hw9 g1 g2
        refine bodyPost_ret (v := .tuple #[.agg #[.slice a8 mq c8, .slice a6 U.length c6], .bool true]) (by simp [results, Try.results17, go_sem, k90, k91]) rfl ⟨_, rfl, ?_, X9.out⟩
        rw [HV.out, HU3.out.symm]
        refine ⟨_, _, rfl, ⟨?_, fun q hq => ?_⟩, ⟨?_, fun q hq => ?_⟩, fun q hq => ?_⟩
        · show w9.ownsRow _ _ _ _ (butT T i).length _
          rw [HTL.out]
          exact own_mono HT9.out (by omega)
        · have := (HT9.out.lt q hq).2; exact this
        · exact own_mono HO9.out (by omega)
        · have := (HO9.out.lt q hq).2; exact this
        · intro hq2
          have h1 := (hown4.lt q hq).2
          have h2 := (HO9.out.lt q hq2).1
          omega
  · obtain ⟨bo, hbo⟩ : ∃ b, b = wN.heap.size := ⟨_, rfl⟩
    rw [← hbo] at hb8 ⊢
    obtain ⟨Ws, hWs⟩ : ∃ W, W = (w8.setCell ⟨bo, 0, none⟩ (.slice a8 mq c8)).setCell ⟨bo, 1, none⟩ (.slice none 0 0) := ⟨_, rfl⟩
    have hbo2 : w.heap.size + 2 ≤ bo := by omega
    have hB0 : Ws.heap[bo]? = some (.cells #[.slice a8 mq c8, .slice none 0 0] 27) := by
      have g1 : (w8.setCell ⟨bo, 0, none⟩ (.slice a8 mq c8)).heap[bo]? = some (.cells #[.slice a8 mq c8, .slice none 0 0] 27) := by rw [heap_setCell_same _ _ _ _ _ _ hb8]; rfl
      rw [hWs, heap_setCell_same _ _ _ _ _ _ g1]; rfl
    have hKS : Keep bo (bo + 1) w8 Ws := by rw [hWs]; exact keep_st (keep_st (Keep.refl _ _ _) 0 _) 1 _
    have hTN : ∀ q, (Value.slice a8 mq c8).ownBlock = some q → q ≠ bo := fun q hq e => own_ne_box HT8.out hb8 (by decide) (e ▸ hq)
    have hWE : Ext w Ws := HY.out.keep hKS (by omega)
    have hT7 : Ws.ownsRow (w.heap.size + 2) 75 3 (.slice a8 mq c8) mq ((butT T i).flatMap encTower) := own_keep HT8.out hKS (fun q hq => by have := hTN q hq; omega)
    have hN1 : Ws.heap[w.heap.size]? = some (.cells #[.slice (some ⟨b8, o8, none⟩) m ca, .slice b l cb] 27) := hKS.blk HY1.out (Or.inl (by omega))
    have hR : Ws.heap[w.heap.size + 1]? = some (.cells #[.slice none 0 0, .slice none 0 0] 27) := hKS.blk HY2.out (Or.inl (by omega))
    rw [← hWs]
    clear hWs hbo hKS hb8 e80 e81 f80 f81
    try clear hb7
    have HB0 := Lib.hid hB0
    have HWE := Lib.hid hWE
    have HT7 := Lib.hid hT7
    have HTN := Lib.hid hTN
    have HN1 := Lib.hid hN1
    have HR := Lib.hid hR
    have u1 := blk_cell hN1 (j := 1) (v := .slice b l cb) rfl
    have hbs : bo < Ws.heap.size := (Array.getElem?_eq_some_iff.1 hB0).1
    clear hB0 hWE hT7 hTN hN1 hR
    go_wp2_with fail
    clear u1
    go_loopw [36] (fun tk wr => ∃ (k : Nat) (a6 : Option Addr) (c6 : Nat) (U : List LinkT), k ≤ l ∧ tk = .int .i64 k ∧ Hid (wr.heap[bo]? = some (.cells #[.slice a8 mq c8, .slice a6 U.length c6] 27)) ∧
        wr.ownsRow Ws.heap.size 29 3 (.slice a6 U.length c6) U.length (U.flatMap encLink) ∧ Hid (U = dlL i L k) ∧ Keep bo (bo + 1) Ws wr) (fun tk _ => l - (intOf tk).toNat)
    case atStart => exact ⟨0, none, 0, [], by omega, rfl, HB0.out, World.ownsRow_nil _ _ _ _, rfl, Keep.refl _ _ _⟩
    case round =>
      obtain ⟨k, a6, c6, U, hk, rfl, hB, hown, hU, hx⟩ := hrel
      have HOWN := Lib.hid hown
      have XW := HWE.out.keep hx (by omega)
      have hUl := dlL_len i L k
      rw [← hU.out] at hUl
      have hszr := hx.size
      clear hown
      by_cases hlt : k < l
      · have hltI : (k : Int) < (l : Int) := by omega
        obtain ⟨b9, o9, y, rfl, hy, c0, c1, c2⟩ := Links_at (HL.out.ext XW hh) hlt
        obtain ⟨y1, y2, y3⟩ := y
        have hlk := HLK.out _ (List.mem_of_getElem? hy.out)
        simp only [lkB, Bool.and_eq_true, decide_eq_true_eq] at hlk
        obtain ⟨q1, q2, q3, _⟩ := hlk
        have hsn := Lib.hid (dlL_succ (i := i) hy.out)
        simp only at c0 c1 c2 q1 q2 q3
        have n1 := blk_cell (hx.blk HN1.out (Or.inl (by omega))) (j := 1) (v := .slice (some ⟨b9, o9, none⟩) l cb) rfl
        have s1 := blk_cell hB.out (j := 1) rfl
        have s2 := blk_free hB.out 1
        have hbw : bo < wr.heap.size := (Array.getElem?_eq_some_iff.1 hB.out).1
        have hbw2 : ¬ (bo = wr.heap.size) := by omega
        by_cases e1 : y1 = i
        · have hb1 : (y1 == (i : Int)) = true := by simp [e1]
          rw [show dl i (y1, y2, y3) = [] by simp [dl, e1]] at hsn
          go_wp2
          go_roundw
          case rel => exact ⟨k + 1, a6, c6, U, by omega, by go_num, blk_old hB.out, HOWN.out.alloc _, (by unfold Hid; rw [hsn.out, ← hU.out, List.append_nil]), keep_al hx _⟩
          case measure => simp [intOf]; omega
        have hb1 : (y1 == (i : Int)) = false := by simp [e1]
        by_cases e2 : y2 = i
        · have hb2 : (y2 == (i : Int)) = true := by simp [e2]
          rw [show dl i (y1, y2, y3) = [] by simp [dl, e2]] at hsn
          go_wp2
          go_roundw
          case rel => exact ⟨k + 1, a6, c6, U, by omega, by go_num, blk_old hB.out, HOWN.out.alloc _, (by unfold Hid; rw [hsn.out, ← hU.out, List.append_nil]), keep_al hx _⟩
          case measure => simp [intOf]; omega
        have hb2 : (y2 == (i : Int)) = false := by simp [e2]
        by_cases e3 : (i : Int) < y1
        · have e4 : (i : Int) < y2 := by omega
          rw [show dl i (y1, y2, y3) = [(y1 - 1, y2 - 1, y3)] by simp [dl, e1, e2, e3, e4]] at hsn
          have s3 := blk_cell (blk_old hB.out (o' := .cells #[.int .i64 (y1 - 1), .int .i64 (y2 - 1), .int .i64 y3] 29)) (j := 1) (v := .slice a6 U.length c6) rfl
          have s4 := blk_free (blk_old hB.out (o' := .cells #[.int .i64 (y1 - 1), .int .i64 (y2 - 1), .int .i64 y3] 29)) 1
          go_wp2_with
            (at_builtin; refine wpList_append_own _ rfl _ _ 25 rfl Ws.heap.size 29 l0 (.agg #[.int .i64 0, .int .i64 0, .int .i64 0]) 3 24 Try.underlying25 hl0 hlz0 hlz1 hlz2 rfl (by decide) _ _ _ rfl ((HOWN.out.alloc _).alloc _) ⟨wr.heap.size + 1, 0, none⟩ 1 1 [.int .i64 (y1 - 1), .int .i64 (y2 - 1), .int .i64 (y3)] rfl rfl (new_cells3b _ _ _ _ _ _) (by intro u hu; simp at hu; rcases hu with rfl | rfl | rfl <;> rfl) (by unfold maxLen; omega) (by omega) (by simp; omega) ?_; intro v6 w6 hown6 hgrow6 _; obtain ⟨a9, c9, rfl, _, _, _⟩ := own_form hown6; have hb6 := grown_box (blk_old hB.out) (HOWN.out.alloc _) hgrow6 hbs; have e61 := blk_cell hb6 (j := 1) rfl; have f61 := blk_free hb6 1)
          have h61 := Lib.hid (own_set_box (j := 1) (z := .slice a9 (U.length + 1) c9) hown6 hbs)
          have h62 := Lib.hid (box_set1 (z := .slice a9 (U.length + 1) c9) hb6)
          have h63 := Lib.hid (keep_st (keep_push (keep_al hx _) (HOWN.out.alloc _) hgrow6 (Nat.le_refl _)) 1 (.slice a9 (U.length + 1) c9))
          clear hown6 hgrow6 hb6 e61 f61
          go_roundw
          case rel => exact ⟨k + 1, a9, c9, U ++ [(y1 - 1, y2 - 1, y3)], by omega, by go_num, (by rw [List.length_append]; exact h62.out), (by rw [List.length_append, ← link_snoc]; exact h61.out), (by unfold Hid; rw [hsn.out, ← hU.out]), h63.out⟩
          case measure => simp [intOf]; omega
        · by_cases e4 : (i : Int) < y2
          · rw [show dl i (y1, y2, y3) = [(y1, y2 - 1, y3)] by simp [dl, e1, e2, e3, e4]] at hsn
            have s3 := blk_cell (blk_old hB.out (o' := .cells #[.int .i64 (y1), .int .i64 (y2 - 1), .int .i64 y3] 29)) (j := 1) (v := .slice a6 U.length c6) rfl
            have s4 := blk_free (blk_old hB.out (o' := .cells #[.int .i64 (y1), .int .i64 (y2 - 1), .int .i64 y3] 29)) 1
            go_wp2_with
              (at_builtin; refine wpList_append_own _ rfl _ _ 25 rfl Ws.heap.size 29 l0 (.agg #[.int .i64 0, .int .i64 0, .int .i64 0]) 3 24 Try.underlying25 hl0 hlz0 hlz1 hlz2 rfl (by decide) _ _ _ rfl ((HOWN.out.alloc _).alloc _) ⟨wr.heap.size + 1, 0, none⟩ 1 1 [.int .i64 (y1), .int .i64 (y2 - 1), .int .i64 (y3)] rfl rfl (new_cells3b _ _ _ _ _ _) (by intro u hu; simp at hu; rcases hu with rfl | rfl | rfl <;> rfl) (by unfold maxLen; omega) (by omega) (by simp; omega) ?_; intro v6 w6 hown6 hgrow6 _; obtain ⟨a9, c9, rfl, _, _, _⟩ := own_form hown6; have hb6 := grown_box (blk_old hB.out) (HOWN.out.alloc _) hgrow6 hbs; have e61 := blk_cell hb6 (j := 1) rfl; have f61 := blk_free hb6 1)
            have h61 := Lib.hid (own_set_box (j := 1) (z := .slice a9 (U.length + 1) c9) hown6 hbs)
            have h62 := Lib.hid (box_set1 (z := .slice a9 (U.length + 1) c9) hb6)
            have h63 := Lib.hid (keep_st (keep_push (keep_al hx _) (HOWN.out.alloc _) hgrow6 (Nat.le_refl _)) 1 (.slice a9 (U.length + 1) c9))
            clear hown6 hgrow6 hb6 e61 f61
            go_roundw
            case rel => exact ⟨k + 1, a9, c9, U ++ [(y1, y2 - 1, y3)], by omega, by go_num, (by rw [List.length_append]; exact h62.out), (by rw [List.length_append, ← link_snoc]; exact h61.out), (by unfold Hid; rw [hsn.out, ← hU.out]), h63.out⟩
            case measure => simp [intOf]; omega
          · rw [show dl i (y1, y2, y3) = [(y1, y2, y3)] by simp [dl, e1, e2, e3, e4]] at hsn
            have s3 := blk_cell (blk_old hB.out (o' := .cells #[.int .i64 (y1), .int .i64 (y2), .int .i64 y3] 29)) (j := 1) (v := .slice a6 U.length c6) rfl
            have s4 := blk_free (blk_old hB.out (o' := .cells #[.int .i64 (y1), .int .i64 (y2), .int .i64 y3] 29)) 1
            go_wp2_with
              (at_builtin; refine wpList_append_own _ rfl _ _ 25 rfl Ws.heap.size 29 l0 (.agg #[.int .i64 0, .int .i64 0, .int .i64 0]) 3 24 Try.underlying25 hl0 hlz0 hlz1 hlz2 rfl (by decide) _ _ _ rfl ((HOWN.out.alloc _).alloc _) ⟨wr.heap.size + 1, 0, none⟩ 1 1 [.int .i64 (y1), .int .i64 (y2), .int .i64 (y3)] rfl rfl (new_cells3b _ _ _ _ _ _) (by intro u hu; simp at hu; rcases hu with rfl | rfl | rfl <;> rfl) (by unfold maxLen; omega) (by omega) (by simp; omega) ?_; intro v6 w6 hown6 hgrow6 _; obtain ⟨a9, c9, rfl, _, _, _⟩ := own_form hown6; have hb6 := grown_box (blk_old hB.out) (HOWN.out.alloc _) hgrow6 hbs; have e61 := blk_cell hb6 (j := 1) rfl; have f61 := blk_free hb6 1)
            have h61 := Lib.hid (own_set_box (j := 1) (z := .slice a9 (U.length + 1) c9) hown6 hbs)
            have h62 := Lib.hid (box_set1 (z := .slice a9 (U.length + 1) c9) hb6)
            have h63 := Lib.hid (keep_st (keep_push (keep_al hx _) (HOWN.out.alloc _) hgrow6 (Nat.le_refl _)) 1 (.slice a9 (U.length + 1) c9))
            clear hown6 hgrow6 hb6 e61 f61
            go_roundw
            case rel => exact ⟨k + 1, a9, c9, U ++ [(y1, y2, y3)], by omega, by go_num, (by rw [List.length_append]; exact h62.out), (by rw [List.length_append, ← link_snoc]; exact h61.out), (by unfold Hid; rw [hsn.out, ← hU.out]), h63.out⟩
            case measure => simp [intOf]; omega
      · have hge : ¬ ((k : Int) < (l : Int)) := by omega
        have hkl : k = l := by omega
        have HU3 : Hid (U = dlL i L l) := by unfold Hid; rw [hU.out, hkl]
        have d0 := blk_cell hB.out (j := 0) rfl
        have d1 := blk_cell hB.out (j := 1) rfl
        have r1 := hx.blk HR.out (Or.inl (by omega))
        have t0 := blk_cell r1 (j := 0) rfl
        have t1 := blk_cell r1 (j := 1) rfl
        have t2 := blk_free r1 0
        have t3 := blk_free r1 1
        clear hkl
        go_wp2
        obtain ⟨w9, hw9⟩ : ∃ W, W = ((wr.setCell ⟨w.heap.size + 1, 0, none⟩ (.slice a8 mq c8)).setCell ⟨w.heap.size + 1, 1, none⟩ (.slice a6 U.length c6)) := ⟨_, rfl⟩
        rw [← hw9]
        have g1 : (wr.setCell ⟨w.heap.size + 1, 0, none⟩ (.slice a8 mq c8)).heap[w.heap.size + 1]? = some (.cells #[.slice a8 mq c8, .slice none 0 0] 27) := by rw [heap_setCell_same _ _ _ _ _ _ r1]; rfl
        have g2 : w9.heap[w.heap.size + 1]? = some (.cells #[.slice a8 mq c8, .slice a6 U.length c6] 27) := by rw [hw9, heap_setCell_same _ _ _ _ _ _ g1]; rfl
        have k90 := blk_cell g2 (j := 0) rfl
        have k91 := blk_cell g2 (j := 1) rfl
        have X9 : Hid (Ext w w9) := by unfold Hid; rw [hw9]; exact (XW.st (by dsimp only; omega) _).st (by dsimp only; omega) _
        have HO9 : Hid (w9.ownsRow Ws.heap.size 29 3 (.slice a6 U.length c6) U.length (U.flatMap encLink)) := by
          unfold Hid
          rw [hw9]
          exact ownsRow_setCell_below (ownsRow_setCell_below HOWN.out (by dsimp only; omega) _) (by dsimp only; omega) _
        have HT9 : Hid (w9.ownsRow (w.heap.size + 2) 75 3 (.slice a8 mq c8) mq ((butT T i).flatMap encTower)) := by
          unfold Hid
          rw [hw9]
          exact ownsRow_setCell_below (ownsRow_setCell_below (own_keep HT7.out hx (fun q hq => by have := HTN.out q hq; omega)) (by dsimp only; omega) _) (by dsimp only; omega) _
        have hs9 : w9.heap.size = wr.heap.size := by rw [hw9]; simp
        have hown4 := HT7.out
        clear hw9 g1 g2
        refine bodyPost_ret (v := .tuple #[.agg #[.slice a8 mq c8, .slice a6 U.length c6], .bool true]) (by simp [results, Try.results17, go_sem, k90, k91]) rfl ⟨_, rfl, ?_, X9.out⟩
        rw [HV.out, HU3.out.symm]
        refine ⟨_, _, rfl, ⟨?_, fun q hq => ?_⟩, ⟨?_, fun q hq => ?_⟩, fun q hq => ?_⟩
        · show w9.ownsRow _ _ _ _ (butT T i).length _
          rw [HTL.out]
          exact own_mono HT9.out (by omega)
        · have := (HT9.out.lt q hq).2; exact this
        · exact own_mono HO9.out (by omega)
        · have := (HO9.out.lt q hq).2; exact this
        · intro hq2
          have h1 := (hown4.lt q hq).2
          have h2 := (HO9.out.lt q hq2).1
          omega
end Go.Proofs.Ytiipjlcmekakaaa
