


/- DropTower of the program: its contract. -/
import Derived.Test.YtiipjlcmekakaaaDelT
import Derived.Test.YtiipjlcmekakaaaApp2
import Derived.Test.YtiipjlcmekakaaaHasT
import Derived.Test.YtiipjlcmekakaaaLinkI
namespace Go.Proofs.Ytiipjlcmekakaaa
open Go.RowKit
set_option linter.unusedVariables false
set_option linter.unusedSimpArgs false
theorem net_links {x : NetT} (h : netB x = true) : x.2.length ≤ 40 := by
  simp only [netB, Bool.and_eq_true, decide_eq_true_eq] at h
  omega
def butT (T : List TowerT) (i : Nat) : List TowerT := T.take i ++ T.drop (i + 1)
/-- A link with tower i left out. -/
def dl (i : Int) (y : LinkT) : List LinkT := if y.1 = i ∨ y.2.1 = i then [] else [(if i < y.1 then y.1 - 1 else y.1, if i < y.2.1 then y.2.1 - 1 else y.2.1, y.2.2)]
def dlL (i : Int) (L : List LinkT) (k : Nat) : List LinkT := (L.take k).flatMap (dl i)
theorem dlL_succ {i : Int} {L : List LinkT} {k : Nat} {y : LinkT} (h : L[k]? = some y) : dlL i L (k + 1) = dlL i L k ++ dl i y := by
  unfold dlL
  rw [List.take_add_one, h, List.flatMap_append]; simp
theorem dl_len (i : Int) (y : LinkT) : (dl i y).length ≤ 1 := by unfold dl; split <;> simp
theorem dlL_len (i : Int) (L : List LinkT) : ∀ k, (dlL i L k).length ≤ k
  | 0 => by simp [dlL]
  | k + 1 => by
    have h1 := dlL_len i L k
    by_cases h : k < L.length
    · rw [dlL_succ (List.getElem?_eq_getElem h), List.length_append]
      have := dl_len i (L[k]'h)
      omega
    · have h2 : dlL i L (k + 1) = dlL i L k := by
        unfold dlL
        rw [List.take_of_length_le (by omega), List.take_of_length_le (by omega)]
      rw [h2]; omega
def dtOk (x : NetT) (j : Int) : Bool := hasT x j && decide (x.1.length ≠ 1)
def dtV (x : NetT) (j : Int) : NetT := if dtOk x j then (butT x.1 j.toNat, dlL j x.2 x.2.length) else ([], [])
theorem butT_len {T : List TowerT} {i : Nat} (h : i < T.length) : (butT T i).length = T.length - 1 := by
  unfold butT
  rw [List.length_append, List.length_take, List.length_drop]; omega
theorem new_cells3b (w : World) (o : Obj) (x y z : Value) (t : TypeId) : ∀ j u, ([x, y, z] : List Value)[j]? = some u → ((w.alloc o).alloc (.cells #[x, y, z] t)).cell? ((⟨w.heap.size + 1, 0, none⟩ : Addr).add j) = some u := by
  have h := new_cells3 (w.alloc o) x y z t
  rwa [size_alloc] at h
theorem dtV_bound (x : NetT) (j : Int) : (dtV x j).1.length + (dtV x j).2.length ≤ 1048576 := by
  unfold dtV
  split
  · rename_i h
    simp only [dtOk, hasT, Bool.and_eq_true] at h
    have h1 := h.1.1
    have h3 := net_links h1
    simp only [netB, Bool.and_eq_true] at h1
    have h2 := inB_t h1.1
    have h4 := dlL_len j x.2 x.2.length
    simp only [butT, List.length_append, List.length_take, List.length_drop]
    omega
  · simp
set_option maxRecDepth 100000 in
theorem c_CloneT (v : Value) (la ha : Nat) (T : List TowerT) (w : World) (h : Row encTower 3 w la ha v T) (hh : ha ≤ w.heap.size) (hn : T.length ≤ 1048576) (h0 : 0 < T.length) :
    Calls Try.prog 54 #[v] w fun e w' => ∃ v', e = .returned v' ∧ w'.ownsRow w.heap.size 75 3 v' T.length (T.flatMap encTower) ∧ Ext w w' := by
  obtain ⟨i0, hi0, hz0, hz1, hz2⟩ := info_parts Try.info_tower
  have hr := h
  obtain ⟨a, cap, rfl, m1, m2, b, off, m3, _⟩ := h
  have m4 := (m3 h0).1
  subst m4
  have hsrc := row_src encTower_len hr h0
  have hs1 : Hid (∀ W, Ext w W → ∀ t u, (T.flatMap encTower)[t]? = some u → W.cell? ((⟨b, off, none⟩ : Addr).add t) = some u) := fun W hX t u hu => by
    rw [add_lit1]; exact hX.cell (hsrc t u hu)
  have hfl := flat_len encTower_len T
  have ho := Lib.hid (encTower_one T)
  have hs := Lib.run_eql_slice_nil (P := Try.prog)
  clear m3 hsrc hr
  go_enter Try.func54, Try.ntmps54
  go_wp2_with
    (at_builtin; refine wpList_append_own _ rfl _ _ 24 rfl w.heap.size 75 i0 (.agg #[.int .i64 0, .int .i64 0, .int .i64 0]) 3 24 Try.underlying24 hi0 hz0 hz1 hz2 rfl (by decide) _ _ _ rfl (own_lit3 w 75) ⟨b, off, none⟩ T.length cap (T.flatMap encTower) rfl hfl (hs1.out _ (Ext.alloc _ _)) ho.out (by unfold maxLen; omega) (by omega) (by simp) ?_; intro v3 w3 hown3 hgrow3 hnil3)
  go_ret
  exact ⟨_, rfl, by simpa using hown3, ((Ext.refl w).al _).gr hgrow3 (fun k hk => ((own_lit3 w 75).lt k hk).1)⟩
set_option maxRecDepth 100000 in
set_option maxHeartbeats 4000000 in
theorem c_iDropTower (v : Value) (la ha : Nat) (x : NetT) (j : Int) (w : World) (h : Nets w la ha v x) (hh : ha ≤ w.heap.size) :
    Calls Try.prog 16 #[v, .int .i64 j] w fun e w' => ∃ r, e = .returned (.tuple #[r, .bool (dtOk x j)]) ∧ OwnNet w' w.heap.size w'.heap.size r (dtV x j) ∧ Ext w w' := by
  obtain ⟨l0, hl0, hlz0, hlz1, hlz2⟩ := info_parts Try.info_link
  obtain ⟨i0, hi0, hz0, hz1, hz2⟩ := info_parts Try.info_tower
  obtain ⟨V, hV⟩ : ∃ V, V = dtV x j := ⟨_, rfl⟩
  obtain ⟨p, hp⟩ : ∃ p, p = dtOk x j := ⟨_, rfl⟩
  obtain ⟨q, hq⟩ : ∃ q, q = hasT x j := ⟨_, rfl⟩
  have C1 : Hid (∀ W, Ext w W → Calls Try.prog 47 #[v, .int .i64 j] W fun e w' => e = .returned (.bool q) ∧ Ext W w') := fun W hX => by rw [hq]; exact c_isTower v la ha x j W (h.ext hX hh) (Nat.le_trans hh hX.size)
  rw [← hV, ← hp]
  obtain ⟨a, ca, b, cb, rfl, ⟨m1, m2⟩, m3, m4⟩ := h.form
  have HT := Lib.hid h.parts.1
  have HL := Lib.hid h.parts.2
  obtain ⟨T, L⟩ := x
  have HQ : Hid (q = true → netB (T, L) = true ∧ inB 0 ((T.length : Int) - 1) j = true) := fun e => by
    have h2 : hasT (T, L) j = true := hq ▸ e
    simpa only [hasT, Bool.and_eq_true] using h2
  have HP : Hid (p = (q && decide (T.length ≠ 1))) := by unfold Hid; rw [hp, hq]; rfl
  have HV0 : Hid (p = false → V = ([], [])) := fun e => by rw [hV, dtV, ← hp, e]; rfl
  have HV1 : Hid (p = true → ∀ i : Nat, (i : Int) = j → V = (butT T i, dlL i L L.length)) := fun e i hi => by rw [hV, dtV, ← hp, e, ← hi]; rfl
  simp only at m1 m3 HT HL ⊢
  clear h hV hp hq
  obtain ⟨m, hm⟩ : ∃ n, n = T.length := ⟨_, rfl⟩
  obtain ⟨l, hl⟩ : ∃ n, n = L.length := ⟨_, rfl⟩
  rw [← hm] at m1 C1 HT HP HQ ⊢
  rw [← hl] at m3 C1 HL HV1 ⊢
  have HM := Lib.hid hm
  have HLL := Lib.hid hl
  clear hm hl
  cases q
  · obtain rfl : p = false := by rw [HP.out]; rfl
    have HZ := Lib.hid (HV0.out rfl)
    go_enter Try.func16, Try.ntmps16
    go_wp2_with fail
    obtain ⟨W1, hW1⟩ : ∃ W, W = ((w.alloc (.cells #[.slice (a) m ca, .slice b l cb] 27)).alloc (.cells #[.slice none 0 0, .slice none 0 0] 27)) := ⟨_, rfl⟩
    rw [← hW1]
    have X1 : Ext w W1 := by rw [hW1]; exact ((Ext.refl w).al _).al _
    have B1 : W1.heap[w.heap.size]? = some (.cells #[.slice (a) m ca, .slice b l cb] 27) := by rw [hW1]; exact blk_old (blk_alloc _ _)
    have B2 : W1.heap[w.heap.size + 1]? = some (.cells #[.slice none 0 0, .slice none 0 0] 27) := by rw [hW1]; exact blk_alloc2 _ _ _
    have hs1 : W1.heap.size = w.heap.size + 2 := by rw [hW1, size_alloc, size_alloc]
    clear hW1
    refine ((C1).out _ X1).mono ?_
    rintro e wN ⟨rfl, hxN⟩
    have XX := X1.trans hxN
    have HB1 := Lib.hid (hxN.blk B1)
    have HB2 := Lib.hid (hxN.blk B2)
    have hsN := hxN.size
    have k0 := blk_cell HB1.out (j := 0) rfl
    have k1 := blk_cell HB1.out (j := 1) rfl
    have n0 := blk_cell HB2.out (j := 0) rfl
    have n1 := blk_cell HB2.out (j := 1) rfl
    have r0 := blk_free HB2.out 0
    have r1 := blk_free HB2.out 1
    clear hxN B1 B2 X1
    go_wp2
    refine bodyPost_ret (v := .tuple #[.agg #[.slice none 0 0, .slice none 0 0], .bool false]) (by simp [results, Try.results16, go_sem, n0, n1]) rfl ⟨_, rfl, ?_, (XX.st (p := ⟨w.heap.size + 1, 0, none⟩) (by dsimp only; omega) _).st (p := ⟨w.heap.size + 1, 1, none⟩) (by dsimp only; omega) _⟩
    rw [HZ.out]
    exact ⟨_, _, rfl, ⟨World.ownsRow_nil _ _ _ _, fun q hq => by simp [Value.ownBlock] at hq⟩, ⟨World.ownsRow_nil _ _ _ _, fun q hq => by simp [Value.ownBlock] at hq⟩, fun q hq => by simp [Value.ownBlock] at hq⟩
  by_cases hm1 : m = 1
  · obtain rfl : p = false := by rw [HP.out, hm1]; rfl
    have HZ := Lib.hid (HV0.out rfl)
    have hmI : ((m : Int) == 1) = true := by simp [hm1]
    clear hm1
    go_enter Try.func16, Try.ntmps16
    go_wp2_with fail
    obtain ⟨W1, hW1⟩ : ∃ W, W = ((w.alloc (.cells #[.slice (a) m ca, .slice b l cb] 27)).alloc (.cells #[.slice none 0 0, .slice none 0 0] 27)) := ⟨_, rfl⟩
    rw [← hW1]
    have X1 : Ext w W1 := by rw [hW1]; exact ((Ext.refl w).al _).al _
    have B1 : W1.heap[w.heap.size]? = some (.cells #[.slice (a) m ca, .slice b l cb] 27) := by rw [hW1]; exact blk_old (blk_alloc _ _)
    have B2 : W1.heap[w.heap.size + 1]? = some (.cells #[.slice none 0 0, .slice none 0 0] 27) := by rw [hW1]; exact blk_alloc2 _ _ _
    have hs1 : W1.heap.size = w.heap.size + 2 := by rw [hW1, size_alloc, size_alloc]
    clear hW1
    refine ((C1).out _ X1).mono ?_
    rintro e wN ⟨rfl, hxN⟩
    have XX := X1.trans hxN
    have HB1 := Lib.hid (hxN.blk B1)
    have HB2 := Lib.hid (hxN.blk B2)
    have hsN := hxN.size
    have k0 := blk_cell HB1.out (j := 0) rfl
    have k1 := blk_cell HB1.out (j := 1) rfl
    have n0 := blk_cell HB2.out (j := 0) rfl
    have n1 := blk_cell HB2.out (j := 1) rfl
    have r0 := blk_free HB2.out 0
    have r1 := blk_free HB2.out 1
    clear hxN B1 B2 X1
    go_wp2
    refine bodyPost_ret (v := .tuple #[.agg #[.slice none 0 0, .slice none 0 0], .bool false]) (by simp [results, Try.results16, go_sem, n0, n1]) rfl ⟨_, rfl, ?_, (XX.st (p := ⟨w.heap.size + 1, 0, none⟩) (by dsimp only; omega) _).st (p := ⟨w.heap.size + 1, 1, none⟩) (by dsimp only; omega) _⟩
    rw [HZ.out]
    exact ⟨_, _, rfl, ⟨World.ownsRow_nil _ _ _ _, fun q hq => by simp [Value.ownBlock] at hq⟩, ⟨World.ownsRow_nil _ _ _ _, fun q hq => by simp [Value.ownBlock] at hq⟩, fun q hq => by simp [Value.ownBlock] at hq⟩
  obtain rfl : p = true := by rw [HP.out]; simp [hm1]
  obtain ⟨hn, hj⟩ := HQ.out rfl
  have hjj := inB_t hj
  obtain ⟨i, rfl⟩ : ∃ i : Nat, j = (i : Int) := ⟨j.toNat, by omega⟩
  have HV := Lib.hid (HV1.out rfl i rfl)
  have HLK : Hid (∀ y ∈ L, lkB (m : Int) y = true) := by unfold Hid; rw [HM.out]; exact netB_links hn
  have hm16 : m ≤ 16 := by
    simp only [netB, Bool.and_eq_true] at hn
    have := inB_t hn.1
    have := HM.out
    omega
  have hl40 : l ≤ 40 := by rw [HLL.out]; exact net_links hn
  have him : i < m := by omega
  have HTL : Hid ((butT T i).length = m - 1) := by unfold Hid; rw [butT_len (by rw [← HM.out]; exact him), HM.out]
  have hmI : ((m : Int) == 1) = false := by simp; omega
  clear hm1
  clear hn hj HQ HV0 HV1 HP
  have hC1 : Hid (∀ W, Ext w W → Calls Try.prog 54 #[.slice a m ca] W fun e w' => ∃ g c, e = .returned (.slice (some ⟨g, 0, none⟩) m c) ∧ Hid (w'.ownsRow W.heap.size 75 3 (.slice (some ⟨g, 0, none⟩) m c) m (T.flatMap encTower)) ∧ Ext W w') := fun W hX => by
    refine (c_CloneT _ la ha T W (HT.out.ext hX hh) (Nat.le_trans hh hX.size) (by rw [← HM.out]; omega) (by rw [← HM.out]; omega)).mono fun e w' ⟨v', he, ho, hx⟩ => ?_
    obtain ⟨a7, c7, rfl, h9, _⟩ := own_form ho
    obtain ⟨g, rfl⟩ := h9 (by rw [← HM.out]; omega)
    rw [← HM.out] at ho he
    exact ⟨g, c7, he, ho, hx⟩
  obtain ⟨mq, hm1'⟩ : ∃ n, n = m - 1 := ⟨_, rfl⟩
  rw [← hm1'] at HTL
  have HM1 := Lib.hid hm1'
  clear hm1'
  have hC2 : Hid (∀ W base g c, Hid (W.ownsRow base 75 3 (.slice (some ⟨g, 0, none⟩) m c) m (T.flatMap encTower)) → Calls Try.prog 53 #[.slice (some ⟨g, 0, none⟩) m c, .int .i64 i, .int .i64 ((i : Int) + 1)] W fun e w' => e = .returned (.slice (some ⟨g, 0, none⟩) mq c) ∧
      Hid (w'.ownsRow base 75 3 (.slice (some ⟨g, 0, none⟩) mq c) mq ((butT T i).flatMap encTower)) ∧ Hid (W.grownBy w' (some g))) := fun W base g c ho => by
    refine (c_DelT base g m c i _ W ho.out (encTower_one T) him).mono fun e w' ⟨he, h1, h2⟩ => ?_
    rw [HM1.out]
    refine ⟨he, ?_, h2⟩
    unfold Hid butT
    rw [List.flatMap_append, flat_take encTower_len, flat_drop encTower_len]
    exact h1
  go_enter Try.func16, Try.ntmps16
  go_wp2_with fail
  obtain ⟨W1, hW1⟩ : ∃ W, W = ((w.alloc (.cells #[.slice (a) m ca, .slice b l cb] 27)).alloc (.cells #[.slice none 0 0, .slice none 0 0] 27)) := ⟨_, rfl⟩
  rw [← hW1]
  have X1 : Ext w W1 := by rw [hW1]; exact ((Ext.refl w).al _).al _
  have B1 : W1.heap[w.heap.size]? = some (.cells #[.slice (a) m ca, .slice b l cb] 27) := by rw [hW1]; exact blk_old (blk_alloc _ _)
  have B2 : W1.heap[w.heap.size + 1]? = some (.cells #[.slice none 0 0, .slice none 0 0] 27) := by rw [hW1]; exact blk_alloc2 _ _ _
  have hs1 : W1.heap.size = w.heap.size + 2 := by rw [hW1, size_alloc, size_alloc]
  clear hW1
  refine ((C1).out _ X1).mono ?_
  rintro e wN ⟨rfl, hxN⟩
  have XX := X1.trans hxN
  have HB1 := Lib.hid (hxN.blk B1)
  have HB2 := Lib.hid (hxN.blk B2)
  have hsN := hxN.size
  have k0 := blk_cell HB1.out (j := 0) rfl
  have k1 := blk_cell HB1.out (j := 1) rfl
  have n0 := blk_cell HB2.out (j := 0) rfl
  have n1 := blk_cell HB2.out (j := 1) rfl
  have r0 := blk_free HB2.out 0
  have r1 := blk_free HB2.out 1
  clear hxN B1 B2 X1
  go_wp2_with fail
  refine (hC1.out _ XX).mono ?_
  rintro e w3 ⟨g, c7, rfl, ho3, hx3⟩
  go_wp2_with fail
  refine (hC2.out _ _ _ _ ho3).mono ?_
  rintro e W4 ⟨rfl, ho4, hg4⟩
  have X34 : Ext wN W4 := hx3.gr hg4.out (fun q hq => by cases hq; exact (ho3.out.lt g rfl).1)
  clear ho3 hg4
  generalize (some ⟨g, 0, none⟩ : Option Addr) = a7 at ho4 ⊢
  have X4 := Lib.hid (XX.trans X34)
  have K1 := Lib.hid ((X34.cell k1))
  have HR := Lib.hid (X34.blk HB2.out)
  have HT7 : Hid (W4.ownsRow (w.heap.size + 2) 75 3 (.slice a7 mq c7) mq ((butT T i).flatMap encTower)) := own_mono ho4.out (by omega)
  have hs4 := X34.size
  have kk := K1.out
  obtain ⟨bo, hbo0⟩ : ∃ b, b = W4.heap.size := ⟨_, rfl⟩
  have XM := Lib.hid (Ext.alloc W4 (.cells #[.slice a7 mq c7, .slice none 0 0] 27))
  have HB0 : Hid ((W4.alloc (.cells #[.slice a7 mq c7, .slice none 0 0] 27)).heap[bo]? = some (.cells #[.slice a7 mq c7, .slice none 0 0] 27)) := by unfold Hid; rw [hbo0]; exact blk_alloc _ _
  have kk2 := XM.out.cell kk
  have hbo : W4.heap.size ≤ bo := by omega
  go_wp2_with fail
  rw [← hbo0]
  have HBO := Lib.hid hbo0
  clear hbo0 kk kk2 k0 k1 n0 n1 r0 r1 ho4 X34
  go_loopw [31] (fun tk wr => ∃ (k : Nat) (a6 : Option Addr) (c6 : Nat) (U : List LinkT), k ≤ l ∧ tk = .int .i64 k ∧ Hid (wr.heap[bo]? = some (.cells #[.slice a7 mq c7, .slice a6 U.length c6] 27)) ∧
      wr.ownsRow (bo + 1) 29 3 (.slice a6 U.length c6) U.length (U.flatMap encLink) ∧ Hid (U = dlL i L k) ∧ Ext W4 wr) (fun tk _ => l - (intOf tk).toNat)
  case atStart => exact ⟨0, none, 0, [], by omega, rfl, HB0.out, World.ownsRow_nil _ _ _ _, rfl, XM.out⟩
  case round =>
    obtain ⟨k, a6, c6, U, hk, rfl, hB, hown, hU, hx⟩ := hrel
    have HOWN := Lib.hid hown
    have XW := X4.out.trans hx
    have hUl := dlL_len i L k
    rw [← hU.out] at hUl
    have hszr := hx.size
    clear hown
    by_cases hlt : k < l
    · have hltI : (k : Int) < (l : Int) := by omega
      obtain ⟨b9, o9, y, rfl, hy, c0, c1, c2⟩ := Links_at (HL.out.ext XW hh) hlt
      obtain ⟨y1, y2, y3⟩ := y
      have hlk := HLK.out _ (List.mem_of_getElem? hy.out)
      simp only [lkB, Bool.and_eq_true, decide_eq_true_eq] at hlk
      obtain ⟨q1, q2, q3, _⟩ := hlk
      have hsn := Lib.hid (dlL_succ (i := i) hy.out)
      simp only at c0 c1 c2 q1 q2 q3
      have n1 := hx.cell K1.out
      have s1 := blk_cell hB.out (j := 1) rfl
      have s2 := blk_free hB.out 1
      have hbw : bo < wr.heap.size := (Array.getElem?_eq_some_iff.1 hB.out).1
      have hbw2 : ¬ (bo = wr.heap.size) := by omega
      by_cases e1 : y1 = i
      · have hb1 : (y1 == (i : Int)) = true := by simp [e1]
        rw [show dl i (y1, y2, y3) = [] by simp [dl, e1]] at hsn
        go_wp2
        go_roundw
        case rel => exact ⟨k + 1, a6, c6, U, by omega, by go_num, blk_old hB.out, HOWN.out.alloc _, (by unfold Hid; rw [hsn.out, ← hU.out, List.append_nil]), hx.al _⟩
        case measure => simp [intOf]; omega
      have hb1 : (y1 == (i : Int)) = false := by simp [e1]
      by_cases e2 : y2 = i
      · have hb2 : (y2 == (i : Int)) = true := by simp [e2]
        rw [show dl i (y1, y2, y3) = [] by simp [dl, e2]] at hsn
        go_wp2
        go_roundw
        case rel => exact ⟨k + 1, a6, c6, U, by omega, by go_num, blk_old hB.out, HOWN.out.alloc _, (by unfold Hid; rw [hsn.out, ← hU.out, List.append_nil]), hx.al _⟩
        case measure => simp [intOf]; omega
      have hb2 : (y2 == (i : Int)) = false := by simp [e2]
      by_cases e3 : (i : Int) < y1
      · have e4 : (i : Int) < y2 := by omega
        rw [show dl i (y1, y2, y3) = [(y1 - 1, y2 - 1, y3)] by simp [dl, e1, e2, e3, e4]] at hsn
        have s3 := blk_cell (blk_old hB.out (o' := .cells #[.int .i64 (y1 - 1), .int .i64 (y2 - 1), .int .i64 y3] 29)) (j := 1) (v := .slice a6 U.length c6) rfl
        have s4 := blk_free (blk_old hB.out (o' := .cells #[.int .i64 (y1 - 1), .int .i64 (y2 - 1), .int .i64 y3] 29)) 1
        go_wp2_with
          (at_builtin; refine wpList_append_own _ rfl _ _ 25 rfl (bo + 1) 29 l0 (.agg #[.int .i64 0, .int .i64 0, .int .i64 0]) 3 24 Try.underlying25 hl0 hlz0 hlz1 hlz2 rfl (by decide) _ _ _ rfl ((HOWN.out.alloc _).alloc _) ⟨wr.heap.size + 1, 0, none⟩ 1 1 [.int .i64 (y1 - 1), .int .i64 (y2 - 1), .int .i64 (y3)] rfl rfl (new_cells3b _ _ _ _ _ _) (by intro u hu; simp at hu; rcases hu with rfl | rfl | rfl <;> rfl) (by unfold maxLen; omega) (by omega) (by simp; omega) ?_; intro v6 w6 hown6 hgrow6 _; obtain ⟨a8, c8, rfl, _, _, _⟩ := own_form hown6; have hb6 := grown_box (blk_old hB.out) (HOWN.out.alloc _) hgrow6 (Nat.lt_succ_self _); have e61 := blk_cell hb6 (j := 1) rfl; have f61 := blk_free hb6 1)
        have h61 := Lib.hid (own_set_box (j := 1) (z := .slice a8 (U.length + 1) c8) hown6 (Nat.lt_succ_self bo))
        have h62 := Lib.hid (box_set1 (z := .slice a8 (U.length + 1) c8) hb6)
        have h63 := Lib.hid (((hx.al _).push (HOWN.out.alloc _) hgrow6 (by omega)).st (p := ⟨bo, 1, none⟩) (by exact hbo) (.slice a8 (U.length + 1) c8))
        clear hown6 hgrow6 hb6 e61 f61
        go_roundw
        case rel => exact ⟨k + 1, a8, c8, U ++ [(y1 - 1, y2 - 1, y3)], by omega, by go_num, (by rw [List.length_append]; exact h62.out), (by rw [List.length_append, ← link_snoc]; exact h61.out), (by unfold Hid; rw [hsn.out, ← hU.out]), h63.out⟩
        case measure => simp [intOf]; omega
      · by_cases e4 : (i : Int) < y2
        · rw [show dl i (y1, y2, y3) = [(y1, y2 - 1, y3)] by simp [dl, e1, e2, e3, e4]] at hsn
          have s3 := blk_cell (blk_old hB.out (o' := .cells #[.int .i64 (y1), .int .i64 (y2 - 1), .int .i64 y3] 29)) (j := 1) (v := .slice a6 U.length c6) rfl
          have s4 := blk_free (blk_old hB.out (o' := .cells #[.int .i64 (y1), .int .i64 (y2 - 1), .int .i64 y3] 29)) 1
          go_wp2_with
            (at_builtin; refine wpList_append_own _ rfl _ _ 25 rfl (bo + 1) 29 l0 (.agg #[.int .i64 0, .int .i64 0, .int .i64 0]) 3 24 Try.underlying25 hl0 hlz0 hlz1 hlz2 rfl (by decide) _ _ _ rfl ((HOWN.out.alloc _).alloc _) ⟨wr.heap.size + 1, 0, none⟩ 1 1 [.int .i64 (y1), .int .i64 (y2 - 1), .int .i64 (y3)] rfl rfl (new_cells3b _ _ _ _ _ _) (by intro u hu; simp at hu; rcases hu with rfl | rfl | rfl <;> rfl) (by unfold maxLen; omega) (by omega) (by simp; omega) ?_; intro v6 w6 hown6 hgrow6 _; obtain ⟨a8, c8, rfl, _, _, _⟩ := own_form hown6; have hb6 := grown_box (blk_old hB.out) (HOWN.out.alloc _) hgrow6 (Nat.lt_succ_self _); have e61 := blk_cell hb6 (j := 1) rfl; have f61 := blk_free hb6 1)
          have h61 := Lib.hid (own_set_box (j := 1) (z := .slice a8 (U.length + 1) c8) hown6 (Nat.lt_succ_self bo))
          have h62 := Lib.hid (box_set1 (z := .slice a8 (U.length + 1) c8) hb6)
          have h63 := Lib.hid (((hx.al _).push (HOWN.out.alloc _) hgrow6 (by omega)).st (p := ⟨bo, 1, none⟩) (by exact hbo) (.slice a8 (U.length + 1) c8))
          clear hown6 hgrow6 hb6 e61 f61
          go_roundw
          case rel => exact ⟨k + 1, a8, c8, U ++ [(y1, y2 - 1, y3)], by omega, by go_num, (by rw [List.length_append]; exact h62.out), (by rw [List.length_append, ← link_snoc]; exact h61.out), (by unfold Hid; rw [hsn.out, ← hU.out]), h63.out⟩
          case measure => simp [intOf]; omega
        · rw [show dl i (y1, y2, y3) = [(y1, y2, y3)] by simp [dl, e1, e2, e3, e4]] at hsn
          have s3 := blk_cell (blk_old hB.out (o' := .cells #[.int .i64 (y1), .int .i64 (y2), .int .i64 y3] 29)) (j := 1) (v := .slice a6 U.length c6) rfl
          have s4 := blk_free (blk_old hB.out (o' := .cells #[.int .i64 (y1), .int .i64 (y2), .int .i64 y3] 29)) 1
          go_wp2_with
            (at_builtin; refine wpList_append_own _ rfl _ _ 25 rfl (bo + 1) 29 l0 (.agg #[.int .i64 0, .int .i64 0, .int .i64 0]) 3 24 Try.underlying25 hl0 hlz0 hlz1 hlz2 rfl (by decide) _ _ _ rfl ((HOWN.out.alloc _).alloc _) ⟨wr.heap.size + 1, 0, none⟩ 1 1 [.int .i64 (y1), .int .i64 (y2), .int .i64 (y3)] rfl rfl (new_cells3b _ _ _ _ _ _) (by intro u hu; simp at hu; rcases hu with rfl | rfl | rfl <;> rfl) (by unfold maxLen; omega) (by omega) (by simp; omega) ?_; intro v6 w6 hown6 hgrow6 _; obtain ⟨a8, c8, rfl, _, _, _⟩ := own_form hown6; have hb6 := grown_box (blk_old hB.out) (HOWN.out.alloc _) hgrow6 (Nat.lt_succ_self _); have e61 := blk_cell hb6 (j := 1) rfl; have f61 := blk_free hb6 1)
          have h61 := Lib.hid (own_set_box (j := 1) (z := .slice a8 (U.length + 1) c8) hown6 (Nat.lt_succ_self bo))
          have h62 := Lib.hid (box_set1 (z := .slice a8 (U.length + 1) c8) hb6)
          have h63 := Lib.hid (((hx.al _).push (HOWN.out.alloc _) hgrow6 (by omega)).st (p := ⟨bo, 1, none⟩) (by exact hbo) (.slice a8 (U.length + 1) c8))
          clear hown6 hgrow6 hb6 e61 f61
          go_roundw
          case rel => exact ⟨k + 1, a8, c8, U ++ [(y1, y2, y3)], by omega, by go_num, (by rw [List.length_append]; exact h62.out), (by rw [List.length_append, ← link_snoc]; exact h61.out), (by unfold Hid; rw [hsn.out, ← hU.out]), h63.out⟩
          case measure => simp [intOf]; omega
    · have hge : ¬ ((k : Int) < (l : Int)) := by omega
      have hkl : k = l := by omega
      have HU3 : Hid (U = dlL i L l) := by unfold Hid; rw [hU.out, hkl]
      have d0 := blk_cell hB.out (j := 0) rfl
      have d1 := blk_cell hB.out (j := 1) rfl
      have r1 := hx.blk HR.out
      have t0 := blk_cell r1 (j := 0) rfl
      have t1 := blk_cell r1 (j := 1) rfl
      have t2 := blk_free r1 0
      have t3 := blk_free r1 1
      clear hkl
      go_wp2
      obtain ⟨w9, hw9⟩ : ∃ W, W = ((wr.setCell ⟨w.heap.size + 1, 0, none⟩ (.slice a7 mq c7)).setCell ⟨w.heap.size + 1, 1, none⟩ (.slice a6 U.length c6)) := ⟨_, rfl⟩
      rw [← hw9]
      have g1 : (wr.setCell ⟨w.heap.size + 1, 0, none⟩ (.slice a7 mq c7)).heap[w.heap.size + 1]? = some (.cells #[.slice a7 mq c7, .slice none 0 0] 27) := by rw [heap_setCell_same _ _ _ _ _ _ r1]; rfl
      have g2 : w9.heap[w.heap.size + 1]? = some (.cells #[.slice a7 mq c7, .slice a6 U.length c6] 27) := by rw [hw9, heap_setCell_same _ _ _ _ _ _ g1]; rfl
      have k90 := blk_cell g2 (j := 0) rfl
      have k91 := blk_cell g2 (j := 1) rfl
      have X9 : Hid (Ext w w9) := by unfold Hid; rw [hw9]; exact (XW.st (by dsimp only; omega) _).st (by dsimp only; omega) _
      have HO9 : Hid (w9.ownsRow (bo + 1) 29 3 (.slice a6 U.length c6) U.length (U.flatMap encLink)) := by
        unfold Hid
        rw [hw9]
        exact ownsRow_setCell_below (ownsRow_setCell_below HOWN.out (by dsimp only; omega) _) (by dsimp only; omega) _
      have HT9 : Hid (w9.ownsRow (w.heap.size + 2) 75 3 (.slice a7 mq c7) mq ((butT T i).flatMap encTower)) := by
        unfold Hid
        rw [hw9]
        exact ownsRow_setCell_below (ownsRow_setCell_below (own_ext HT7.out hx) (by dsimp only; omega) _) (by dsimp only; omega) _
      have hs9 : w9.heap.size = wr.heap.size := by rw [hw9]; simp
      have hown4 := HT7.out
      clear hw9 g1 g2
      refine bodyPost_ret (v := .tuple #[.agg #[.slice a7 mq c7, .slice a6 U.length c6], .bool true]) (by simp [results, Try.results16, go_sem, k90, k91]) rfl ⟨_, rfl, ?_, X9.out⟩
      rw [HV.out, HU3.out.symm]
      refine ⟨_, _, rfl, ⟨?_, fun q hq => ?_⟩, ⟨?_, fun q hq => ?_⟩, fun q hq => ?_⟩
      · show w9.ownsRow _ _ _ _ (butT T i).length _
        rw [HTL.out]
        exact own_mono HT9.out (by omega)
      · have := (HT9.out.lt q hq).2; exact this
      · exact own_mono HO9.out (by omega)
      · have := (HO9.out.lt q hq).2; exact this
      · intro hq2
        have h1 := (hown4.lt q hq).2
        have h2 := (HO9.out.lt q hq2).1
        omega
end Go.Proofs.Ytiipjlcmekakaaa
