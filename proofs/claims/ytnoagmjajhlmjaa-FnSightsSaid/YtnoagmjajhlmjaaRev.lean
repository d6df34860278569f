
/- ReverseSight of the reference: its contract. -/
import Derived.Test.YtnoagmjajhlmjaaSees
import Derived.Test.YtnoagmjajhlmjaaDrawM
import Derived.Test.YtnoagmjajhlmjaaAnyE
import Derived.Deep.RegionHeld3
import Derived.Deep.RegionLaw
import Derived.Laws.AppendOwnNone
namespace Go.Proofs.Ytnoagmjajhlmjaa
open Go.RowKit
set_option linter.unusedSimpArgs false
/-- append to a row of the call's own, as one step of a region that draws. -/
theorem step_append_own {P : Program} {ops : Array Oper} {o : Oper} {a : Act} {w : World} {K : Act → World → Prop} {Q : Exit → Act → World → Prop} {E : Prop}
    (hg : o.guard = none) (s x : Operand) (t : TypeId) (hop : o.op = Op.call { callee := Callee.builtin Builtin.append, args := #[s, x], argTypes := #[t, t] })
    (base : Nat) (e : TypeId) (i : TypeInfo) (z : Value) (size bytes : Nat) (ht : P.underlying t = some (.slice e)) (hi : P.info? e = some i) (hz : i.zero = some z)
    (hsize : i.size = size) (hby : i.bytes = bytes) (hzs : z.cells.size = size) (hsz : 0 < size)
    (v : Value) (n : Nat) (xs : List Value) (hs : a.eval s = v) (hown : w.ownsRow base e size v n xs)
    (ad : Addr) (m c : Nat) (news : List Value) (hx : a.eval x = .slice (some ad) m c) (hl : news.length = m * size) (hnews : ∀ j u, news[j]? = some u → w.cell? (ad.add j) = some u) (h1 : ∀ u ∈ news, u.oneCell' = true)
    (h63 : n + m ≤ maxLen) (hbytes : (n + m) * bytes ≤ 140737488355328) (hbase : base ≤ w.heap.size)
    (hK : ∀ v' w', w'.ownsRow base e size v' (n + m) (xs ++ news) → w.grownBy w' v.ownBlock → K (a.put o.dst v') w') :
    if Region.wanted o (yielded ops a.tmps) = true then Oper.wp P o a w K Q else E := by
  have hw : Region.wanted o (yielded ops a.tmps) = true := by simp [Region.wanted, hg]
  rw [if_pos hw]
  exact wp_append_own w s x t hop base e i z size bytes ht hi hz hsize hby hzs hsz v n xs hs hown ad m c news hx hl hnews h1 h63 hbytes hbase fun v' w' h2 h3 _ => hK v' w' h2 h3
theorem new_cells2 (w : World) (x y : Value) (t : TypeId) : ∀ j u, ([x, y] : List Value)[j]? = some u → (w.alloc (.cells #[x, y] t)).drew.cell? ((⟨w.heap.size, 0, none⟩ : Addr).add j) = some u := by
  intro j u hj
  refine (Ext.drew _).cell ?_
  match j, hj with
  | 0, hj => exact blk_cell (blk_alloc _ _) (by simpa using hj)
  | 1, hj => exact blk_cell (blk_alloc _ _) (by simpa using hj)
  | j + 2, hj => simp at hj
theorem grown_old {W w7 : World} {row : Option Nat} (hg : W.grownBy w7 row) {b : Nat} {o : Obj} (hb : W.heap[b]? = some o) (hr : row ≠ some b) : w7.heap[b]? = some o := by
  rw [hg.block b (Array.getElem?_eq_some_iff.1 hb).1 (fun e => hr e.symm)]; exact hb
abbrev SiT := Int × Int × Int × List GroundT
/-- A sight of the call's own. -/
def OwnSight (w : World) (lo hi : Nat) (v : Value) (x : SiT) : Prop := ∃ a c, v = .agg #[.int .i64 x.1, .int .i64 x.2.1, .int .i64 x.2.2.1, .slice a x.2.2.2.length c] ∧
  w.ownsRow lo 61 2 (.slice a x.2.2.2.length c) x.2.2.2.length (x.2.2.2.flatMap encGround) ∧ ∀ k, (Value.slice a x.2.2.2.length c).ownBlock = some k → k < hi
def flipG (D : Int) (g : GroundT) : GroundT := (D - g.1, g.2)
/-- The grounds as they lie on the way back. -/
def rvG (D : Int) (gs : List GroundT) : List GroundT := (gs.map (flipG D)).reverse
theorem rvG_len (D : Int) (gs : List GroundT) : (rvG D gs).length = gs.length := by simp [rvG]
theorem rvG_at {D : Int} {gs : List GroundT} {k j : Nat} {g : GroundT} (h : gs[j]? = some g) (hj : j + k + 1 = gs.length) : (rvG D gs)[k]? = some (flipG D g) := by
  unfold rvG
  have hl := (List.getElem?_eq_some_iff.1 h).1
  rw [List.getElem?_reverse (by simp; omega), List.length_map, List.getElem?_map, show gs.length - 1 - k = j by omega, h]; rfl
def rvV (D A B : Int) (gs : List GroundT) : SiT := if sightOk D A B gs then (D, B, A, rvG D gs) else (0, 0, 0, [])
theorem ground_snoc (U : List GroundT) (y : GroundT) : U.flatMap encGround ++ [.int .i64 y.1, .int .i64 y.2] = (U ++ [y]).flatMap encGround := by
  rw [List.flatMap_append]; simp [encGround]
theorem Try.info_ground : (Try.prog.info? 61).map (fun i => (i.zero, i.size, i.bytes)) = some (some (.agg #[.int .i64 0, .int .i64 0]), 2, 16) := by kernel_rfl
set_option maxRecDepth 100000 in
set_option maxHeartbeats 4000000 in
theorem c_sReverse (D A B : Int) (vg : Value) (lo hi : Nat) (gs : List GroundT) (w : World) (h : Grounds w lo hi vg gs) (hh : hi ≤ w.heap.size) :
    Calls Try.prog 7 #[.agg #[.int .i64 D, .int .i64 A, .int .i64 B, vg]] w fun e w' => ∃ r, e = .returned (.tuple #[r, .bool (sightOk D A B gs)]) ∧ OwnSight w' w.heap.size w'.heap.size r (rvV D A B gs) ∧ Ext w w' := by
  obtain ⟨g0, hg0, hgz0, hgz1, hgz2⟩ := info_parts Try.info_ground
  have hr := h
  obtain ⟨a, cap, rfl, m1, m2, _⟩ := hr
  obtain ⟨V, hV⟩ : ∃ V, V = rvV D A B gs := ⟨_, rfl⟩
  obtain ⟨q, hq⟩ : ∃ q, q = sightOk D A B gs := ⟨_, rfl⟩
  have C1 : Hid (∀ W, Ext w W → Calls Try.prog 39 #[.agg #[.int .i64 D, .int .i64 A, .int .i64 B, .slice a gs.length cap]] W fun e w' => e = .returned (.bool q) ∧ Ext W w') := fun W hX => by rw [hq]; exact c_siGood D A B _ lo hi gs W (h.ext hX hh)
  rw [← hV, ← hq]
  unfold rvV at hV
  rw [← hq] at hV
  have HG := Lib.hid h
  obtain ⟨n, hn⟩ : ∃ n, n = gs.length := ⟨_, rfl⟩
  rw [← hn] at C1 HG m1 ⊢
  have HN := Lib.hid hn
  have HQ := Lib.hid hq
  clear h hn hq
  cases q
  · have HV : Hid (V = (0, 0, 0, [])) := hV
    clear hV
    go_enter Try.func7, Try.ntmps7
    go_wp2_with fail
    obtain ⟨W1, hW1⟩ : ∃ W, W = ((w.alloc (.cells #[.int .i64 D, .int .i64 A, .int .i64 B, .slice a n cap] 28)).alloc (.cells #[.int .i64 0, .int .i64 0, .int .i64 0, .slice none 0 0] 28)) := ⟨_, rfl⟩
    rw [← hW1]
    have X1 : Ext w W1 := by rw [hW1]; exact ((Ext.refl w).al _).al _
    have B1 : W1.heap[w.heap.size]? = some (.cells #[.int .i64 D, .int .i64 A, .int .i64 B, .slice a n cap] 28) := by rw [hW1]; exact blk_old (blk_alloc _ _)
    have B2 : W1.heap[w.heap.size + 1]? = some (.cells #[.int .i64 0, .int .i64 0, .int .i64 0, .slice none 0 0] 28) := by rw [hW1]; exact blk_alloc2 _ _ _
    have hs1 : W1.heap.size = w.heap.size + 2 := by rw [hW1, size_alloc, size_alloc]
    clear hW1
    refine ((C1).out _ X1).mono ?_
    rintro e wN ⟨rfl, hxN⟩
    have XX := X1.trans hxN
    have HB1 := Lib.hid (hxN.blk B1)
    have HB2 := Lib.hid (hxN.blk B2)
    have hsN := hxN.size
    have k0 := blk_cell HB1.out (j := 0) (v := .int .i64 D) rfl
    have k1 := blk_cell HB1.out (j := 1) (v := .int .i64 A) rfl
    have k2 := blk_cell HB1.out (j := 2) (v := .int .i64 B) rfl
    have k3 := blk_cell HB1.out (j := 3) (v := .slice a n cap) rfl
    have n0 := blk_cell HB2.out (j := 0) (v := .int .i64 0) rfl
    have n1 := blk_cell HB2.out (j := 1) (v := .int .i64 0) rfl
    have n2 := blk_cell HB2.out (j := 2) (v := .int .i64 0) rfl
    have n3 := blk_cell HB2.out (j := 3) (v := .slice none 0 0) rfl
    have r0 := blk_free HB2.out 0
    have r1 := blk_free HB2.out 1
    have r2 := blk_free HB2.out 2
    have r3 := blk_free HB2.out 3
    clear hxN B1 B2 X1
    go_wp2
    refine bodyPost_ret (v := .tuple #[.agg #[.int .i64 0, .int .i64 0, .int .i64 0, .slice none 0 0], .bool false]) (by simp [results, Try.results7, go_sem, n0, n1, n2, n3]) rfl ⟨_, rfl, ?_, ((((XX.st (p := ⟨w.heap.size + 1, 0, none⟩) (by dsimp only; omega) _).st (p := ⟨w.heap.size + 1, 1, none⟩) (by dsimp only; omega) _).st (p := ⟨w.heap.size + 1, 2, none⟩) (by dsimp only; omega) _).st (p := ⟨w.heap.size + 1, 3, none⟩) (by dsimp only; omega) _)⟩
    rw [HV.out]
    exact ⟨_, _, rfl, World.ownsRow_nil _ _ _ _, fun q hq => by simp [Value.ownBlock] at hq⟩
  · have HV : Hid (V = (D, B, A, rvG D gs)) := hV
    obtain ⟨hD, hGs, h20, _⟩ := ok_of_sight (n := 0) HQ.out.symm rfl
    have HGS := Lib.hid hGs
    obtain ⟨d0, d1, _⟩ := hD
    have h20n : n ≤ 20 := by rw [HN.out]; exact h20
    clear hV hGs h20
    go_enter Try.func7, Try.ntmps7
    go_wp2_with fail
    obtain ⟨W1, hW1⟩ : ∃ W, W = ((w.alloc (.cells #[.int .i64 D, .int .i64 A, .int .i64 B, .slice a n cap] 28)).alloc (.cells #[.int .i64 0, .int .i64 0, .int .i64 0, .slice none 0 0] 28)) := ⟨_, rfl⟩
    rw [← hW1]
    have X1 : Ext w W1 := by rw [hW1]; exact ((Ext.refl w).al _).al _
    have B1 : W1.heap[w.heap.size]? = some (.cells #[.int .i64 D, .int .i64 A, .int .i64 B, .slice a n cap] 28) := by rw [hW1]; exact blk_old (blk_alloc _ _)
    have B2 : W1.heap[w.heap.size + 1]? = some (.cells #[.int .i64 0, .int .i64 0, .int .i64 0, .slice none 0 0] 28) := by rw [hW1]; exact blk_alloc2 _ _ _
    have hs1 : W1.heap.size = w.heap.size + 2 := by rw [hW1, size_alloc, size_alloc]
    clear hW1
    refine ((C1).out _ X1).mono ?_
    rintro e wN ⟨rfl, hxN⟩
    have XX := X1.trans hxN
    have HB1 := Lib.hid (hxN.blk B1)
    have HB2 := Lib.hid (hxN.blk B2)
    have hsN := hxN.size
    have k0 := blk_cell HB1.out (j := 0) (v := .int .i64 D) rfl
    have k1 := blk_cell HB1.out (j := 1) (v := .int .i64 A) rfl
    have k2 := blk_cell HB1.out (j := 2) (v := .int .i64 B) rfl
    have k3 := blk_cell HB1.out (j := 3) (v := .slice a n cap) rfl
    have n0 := blk_cell HB2.out (j := 0) (v := .int .i64 0) rfl
    have n1 := blk_cell HB2.out (j := 1) (v := .int .i64 0) rfl
    have n2 := blk_cell HB2.out (j := 2) (v := .int .i64 0) rfl
    have n3 := blk_cell HB2.out (j := 3) (v := .slice none 0 0) rfl
    have r0 := blk_free HB2.out 0
    have r1 := blk_free HB2.out 1
    have r2 := blk_free HB2.out 2
    have r3 := blk_free HB2.out 3
    clear hxN B1 B2 X1
    obtain ⟨bo, hbo⟩ : ∃ b, b = wN.heap.size := ⟨_, rfl⟩
    have hbo2 : w.heap.size + 2 ≤ bo := by omega
    have HB0 : Hid ((wN.alloc (.cells #[.int .i64 D, .int .i64 B, .int .i64 A, .slice none 0 0] 28)).heap[bo]? = some (.cells #[.int .i64 D, .int .i64 B, .int .i64 A, .slice none 0 0] 28)) := by unfold Hid; rw [hbo]; exact blk_alloc _ _
    have XM := Lib.hid (Ext.alloc wN (.cells #[.int .i64 D, .int .i64 B, .int .i64 A, .slice none 0 0] 28))
    have k3b := XM.out.cell k3
    go_wp2_with fail
    rw [← hbo]
    have HBO := Lib.hid hbo
    have hboN : wN.heap.size ≤ bo := by omega
    clear k0 k1 k2 k3 k3b n0 n1 n2 n3 r0 r1 r2 r3 hbo
    go_loopw [5] (fun v5 wr => ∃ (m : Nat) (a6 : Option Addr) (c6 : Nat) (U : List GroundT), m + U.length = n ∧ v5 = .int .i64 ((m : Int) - 1) ∧ Hid (wr.heap[bo]? = some (.cells #[.int .i64 D, .int .i64 B, .int .i64 A, .slice a6 U.length c6] 28)) ∧
        wr.ownsRow (bo + 1) 61 2 (.slice a6 U.length c6) U.length (U.flatMap encGround) ∧ Hid (U = (rvG D gs).take U.length) ∧ Ext wN wr) (fun v5 _ => (intOf v5 + 1).toNat)
    case atStart => exact ⟨n, none, 0, [], by simp, rfl, HB0.out, World.ownsRow_nil _ _ _ _, rfl, XM.out⟩
    case round =>
      clear HB0 XM
      obtain ⟨m, a6, c6, U, hm, rfl, hB, hown, hU, hx⟩ := hrel
      have HOWN := Lib.hid hown
      have hszr := hx.size
      have hbw : bo < wr.heap.size := (Array.getElem?_eq_some_iff.1 hB.out).1
      clear hown
      cases m with
      | succ j =>
        rw [show (((j + 1 : Nat) : Int) - 1) = (j : Int) by omega]
        have hjn : j < n := by omega
        have hjI : (j : Int) < (n : Int) := by omega
        have hj0 : (0 : Int) ≤ (j : Int) := by omega
        obtain ⟨b9, o9, g, rfl, hg, c0, c1⟩ := Grounds_at (HG.out.ext XX hh) hjn
        obtain ⟨x, y⟩ := g
        obtain ⟨x0, x1, y0, y1⟩ := HGS.out _ (List.mem_of_getElem? hg.out)
        simp only at c0 c1 x0 x1 y0 y1
        have hsn : Hid ((rvG D gs).take (U.length + 1) = U ++ [(D - x, y)]) := by
          unfold Hid
          rw [List.take_add_one, rvG_at hg.out (by rw [← HN.out]; omega), ← hU.out]; rfl
        have HS : Hid (∀ W, Ext wN W → W.cell? ⟨w.heap.size, 0, none⟩ = some (.int .i64 D) ∧ W.cell? ⟨w.heap.size, 3, none⟩ = some (.slice (some ⟨b9, o9, none⟩) n cap) ∧ W.cell? ⟨b9, o9 + j * 2, none⟩ = some (.int .i64 x) ∧ W.cell? ⟨b9, o9 + j * 2 + 1, none⟩ = some (.int .i64 y)) :=
          fun W hX => ⟨hX.cell (blk_cell HB1.out (j := 0) rfl), hX.cell (blk_cell HB1.out (j := 3) rfl), hX.cell c0, hX.cell c1⟩
        have e3 := blk_cell hB.out (j := 3) (v := .slice a6 U.length c6) rfl
        have e3d := (Ext.drew wr).cell e3
        have e3b := ((Ext.alloc wr (.cells #[.int .i64 (D - x), .int .i64 y] 61)).dr).cell e3
        have hwr : IntKind.i64.wrap (D - x) = D - x := by rw [IntKind.wrap_i64]; omega
        clear c0 c1
        go_wp2_with fail
        refine wp_region_E (S := fun W => W.cell? ⟨w.heap.size, 0, none⟩ = some (.int .i64 D) ∧ W.cell? ⟨w.heap.size, 3, none⟩ = some (.slice (some ⟨b9, o9, none⟩) n cap) ∧ W.cell? ⟨b9, o9 + j * 2, none⟩ = some (.int .i64 x) ∧ W.cell? ⟨b9, o9 + j * 2 + 1, none⟩ = some (.int .i64 y) ∧ W.cell? ⟨bo, 3, none⟩ = some (.slice a6 U.length c6)) (by kernel_rfl) ?_
        have hSS : (fun W : World => W.cell? ⟨w.heap.size, 0, none⟩ = some (.int .i64 D) ∧ W.cell? ⟨w.heap.size, 3, none⟩ = some (.slice (some ⟨b9, o9, none⟩) n cap) ∧ W.cell? ⟨b9, o9 + j * 2, none⟩ = some (.int .i64 x) ∧ W.cell? ⟨b9, o9 + j * 2 + 1, none⟩ = some (.int .i64 y) ∧ W.cell? ⟨bo, 3, none⟩ = some (.slice a6 U.length c6)) wr.drew := by
          obtain ⟨q1, q2, q3, q4⟩ := HS.out _ hx.dr
          exact ⟨q1, q2, q3, q4, e3d⟩
        refine wpAnyE_take (i := 0) (v := ?_) rfl (by kernel_rfl) (by kernel_rfl) (by kernel_rfl) (fun _ _ _ h => h) (Or.inl ⟨by rfl, ?_⟩) (by assumption) ?_
        rotate_left 1
        focus (intro W hSW; (try dsimp only at hSW); go_simp; try with_reducible rfl)
        (try simp only [Act.put, List.setIfInBounds_toArray, List.set_cons_zero, List.set_cons_succ])
        refine wpAnyE_take (i := 1) (v := ?_) rfl (by kernel_rfl) (by kernel_rfl) (by kernel_rfl) (fun _ _ _ h => h) (Or.inl ⟨by rfl, ?_⟩) (by assumption) ?_
        rotate_left 1
        focus (intro W hSW; (try dsimp only at hSW); go_simp; try with_reducible rfl)
        (try simp only [Act.put, List.setIfInBounds_toArray, List.set_cons_zero, List.set_cons_succ])
        refine wpAnyE_take (i := 2) (v := ?_) rfl (by kernel_rfl) (by kernel_rfl) (by kernel_rfl) (fun _ _ _ h => h) (Or.inl ⟨by rfl, ?_⟩) (by assumption) ?_
        rotate_left 1
        focus (intro W hSW; (try dsimp only at hSW); go_simp; try with_reducible rfl)
        (try simp only [Act.put, List.setIfInBounds_toArray, List.set_cons_zero, List.set_cons_succ])
        refine wpAnyE_take (i := 3) (v := ?_) rfl (by kernel_rfl) (by kernel_rfl) (by kernel_rfl) (fun _ _ _ h => h) (Or.inl ⟨by rfl, ?_⟩) (by assumption) ?_
        rotate_left 1
        focus (intro W hSW; (try dsimp only at hSW); go_simp; try with_reducible rfl)
        (try simp only [Act.put, List.setIfInBounds_toArray, List.set_cons_zero, List.set_cons_succ])
        refine wpAnyE_take (i := 4) (v := ?_) rfl (by kernel_rfl) (by kernel_rfl) (by kernel_rfl) (fun _ _ _ h => h) (Or.inl ⟨by rfl, ?_⟩) (by assumption) ?_
        rotate_left 1
        focus (intro W hSW; (try dsimp only at hSW); go_simp; try with_reducible rfl)
        (try simp only [Act.put, List.setIfInBounds_toArray, List.set_cons_zero, List.set_cons_succ])
        refine wpAnyE_take (i := 5) (v := ?_) rfl (by kernel_rfl) (by kernel_rfl) (by kernel_rfl) (fun _ _ _ h => h) (Or.inl ⟨by rfl, ?_⟩) (by assumption) ?_
        rotate_left 1
        focus (intro W hSW; (try dsimp only at hSW); go_simp; try with_reducible rfl)
        (try simp only [Act.put, List.setIfInBounds_toArray, List.set_cons_zero, List.set_cons_succ])
        refine wpAnyE_take (i := 6) (v := ?_) rfl (by kernel_rfl) (by kernel_rfl) (by kernel_rfl) (fun _ _ _ h => h) (Or.inl ⟨by rfl, ?_⟩) (by assumption) ?_
        rotate_left 1
        focus (intro W hSW; (try dsimp only at hSW); go_simp; try with_reducible rfl)
        (try simp only [Act.put, List.setIfInBounds_toArray, List.set_cons_zero, List.set_cons_succ])
        refine wpAnyE_take (i := 7) (v := ?_) rfl (by kernel_rfl) (by kernel_rfl) (by kernel_rfl) (fun _ _ _ h => h) (Or.inl ⟨by rfl, ?_⟩) (by assumption) ?_
        rotate_left 1
        focus (intro W hSW; (try dsimp only at hSW); go_simp; try with_reducible rfl)
        (try simp only [Act.put, List.setIfInBounds_toArray, List.set_cons_zero, List.set_cons_succ])
        refine wpAnyE_take (i := 8) (v := ?_) rfl (by kernel_rfl) (by kernel_rfl) (by kernel_rfl) (fun _ _ _ h => h) (Or.inl ⟨by rfl, ?_⟩) (by assumption) ?_
        rotate_left 1
        focus (intro W hSW; (try dsimp only at hSW); go_simp; try with_reducible rfl)
        (try simp only [Act.put, List.setIfInBounds_toArray, List.set_cons_zero, List.set_cons_succ])
        refine wpAnyE_take (i := 9) (v := ?_) rfl (by kernel_rfl) (by kernel_rfl) (by kernel_rfl) (fun _ _ _ h => h) (Or.inl ⟨by rfl, ?_⟩) (by assumption) ?_
        rotate_left 1
        focus (intro W hSW; (try dsimp only at hSW); go_simp; try with_reducible rfl)
        (try simp only [Act.put, List.setIfInBounds_toArray, List.set_cons_zero, List.set_cons_succ])
        refine wpAnyE_take (i := 10) (v := ?_) rfl (by kernel_rfl) (by kernel_rfl) (by kernel_rfl) (fun _ _ _ h => h) (Or.inl ⟨by rfl, ?_⟩) (by assumption) ?_
        rotate_left 1
        focus (intro W hSW; (try dsimp only at hSW); go_simp; try with_reducible rfl)
        (try simp only [Act.put, List.setIfInBounds_toArray, List.set_cons_zero, List.set_cons_succ])
        refine wpAnyE_take (i := 11) (v := ?_) rfl (by kernel_rfl) (by kernel_rfl) (by kernel_rfl) (fun _ _ _ h => h) (Or.inl ⟨by rfl, ?_⟩) (by assumption) ?_
        rotate_left 1
        focus (intro W hSW; (try dsimp only at hSW); go_simp; try with_reducible rfl)
        (try simp only [Act.put, List.setIfInBounds_toArray, List.set_cons_zero, List.set_cons_succ])
        refine wpAnyE_take (i := 12) (v := ?_) rfl (by kernel_rfl) (by kernel_rfl) (by kernel_rfl) (fun _ _ _ h => h) (Or.inl ⟨by rfl, ?_⟩) (by assumption) ?_
        rotate_left 1
        focus (intro W hSW; (try dsimp only at hSW); go_simp; try with_reducible rfl)
        (try simp only [Act.put, List.setIfInBounds_toArray, List.set_cons_zero, List.set_cons_succ])
        refine wpAnyE_take (i := 13) (v := ?_) rfl (by kernel_rfl) (by kernel_rfl) (by kernel_rfl) (fun _ _ _ h => h) (Or.inl ⟨by rfl, ?_⟩) (by assumption) ?_
        rotate_left 1
        focus (intro W hSW; (try dsimp only at hSW); go_simp; try with_reducible rfl)
        (try simp only [Act.put, List.setIfInBounds_toArray, List.set_cons_zero, List.set_cons_succ])
        refine wpAnyE_take (i := 14) (v := ?_) rfl (by kernel_rfl) (by kernel_rfl) (by kernel_rfl) (fun _ _ _ h => h) (Or.inl ⟨by rfl, ?_⟩) (by assumption) ?_
        rotate_left 1
        focus (intro W hSW; (try dsimp only at hSW); go_simp; try with_reducible rfl)
        (try simp only [Act.put, List.setIfInBounds_toArray, List.set_cons_zero, List.set_cons_succ])
        refine wpAnyE_take (i := 15) (v := ?_) rfl (by kernel_rfl) (by kernel_rfl) (by kernel_rfl) (fun _ _ _ h => h) (Or.inl ⟨by rfl, ?_⟩) (by assumption) ?_
        rotate_left 1
        focus (intro W hSW; (try dsimp only at hSW); go_simp; try with_reducible rfl)
        (try simp only [Act.put, List.setIfInBounds_toArray, List.set_cons_zero, List.set_cons_succ])
        refine wpAnyE_take (i := 16) (v := ?_) rfl (by kernel_rfl) (by kernel_rfl) (by kernel_rfl) (fun _ _ _ h => h) (Or.inl ⟨by rfl, ?_⟩) (by assumption) ?_
        rotate_left 1
        focus (intro W hSW; (try dsimp only at hSW); go_simp; try with_reducible rfl)
        (try simp only [Act.put, List.setIfInBounds_toArray, List.set_cons_zero, List.set_cons_succ])
        refine wpAnyE_take (i := 17) (v := ?_) rfl (by kernel_rfl) (by kernel_rfl) (by kernel_rfl) (fun _ _ _ h => h) (Or.inl ⟨by rfl, ?_⟩) (by assumption) ?_
        rotate_left 1
        focus (intro W hSW; (try dsimp only at hSW); go_simp; try with_reducible rfl)
        (try simp only [Act.put, List.setIfInBounds_toArray, List.set_cons_zero, List.set_cons_succ])
        refine wpAnyE_one (i := 18) (by kernel_rfl) rfl (fun K hK => ?_)
        have HK := Lib.hid hK
        clear hK
        go_simp
        refine HK.out _ _ (fun _ => ⟨(HS.out _ ((hx.al _).dr)).1, (HS.out _ ((hx.al _).dr)).2.1, (HS.out _ ((hx.al _).dr)).2.2.1, (HS.out _ ((hx.al _).dr)).2.2.2, e3b⟩) ?_
        clear HK
        refine wpAnyE_one (i := 19) (by kernel_rfl) rfl (fun K hK => ?_)
        have HK := Lib.hid hK
        clear hK
        refine step_append_own rfl (.tmp 26) (.tmp 43) 26 rfl (bo + 1) 61 g0 (.agg #[.int .i64 0, .int .i64 0]) 2 16 Try.underlying26 hg0 hgz0 hgz1 hgz2 rfl (by decide) (.slice a6 U.length c6) U.length (U.flatMap encGround) (by simp [Act.eval, Act.put]) (own_ext HOWN.out ((Ext.alloc _ _).dr)) ⟨wr.heap.size, 0, none⟩ 1 1 [.int .i64 (D - x), .int .i64 y] (by simp [Act.eval, Act.put]) rfl (new_cells2 _ _ _ _) (by intro u hu; simp at hu; rcases hu with rfl | rfl <;> rfl) (by unfold maxLen; omega) (by omega) (by simp; omega) ?_; intro v6 w6 hown6 hgr6; obtain ⟨a8, c8, rfl, _, _, _⟩ := own_form hown6; have hb6 := grown_old hgr6 (((Ext.alloc wr (.cells #[.int .i64 (D - x), .int .i64 y] 61)).dr).blk hB.out) (fun e => by have := (HOWN.out.lt _ e).1; omega); have e61 := blk_cell hb6 (j := 3) (v := .slice a6 U.length c6) rfl; have f61 := blk_free hb6 3; have XA := Lib.hid (((hx.al _).dr).gr hgr6 (fun q hq => by have := (HOWN.out.lt q hq).1; omega)); have HO6 := Lib.hid hown6; clear hown6 hgr6
        have hS6 : (fun W : World => W.cell? ⟨w.heap.size, 0, none⟩ = some (.int .i64 D) ∧ W.cell? ⟨w.heap.size, 3, none⟩ = some (.slice (some ⟨b9, o9, none⟩) n cap) ∧ W.cell? ⟨b9, o9 + j * 2, none⟩ = some (.int .i64 x) ∧ W.cell? ⟨b9, o9 + j * 2 + 1, none⟩ = some (.int .i64 y) ∧ W.cell? ⟨bo, 3, none⟩ = some (.slice a6 U.length c6)) w6 := ⟨(HS.out _ XA.out).1, (HS.out _ XA.out).2.1, (HS.out _ XA.out).2.2.1, (HS.out _ XA.out).2.2.2, e61⟩
        refine HK.out _ _ (fun _ => hS6) ?_
        clear HK
        refine wpAnyE_take (i := 20) (v := ?_) rfl (by kernel_rfl) (by kernel_rfl) (by kernel_rfl) (fun _ _ _ h => h) (Or.inl ⟨by rfl, ?_⟩) (by assumption) ?_
        rotate_left 1
        focus (intro W hSW; (try dsimp only at hSW); go_simp; try with_reducible rfl)
        (try simp only [Act.put, List.setIfInBounds_toArray, List.set_cons_zero, List.set_cons_succ])
        refine wpAnyE_one (i := 21) (by kernel_rfl) rfl (fun K hK => ?_)
        have HK := Lib.hid hK
        clear hK hSS hS6
        go_simp
        refine HK.out _ _ (fun hn => absurd ?_ hn) (wpAnyE_done (by kernel_rfl) ?_ _)
        · intro oj hoj q hq hne
          cases hoj
          revert hne
          revert q
          decide
        have hU1 : (U ++ [(D - x, y)]).length = U.length + 1 := by simp
        have h61 := Lib.hid (ownsRow_setCell_below (a := ⟨bo, 3, none⟩) HO6.out (by exact Nat.lt_succ_self bo) (.slice a8 (U.length + 1) c8))
        have h62 : Hid ((w6.setCell ⟨bo, 3, none⟩ (.slice a8 (U.length + 1) c8)).heap[bo]? = some (.cells #[.int .i64 D, .int .i64 B, .int .i64 A, .slice a8 (U.length + 1) c8] 28)) := by unfold Hid; rw [heap_setCell_same _ _ _ _ _ _ hb6]; rfl
        have h63 := Lib.hid (XA.out.st (p := ⟨bo, 3, none⟩) hboN (.slice a8 (U.length + 1) c8))
        have HU1 := Lib.hid hU1
        clear hb6 e61 f61 e3 e3d e3b hU1
        go_wp2
        go_roundw
        case rel => exact ⟨j, a8, c8, U ++ [(D - x, y)], by rw [HU1.out]; omega, rfl, (by rw [HU1.out]; exact h62.out), (by rw [HU1.out, ← ground_snoc]; exact h61.out), (by unfold Hid; rw [HU1.out, hsn.out]), h63.out⟩
        case measure => simp [intOf]
      | zero =>
        have HUV : Hid (U = rvG D gs) := by
          unfold Hid
          rw [hU.out, List.take_of_length_le (by rw [rvG_len, ← HN.out]; omega)]
        have hr1 := hx.blk HB2.out
        have t0 := blk_cell hr1 (j := 0) (v := .int .i64 0) rfl
        have t1 := blk_cell hr1 (j := 1) (v := .int .i64 0) rfl
        have t2 := blk_cell hr1 (j := 2) (v := .int .i64 0) rfl
        have t3 := blk_cell hr1 (j := 3) (v := .slice none 0 0) rfl
        have f0 := blk_free hr1 0
        have f1 := blk_free hr1 1
        have f2 := blk_free hr1 2
        have f3 := blk_free hr1 3
        have b0 := blk_cell hB.out (j := 0) (v := .int .i64 D) rfl
        have b1 := blk_cell hB.out (j := 1) (v := .int .i64 B) rfl
        have b2 := blk_cell hB.out (j := 2) (v := .int .i64 A) rfl
        have b3 := blk_cell hB.out (j := 3) (v := .slice a6 U.length c6) rfl
        go_wp2
        obtain ⟨w9, hw9⟩ : ∃ W, W = ((((wr.setCell ⟨w.heap.size + 1, 0, none⟩ (.int .i64 D)).setCell ⟨w.heap.size + 1, 1, none⟩ (.int .i64 B)).setCell ⟨w.heap.size + 1, 2, none⟩ (.int .i64 A)).setCell ⟨w.heap.size + 1, 3, none⟩ (.slice a6 U.length c6)) := ⟨_, rfl⟩
        rw [← hw9]
        have g1 : (wr.setCell ⟨w.heap.size + 1, 0, none⟩ (.int .i64 D)).heap[w.heap.size + 1]? = some (.cells #[.int .i64 D, .int .i64 0, .int .i64 0, .slice none 0 0] 28) := by rw [heap_setCell_same _ _ _ _ _ _ hr1]; rfl
        have g2 : ((wr.setCell ⟨w.heap.size + 1, 0, none⟩ (.int .i64 D)).setCell ⟨w.heap.size + 1, 1, none⟩ (.int .i64 B)).heap[w.heap.size + 1]? = some (.cells #[.int .i64 D, .int .i64 B, .int .i64 0, .slice none 0 0] 28) := by rw [heap_setCell_same _ _ _ _ _ _ g1]; rfl
        have g3 : (((wr.setCell ⟨w.heap.size + 1, 0, none⟩ (.int .i64 D)).setCell ⟨w.heap.size + 1, 1, none⟩ (.int .i64 B)).setCell ⟨w.heap.size + 1, 2, none⟩ (.int .i64 A)).heap[w.heap.size + 1]? = some (.cells #[.int .i64 D, .int .i64 B, .int .i64 A, .slice none 0 0] 28) := by rw [heap_setCell_same _ _ _ _ _ _ g2]; rfl
        have g4 : w9.heap[w.heap.size + 1]? = some (.cells #[.int .i64 D, .int .i64 B, .int .i64 A, .slice a6 U.length c6] 28) := by rw [hw9, heap_setCell_same _ _ _ _ _ _ g3]; rfl
        have k90 := blk_cell g4 (j := 0) (v := .int .i64 D) rfl
        have k91 := blk_cell g4 (j := 1) (v := .int .i64 B) rfl
        have k92 := blk_cell g4 (j := 2) (v := .int .i64 A) rfl
        have k93 := blk_cell g4 (j := 3) (v := .slice a6 U.length c6) rfl
        have XW := XX.trans hx
        have X9 : Hid (Ext w w9) := by unfold Hid; rw [hw9]; exact (((XW.st (by dsimp only; omega) _).st (by dsimp only; omega) _).st (by dsimp only; omega) _).st (by dsimp only; omega) _
        have HO9 : Hid (w9.ownsRow (bo + 1) 61 2 (.slice a6 U.length c6) U.length (U.flatMap encGround)) := by
          unfold Hid
          rw [hw9]
          exact ownsRow_setCell_below (ownsRow_setCell_below (ownsRow_setCell_below (ownsRow_setCell_below HOWN.out (by dsimp only; omega) _) (by dsimp only; omega) _) (by dsimp only; omega) _) (by dsimp only; omega) _
        clear hw9 g1 g2 g3 g4
        refine bodyPost_ret (v := .tuple #[.agg #[.int .i64 D, .int .i64 B, .int .i64 A, .slice a6 U.length c6], .bool true]) (by simp [results, Try.results7, go_sem, k90, k91, k92, k93]) rfl ⟨_, rfl, ?_, X9.out⟩
        rw [HV.out, ← HUV.out]
        exact ⟨_, _, rfl, own_mono HO9.out (by omega), fun q hq => (HO9.out.lt q hq).2⟩
end Go.Proofs.Ytnoagmjajhlmjaa
