
/- slices.Insert of one link: its contract. -/
import Derived.Test.YtiipjlcmekakaaaDelT
import Derived.Lib.AppendZerosOnto
import Derived.Lib.Overlaps
import Derived.Laws.IdiomCopy
namespace Go.Proofs.Ytiipjlcmekakaaa
open Go.RowKit
set_option linter.unusedSimpArgs false
set_option linter.unusedVariables false
theorem wpList_copy_run9 {P : Program} (w : World) {ops : Array Oper} {rest : List Oper} {o : Oper} {a : Act} {Q : Exit → Act → World → Prop} (hgd : o.guard = none) (d s : Operand) (t t' : TypeId)
    (ho : o.op = .call { callee := .builtin .copy, args := #[d, s], argTypes := #[t, t'] }) (v u : Value) (hd : a.eval d = v) (hs : a.eval s = u) {v' : Value} {w' : World}
    (hr : (Builtin.copy_ #[t, t'] o.type #[v, u]).run P w = .ok v' w') (h : wpList P ops Q rest (a.put o.dst v') w') : wpList P ops Q (o :: rest) a w := by
  refine wpList_plain hgd fun K hK => ?_
  unfold Oper.wp execOp
  simp only [ho, resolve, invoke, builtin, Sem.run_bind, Sem.run_pure, Result.andThen_ok, List.map_toArray, List.map_cons, List.map_nil, hd, hs, hr]
  exact hK _ _ h
theorem step_copy_run9 {P : Program} {ops : Array Oper} {o : Oper} {a : Act} {w : World} {K : Act → World → Prop} {Q : Exit → Act → World → Prop} {E : Prop}
    (hg : o.guard = none) (d x : Operand) (dT sT : TypeId) (hop : o.op = Op.call { callee := Callee.builtin Builtin.copy, args := #[d, x], argTypes := #[dT, sT] })
    (v u : Value) (hd : a.eval d = v) (hx : a.eval x = u) {v' : Value} {w' : World} (hr : (Builtin.copy_ #[dT, sT] o.type #[v, u]).run P w = .ok v' w') (hK : K (a.put o.dst v') w') :
    if Region.wanted o (yielded ops a.tmps) = true then Oper.wp P o a w K Q else E := by
  have hw : Region.wanted o (yielded ops a.tmps) = true := by simp [Region.wanted, hg]
  rw [if_pos hw]
  unfold Oper.wp
  simp [execOp, hop, resolve, invoke, builtin, hd, hx, hr, Result.andThen]
  exact hK
/-- A copy of m elements of 3 cells each. -/
theorem run_copy_cells3 {P : Program} (w : World) (dT sT ty elem : TypeId) (b o dLen dCap m : Nat) (a : Addr) (sLen sCap : Nat) (cs : List Value)
    (hu : P.underlying dT = some (.slice elem)) (hs : (P.info? elem).map (·.size) = some 3) (hm : Nat.min sLen dLen = m) (hn : cs.length = m * 3)
    (hsrc : ∀ j v, cs[j]? = some v → w.cell? (a.add j) = some v) (hc : ∀ j, j < cs.length → (w.cell? ⟨b, o + j, none⟩).isSome = true) (hf : ∀ j, j < cs.length → w.frozen? ⟨b, o + j, none⟩ = false) (h1 : ∀ v ∈ cs, v.oneCell' = true) :
    (Builtin.copy_ #[dT, sT] ty #[.slice (some ⟨b, o, none⟩) dLen dCap, .slice (some a) sLen sCap]).run P w = .ok (goInt m) (w.setCells b o cs) := by
  have hl := run_loadCells_list (P := P) w a cs hsrc
  have hst := run_storeCells_cells (P := P) b o cs 0 w (by simpa using hc) (by simpa using hf) h1
  rw [hn] at hl
  cases hq : P.info? elem with
  | none => simp [hq] at hs
  | some i =>
    have hi : i.size = 3 := by simpa [hq] using hs
    simp [Builtin.copy_, run_underlying hu, Builtin.lenOf, Builtin.firstCells, sizeOf, typeInfo, hq, hi, hm, hl, hst]
theorem take_ovl {xs vs : List Value} {o q : Nat} (h1 : o + vs.length ≤ q) (h2 : q ≤ xs.length) : (ovl xs o vs).take q = xs.take o ++ vs ++ (xs.take q).drop (o + vs.length) := by
  apply List.ext_getElem?
  intro k
  rw [List.getElem?_take, ovl_get _ _ _ _ (by omega), List.append_assoc]
  by_cases hk : k < o
  · rw [if_pos (by omega), if_neg (by omega), List.getElem?_append_left (by rw [List.length_take]; omega), List.getElem?_take, if_pos hk]
  · rw [List.getElem?_append_right (by rw [List.length_take]; omega), List.length_take, Nat.min_eq_left (by omega)]
    by_cases hk2 : k < o + vs.length
    · rw [if_pos (by omega), if_pos (by omega), List.getElem?_append_left (by omega)]
    · rw [List.getElem?_append_right (by omega), List.getElem?_drop, List.getElem?_take, show o + vs.length + (k - o - vs.length) = k by omega, if_neg (by omega : ¬ (o ≤ k ∧ k < o + vs.length))]
theorem ins_cells {xs vs news : List Value} {o : Nat} (h : xs.length = o + vs.length + news.length) : ovl (ovl xs o vs) (o + vs.length) news = xs.take o ++ vs ++ news := by
  apply List.ext_getElem?
  intro k
  rw [ovl_get _ _ _ _ (by rw [ovl_len]; omega), ovl_get _ _ _ _ (by omega), List.append_assoc]
  by_cases hk : k < o
  · rw [if_neg (by omega), if_neg (by omega), List.getElem?_append_left (by rw [List.length_take]; omega), List.getElem?_take, if_pos hk]
  · rw [List.getElem?_append_right (by rw [List.length_take]; omega), List.length_take, Nat.min_eq_left (by omega)]
    by_cases hk2 : k < o + vs.length
    · rw [if_neg (by omega), if_pos (by omega), List.getElem?_append_left (by omega)]
    · rw [List.getElem?_append_right (by omega)]
      by_cases hk3 : k < o + vs.length + news.length
      · rw [if_pos (by omega), Nat.sub_sub]
      · rw [if_neg (by omega), if_neg (by omega), List.getElem?_eq_none (by omega), List.getElem?_eq_none (by omega)]
/-- The same, the tail first. -/
theorem ins_cells2 {xs vs news : List Value} {o : Nat} (h : xs.length = o + vs.length + news.length) : ovl (ovl xs (o + vs.length) news) o vs = xs.take o ++ vs ++ news := by
  apply List.ext_getElem?
  intro k
  rw [ovl_get _ _ _ _ (by rw [ovl_len]; omega), ovl_get _ _ _ _ (by omega), List.append_assoc]
  by_cases hk : k < o
  · rw [if_neg (by omega), if_neg (by omega), List.getElem?_append_left (by rw [List.length_take]; omega), List.getElem?_take, if_pos hk]
  · rw [List.getElem?_append_right (by rw [List.length_take]; omega), List.length_take, Nat.min_eq_left (by omega)]
    by_cases hk2 : k < o + vs.length
    · rw [if_pos (by omega), List.getElem?_append_left (by omega)]
    · rw [List.getElem?_append_right (by omega), if_neg (by omega)]
      by_cases hk3 : k < o + vs.length + news.length
      · rw [if_pos (by omega), Nat.sub_sub]
      · rw [if_neg (by omega), List.getElem?_eq_none (by omega), List.getElem?_eq_none (by omega)]
theorem y_cells3 {w : World} {b : Nat} {x y z : Value} {t : TypeId} (h : w.heap[b]? = some (.cells #[x, y, z] t (0, 0))) : ∀ j u, ([x, y, z] : List Value)[j]? = some u → w.cell? ((⟨b, 0, none⟩ : Addr).add j) = some u := by
  intro j u hj
  match j, hj with
  | 0, hj => exact blk_cell h (by simpa using hj)
  | 1, hj => exact blk_cell h (by simpa using hj)
  | 2, hj => exact blk_cell h (by simpa using hj)
  | j + 3, hj => simp at hj
def InsAt (C : List Value) (i : Nat) (Y : List Value) : List Value := C.take (i * 3) ++ Y ++ C.drop (i * 3)

set_option maxRecDepth 100000 in
set_option maxHeartbeats 4000000 in
theorem c_InsL_end (base n vb : Nat) (v : Value) (C : List Value) (y1 y2 y3 : Int) (w : World) (hown : w.ownsRow base 29 3 v n C) (hn : n ≤ 1048576) (hbase : base ≤ w.heap.size)
    (hy : w.heap[vb]? = some (.cells #[.int .i64 y1, .int .i64 y2, .int .i64 y3] 29)) :
    Calls Try.prog 43 #[v, .int .i64 n, .slice (some ⟨vb, 0, none⟩) 1 1] w fun e w' =>
      ∃ r, e = .returned r ∧ w'.ownsRow base 29 3 r (n + 1) (C ++ [.int .i64 y1, .int .i64 y2, .int .i64 y3]) ∧ w.grownBy w' v.ownBlock := by
  obtain ⟨l0, hl0, hlz0, hlz1, hlz2⟩ := info_parts Try.info_link
  have HO := Lib.hid hown
  have HY := Lib.hid hy
  obtain ⟨a, cap, rfl, _, h1, h2⟩ := own_form hown
  have hcm : cap ≤ 9223372036854775807 := h2
  cases a with
  | none =>
    have hz : n = 0 ∧ cap = 0 := by
      rcases hown.2 with ⟨e, h0⟩ | ⟨g, c, cur, e, _⟩
      · simp only [Value.slice.injEq, true_and] at e
        exact ⟨e.1, e.2⟩
      · simp at e
    obtain ⟨rfl, rfl⟩ := hz
    clear hown hy
    go_enter Try.func43, Try.ntmps43
    go_wp2_with (at_builtin; refine wpList_append_own _ rfl _ _ 25 rfl base 29 l0 (.agg #[.int .i64 0, .int .i64 0, .int .i64 0]) 3 24 Try.underlying25 hl0 hlz0 hlz1 hlz2 rfl (by decide) _ _ _ rfl HO.out ⟨vb, 0, none⟩ 1 1 [.int .i64 y1, .int .i64 y2, .int .i64 y3] rfl rfl (y_cells3 HY.out) (by intro u hu; simp at hu; rcases hu with rfl | rfl | rfl <;> rfl) (by unfold maxLen; omega) (by omega) hbase ?_; intro v3 w3 hown3 hgrow3 hnil3)
    go_ret
    exact ⟨_, rfl, hown3, hgrow3⟩
  | some ad =>
    obtain ⟨g, o, sp⟩ := ad
    obtain ⟨rfl, rfl⟩ : o = 0 ∧ sp = none := by
      rcases hown.2 with ⟨e, h0⟩ | ⟨g, c, cur, e, _⟩
      · simp at e
      · simp only [Value.slice.injEq, Option.some.injEq, Addr.mk.injEq] at e
        exact ⟨e.1.2.1, e.1.2.2⟩
    clear hown hy
    go_enter Try.func43, Try.ntmps43
    go_wp2_with (at_builtin; refine wpList_append_own _ rfl _ _ 25 rfl base 29 l0 (.agg #[.int .i64 0, .int .i64 0, .int .i64 0]) 3 24 Try.underlying25 hl0 hlz0 hlz1 hlz2 rfl (by decide) _ _ _ rfl HO.out ⟨vb, 0, none⟩ 1 1 [.int .i64 y1, .int .i64 y2, .int .i64 y3] rfl rfl (y_cells3 HY.out) (by intro u hu; simp at hu; rcases hu with rfl | rfl | rfl <;> rfl) (by unfold maxLen; omega) (by omega) hbase ?_; intro v3 w3 hown3 hgrow3 hnil3)
    all_goals (go_ret; exact ⟨_, rfl, hown3, hgrow3⟩)
theorem own_isSome {w : World} {base g n c sz j : Nat} {e : TypeId} {L : List Value} (h : w.ownsRow base e sz (.slice (some ⟨g, 0, none⟩) n c) n L) (hj : j < n * sz) : (w.cell? ⟨g, j, none⟩).isSome = true := by
  rw [own_cellC h (List.getElem?_eq_getElem (by rw [h.1]; exact hj))]; rfl
set_option maxRecDepth 100000 in
set_option maxHeartbeats 4000000 in
theorem c_InsL_grow (base g n cap i vb : Nat) (C : List Value) (y1 y2 y3 : Int) (w : World) (hown : w.ownsRow base 29 3 (.slice (some ⟨g, 0, none⟩) n cap) n C) (h1c : ∀ u ∈ C, u.oneCell' = true) (hi : i < n) (hroom : cap < n + 1) (hn : n ≤ 1048576) (hbase : base ≤ w.heap.size)
    (hy : w.heap[vb]? = some (.cells #[.int .i64 y1, .int .i64 y2, .int .i64 y3] 29)) :
    Calls Try.prog 43 #[.slice (some ⟨g, 0, none⟩) n cap, .int .i64 i, .slice (some ⟨vb, 0, none⟩) 1 1] w fun e w' =>
      ∃ r, e = .returned r ∧ w'.ownsRow base 29 3 r (n + 1) (InsAt C i [.int .i64 y1, .int .i64 y2, .int .i64 y3]) ∧ w.grownBy w' (some g) := by
  obtain ⟨l0, hl0, hlz0, hlz1, hlz2⟩ := info_parts Try.info_link
  obtain ⟨hnc, hcm⟩ : n ≤ cap ∧ cap ≤ 9223372036854775807 := by
    obtain ⟨a, c, e, _, h1, h2⟩ := own_form hown
    simp only [Value.slice.injEq, true_and] at e
    obtain ⟨_, rfl⟩ := e
    exact ⟨h1, h2⟩
  obtain rfl : n = cap := by omega
  have hxl : C.length = n * 3 := hown.1
  have hgw : g < w.heap.size := (hown.lt g rfl).2
  have hvw : vb < w.heap.size := (Array.getElem?_eq_some_iff.1 hy).1
  have hsz : (Try.prog.info? 29).map (·.size) = some 3 := by rw [hl0]; simp [hlz1]
  have hold : (Builtin.firstCells l0.size i (.slice (some ⟨g, 0, none⟩) i n)).run Try.prog w.drew = .ok (C.take (i * 3)).toArray w.drew := by
    rw [hlz1]
    exact run_firstCells_some w.drew 3 i ⟨g, 0, none⟩ i n (C.take (i * 3)) (by rw [List.length_take]; omega) (fun j v hj => by
      rw [List.getElem?_take] at hj
      split at hj
      · rw [add_lit1, Nat.zero_add]
        exact own_cellC hown hj
      · cases hj)
  obtain ⟨G, hG⟩ : ∃ G, G = grownCap w (n + 1) n 29 := ⟨_, rfl⟩
  obtain ⟨Z, hZ⟩ : ∃ Z, Z = Builtin.zeroCells (Value.agg #[.int .i64 0, .int .i64 0, .int .i64 0]).cells (n + 1 - i) := ⟨_, rfl⟩
  have hZl : Z.size = (n + 1 - i) * 3 := by rw [hZ, size_zeroCells]; rfl
  obtain ⟨ROW, hROW⟩ : ∃ ROW : Array Value, ROW = (C.take (i * 3)).toArray ++ Z ++ Builtin.zeroCells (Value.agg #[.int .i64 0, .int .i64 0, .int .i64 0]).cells (G - (n + 1)) := ⟨_, rfl⟩
  have hrz : ∀ ty, (Builtin.append_ #[25, 3] ty #[.slice (some ⟨g, 0, none⟩) i n, .int .i64 ((n : Int) + 1 - (i : Int))]).run Try.prog w =
      .ok (.slice (some ⟨w.heap.size, 0, none⟩) (n + 1) G) (w.drew.alloc (.cells ROW 29)) := fun ty => by
    have h := Lib.run_append_grow_zeros w 25 3 ty 29 l0 _ .i64 .i64 Try.underlying25 Try.underlying3 hl0 hlz0 (some ⟨g, 0, none⟩) i n (C.take (i * 3)) hold (n + 1 - i) (by omega) (by omega) (by omega) (by omega) (by rw [hlz2]; omega) (by rw [hlz2, show i + (n + 1 - i) = n + 1 by omega]; exact growslice_fits (by omega) (by omega))
    rw [show i + (n + 1 - i) = n + 1 by omega, ← hG, ← hZ, ← hROW] at h
    rw [show (n : Int) + 1 - (i : Int) = ((n + 1 - i : Nat) : Int) by omega]
    exact h
  have hGn : n + 1 ≤ G := by rw [hG]; exact grownCap_ge w _ _ _
  have hGm : G ≤ maxLen := by rw [hG]; exact grownCap_le_maxLen w _ _ _ (by unfold maxLen; omega)
  have hRs : ROW.size = G * 3 := by
    rw [hROW]
    simp only [Array.size_append, List.size_toArray, List.length_take, hZl, size_zeroCells]
    rw [show (Value.agg #[.int .i64 0, .int .i64 0, .int .i64 0]).cells.size = 3 from rfl]
    omega
  have hRT : ROW.toList.take ((n + 1) * 3) = C.take (i * 3) ++ Z.toList := by
    rw [hROW]
    simp only [Array.toList_append, List.toList_toArray]
    rw [List.take_append_of_le_length (by simp; omega), List.take_of_length_le (by simp; omega)]
  obtain ⟨W1, hW1⟩ : ∃ W1, W1 = w.drew.alloc (.cells ROW 29) := ⟨_, rfl⟩
  rw [← hW1] at hrz
  have ho1 : W1.ownsRow w.heap.size 29 3 (.slice (some ⟨w.heap.size, 0, none⟩) (n + 1) G) (n + 1) (C.take (i * 3) ++ Z.toList) := by
    rw [hW1]
    exact ⟨by simp; omega, .inr ⟨w.heap.size, G, ROW, rfl, Nat.le_refl _, heap_alloc_new w.drew _, hGn, hGm, hRs, hRT⟩⟩
  have gr1 : w.grownBy W1 (some g) := by rw [hW1]; exact ⟨rfl, rfl, rfl, by simp, fun k hk _ => heap_alloc_old w.drew _ hk⟩
  have hB1 : ∀ b, b < w.heap.size → W1.heap[b]? = w.heap[b]? := fun b hb => by rw [hW1]; exact heap_alloc_old w.drew _ hb
  have hne : w.heap.size ≠ g := by omega
  obtain ⟨Y, hY⟩ : ∃ Y : List Value, Y = [.int .i64 y1, .int .i64 y2, .int .i64 y3] := ⟨_, rfl⟩
  have hYl : Y.length = 3 := by rw [hY]; rfl
  have hY1 : ∀ u ∈ Y, u.oneCell' = true := by rw [hY]; intro u hu; simp at hu; rcases hu with rfl | rfl | rfl <;> rfl
  obtain ⟨D, hD⟩ : ∃ D : List Value, D = C.drop (i * 3) := ⟨_, rfl⟩
  have hDl : D.length = (n - i) * 3 := by rw [hD, List.length_drop]; omega
  have hD1 : ∀ u ∈ D, u.oneCell' = true := by rw [hD]; exact fun u hu => h1c u (List.mem_of_mem_drop hu)
  have hYc : ∀ (W : World), (∀ b, b < w.heap.size → W.heap[b]? = w.heap[b]?) → ∀ j u, Y[j]? = some u → W.cell? ((⟨vb, 0, none⟩ : Addr).add j) = some u := fun W hW => by rw [hY]; exact y_cells3 ((hW vb hvw).trans hy)
  have hDc : ∀ (W : World), (∀ b, b < w.heap.size → W.heap[b]? = w.heap[b]?) → ∀ j u, D[j]? = some u → W.cell? ((⟨g, i * 3, none⟩ : Addr).add j) = some u := fun W hW j u hj => by
    rw [hD, List.getElem?_drop] at hj
    rw [add_lit1, World.cell?_of_block (w := w) (hW g hgw)]
    exact own_cellC hown hj
  obtain ⟨W2, hW2⟩ : ∃ W2, W2 = W1.setCells w.heap.size (i * 3) Y := ⟨_, rfl⟩
  obtain ⟨ho2, gr2⟩ := own_setCellsV (base := w.heap.size) (g := w.heap.size) (n := n + 1) (c := G) Y _ (i * 3) W1 ho1
  rw [← hW2] at ho2 gr2
  have hsz1 : W1.heap.size = w.heap.size + 1 := by rw [hW1, size_alloc]; rfl
  have hB2 : ∀ b, b < w.heap.size → W2.heap[b]? = w.heap[b]? := fun b hb => (gr2.block b (by omega) (by intro e; cases e; omega)).trans (hB1 b hb)
  have hcpA : ∀ ty dc, (Builtin.copy_ #[25, 25] ty #[.slice (some ⟨w.heap.size, i * 3, none⟩) (n + 1 - i) dc, .slice (some ⟨vb, 0, none⟩) 1 1]).run Try.prog W1 = .ok (goInt 1) W2 := fun ty dc => by
    rw [hW2]
    exact run_copy_cells3 W1 _ _ ty 29 w.heap.size (i * 3) (n + 1 - i) dc 1 ⟨vb, 0, none⟩ 1 1 Y Try.underlying25 hsz (by simp only [Nat.min_def]; split <;> omega) (by omega) (hYc W1 hB1)
      (fun j hj => own_isSome ho1 (by omega)) (fun j hj => ho1.frozenAt _) hY1
  obtain ⟨W3, hW3⟩ : ∃ W3, W3 = W2.drew.setCells w.heap.size ((i + 1) * 3) D := ⟨_, rfl⟩
  obtain ⟨ho3, gr3⟩ := own_setCellsV (base := w.heap.size) (g := w.heap.size) (n := n + 1) (c := G) D _ ((i + 1) * 3) W2.drew ho2.drew
  rw [← hW3] at ho3 gr3
  have hcpB : ∀ ty dc sc, (Builtin.copy_ #[25, 25] ty #[.slice (some ⟨w.heap.size, (i + 1) * 3, none⟩) (n + 1 - (i + 1)) dc, .slice (some ⟨g, i * 3, none⟩) (n - i) sc]).run Try.prog W2.drew = .ok (goInt (n - i : Nat)) W3 := fun ty dc sc => by
    rw [hW3]
    exact run_copy_cells3 W2.drew _ _ ty 29 w.heap.size ((i + 1) * 3) (n + 1 - (i + 1)) dc (n - i) ⟨g, i * 3, none⟩ (n - i) sc D Try.underlying25 hsz (by simp only [Nat.min_def]; split <;> omega) hDl (hDc W2.drew hB2)
      (fun j hj => own_isSome ho2.drew (by omega)) (fun j hj => ho2.drew.frozenAt _) hD1
  have hfin : Hid (W3.ownsRow base 29 3 (.slice (some ⟨w.heap.size, 0, none⟩) (n + 1) G) (n + 1) (InsAt C i [.int .i64 y1, .int .i64 y2, .int .i64 y3]) ∧ w.grownBy W3 (some g)) := by
    refine ⟨?_, ?_⟩
    · have h := own_mono ho3 hbase
      have e : ovl (ovl (C.take (i * 3) ++ Z.toList) (i * 3) Y) ((i + 1) * 3) D = InsAt C i Y := by
        have := ins_cells (xs := C.take (i * 3) ++ Z.toList) (vs := Y) (news := D) (o := i * 3) (by simp; omega)
        rw [hYl, show i * 3 + 3 = (i + 1) * 3 by omega] at this
        rw [this, List.take_append_of_le_length (by simp; omega), List.take_of_length_le (by simp; omega), InsAt, hD]
      rw [e, hY] at h
      exact h
    · exact ⟨gr3.os.trans (gr2.os.trans gr1.os), gr3.tape.trans (gr2.tape.trans gr1.tape), gr3.output.trans (gr2.output.trans gr1.output), Nat.le_trans gr1.size (Nat.le_trans gr2.size gr3.size), fun k hk _ => (gr3.block k (by have := gr2.size; show k < W2.heap.size; omega) (by intro e; cases e; omega)).trans (hB2 k hk)⟩
  have hGi : ¬ (G = i) := by omega
  have hGim : ¬ (G = i + 1) := by omega
  have hG63 : G ≤ 9223372036854775807 := hGm
  have hni : ¬ (n = i) := by omega
  have hz2 : ¬ ((i : Int) = (n : Int)) := by omega
  have hz3 : (n : Int) < (n : Int) + 1 := by omega
  have hwr : IntKind.i64.wrap ((i : Int) + 1) = (i : Int) + 1 := by rw [IntKind.wrap_i64]; omega
  have hp0 : (0 : Int) ≤ (i : Int) + 1 := by omega
  have hp2 : ((i : Int) + 1).toNat = i + 1 := by omega
  have hin : i ≤ n := by omega
  have hiI : (i : Int) ≤ (n : Int) := by omega
  have HA := Lib.hid hcpA
  have HB := Lib.hid hcpB
  have HR := Lib.hid hrz
  clear hW1 hW2 hW3 ho1 ho2 ho3 gr1 gr2 gr3 hB1 hB2 hDc hYc hD hY hcpA hcpB hrz hRT hRs hROW hZ hG hold hown h1c hy hxl hZl hYl hY1 hDl hD1 hsz1
  go_enter Try.func43, Try.ntmps43
  go_wp2_with (first
    | (at_builtin; refine Lib.wpList_append_run _ rfl _ _ _ _ rfl _ _ rfl rfl _ _ (HR.out _) ?_)
    | (rw [HA.out]; simp only [Result.andThen_ok]))
  go_region_law (refine step_copy_run9 rfl _ _ 25 25 rfl (.slice (some ⟨w.heap.size, (i + 1) * 3, none⟩) (n + 1 - (i + 1)) (G - (i + 1))) (.slice (some ⟨g, i * 3, none⟩) (n - i) (n - i)) (by simp [Act.eval, Act.put]) (by simp [Act.eval, Act.put]) (HB.out _ _ _) ?_)
  go_wp2
  go_ret
  exact ⟨_, rfl, hfin.out.1, hfin.out.2⟩
set_option maxRecDepth 100000 in
set_option maxHeartbeats 4000000 in
theorem c_InsL_in (base g n cap i vb : Nat) (C : List Value) (y1 y2 y3 : Int) (w : World) (hown : w.ownsRow base 29 3 (.slice (some ⟨g, 0, none⟩) n cap) n C) (h1c : ∀ u ∈ C, u.oneCell' = true) (hi : i < n) (hroom : n + 1 ≤ cap) (hn : n ≤ 1048576) (hbase : base ≤ w.heap.size)
    (hy : w.heap[vb]? = some (.cells #[.int .i64 y1, .int .i64 y2, .int .i64 y3] 29)) (hvb : vb ≠ g) :
    Calls Try.prog 43 #[.slice (some ⟨g, 0, none⟩) n cap, .int .i64 i, .slice (some ⟨vb, 0, none⟩) 1 1] w fun e w' =>
      ∃ r, e = .returned r ∧ w'.ownsRow base 29 3 r (n + 1) (InsAt C i [.int .i64 y1, .int .i64 y2, .int .i64 y3]) ∧ w.grownBy w' (some g) := by
  obtain ⟨l0, hl0, hlz0, hlz1, hlz2⟩ := info_parts Try.info_link
  have hsz : (Try.prog.info? 29).map (·.size) = some 3 := by rw [hl0]; simp [hlz1]
  obtain ⟨cur, hg, hbg, hcs, hcC⟩ : ∃ cur, w.heap[g]? = some (.cells cur 29 (0, 0)) ∧ base ≤ g ∧ cur.size = cap * 3 ∧ cur.toList.take (n * 3) = C := by
    rcases hown.2 with ⟨e, h0⟩ | ⟨g', c, cur, e, h1, h2, h3, h4, h5, h6⟩
    · simp at e
    · simp only [Value.slice.injEq, Option.some.injEq, Addr.mk.injEq, and_true, true_and] at e
      obtain ⟨rfl, rfl⟩ := e
      exact ⟨cur, h2, h1, h5, h6⟩
  have hcm : cap ≤ maxLen := by
    obtain ⟨a, c, e, _, h1, h2⟩ := own_form hown
    simp only [Value.slice.injEq, true_and] at e
    obtain ⟨_, rfl⟩ := e
    exact h2
  have hcm' : cap ≤ 9223372036854775807 := hcm
  have hxl : C.length = n * 3 := hown.1
  obtain ⟨X, hX⟩ : ∃ X, X = cur.toList.take ((n + 1) * 3) := ⟨_, rfl⟩
  have hXl : X.length = (n + 1) * 3 := by rw [hX, List.length_take, Array.length_toList]; omega
  have hXC : ∀ k, k ≤ n * 3 → X.take k = C.take k := fun k hk => by rw [hX, ← hcC, List.take_take, List.take_take]; congr 1; omega
  have hoX : w.ownsRow base 29 3 (.slice (some ⟨g, 0, none⟩) (n + 1) cap) (n + 1) X := ⟨hXl, .inr ⟨g, cap, cur, rfl, hbg, hg, by omega, hcm, hcs, hX.symm⟩⟩
  obtain ⟨Y, hY⟩ : ∃ Y : List Value, Y = [.int .i64 y1, .int .i64 y2, .int .i64 y3] := ⟨_, rfl⟩
  have hYl : Y.length = 3 := by rw [hY]; rfl
  have hY1 : ∀ u ∈ Y, u.oneCell' = true := by rw [hY]; intro u hu; simp at hu; rcases hu with rfl | rfl | rfl <;> rfl
  obtain ⟨D, hD⟩ : ∃ D : List Value, D = C.drop (i * 3) := ⟨_, rfl⟩
  have hDl : D.length = (n - i) * 3 := by rw [hD, List.length_drop]; omega
  have hD1 : ∀ u ∈ D, u.oneCell' = true := by rw [hD]; exact fun u hu => h1c u (List.mem_of_mem_drop hu)
  have hDc : ∀ j u, D[j]? = some u → w.drew.cell? ((⟨g, i * 3, none⟩ : Addr).add j) = some u := fun j u hj => by
    rw [hD, List.getElem?_drop] at hj
    rw [add_lit1]
    exact own_cellC hown hj
  obtain ⟨W1, hW1⟩ : ∃ W1, W1 = w.drew.setCells g ((i + 1) * 3) D := ⟨_, rfl⟩
  obtain ⟨ho1, gr1⟩ := own_setCellsV (base := base) (g := g) (n := n + 1) (c := cap) D _ ((i + 1) * 3) w.drew hoX.drew
  rw [← hW1] at ho1 gr1
  have hcpA : ∀ ty dc sc, (Builtin.copy_ #[25, 25] ty #[.slice (some ⟨g, (i + 1) * 3, none⟩) (n + 1 - (i + 1)) dc, .slice (some ⟨g, i * 3, none⟩) (n + 1 - i) sc]).run Try.prog w.drew = .ok (goInt (n - i : Nat)) W1 := fun ty dc sc => by
    rw [hW1]
    exact run_copy_cells3 w.drew _ _ ty 29 g ((i + 1) * 3) (n + 1 - (i + 1)) dc (n - i) ⟨g, i * 3, none⟩ (n + 1 - i) sc D Try.underlying25 hsz (by simp only [Nat.min_def]; split <;> omega) hDl hDc
      (fun j hj => own_isSome hoX.drew (by omega)) (fun j hj => hoX.drew.frozenAt _) hD1
  have hvw : vb < w.heap.size := (Array.getElem?_eq_some_iff.1 hy).1
  have hyc : ∀ j u, Y[j]? = some u → W1.cell? ((⟨vb, 0, none⟩ : Addr).add j) = some u := by
    rw [hY]; exact y_cells3 ((gr1.block vb hvw (by intro e; cases e; exact hvb rfl)).trans hy)
  obtain ⟨W2, hW2⟩ : ∃ W2, W2 = W1.setCells g (i * 3) Y := ⟨_, rfl⟩
  obtain ⟨ho2, gr2⟩ := own_setCellsV (base := base) (g := g) (n := n + 1) (c := cap) Y _ (i * 3) W1 ho1
  rw [← hW2] at ho2 gr2
  have hcpB : ∀ ty dc, (Builtin.copy_ #[25, 25] ty #[.slice (some ⟨g, i * 3, none⟩) (n + 1 - i) dc, .slice (some ⟨vb, 0, none⟩) 1 1]).run Try.prog W1 = .ok (goInt 1) W2 := fun ty dc => by
    rw [hW2]
    exact run_copy_cells3 W1 _ _ ty 29 g (i * 3) (n + 1 - i) dc 1 ⟨vb, 0, none⟩ 1 1 Y Try.underlying25 hsz (by simp only [Nat.min_def]; split <;> omega) (by omega) hyc
      (fun j hj => own_isSome ho1 (by omega)) (fun j hj => ho1.frozenAt _) hY1
  have hfin : Hid (W2.ownsRow base 29 3 (.slice (some ⟨g, 0, none⟩) (n + 1) cap) (n + 1) (InsAt C i [.int .i64 y1, .int .i64 y2, .int .i64 y3]) ∧ w.grownBy W2 (some g)) := by
    refine ⟨?_, ?_⟩
    · have h := ho2
      have e : ovl (ovl X ((i + 1) * 3) D) (i * 3) Y = InsAt C i Y := by
        have := ins_cells2 (xs := X) (vs := Y) (news := D) (o := i * 3) (by omega)
        rw [hYl, show i * 3 + 3 = (i + 1) * 3 by omega] at this
        rw [this, hXC _ (by omega), InsAt, hD]
      rw [e, hY] at h
      exact h
    · exact grown_trans ⟨gr1.os, gr1.tape, gr1.output, gr1.size, gr1.block⟩ gr2
  have hov : ∀ lb cb, (callFunc 80 #[.slice (some ⟨vb, 0, none⟩) 1 1, .slice (some ⟨g, (i + 1) * 3, none⟩) lb cb]).run Try.prog w = .ok (.value (.bool false)) w := fun lb cb => by
    rw [run_callFunc_extern Try.func80 (by kernel_rfl) (by kernel_rfl) (by kernel_rfl) (e := Extern.SlicesOverlaps.overlaps #[25, 25] #[4]) (by kernel_rfl),
      Lib.run_overlaps_apart w 25 4 29 Try.underlying25 3 (fun w => by simp [sizeOf, typeInfo, hl0, hlz1]) ⟨vb, 0, none⟩ ⟨g, (i + 1) * 3, none⟩ 1 1 lb cb hvb 29 29 3 (cap * 3) (by simp [World.shape?, hy]) (by simp [World.shape?, hg, hcs]) (by omega) (blk_free hy 0) (blk_free hy 3)]
    rfl
  have hci : ¬ (cap = i) := by omega
  have hcim : ¬ (cap = i + 1) := by omega
  have hz2 : ¬ ((i : Int) = (n : Int)) := by omega
  have hz3 : ¬ ((cap : Int) < (n : Int) + 1) := by omega
  have hwn : IntKind.i64.wrap ((n : Int) + 1) = (n : Int) + 1 := by rw [IntKind.wrap_i64]; omega
  have hwr : IntKind.i64.wrap ((i : Int) + 1) = (i : Int) + 1 := by rw [IntKind.wrap_i64]; omega
  have hp0 : (0 : Int) ≤ (i : Int) + 1 := by omega
  have hp2 : ((i : Int) + 1).toNat = i + 1 := by omega
  have hq0 : (0 : Int) ≤ (n : Int) + 1 := by omega
  have hq2 : ((n : Int) + 1).toNat = n + 1 := by omega
  have hq3 : (n : Int) + 1 ≤ (cap : Int) := by omega
  have hin : i ≤ n := by omega
  have hiI : (i : Int) ≤ (n : Int) := by omega
  have hiI2 : (i : Int) ≤ (n : Int) + 1 := by omega
  have hiI3 : (i : Int) + 1 ≤ (n : Int) + 1 := by omega
  have HA := Lib.hid hcpA
  have HB := Lib.hid hcpB
  have HOV := Lib.hid hov
  clear hW1 hW2 ho1 ho2 gr1 gr2 hDc hyc hD hY hcpA hcpB hov hown h1c hy hxl hX hXl hXC hoX hYl hY1 hDl hD1 hg hcs hcC
  go_enter Try.func43, Try.ntmps43
  go_wp2_with (simp only [HOV.out])
  go_region_law (refine step_copy_run9 rfl _ _ 25 25 rfl (.slice (some ⟨g, (i + 1) * 3, none⟩) (n + 1 - (i + 1)) (cap - (i + 1))) (.slice (some ⟨g, i * 3, none⟩) (n + 1 - i) (cap - i)) (by simp [Act.eval, Act.put]) (by simp [Act.eval, Act.put]) (HA.out _ _ _) ?_)
  go_wp2_with (rw [HB.out]; simp only [Result.andThen_ok])
  go_ret
  exact ⟨_, rfl, hfin.out.1, hfin.out.2⟩
/-- One link is put in. -/
theorem c_InsL (base n i vb : Nat) (v : Value) (C : List Value) (y1 y2 y3 : Int) (w : World) (hown : w.ownsRow base 29 3 v n C) (h1c : ∀ u ∈ C, u.oneCell' = true) (hi : i ≤ n) (hn : n ≤ 1048576) (hbase : base ≤ w.heap.size)
    (hy : w.heap[vb]? = some (.cells #[.int .i64 y1, .int .i64 y2, .int .i64 y3] 29)) (hvb : v.ownBlock ≠ some vb) :
    Calls Try.prog 43 #[v, .int .i64 i, .slice (some ⟨vb, 0, none⟩) 1 1] w fun e w' =>
      ∃ r, e = .returned r ∧ w'.ownsRow base 29 3 r (n + 1) (InsAt C i [.int .i64 y1, .int .i64 y2, .int .i64 y3]) ∧ w.grownBy w' v.ownBlock := by
  by_cases h : i = n
  · subst h
    have e : InsAt C i [.int .i64 y1, .int .i64 y2, .int .i64 y3] = C ++ [.int .i64 y1, .int .i64 y2, .int .i64 y3] := by
      unfold InsAt
      rw [List.take_of_length_le (by rw [hown.1]; omega), List.drop_of_length_le (by rw [hown.1]; omega), List.append_nil]
    rw [e]
    exact c_InsL_end base i vb v C y1 y2 y3 w hown hn hbase hy
  · obtain ⟨g, cap, rfl⟩ : ∃ g cap, v = .slice (some ⟨g, 0, none⟩) n cap := by
      rcases hown.2 with ⟨_, h0⟩ | ⟨g, c, cur, e, _⟩
      · omega
      · exact ⟨g, c, e⟩
    by_cases hr : cap < n + 1
    · exact c_InsL_grow base g n cap i vb C y1 y2 y3 w hown h1c (by omega) hr hn hbase hy
    · exact c_InsL_in base g n cap i vb C y1 y2 y3 w hown h1c (by omega) (by omega) hn hbase hy (fun e => hvb (by rw [e]; rfl))
end Go.Proofs.Ytiipjlcmekakaaa
