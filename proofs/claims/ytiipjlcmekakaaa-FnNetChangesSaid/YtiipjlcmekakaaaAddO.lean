
/- neOwn: the reference's copy of a net. -/
import Derived.Test.YtiipjlcmekakaaaAddL
namespace Go.Proofs.Ytiipjlcmekakaaa
open Go.RowKit
set_option linter.unusedSimpArgs false
set_option linter.unusedVariables false
section
variable {P : Program} {ops : Array Oper} {Q : Exit → Act → World → Prop} {md : Region.Mode} {S : World → Prop}
/-- Two may come up. -/
theorem wpAnyE_pair {i j : Nat} {oi oj : Oper} {k : Nat} {listed : Array Bool} {a : Act} {w : World} (hr : Region.ready md ops listed = [i, j]) (hoi : ops[i]? = some oi) (hoj : ops[j]? = some oj)
    (hi : ∀ K : Act → World → Prop, (∀ a w, (¬ waitsAll md ops i → S w) → wpAnyE P md ops Q S k (listed.setIfInBounds i true) a w → K a w) → if Region.wanted oi (yielded ops a.tmps) = true then Oper.wp P oi a w K Q else K (a.put oi.dst undef) w)
    (hj : ∀ K : Act → World → Prop, (∀ a w, (¬ waitsAll md ops j → S w) → wpAnyE P md ops Q S k (listed.setIfInBounds j true) a w → K a w) → if Region.wanted oj (yielded ops a.tmps) = true then Oper.wp P oj a w K Q else K (a.put oj.dst undef) w) :
    wpAnyE P md ops Q S (k + 1) listed a w := by
  refine ⟨fun h0 => (by rw [h0] at hr; cases hr), fun q hq => ?_⟩
  rw [hr] at hq
  rcases List.mem_cons.1 hq with rfl | hq
  · exact wpOp_step hoi (fun K hK => hi K (fun a w h1 h2 => hK a w ⟨h1, h2⟩))
  · rcases List.mem_singleton.1 hq with rfl
    exact wpOp_step hoj (fun K hK => hj K (fun a w h1 h2 => hK a w ⟨h1, h2⟩))
theorem run_append_none9 {w : World} (base : Nat) (t ty e : TypeId) (i : TypeInfo) (size : Nat) (ht : P.underlying t = some (.slice e)) (hi : P.info? e = some i) (v : Value) (n cap : Nat) (xs : List Value) (hown : w.ownsRow base e size v n xs) :
    (Builtin.append_ #[t, t] ty #[v, .slice none 0 cap]).run P w = .ok v w := by
  rcases hown.2 with ⟨rfl, rfl⟩ | ⟨g, cap, cur, rfl, _, _, hnc, _⟩
  · simp [Builtin.append_, run_underlying ht, sizeOf, typeInfo, hi, Builtin.lenOf, Builtin.firstCells]
  · simp [Builtin.append_, run_underlying ht, sizeOf, typeInfo, hi, Builtin.lenOf, Builtin.firstCells, hnc, storeCells]
/-- A whole slice appended to a list that has just been made, as one step of a region that draws. -/
theorem step_append_row {α : Type} {enc : α → List Value} {o : Oper} {a : Act} {w : World} {K : Act → World → Prop} {E : Prop}
    (hen : ∀ x, (enc x).length = 3) (hone : ∀ xs : List α, ∀ u ∈ xs.flatMap enc, u.oneCell' = true)
    (hg : o.guard = none) (s x : Operand) (t : TypeId) (ho : o.op = Op.call { callee := Callee.builtin Builtin.append, args := #[s, x], argTypes := #[t, t] })
    (base : Nat) (e : TypeId) (i : TypeInfo) (z : Value) (bytes : Nat) (ht : P.underlying t = some (.slice e)) (hi : P.info? e = some i) (hz : i.zero = some z)
    (hsize : i.size = 3) (hby : i.bytes = bytes) (hzs : z.cells.size = 3) (hb24 : bytes ≤ 24)
    (v vx : Value) (hs : a.eval s = v) (hown : w.ownsRow base e 3 v 0 []) (la ha : Nat) (T : List α) (hx : a.eval x = vx) (hr : Row enc 3 w la ha vx T) (hn : T.length ≤ 1048576) (hbase : base ≤ w.heap.size)
    (hK : ∀ v' w', w'.ownsRow base e 3 v' T.length (T.flatMap enc) → w.grownBy w' v.ownBlock → K (a.put o.dst v') w') :
    if Region.wanted o (yielded ops a.tmps) = true then Oper.wp P o a w K Q else E := by
  have hr0 := hr
  obtain ⟨ax, cap, rfl, m1, m2, b, off, m3, _⟩ := hr0
  cases ax with
  | none =>
    have hT : T = [] := by
      cases T with
      | nil => rfl
      | cons x r => have := (m3 (by simp)).1; cases this
    subst hT
    have hw : Region.wanted o (yielded ops a.tmps) = true := by simp [Region.wanted, hg]
    rw [if_pos hw]
    have hrun := run_append_none9 (P := P) (w := w) base t o.type e i 3 ht hi v 0 cap [] hown
    unfold Oper.wp execOp
    simp only [ho, resolve, invoke, builtin, Sem.run_bind, Sem.run_pure, Result.andThen_ok, List.map_toArray, List.map_cons, List.map_nil, hs, hx, List.length_nil, hrun]
    exact hK _ _ hown (World.grownBy.refl _ _)
  | some ad =>
    refine step_append_own hg s x t ho base e i z 3 bytes ht hi hz hsize hby hzs (by decide) v 0 [] hs hown ad T.length cap (T.flatMap enc) hx (flat_len hen T) (row_cells3 hen hr) (hone T) (by unfold maxLen; omega) ?_ hbase fun v' w' h1 h2 => hK v' w' (by simpa using h1) h2
    have : (0 + T.length) * bytes ≤ 1048576 * 24 := Nat.mul_le_mul (by omega) hb24
    omega
end
theorem own_ne_type {w : World} {b1 b2 s1 s2 n1 n2 : Nat} {e1 e2 : TypeId} {v1 v2 : Value} {xs ys : List Value} (h1 : w.ownsRow b1 e1 s1 v1 n1 xs) (h2 : w.ownsRow b2 e2 s2 v2 n2 ys) (he : e1 ≠ e2) : ∀ k, v1.ownBlock = some k → v2.ownBlock ≠ some k := by
  intro k hk1 hk2
  rcases h1.2 with ⟨rfl, _⟩ | ⟨g, cap, cur, rfl, _, hg, _⟩
  · simp [Value.ownBlock] at hk1
  rcases h2.2 with ⟨rfl, _⟩ | ⟨g', cap', cur', rfl, _, hg', _⟩
  · simp [Value.ownBlock] at hk2
  simp only [Value.ownBlock, Option.some.injEq] at hk1 hk2
  subst hk1 hk2
  rw [hg] at hg'
  simp only [Option.some.injEq, Obj.cells.injEq] at hg'
  exact he hg'.2.1
set_option maxRecDepth 100000 in
set_option maxHeartbeats 4000000 in
theorem c_neOwn (v : Value) (la ha : Nat) (x : NetT) (w : World) (h : Nets w la ha v x) (hh : ha ≤ w.heap.size) (hn1 : x.1.length ≤ 1048576) (hn2 : x.2.length ≤ 1048576) :
    Calls Try.prog 45 #[v] w fun e w' => ∃ r, e = .returned r ∧ OwnNet w' w.heap.size w'.heap.size r x ∧ Ext w w' := by
  obtain ⟨t0, ht0, htz0, htz1, htz2⟩ := info_parts Try.info_tower
  obtain ⟨l0, hl0, hlz0, hlz1, hlz2⟩ := info_parts Try.info_link
  obtain ⟨a, ca, b, cb, rfl, _, _⟩ := h.form
  obtain ⟨hT, hL⟩ := h.parts
  obtain ⟨T, L⟩ := x
  simp only at hT hL hn1 hn2 ⊢
  obtain ⟨W1, hW1⟩ : ∃ W, W = ((w.alloc (.cells #[.slice a T.length ca, .slice b L.length cb] 27)).alloc (.cells #[.slice none 0 0, .slice none 0 0] 27)) := ⟨_, rfl⟩
  have X1 : Ext w W1 := by rw [hW1]; exact ((Ext.refl w).al _).al _
  have B1 : W1.heap[w.heap.size]? = some (.cells #[.slice a T.length ca, .slice b L.length cb] 27) := by rw [hW1]; exact blk_old (blk_alloc _ _)
  have B2 : W1.heap[w.heap.size + 1]? = some (.cells #[.slice none 0 0, .slice none 0 0] 27) := by rw [hW1]; exact blk_alloc2 _ _ _
  have s1 : W1.heap.size = w.heap.size + 2 := by rw [hW1, size_alloc, size_alloc]
  have HW1 := Lib.hid hW1
  have RT : Hid (∀ W, Ext W1 W → Row encTower 3 W la ha (.slice a T.length ca) T) := fun W hX => hT.ext (X1.trans hX) hh
  have RL : Hid (∀ W, Ext W1 W → Row encLink 3 W la ha (.slice b L.length cb) L) := fun W hX => hL.ext (X1.trans hX) hh
  clear hW1 h hT hL
  go_enter Try.func45, Try.ntmps45
  go_upto_region 1 with fail
  rw [← HW1.out]
  obtain ⟨w2, hw2⟩ : ∃ W, W = W1.drew := ⟨_, rfl⟩
  have X2 : Hid (Ext W1 w2) := by unfold Hid; rw [hw2]; exact Ext.drew _
  refine wp_region_E (S := fun W => W.cell? ⟨w.heap.size, 0, none⟩ = some (.slice a T.length ca) ∧ W.cell? ⟨w.heap.size, 1, none⟩ = some (.slice b L.length cb)) (by kernel_rfl) ?_
  rw [← hw2]
  clear hw2 HW1
  have HS : Hid (∀ W, Ext W1 W → W.cell? ⟨w.heap.size, 0, none⟩ = some (.slice a T.length ca) ∧ W.cell? ⟨w.heap.size, 1, none⟩ = some (.slice b L.length cb)) := fun W hX => ⟨hX.cell (blk_cell B1 (j := 0) rfl), hX.cell (blk_cell B1 (j := 1) rfl)⟩
  have hSS : (fun W : World => W.cell? ⟨w.heap.size, 0, none⟩ = some (.slice a T.length ca) ∧ W.cell? ⟨w.heap.size, 1, none⟩ = some (.slice b L.length cb)) w2 := HS.out _ X2.out
  have HB2 := Lib.hid B2
  clear B1 B2
  refine wpAnyE_take (i := 1) (v := ?_) rfl (by kernel_rfl) (by kernel_rfl) (by kernel_rfl) (fun _ _ _ h => h) (Or.inl ⟨by rfl, ?_⟩) (by assumption) ?_
  rotate_left 1
  focus (intro W hSW; (try dsimp only at hSW); go_simp; try with_reducible rfl)
  (try simp only [Act.put, List.setIfInBounds_toArray, List.set_cons_zero, List.set_cons_succ])
  refine wpAnyE_take (i := 2) (v := ?_) rfl (by kernel_rfl) (by kernel_rfl) (by kernel_rfl) (fun _ _ _ h => h) (Or.inl ⟨by rfl, ?_⟩) (by assumption) ?_
  rotate_left 1
  focus (intro W hSW; (try dsimp only at hSW); go_simp; try with_reducible rfl)
  (try simp only [Act.put, List.setIfInBounds_toArray, List.set_cons_zero, List.set_cons_succ])
  refine wpAnyE_take (i := 5) (v := ?_) rfl (by kernel_rfl) (by kernel_rfl) (by kernel_rfl) (fun _ _ _ h => h) (Or.inl ⟨by rfl, ?_⟩) (by assumption) ?_
  rotate_left 1
  focus (intro W hSW; (try dsimp only at hSW); go_simp; try with_reducible rfl)
  (try simp only [Act.put, List.setIfInBounds_toArray, List.set_cons_zero, List.set_cons_succ])
  refine wpAnyE_take (i := 6) (v := ?_) rfl (by kernel_rfl) (by kernel_rfl) (by kernel_rfl) (fun _ _ _ h => h) (Or.inl ⟨by rfl, ?_⟩) (by assumption) ?_
  rotate_left 1
  focus (intro W hSW; (try dsimp only at hSW); go_simp; try with_reducible rfl)
  (try simp only [Act.put, List.setIfInBounds_toArray, List.set_cons_zero, List.set_cons_succ])
  refine wpAnyE_pair (i := 0) (j := 4) (by kernel_rfl) rfl rfl (fun K hK => ?_) (fun K hK => ?_)
  ·
    have HK := Lib.hid hK
    clear hK
    go_simp
    obtain ⟨w3, hw9⟩ : ∃ W, W = (w2).alloc (.cells #[] 75) := ⟨_, rfl⟩
    rw [← hw9]
    obtain ⟨pT, hp9⟩ : ∃ p, p = (w2).heap.size := ⟨_, rfl⟩
    rw [← hp9]
    have HT0 : Hid ((w3).ownsRow pT 75 3 (.slice (some ⟨pT, 0, none⟩) 0 0) 0 []) := by unfold Hid; rw [hw9, hp9]; exact own_lit3 w2 75
    have hx9 : Ext w2 w3 := by rw [hw9]; exact Ext.alloc _ _
    have X3 := Lib.hid ((X2).out.trans hx9)
    have hpT : W1.heap.size ≤ pT := by rw [hp9]; exact (X2).out.size
    try (have g9 := Lib.hid (own_ext HL0.out hx9); clear HL0; have HL0 := g9; clear g9)
    clear hSS hw9 hp9 hx9
    have hSS : (fun W : World => W.cell? ⟨w.heap.size, 0, none⟩ = some (.slice a T.length ca) ∧ W.cell? ⟨w.heap.size, 1, none⟩ = some (.slice b L.length cb)) w3 := HS.out _ X3.out
    refine HK.out _ _ (fun _ => hSS) ?_
    clear HK
    refine wpAnyE_pair (i := 3) (j := 4) (by kernel_rfl) rfl rfl (fun K hK => ?_) (fun K hK => ?_)
    ·
      have HK := Lib.hid hK
      clear hK
      have hsz9 := (X3).out.size
      refine step_append_row encTower_len encTower_one rfl (.tmp 3) (.tmp 5) 24 rfl pT 75 t0 (.agg #[.int .i64 0, .int .i64 0, .int .i64 0]) 24 Try.underlying24 ht0 htz0 htz1 htz2 rfl (by decide) (.slice (some ⟨pT, 0, none⟩) 0 0) (.slice a T.length ca) (by simp [Act.eval, Act.put]) HT0.out la ha T (by simp [Act.eval, Act.put]) (RT.out _ X3.out) hn1 (Nat.le_of_lt (HT0.out.lt pT rfl).2) ?_
      intro v3 w4 ho3 hg3
      obtain ⟨a3, c3, rfl, _, _, _⟩ := own_form ho3
      have X4 := Lib.hid ((X3).out.gr hg3 (fun q hq => by cases hq; omega))
      have HT3 := Lib.hid ho3
      try (have g9 := Lib.hid (HL0.out.kept hg3 (Or.inr (fun e => own_ne_type HT0.out HL0.out (by decide) pT rfl (e.trans rfl)))); clear HL0; have HL0 := g9; clear g9)
      clear hSS ho3 hg3 HT0
      have hSS : (fun W : World => W.cell? ⟨w.heap.size, 0, none⟩ = some (.slice a T.length ca) ∧ W.cell? ⟨w.heap.size, 1, none⟩ = some (.slice b L.length cb)) w4 := HS.out _ X4.out
      refine HK.out _ _ (fun _ => hSS) ?_
      clear HK
      refine wpAnyE_one (i := 4) (by kernel_rfl) rfl (fun K hK => ?_)
      have HK := Lib.hid hK
      clear hK
      go_simp
      obtain ⟨w5, hw9⟩ : ∃ W, W = (w4).alloc (.cells #[] 29) := ⟨_, rfl⟩
      rw [← hw9]
      obtain ⟨pL, hp9⟩ : ∃ p, p = (w4).heap.size := ⟨_, rfl⟩
      rw [← hp9]
      have HL0 : Hid ((w5).ownsRow pL 29 3 (.slice (some ⟨pL, 0, none⟩) 0 0) 0 []) := by unfold Hid; rw [hw9, hp9]; exact own_lit3 w4 29
      have hx9 : Ext w4 w5 := by rw [hw9]; exact Ext.alloc _ _
      have X5 := Lib.hid ((X4).out.trans hx9)
      have hpL : W1.heap.size ≤ pL := by rw [hp9]; exact (X4).out.size
      try (have g9 := Lib.hid (own_ext HT3.out hx9); clear HT3; have HT3 := g9; clear g9)
      clear hSS hw9 hp9 hx9
      have hSS : (fun W : World => W.cell? ⟨w.heap.size, 0, none⟩ = some (.slice a T.length ca) ∧ W.cell? ⟨w.heap.size, 1, none⟩ = some (.slice b L.length cb)) w5 := HS.out _ X5.out
      refine HK.out _ _ (fun _ => hSS) ?_
      clear HK
      refine wpAnyE_one (i := 7) (by kernel_rfl) rfl (fun K hK => ?_)
      have HK := Lib.hid hK
      clear hK
      have hsz8 := (X5).out.size
      refine step_append_row encLink_len encLink_one rfl (.tmp 7) (.tmp 9) 25 rfl pL 29 l0 (.agg #[.int .i64 0, .int .i64 0, .int .i64 0]) 24 Try.underlying25 hl0 hlz0 hlz1 hlz2 rfl (by decide) (.slice (some ⟨pL, 0, none⟩) 0 0) (.slice b L.length cb) (by simp [Act.eval, Act.put]) HL0.out la ha L (by simp [Act.eval, Act.put]) (RL.out _ X5.out) hn2 (Nat.le_of_lt (HL0.out.lt pL rfl).2) ?_
      intro v4 w7 ho4 hg4
      obtain ⟨a4, c4, rfl, _, _, _⟩ := own_form ho4
      have X7 := Lib.hid ((X5).out.gr hg4 (fun q hq => by cases hq; omega))
      have HL3 := Lib.hid ho4
      have HT4 := Lib.hid (HT3.out.kept hg4 (Or.inr (fun e => own_ne_type HL0.out HT3.out (by decide) pL rfl (e.trans rfl))))
      clear hSS ho4 hg4 HL0 HT3
      have hSS : (fun W : World => W.cell? ⟨w.heap.size, 0, none⟩ = some (.slice a T.length ca) ∧ W.cell? ⟨w.heap.size, 1, none⟩ = some (.slice b L.length cb)) w7 := HS.out _ X7.out
      refine HK.out _ _ (fun _ => hSS) ?_
      clear HK
      refine wpAnyE_take (i := 8) (v := ?_) rfl (by kernel_rfl) (by kernel_rfl) (by kernel_rfl) (fun _ _ _ h => h) (Or.inl ⟨by rfl, ?_⟩) (by assumption) ?_
      rotate_left 1
      focus (intro W hSW; (try dsimp only at hSW); go_simp; try with_reducible rfl)
      (try simp only [Act.put, List.setIfInBounds_toArray, List.set_cons_zero, List.set_cons_succ])
      clear hSS
      have HB4 := Lib.hid (X7.out.blk HB2.out)
      have z0 := blk_cell HB4.out (j := 0) (v := .slice none 0 0) rfl
      have z1 := blk_cell HB4.out (j := 1) (v := .slice none 0 0) rfl
      have f0 := blk_free HB4.out 0
      have f1 := blk_free HB4.out 1
      refine wpAnyE_one (i := 9) (by kernel_rfl) rfl (fun K hK => ?_)
      have HK := Lib.hid hK
      clear hK
      go_simp
      refine HK.out _ _ (fun hn => absurd ?_ hn) (wpAnyE_done (by kernel_rfl) ?_ _)
      · intro oj hoj q hq hne
        cases hoj
        revert hne
        revert q
        decide
      clear HK z0 z1 f0 f1
      obtain ⟨w6, hw6⟩ : ∃ W, W = ((w7).setCell ⟨w.heap.size + 1, 0, none⟩ (.slice a3 T.length c3)).setCell ⟨w.heap.size + 1, 1, none⟩ (.slice a4 L.length c4) := ⟨_, rfl⟩
      rw [← hw6]
      have g1 : ((w7).setCell ⟨w.heap.size + 1, 0, none⟩ (.slice a3 T.length c3)).heap[w.heap.size + 1]? = some (.cells #[.slice a3 T.length c3, .slice none 0 0] 27) := by rw [heap_setCell_same _ _ _ _ _ _ HB4.out]; rfl
      have g2 : w6.heap[w.heap.size + 1]? = some (.cells #[.slice a3 T.length c3, .slice a4 L.length c4] 27) := by rw [hw6, heap_setCell_same _ _ _ _ _ _ g1]; rfl
      have k0 := blk_cell g2 (j := 0) (v := .slice a3 T.length c3) rfl
      have k1 := blk_cell g2 (j := 1) (v := .slice a4 L.length c4) rfl
      have X6 : Hid (Ext w w6) := by
        unfold Hid; rw [hw6]
        exact ((X1.trans X7.out).st (p := ⟨w.heap.size + 1, 0, none⟩) (by dsimp only; omega) _).st (p := ⟨w.heap.size + 1, 1, none⟩) (by dsimp only; omega) _
      have o3 : Hid (w6.ownsRow pT 75 3 (.slice a3 T.length c3) T.length (T.flatMap encTower)) := by
        unfold Hid; rw [hw6]
        exact ownsRow_setCell_below (ownsRow_setCell_below HT4.out (by dsimp only; omega) _) (by dsimp only; omega) _
      have o4 : Hid (w6.ownsRow pL 29 3 (.slice a4 L.length c4) L.length (L.flatMap encLink)) := by
        unfold Hid; rw [hw6]
        exact ownsRow_setCell_below (ownsRow_setCell_below HL3.out (by dsimp only; omega) _) (by dsimp only; omega) _
      clear hw6 g1 g2
      go_wp2
      refine bodyPost_ret (v := .agg #[.slice a3 T.length c3, .slice a4 L.length c4]) (by simp [results, Try.results45, go_sem, k0, k1]) rfl ⟨_, rfl, ⟨_, _, rfl, ⟨own_mono o3.out (by omega), fun q hq => (o3.out.lt q hq).2⟩, ⟨own_mono o4.out (by omega), fun q hq => (o4.out.lt q hq).2⟩, own_ne_type o3.out o4.out (by decide)⟩, X6.out⟩
    ·
      have HK := Lib.hid hK
      clear hK
      go_simp
      obtain ⟨w4, hw9⟩ : ∃ W, W = (w3).alloc (.cells #[] 29) := ⟨_, rfl⟩
      rw [← hw9]
      obtain ⟨pL, hp9⟩ : ∃ p, p = (w3).heap.size := ⟨_, rfl⟩
      rw [← hp9]
      have HL0 : Hid ((w4).ownsRow pL 29 3 (.slice (some ⟨pL, 0, none⟩) 0 0) 0 []) := by unfold Hid; rw [hw9, hp9]; exact own_lit3 w3 29
      have hx9 : Ext w3 w4 := by rw [hw9]; exact Ext.alloc _ _
      have X4 := Lib.hid ((X3).out.trans hx9)
      have hpL : W1.heap.size ≤ pL := by rw [hp9]; exact (X3).out.size
      try (have g9 := Lib.hid (own_ext HT0.out hx9); clear HT0; have HT0 := g9; clear g9)
      clear hSS hw9 hp9 hx9
      have hSS : (fun W : World => W.cell? ⟨w.heap.size, 0, none⟩ = some (.slice a T.length ca) ∧ W.cell? ⟨w.heap.size, 1, none⟩ = some (.slice b L.length cb)) w4 := HS.out _ X4.out
      refine HK.out _ _ (fun _ => hSS) ?_
      clear HK
      refine wpAnyE_one (i := 3) (by kernel_rfl) rfl (fun K hK => ?_)
      have HK := Lib.hid hK
      clear hK
      have hsz9 := (X4).out.size
      refine step_append_row encTower_len encTower_one rfl (.tmp 3) (.tmp 5) 24 rfl pT 75 t0 (.agg #[.int .i64 0, .int .i64 0, .int .i64 0]) 24 Try.underlying24 ht0 htz0 htz1 htz2 rfl (by decide) (.slice (some ⟨pT, 0, none⟩) 0 0) (.slice a T.length ca) (by simp [Act.eval, Act.put]) HT0.out la ha T (by simp [Act.eval, Act.put]) (RT.out _ X4.out) hn1 (Nat.le_of_lt (HT0.out.lt pT rfl).2) ?_
      intro v3 w5 ho3 hg3
      obtain ⟨a3, c3, rfl, _, _, _⟩ := own_form ho3
      have X5 := Lib.hid ((X4).out.gr hg3 (fun q hq => by cases hq; omega))
      have HT3 := Lib.hid ho3
      try (have g9 := Lib.hid (HL0.out.kept hg3 (Or.inr (fun e => own_ne_type HT0.out HL0.out (by decide) pT rfl (e.trans rfl)))); clear HL0; have HL0 := g9; clear g9)
      clear hSS ho3 hg3 HT0
      have hSS : (fun W : World => W.cell? ⟨w.heap.size, 0, none⟩ = some (.slice a T.length ca) ∧ W.cell? ⟨w.heap.size, 1, none⟩ = some (.slice b L.length cb)) w5 := HS.out _ X5.out
      refine HK.out _ _ (fun _ => hSS) ?_
      clear HK
      refine wpAnyE_one (i := 7) (by kernel_rfl) rfl (fun K hK => ?_)
      have HK := Lib.hid hK
      clear hK
      have hsz8 := (X5).out.size
      refine step_append_row encLink_len encLink_one rfl (.tmp 7) (.tmp 9) 25 rfl pL 29 l0 (.agg #[.int .i64 0, .int .i64 0, .int .i64 0]) 24 Try.underlying25 hl0 hlz0 hlz1 hlz2 rfl (by decide) (.slice (some ⟨pL, 0, none⟩) 0 0) (.slice b L.length cb) (by simp [Act.eval, Act.put]) HL0.out la ha L (by simp [Act.eval, Act.put]) (RL.out _ X5.out) hn2 (Nat.le_of_lt (HL0.out.lt pL rfl).2) ?_
      intro v4 w7 ho4 hg4
      obtain ⟨a4, c4, rfl, _, _, _⟩ := own_form ho4
      have X7 := Lib.hid ((X5).out.gr hg4 (fun q hq => by cases hq; omega))
      have HL3 := Lib.hid ho4
      have HT4 := Lib.hid (HT3.out.kept hg4 (Or.inr (fun e => own_ne_type HL0.out HT3.out (by decide) pL rfl (e.trans rfl))))
      clear hSS ho4 hg4 HL0 HT3
      have hSS : (fun W : World => W.cell? ⟨w.heap.size, 0, none⟩ = some (.slice a T.length ca) ∧ W.cell? ⟨w.heap.size, 1, none⟩ = some (.slice b L.length cb)) w7 := HS.out _ X7.out
      refine HK.out _ _ (fun _ => hSS) ?_
      clear HK
      refine wpAnyE_take (i := 8) (v := ?_) rfl (by kernel_rfl) (by kernel_rfl) (by kernel_rfl) (fun _ _ _ h => h) (Or.inl ⟨by rfl, ?_⟩) (by assumption) ?_
      rotate_left 1
      focus (intro W hSW; (try dsimp only at hSW); go_simp; try with_reducible rfl)
      (try simp only [Act.put, List.setIfInBounds_toArray, List.set_cons_zero, List.set_cons_succ])
      clear hSS
      have HB4 := Lib.hid (X7.out.blk HB2.out)
      have z0 := blk_cell HB4.out (j := 0) (v := .slice none 0 0) rfl
      have z1 := blk_cell HB4.out (j := 1) (v := .slice none 0 0) rfl
      have f0 := blk_free HB4.out 0
      have f1 := blk_free HB4.out 1
      refine wpAnyE_one (i := 9) (by kernel_rfl) rfl (fun K hK => ?_)
      have HK := Lib.hid hK
      clear hK
      go_simp
      refine HK.out _ _ (fun hn => absurd ?_ hn) (wpAnyE_done (by kernel_rfl) ?_ _)
      · intro oj hoj q hq hne
        cases hoj
        revert hne
        revert q
        decide
      clear HK z0 z1 f0 f1
      obtain ⟨w6, hw6⟩ : ∃ W, W = ((w7).setCell ⟨w.heap.size + 1, 0, none⟩ (.slice a3 T.length c3)).setCell ⟨w.heap.size + 1, 1, none⟩ (.slice a4 L.length c4) := ⟨_, rfl⟩
      rw [← hw6]
      have g1 : ((w7).setCell ⟨w.heap.size + 1, 0, none⟩ (.slice a3 T.length c3)).heap[w.heap.size + 1]? = some (.cells #[.slice a3 T.length c3, .slice none 0 0] 27) := by rw [heap_setCell_same _ _ _ _ _ _ HB4.out]; rfl
      have g2 : w6.heap[w.heap.size + 1]? = some (.cells #[.slice a3 T.length c3, .slice a4 L.length c4] 27) := by rw [hw6, heap_setCell_same _ _ _ _ _ _ g1]; rfl
      have k0 := blk_cell g2 (j := 0) (v := .slice a3 T.length c3) rfl
      have k1 := blk_cell g2 (j := 1) (v := .slice a4 L.length c4) rfl
      have X6 : Hid (Ext w w6) := by
        unfold Hid; rw [hw6]
        exact ((X1.trans X7.out).st (p := ⟨w.heap.size + 1, 0, none⟩) (by dsimp only; omega) _).st (p := ⟨w.heap.size + 1, 1, none⟩) (by dsimp only; omega) _
      have o3 : Hid (w6.ownsRow pT 75 3 (.slice a3 T.length c3) T.length (T.flatMap encTower)) := by
        unfold Hid; rw [hw6]
        exact ownsRow_setCell_below (ownsRow_setCell_below HT4.out (by dsimp only; omega) _) (by dsimp only; omega) _
      have o4 : Hid (w6.ownsRow pL 29 3 (.slice a4 L.length c4) L.length (L.flatMap encLink)) := by
        unfold Hid; rw [hw6]
        exact ownsRow_setCell_below (ownsRow_setCell_below HL3.out (by dsimp only; omega) _) (by dsimp only; omega) _
      clear hw6 g1 g2
      go_wp2
      refine bodyPost_ret (v := .agg #[.slice a3 T.length c3, .slice a4 L.length c4]) (by simp [results, Try.results45, go_sem, k0, k1]) rfl ⟨_, rfl, ⟨_, _, rfl, ⟨own_mono o3.out (by omega), fun q hq => (o3.out.lt q hq).2⟩, ⟨own_mono o4.out (by omega), fun q hq => (o4.out.lt q hq).2⟩, own_ne_type o3.out o4.out (by decide)⟩, X6.out⟩
  ·
    have HK := Lib.hid hK
    clear hK
    go_simp
    obtain ⟨w3, hw9⟩ : ∃ W, W = (w2).alloc (.cells #[] 29) := ⟨_, rfl⟩
    rw [← hw9]
    obtain ⟨pL, hp9⟩ : ∃ p, p = (w2).heap.size := ⟨_, rfl⟩
    rw [← hp9]
    have HL0 : Hid ((w3).ownsRow pL 29 3 (.slice (some ⟨pL, 0, none⟩) 0 0) 0 []) := by unfold Hid; rw [hw9, hp9]; exact own_lit3 w2 29
    have hx9 : Ext w2 w3 := by rw [hw9]; exact Ext.alloc _ _
    have X3 := Lib.hid ((X2).out.trans hx9)
    have hpL : W1.heap.size ≤ pL := by rw [hp9]; exact (X2).out.size
    try (have g9 := Lib.hid (own_ext HT0.out hx9); clear HT0; have HT0 := g9; clear g9)
    clear hSS hw9 hp9 hx9
    have hSS : (fun W : World => W.cell? ⟨w.heap.size, 0, none⟩ = some (.slice a T.length ca) ∧ W.cell? ⟨w.heap.size, 1, none⟩ = some (.slice b L.length cb)) w3 := HS.out _ X3.out
    refine HK.out _ _ (fun _ => hSS) ?_
    clear HK
    refine wpAnyE_one (i := 0) (by kernel_rfl) rfl (fun K hK => ?_)
    have HK := Lib.hid hK
    clear hK
    go_simp
    obtain ⟨w4, hw9⟩ : ∃ W, W = (w3).alloc (.cells #[] 75) := ⟨_, rfl⟩
    rw [← hw9]
    obtain ⟨pT, hp9⟩ : ∃ p, p = (w3).heap.size := ⟨_, rfl⟩
    rw [← hp9]
    have HT0 : Hid ((w4).ownsRow pT 75 3 (.slice (some ⟨pT, 0, none⟩) 0 0) 0 []) := by unfold Hid; rw [hw9, hp9]; exact own_lit3 w3 75
    have hx9 : Ext w3 w4 := by rw [hw9]; exact Ext.alloc _ _
    have X4 := Lib.hid ((X3).out.trans hx9)
    have hpT : W1.heap.size ≤ pT := by rw [hp9]; exact (X3).out.size
    try (have g9 := Lib.hid (own_ext HL0.out hx9); clear HL0; have HL0 := g9; clear g9)
    clear hSS hw9 hp9 hx9
    have hSS : (fun W : World => W.cell? ⟨w.heap.size, 0, none⟩ = some (.slice a T.length ca) ∧ W.cell? ⟨w.heap.size, 1, none⟩ = some (.slice b L.length cb)) w4 := HS.out _ X4.out
    refine HK.out _ _ (fun _ => hSS) ?_
    clear HK
    refine wpAnyE_one (i := 3) (by kernel_rfl) rfl (fun K hK => ?_)
    have HK := Lib.hid hK
    clear hK
    have hsz9 := (X4).out.size
    refine step_append_row encTower_len encTower_one rfl (.tmp 3) (.tmp 5) 24 rfl pT 75 t0 (.agg #[.int .i64 0, .int .i64 0, .int .i64 0]) 24 Try.underlying24 ht0 htz0 htz1 htz2 rfl (by decide) (.slice (some ⟨pT, 0, none⟩) 0 0) (.slice a T.length ca) (by simp [Act.eval, Act.put]) HT0.out la ha T (by simp [Act.eval, Act.put]) (RT.out _ X4.out) hn1 (Nat.le_of_lt (HT0.out.lt pT rfl).2) ?_
    intro v3 w5 ho3 hg3
    obtain ⟨a3, c3, rfl, _, _, _⟩ := own_form ho3
    have X5 := Lib.hid ((X4).out.gr hg3 (fun q hq => by cases hq; omega))
    have HT3 := Lib.hid ho3
    try (have g9 := Lib.hid (HL0.out.kept hg3 (Or.inr (fun e => own_ne_type HT0.out HL0.out (by decide) pT rfl (e.trans rfl)))); clear HL0; have HL0 := g9; clear g9)
    clear hSS ho3 hg3 HT0
    have hSS : (fun W : World => W.cell? ⟨w.heap.size, 0, none⟩ = some (.slice a T.length ca) ∧ W.cell? ⟨w.heap.size, 1, none⟩ = some (.slice b L.length cb)) w5 := HS.out _ X5.out
    refine HK.out _ _ (fun _ => hSS) ?_
    clear HK
    refine wpAnyE_one (i := 7) (by kernel_rfl) rfl (fun K hK => ?_)
    have HK := Lib.hid hK
    clear hK
    have hsz8 := (X5).out.size
    refine step_append_row encLink_len encLink_one rfl (.tmp 7) (.tmp 9) 25 rfl pL 29 l0 (.agg #[.int .i64 0, .int .i64 0, .int .i64 0]) 24 Try.underlying25 hl0 hlz0 hlz1 hlz2 rfl (by decide) (.slice (some ⟨pL, 0, none⟩) 0 0) (.slice b L.length cb) (by simp [Act.eval, Act.put]) HL0.out la ha L (by simp [Act.eval, Act.put]) (RL.out _ X5.out) hn2 (Nat.le_of_lt (HL0.out.lt pL rfl).2) ?_
    intro v4 w7 ho4 hg4
    obtain ⟨a4, c4, rfl, _, _, _⟩ := own_form ho4
    have X7 := Lib.hid ((X5).out.gr hg4 (fun q hq => by cases hq; omega))
    have HL3 := Lib.hid ho4
    have HT4 := Lib.hid (HT3.out.kept hg4 (Or.inr (fun e => own_ne_type HL0.out HT3.out (by decide) pL rfl (e.trans rfl))))
    clear hSS ho4 hg4 HL0 HT3
    have hSS : (fun W : World => W.cell? ⟨w.heap.size, 0, none⟩ = some (.slice a T.length ca) ∧ W.cell? ⟨w.heap.size, 1, none⟩ = some (.slice b L.length cb)) w7 := HS.out _ X7.out
    refine HK.out _ _ (fun _ => hSS) ?_
    clear HK
    refine wpAnyE_take (i := 8) (v := ?_) rfl (by kernel_rfl) (by kernel_rfl) (by kernel_rfl) (fun _ _ _ h => h) (Or.inl ⟨by rfl, ?_⟩) (by assumption) ?_
    rotate_left 1
    focus (intro W hSW; (try dsimp only at hSW); go_simp; try with_reducible rfl)
    (try simp only [Act.put, List.setIfInBounds_toArray, List.set_cons_zero, List.set_cons_succ])
    clear hSS
    have HB4 := Lib.hid (X7.out.blk HB2.out)
    have z0 := blk_cell HB4.out (j := 0) (v := .slice none 0 0) rfl
    have z1 := blk_cell HB4.out (j := 1) (v := .slice none 0 0) rfl
    have f0 := blk_free HB4.out 0
    have f1 := blk_free HB4.out 1
    refine wpAnyE_one (i := 9) (by kernel_rfl) rfl (fun K hK => ?_)
    have HK := Lib.hid hK
    clear hK
    go_simp
    refine HK.out _ _ (fun hn => absurd ?_ hn) (wpAnyE_done (by kernel_rfl) ?_ _)
    · intro oj hoj q hq hne
      cases hoj
      revert hne
      revert q
      decide
    clear HK z0 z1 f0 f1
    obtain ⟨w6, hw6⟩ : ∃ W, W = ((w7).setCell ⟨w.heap.size + 1, 0, none⟩ (.slice a3 T.length c3)).setCell ⟨w.heap.size + 1, 1, none⟩ (.slice a4 L.length c4) := ⟨_, rfl⟩
    rw [← hw6]
    have g1 : ((w7).setCell ⟨w.heap.size + 1, 0, none⟩ (.slice a3 T.length c3)).heap[w.heap.size + 1]? = some (.cells #[.slice a3 T.length c3, .slice none 0 0] 27) := by rw [heap_setCell_same _ _ _ _ _ _ HB4.out]; rfl
    have g2 : w6.heap[w.heap.size + 1]? = some (.cells #[.slice a3 T.length c3, .slice a4 L.length c4] 27) := by rw [hw6, heap_setCell_same _ _ _ _ _ _ g1]; rfl
    have k0 := blk_cell g2 (j := 0) (v := .slice a3 T.length c3) rfl
    have k1 := blk_cell g2 (j := 1) (v := .slice a4 L.length c4) rfl
    have X6 : Hid (Ext w w6) := by
      unfold Hid; rw [hw6]
      exact ((X1.trans X7.out).st (p := ⟨w.heap.size + 1, 0, none⟩) (by dsimp only; omega) _).st (p := ⟨w.heap.size + 1, 1, none⟩) (by dsimp only; omega) _
    have o3 : Hid (w6.ownsRow pT 75 3 (.slice a3 T.length c3) T.length (T.flatMap encTower)) := by
      unfold Hid; rw [hw6]
      exact ownsRow_setCell_below (ownsRow_setCell_below HT4.out (by dsimp only; omega) _) (by dsimp only; omega) _
    have o4 : Hid (w6.ownsRow pL 29 3 (.slice a4 L.length c4) L.length (L.flatMap encLink)) := by
      unfold Hid; rw [hw6]
      exact ownsRow_setCell_below (ownsRow_setCell_below HL3.out (by dsimp only; omega) _) (by dsimp only; omega) _
    clear hw6 g1 g2
    go_wp2
    refine bodyPost_ret (v := .agg #[.slice a3 T.length c3, .slice a4 L.length c4]) (by simp [results, Try.results45, go_sem, k0, k1]) rfl ⟨_, rfl, ⟨_, _, rfl, ⟨own_mono o3.out (by omega), fun q hq => (o3.out.lt q hq).2⟩, ⟨own_mono o4.out (by omega), fun q hq => (o4.out.lt q hq).2⟩, own_ne_type o3.out o4.out (by decide)⟩, X6.out⟩
end Go.Proofs.Ytiipjlcmekakaaa
