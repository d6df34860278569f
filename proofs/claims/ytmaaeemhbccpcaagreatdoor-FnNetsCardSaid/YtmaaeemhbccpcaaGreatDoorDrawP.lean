
/- What the draws of nets give. -/
import Derived.Test.YtmaaeemhbccpcaaGreatDoorDrawO
namespace Go.Proofs.YtmaaeemhbccpcaaGreatDoor
open Go.RowKit
set_option linter.unusedSimpArgs false
set_option linter.unusedVariables false
def DrawX (b k : Nat) (w : World) (e : Ending) (w' : World) : Prop := ∃ r : Int, e = .returned (.int .i64 r) ∧ Cur w' b k ∧ Keep b (b + 1) w w'
set_option maxRecDepth 100000 in
theorem c_tower (b k : Nat) (ta : Option Addr) (n tc : Nat) (la : Option Addr) (m lc : Nat) (w : World) (h : Cur w b k) (hk : k ≤ 900000) (hn : n ≤ 1000) :
    Calls Tryz.prog 55 #[.pointer (some ⟨b, 0, none⟩), .agg #[.slice ta n tc, .slice la m lc]] w (DrawX b (k + 6) w) := by
  have hbs := h.lt
  obtain ⟨W0, hW0⟩ : ∃ W, W = w.alloc (.cells #[.slice ta n tc, .slice la m lc] 27) := ⟨_, rfl⟩
  have hX0 : Ext w W0 := by rw [hW0]; exact (Ext.refl w).al _
  have B0 : W0.heap[w.heap.size]? = some (.cells #[.slice ta n tc, .slice la m lc] 27) := by rw [hW0]; exact blk_alloc _ _
  have HC0 := Lib.hid (h.ext hX0)
  have HX0 := Lib.hid hX0
  have HW0 := Lib.hid hW0
  have HB0 := Lib.hid B0
  clear h hW0 hX0 B0
  go_enter Tryz.func55, Tryz.ntmps55
  go_upto_region 1 with fail
  rw [← HW0.out]
  obtain ⟨w20, hwd⟩ : ∃ W, W = W0.drew := ⟨_, rfl⟩
  have HC20 : Hid (Cur w20 b k) := by unfold Hid; rw [hwd]; exact HC0.out.ext (Ext.drew _)
  have HB20 : Hid (w20.heap[w.heap.size]? = some (.cells #[.slice ta n tc, .slice la m lc] 27)) := by unfold Hid; rw [hwd]; exact (Ext.drew _).blk HB0.out
  have HK20 : Hid (Keep b (b + 1) w w20) := by unfold Hid; rw [hwd]; exact Keep.of_ext (HX0.out.trans (Ext.drew _))
  refine wp_region_E (S := fun W => W.cell? ⟨w.heap.size, 0, none⟩ = some (.slice ta n tc)) (by kernel_rfl) ?_
  rw [← hwd]
  clear hwd HW0 HC0 HX0 HB0
  have hSS : (fun W : World => W.cell? ⟨w.heap.size, 0, none⟩ = some (.slice ta n tc)) w20 := blk_cell HB20.out (j := 0) rfl
  refine wpAnyE_take (i := 0) (v := ?_) rfl (by kernel_rfl) (by kernel_rfl) (by kernel_rfl) (fun _ _ _ h => h) (Or.inl ⟨by rfl, ?_⟩) (by assumption) ?_
  rotate_left 1
  focus (intro W hSW; (try dsimp only at hSW); go_simp; try with_reducible rfl)
  (try simp only [Act.put, List.setIfInBounds_toArray, List.set_cons_zero, List.set_cons_succ])
  refine wpAnyE_take (i := 1) (v := ?_) rfl (by kernel_rfl) (by kernel_rfl) (by kernel_rfl) (fun _ _ _ h => h) (Or.inl ⟨by rfl, ?_⟩) (by assumption) ?_
  rotate_left 1
  focus (intro W hSW; (try dsimp only at hSW); go_simp; try with_reducible rfl)
  (try simp only [Act.put, List.setIfInBounds_toArray, List.set_cons_zero, List.set_cons_succ])
  refine wpAnyE_take (i := 2) (v := ?_) rfl (by kernel_rfl) (by kernel_rfl) (by kernel_rfl) (fun _ _ _ h => h) (Or.inl ⟨by rfl, ?_⟩) (by assumption) ?_
  rotate_left 1
  focus (intro W hSW; (try dsimp only at hSW); go_simp; try with_reducible rfl)
  (try simp only [Act.put, List.setIfInBounds_toArray, List.set_cons_zero, List.set_cons_succ])
  refine wpAnyE_take (i := 3) (v := ?_) rfl (by kernel_rfl) (by kernel_rfl) (by kernel_rfl) (fun _ _ _ h => h) (Or.inl ⟨by rfl, ?_⟩) (by assumption) ?_
  rotate_left 1
  focus (intro W hSW; (try dsimp only at hSW); go_simp; try with_reducible rfl)
  (try simp only [Act.put, List.setIfInBounds_toArray, List.set_cons_zero, List.set_cons_succ])
  refine wpAnyE_take (i := 4) (v := ?_) rfl (by kernel_rfl) (by kernel_rfl) (by kernel_rfl) (fun _ _ _ h => h) (Or.inl ⟨by rfl, ?_⟩) (by assumption) ?_
  rotate_left 1
  focus (intro W hSW; (try dsimp only at hSW); go_simp; try with_reducible rfl)
  (try simp only [Act.put, List.setIfInBounds_toArray, List.set_cons_zero, List.set_cons_succ])
  refine wpAnyE_take (i := 9) (v := ?_) rfl (by kernel_rfl) (by kernel_rfl) (by kernel_rfl) (fun _ _ _ h => h) (Or.inl ⟨by rfl, ?_⟩) (by assumption) ?_
  rotate_left 1
  focus (intro W hSW; (try dsimp only at hSW); go_simp; try with_reducible rfl)
  (try simp only [Act.put, List.setIfInBounds_toArray, List.set_cons_zero, List.set_cons_succ])
  refine wpAnyE_one (i := 5) (by kernel_rfl) rfl (fun K hK => ?_)
  have HK := Lib.hid hK
  clear hK
  go_simp
  refine (c_pick b _ 16 w20 HC20.out (by omega) (by omega)).mono ?_
  rintro e w21 ⟨r5, rfl, p0r5, p1r5, hc, hk1⟩
  have HC21 := Lib.hid hc
  have HB21 := Lib.hid (hk1.blk HB20.out (Or.inr (by omega)))
  have HK21 := Lib.hid (HK20.out.trans hk1)
  clear hc hk1 hSS HC20 HB20 HK20
  have hSS : (fun W : World => W.cell? ⟨w.heap.size, 0, none⟩ = some (.slice ta n tc)) w21 := blk_cell HB21.out (j := 0) rfl
  refine HK.out _ _ (fun _ => hSS) ?_
  clear HK
  have hd5 : r5.tdiv 15 = r5 / 15 := Int.tdiv_eq_ediv_of_nonneg (by omega)
  refine wpAnyE_one (i := 6) (by kernel_rfl) rfl (fun K hK => ?_)
  have HK := Lib.hid hK
  clear hK
  go_simp
  refine HK.out _ _ (fun _ => hSS) ?_
  clear HK
  refine wpAnyE_one (i := 7) (by kernel_rfl) rfl (fun K hK => ?_)
  have HK := Lib.hid hK
  clear hK
  go_simp
  refine HK.out _ _ (fun _ => hSS) ?_
  clear HK hd5
  obtain ⟨x, hx⟩ : ∃ x, x = IntKind.i64.wrap ((n : Int) + IntKind.i64.wrap (r5 / 15)) := ⟨_, rfl⟩
  rw [← hx]
  have hx1 : x ≤ 1001 := by rw [hx, IntKind.wrap_i64, IntKind.wrap_i64]; omega
  clear hx
  refine wpAnyE_one (i := 8) (by kernel_rfl) rfl (fun K hK => ?_)
  have HK := Lib.hid hK
  clear hK
  go_simp
  refine (c_pick b _ x w21 HC21.out (by omega) (by omega)).mono ?_
  rintro e w22 ⟨r8, rfl, p0r8, p1r8, hc, hk1⟩
  have HC22 := Lib.hid hc
  have HB22 := Lib.hid (hk1.blk HB21.out (Or.inr (by omega)))
  have HK22 := Lib.hid (HK21.out.trans hk1)
  clear hc hk1 hSS HC21 HB21 HK21
  have hSS : (fun W : World => W.cell? ⟨w.heap.size, 0, none⟩ = some (.slice ta n tc)) w22 := blk_cell HB22.out (j := 0) rfl
  refine HK.out _ _ (fun _ => hSS) ?_
  clear HK
  refine wpAnyE_one (i := 10) (by kernel_rfl) rfl (fun K hK => ?_)
  have HK := Lib.hid hK
  clear hK
  go_simp
  refine (c_pick b _ 24 w22 HC22.out (by omega) (by omega)).mono ?_
  rintro e w23 ⟨r10, rfl, p0r10, p1r10, hc, hk1⟩
  have HC23 := Lib.hid hc
  have HB23 := Lib.hid (hk1.blk HB22.out (Or.inr (by omega)))
  have HK23 := Lib.hid (HK22.out.trans hk1)
  clear hc hk1 hSS HC22 HB22 HK22
  have hSS : (fun W : World => W.cell? ⟨w.heap.size, 0, none⟩ = some (.slice ta n tc)) w23 := blk_cell HB23.out (j := 0) rfl
  refine HK.out _ _ (fun _ => hSS) ?_
  clear HK
  refine wpAnyE_one (i := 11) (by kernel_rfl) rfl (fun K hK => ?_)
  have HK := Lib.hid hK
  clear hK
  go_simp
  refine HK.out _ _ (fun _ => hSS) ?_
  clear HK
  refine wpAnyE_one (i := 12) (by kernel_rfl) rfl (fun K hK => ?_)
  have HK := Lib.hid hK
  clear hK
  go_simp
  refine HK.out _ _ (fun _ => hSS) ?_
  clear HK
  refine wpAnyE_one (i := 13) (by kernel_rfl) rfl (fun K hK => ?_)
  have HK := Lib.hid hK
  clear hK
  go_simp
  refine HK.out _ _ (fun _ => hSS) (wpAnyE_done (by kernel_rfl) ?_ _)
  clear HK
  go_wp2
  go_ret
  exact ⟨_, rfl, HC23.out.mono (by omega), HK23.out⟩
/-- The bytes of a draw. -/
def Bytes (w : World) (lo hi : Nat) (v : Value) (bs : List Int) : Prop := Row encY 1 w lo hi v bs ∧ ∀ x ∈ bs, 0 ≤ x ∧ x ≤ 255
theorem Bytes.ext {w w' : World} {lo hi : Nat} {v : Value} {bs : List Int} (h : Bytes w lo hi v bs) (hx : Ext w w') (hh : hi ≤ w.heap.size) : Bytes w' lo hi v bs := ⟨h.1.ext hx hh, h.2⟩
/-- A net that lies in blocks of its own. -/
def Give (w w' : World) (v : Value) (x : NetT) : Prop := ∃ (ta : Option Addr) (tc : Nat) (la : Option Addr) (lc : Nat), v = .agg #[.slice ta x.1.length tc, .slice la x.2.length lc] ∧ Nets w' w.heap.size w'.heap.size v x ∧ x.1.length ≤ 17 ∧ x.2.length ≤ 41 ∧ Ext w w'
def GiveG (w : World) (e : Ending) (w' : World) : Prop := ∃ v x, e = .returned v ∧ Give w w' v x
def GiveGI (w : World) (e : Ending) (w' : World) : Prop := ∃ v x, ∃ i : Int, e = .returned (.tuple #[v, .int .i64 i]) ∧ Give w w' v x
def GiveGII (w : World) (e : Ending) (w' : World) : Prop := ∃ v x, ∃ i j : Int, e = .returned (.tuple #[v, .int .i64 i, .int .i64 j]) ∧ Give w w' v x
def GiveGL (w : World) (e : Ending) (w' : World) : Prop := ∃ v x, ∃ i j k : Int, e = .returned (.tuple #[v, .agg #[.int .i64 i, .int .i64 j, .int .i64 k]]) ∧ Give w w' v x
theorem keep_sj (w : World) (b j : Nat) (v : Value) : Keep b (b + 1) w (w.setCell ⟨b, j, none⟩ v) :=
  ⟨rfl, rfl, rfl, by simp [World.setCell], fun k _ hk => heap_setCell_other _ _ _ _ (by show k ≠ b; omega)⟩
theorem OwnNet.wide {w : World} {lo hi lo' hi' : Nat} {v : Value} {x : NetT} (h : OwnNet w lo hi v x) (h1 : lo' ≤ lo) (h2 : hi ≤ hi') : OwnNet w lo' hi' v x := by
  obtain ⟨vt, vl, e, q1, q2, q3⟩ := h
  exact ⟨vt, vl, e, q1.mono h1 h2, q2.mono h1 h2, q3⟩
/-- A draw under way: the cursor b, the net's box bo, the result's boxes r0 and r1, the net's own lists in lo .. hi. -/
structure DX (b bo r0 r1 lo hi : Nat) (o : Obj) (w0 : World) (ta : Option Addr) (tc : Nat) (la : Option Addr) (lc : Nat) (x : NetT) (k : Nat) (w : World) : Prop where
  h1 : w0.heap.size ≤ r0
  h2 : r0 ≤ r1
  h3 : r1 < b
  h4 : b < lo
  h5 : lo ≤ hi
  h6 : hi ≤ bo
  cur : Cur w b k
  box : w.heap[bo]? = some (.cells #[.slice ta x.1.length tc, .slice la x.2.length lc] 27)
  res : w.heap[r0]? = some (.cells #[.slice none 0 0, .slice none 0 0] 27)
  oth : w.heap[r1]? = some o
  own : OwnNet w lo hi (.agg #[.slice ta x.1.length tc, .slice la x.2.length lc]) x
  ext : Ext w0 w
section
variable {b bo r0 r1 lo hi : Nat} {o : Obj} {w0 : World} {ta : Option Addr} {tc : Nat} {la : Option Addr} {lc : Nat} {x : NetT} {k : Nat} {w : World}
theorem DX.adv {w' : World} (h : DX b bo r0 r1 lo hi o w0 ta tc la lc x k w) (hx : Ext w w') : DX b bo r0 r1 lo hi o w0 ta tc la lc x k w' :=
  ⟨h.h1, h.h2, h.h3, h.h4, h.h5, h.h6, h.cur.ext hx, hx.blk h.box, hx.blk h.res, hx.blk h.oth, h.own.ext hx, h.ext.trans hx⟩
theorem DX.draw {k' : Nat} {w' : World} (h : DX b bo r0 r1 lo hi o w0 ta tc la lc x k w) (hc : Cur w' b k') (hk : Keep b (b + 1) w w') : DX b bo r0 r1 lo hi o w0 ta tc la lc x k' w' := by
  have q1 := h.h1
  have q2 := h.h2
  have q3 := h.h3
  have q4 := h.h4
  have q5 := h.h5
  have q6 := h.h6
  exact ⟨q1, q2, q3, q4, q5, q6, hc, hk.blk h.box (Or.inr (by omega)), hk.blk h.res (Or.inl (by omega)), hk.blk h.oth (Or.inl (by omega)), h.own.keepd hk (Or.inr (by omega)), h.ext.keep hk (by omega)⟩
theorem DX.fin {w' : World} (h : DX b bo r0 r1 lo hi o w0 ta tc la lc x k w) (hw : w' = (w.setCell ⟨r0, 0, none⟩ (.slice ta x.1.length tc)).setCell ⟨r0, 1, none⟩ (.slice la x.2.length lc)) :
    w'.heap[r0]? = some (.cells #[.slice ta x.1.length tc, .slice la x.2.length lc] 27) ∧ (r0 < r1 → w'.heap[r1]? = some o) ∧ w'.heap[bo]? = some (.cells #[.slice ta x.1.length tc, .slice la x.2.length lc] 27) ∧ OwnNet w' lo hi (.agg #[.slice ta x.1.length tc, .slice la x.2.length lc]) x ∧ Ext w0 w' := by
  have q1 := h.h1
  have q2 := h.h2
  have q3 := h.h3
  have q4 := h.h4
  have q5 := h.h5
  have q6 := h.h6
  have g1 : (w.setCell ⟨r0, 0, none⟩ (.slice ta x.1.length tc)).heap[r0]? = some (.cells #[.slice ta x.1.length tc, .slice none 0 0] 27) := by rw [heap_setCell_same _ _ _ _ _ _ h.res]; rfl
  have hk : Keep r0 (r0 + 1) w w' := by rw [hw]; exact (keep_sj w r0 0 _).trans (keep_sj _ r0 1 _)
  exact ⟨by rw [hw, heap_setCell_same _ _ _ _ _ _ g1]; rfl, fun hl => hk.blk h.oth (Or.inr (by omega)), hk.blk h.box (Or.inr (by omega)), h.own.keepd hk (Or.inr (by omega)), h.ext.keep hk (by omega)⟩
end
set_option maxRecDepth 100000 in
theorem c_DrawIsNet (v : Value) (la ha : Nat) (bs : List Int) (w : World) (h : Bytes w la ha v bs) (hh : ha ≤ w.heap.size) : Calls Tryz.prog 26 #[v] w (GiveG w) := by
  obtain ⟨a, cap, rfl, m1⟩ := h.1.formY
  have hbs := h.2
  obtain ⟨W0, hW0⟩ : ∃ W, W = w.alloc (.cells #[.slice none 0 0, .slice none 0 0] 27) := ⟨_, rfl⟩
  have hX0 : Ext w W0 := by rw [hW0]; exact (Ext.refl w).al _
  have B0 : Hid (W0.heap[w.heap.size]? = some (.cells #[.slice none 0 0, .slice none 0 0] 27)) := by unfold Hid; rw [hW0]; exact blk_alloc _ _
  have hs0 : W0.heap.size = w.heap.size + 1 := by rw [hW0, size_alloc]
  have HH := Lib.hid (h.1.ext hX0 hh)
  have hsx := hX0.size
  have HX0 := Lib.hid hX0
  have HW0 := Lib.hid hW0
  clear hX0 hW0
  obtain ⟨W1, hW1⟩ : ∃ W, W = W0.alloc (.cells #[.slice a bs.length cap, .int .i64 0, .int .u64 0] 79) := ⟨_, rfl⟩
  have hX1 : Ext W0 W1 := by rw [hW1]; exact Ext.alloc _ _
  have HX1 := Lib.hid hX1
  have HW1 := Lib.hid hW1
  have hs1 : W1.heap.size = w.heap.size + 1 + 1 := by rw [hW1, size_alloc, hs0]
  have C1 := Lib.hid (c_anyNet (w.heap.size + 1) 0 W1 (by rw [hW1, ← hs0]; exact cur_new W0 _ la ha bs HH.out (by omega) hbs) (by omega))
  clear hbs hX1 hW1 HH h
  go_enter Tryz.func26, Tryz.ntmps26
  go_wp2_with fail
  rw [← HW0.out, ← HW1.out]
  refine C1.out.mono ?_
  rintro e w2 ⟨ta, tc, T, lb, lc, L, rfl, hO, _, hT17, hL41, hc, hk1⟩
  have s2 := hk1.size
  have g0 := hk1.blk (HX1.out.blk B0.out) (Or.inl (by omega))
  have hO2 := Lib.hid hO
  have HX2 := Lib.hid ((HX0.out.trans HX1.out).keep hk1 (by omega))
  have HG0 := Lib.hid g0
  have z0 := blk_cell g0 (j := 0) (v := .slice none 0 0) rfl
  have z1 := blk_cell g0 (j := 1) (v := .slice none 0 0) rfl
  have f0 := blk_free g0 0
  have f1 := blk_free g0 1
  clear hc hk1 hO C1 g0
  go_wp2
  obtain ⟨w9, hw9⟩ : ∃ W, W = (w2.setCell ⟨w.heap.size, 0, none⟩ (.slice ta T.length tc)).setCell ⟨w.heap.size, 1, none⟩ (.slice lb L.length lc) := ⟨_, rfl⟩
  rw [← hw9]
  have g1 : (w2.setCell ⟨w.heap.size, 0, none⟩ (.slice ta T.length tc)).heap[w.heap.size]? = some (.cells #[.slice ta T.length tc, .slice none 0 0] 27) := by rw [heap_setCell_same _ _ _ _ _ _ HG0.out]; rfl
  have g2 : w9.heap[w.heap.size]? = some (.cells #[.slice ta T.length tc, .slice lb L.length lc] 27) := by rw [hw9, heap_setCell_same _ _ _ _ _ _ g1]; rfl
  have hk : Keep w.heap.size (w.heap.size + 1) w2 w9 := by rw [hw9]; exact (keep_sj w2 _ 0 _).trans (keep_sj _ _ 1 _)
  have x0 := blk_cell g2 (j := 0) (v := .slice ta T.length tc) rfl
  have x1 := blk_cell g2 (j := 1) (v := .slice lb L.length lc) rfl
  have s9 := hk.size
  refine bodyPost_ret (v := .agg #[.slice ta T.length tc, .slice lb L.length lc]) (by simp [results, Tryz.results26, go_sem, x0, x1]) rfl ⟨_, (T, L), rfl, ta, tc, lb, lc, rfl, ((hO2.out.keepd hk (Or.inr (by omega))).wide (by omega) s9).read, hT17, hL41, HX2.out.keep hk (Nat.le_refl _)⟩
/-- A wrapper of a draw: the result is stored once more. -/
theorem Give.store {w w2 w9 : World} {ta lb : Option Addr} {tc lc n m : Nat} {x : NetT} (hg : Give (w.alloc (.cells #[.slice none 0 0, .slice none 0 0] 27)) w2 (.agg #[.slice ta n tc, .slice lb m lc]) x)
    (hw : w9 = (w2.setCell ⟨w.heap.size, 0, none⟩ (.slice ta n tc)).setCell ⟨w.heap.size, 1, none⟩ (.slice lb m lc)) :
    w9.heap[w.heap.size]? = some (.cells #[.slice ta n tc, .slice lb m lc] 27) ∧ Give w w9 (.agg #[.slice ta n tc, .slice lb m lc]) x := by
  obtain ⟨t1, c1, l1, d1, e1, hN, h1, h2, hx⟩ := hg
  have g0 : w2.heap[w.heap.size]? = some (.cells #[.slice none 0 0, .slice none 0 0] 27) := hx.blk (blk_alloc _ _)
  have g1 : (w2.setCell ⟨w.heap.size, 0, none⟩ (.slice ta n tc)).heap[w.heap.size]? = some (.cells #[.slice ta n tc, .slice none 0 0] 27) := by rw [heap_setCell_same _ _ _ _ _ _ g0]; rfl
  have hk : Keep w.heap.size (w.heap.size + 1) w2 w9 := by rw [hw]; exact (keep_sj w2 _ 0 _).trans (keep_sj _ _ 1 _)
  have s9 := hk.size
  refine ⟨by rw [hw, heap_setCell_same _ _ _ _ _ _ g1]; rfl, t1, c1, l1, d1, e1, ?_, h1, h2, ((Ext.alloc _ _).trans hx).keep hk (Nat.le_refl _)⟩
  rw [size_alloc] at hN
  have hN2 : Nets w9 (w.heap.size + 1) w2.heap.size (.agg #[.slice ta n tc, .slice lb m lc]) x := hN.keep fun q q1 q2 => hk.block q (by omega) (by omega)
  obtain ⟨vt, vl, e, r1, r2⟩ := hN2
  exact ⟨vt, vl, e, Row.mono r1 (by omega) s9, Row.mono r2 (by omega) s9⟩
set_option maxRecDepth 100000 in
theorem c_DrawNetText (v : Value) (la ha : Nat) (bs : List Int) (w : World) (h : Bytes w la ha v bs) (hh : ha ≤ w.heap.size) : Calls Tryz.prog 5 #[v] w (GiveG w) := by
  have C := Lib.hid (c_DrawIsNet v la ha bs (w.alloc (.cells #[.slice none 0 0, .slice none 0 0] 27)) (h.ext (Ext.alloc _ _) hh) (by rw [size_alloc]; omega))
  obtain ⟨a, cap, rfl, _⟩ := h.1.formY
  clear h
  go_enter Tryz.func5, Tryz.ntmps5
  go_wp2_with fail
  refine C.out.mono ?_
  rintro e w2 ⟨v2, x,  rfl, hg⟩
  have hg' := hg
  obtain ⟨ta, tc, lb, lc, rfl, _, _, _, hx⟩ := hg'
  have HG := Lib.hid hg
  have g0 := hx.blk (blk_alloc w (.cells #[.slice none 0 0, .slice none 0 0] 27))
  have z0 := blk_cell g0 (j := 0) (v := .slice none 0 0) rfl
  have z1 := blk_cell g0 (j := 1) (v := .slice none 0 0) rfl
  have f0 := blk_free g0 0
  have f1 := blk_free g0 1
  clear hg hx g0 C
  go_wp2
  obtain ⟨w9, hw9⟩ : ∃ W, W = (w2.setCell ⟨w.heap.size, 0, none⟩ (.slice ta x.1.length tc)).setCell ⟨w.heap.size, 1, none⟩ (.slice lb x.2.length lc) := ⟨_, rfl⟩
  rw [← hw9]
  obtain ⟨g2, hG⟩ := HG.out.store hw9
  have x0 := blk_cell g2 (j := 0) (v := .slice ta x.1.length tc) rfl
  have x1 := blk_cell g2 (j := 1) (v := .slice lb x.2.length lc) rfl
  refine bodyPost_ret (v := .agg #[.slice ta x.1.length tc, .slice lb x.2.length lc]) (by simp [results, Tryz.results5, go_sem, x0, x1]) rfl ⟨_, x,  rfl, hG⟩
set_option maxRecDepth 100000 in
theorem c_DrawNeighboursOf (v : Value) (la ha : Nat) (bs : List Int) (w : World) (h : Bytes w la ha v bs) (hh : ha ≤ w.heap.size) : Calls Tryz.prog 25 #[v] w (GiveGI w) := by
  obtain ⟨a, cap, rfl, m1⟩ := h.1.formY
  have hbs := h.2
  obtain ⟨W0, hW0⟩ : ∃ W, W = w.alloc (.cells #[.slice none 0 0, .slice none 0 0] 27) := ⟨_, rfl⟩
  have hX0 : Ext w W0 := by rw [hW0]; exact (Ext.refl w).al _
  have B0 : Hid (W0.heap[w.heap.size]? = some (.cells #[.slice none 0 0, .slice none 0 0] 27)) := by unfold Hid; rw [hW0]; exact blk_alloc _ _
  have B9 := B0
  have hs0 : W0.heap.size = w.heap.size + 1 := by rw [hW0, size_alloc]
  have HH := Lib.hid (h.1.ext hX0 hh)
  have hsx := hX0.size
  have HX0 := Lib.hid hX0
  have HW0 := Lib.hid hW0
  clear hX0 hW0
  obtain ⟨W1, hW1⟩ : ∃ W, W = W0.alloc (.cells #[.slice a bs.length cap, .int .i64 0, .int .u64 0] 79) := ⟨_, rfl⟩
  have hX1 : Ext W0 W1 := by rw [hW1]; exact Ext.alloc _ _
  have HX1 := Lib.hid hX1
  have HW1 := Lib.hid hW1
  have hs1 : W1.heap.size = w.heap.size + 1 + 1 := by rw [hW1, size_alloc, hs0]
  have C1 := Lib.hid (c_anyNet (w.heap.size + 1) 0 W1 (by rw [hW1, ← hs0]; exact cur_new W0 _ la ha bs HH.out (by omega) hbs) (by omega))
  clear hbs hX1 hW1 HH h
  go_enter Tryz.func25, Tryz.ntmps25
  go_wp2_with fail
  rw [← HW0.out, ← HW1.out]
  refine C1.out.mono ?_
  rintro e w2 ⟨ta, tc, T, lb, lc, L, rfl, hO, _, hT17, hL41, hc, hk1⟩
  have s2 := hk1.size
  obtain ⟨w3, hw3⟩ : ∃ W, W = w2.alloc (.cells #[.slice ta T.length tc, .slice lb L.length lc] 27) := ⟨_, rfl⟩
  have hx3 : Ext w2 w3 := by rw [hw3]; exact Ext.alloc _ _
  obtain ⟨bo, hbo⟩ : ∃ n, n = w2.heap.size := ⟨_, rfl⟩
  have HD3 : Hid (DX (w.heap.size + 1) bo w.heap.size w.heap.size W1.heap.size w2.heap.size (.cells #[.slice none 0 0, .slice none 0 0] 27) w ta tc lb lc (T, L) 6000 w3) :=
    ⟨Nat.le_refl _, by omega, by omega, by omega, s2, by omega, hc.ext hx3 |>.mono (by omega), by rw [hw3, hbo]; exact blk_alloc _ _, hx3.blk (hk1.blk (HX1.out.blk B0.out) (Or.inl (by omega))), hx3.blk (hk1.blk (HX1.out.blk B9.out) (Or.inl (by omega))), hO.ext hx3, ((HX0.out.trans HX1.out).keep hk1 (by omega)).trans hx3⟩
  have HW3 := Lib.hid hw3
  have HBO := Lib.hid hbo
  clear hc hk1 hO hw3 hx3 hbo C1 HX0 HX1 B0 B9
  clear HW0 HW1
  go_upto_region 3 with fail
  rw [← HW3.out, ← HBO.out]
  clear HW3 HBO
  obtain ⟨w20, hwd⟩ : ∃ W, W = w3.drew := ⟨_, rfl⟩
  have hd9 := HD3.out.adv (Ext.drew _)
  rw [← hwd] at hd9
  have HD20 := Lib.hid hd9
  refine wp_region_E (S := fun W => W.cell? ⟨bo, 0, none⟩ = some (.slice ta T.length tc) ∧ W.cell? ⟨bo, 1, none⟩ = some (.slice lb L.length lc)) (by kernel_rfl) ?_
  rw [← hwd]
  clear hwd hd9 HD3
  have hSS : (fun W : World => W.cell? ⟨bo, 0, none⟩ = some (.slice ta T.length tc) ∧ W.cell? ⟨bo, 1, none⟩ = some (.slice lb L.length lc)) w20 := ⟨blk_cell HD20.out.box (j := 0) rfl, blk_cell HD20.out.box (j := 1) rfl⟩
  refine wpAnyE_take (i := 0) (v := ?_) rfl (by kernel_rfl) (by kernel_rfl) (by kernel_rfl) (fun _ _ _ h => h) (Or.inl ⟨by rfl, ?_⟩) (by assumption) ?_
  rotate_left 1
  focus (intro W hSW; (try dsimp only at hSW); go_simp; try with_reducible rfl)
  (try simp only [Act.put, List.setIfInBounds_toArray, List.set_cons_zero, List.set_cons_succ])
  refine wpAnyE_take (i := 1) (v := ?_) rfl (by kernel_rfl) (by kernel_rfl) (by kernel_rfl) (fun _ _ _ h => h) (Or.inl ⟨by rfl, ?_⟩) (by assumption) ?_
  rotate_left 1
  focus (intro W hSW; (try dsimp only at hSW); go_simp; try with_reducible rfl)
  (try simp only [Act.put, List.setIfInBounds_toArray, List.set_cons_zero, List.set_cons_succ])
  refine wpAnyE_take (i := 2) (v := ?_) rfl (by kernel_rfl) (by kernel_rfl) (by kernel_rfl) (fun _ _ _ h => h) (Or.inl ⟨by rfl, ?_⟩) (by assumption) ?_
  rotate_left 1
  focus (intro W hSW; (try dsimp only at hSW); go_simp; try with_reducible rfl)
  (try simp only [Act.put, List.setIfInBounds_toArray, List.set_cons_zero, List.set_cons_succ])
  refine wpAnyE_one (i := 3) (by kernel_rfl) rfl (fun K hK => ?_)
  have HK := Lib.hid hK
  clear hK
  go_simp
  refine (c_tower _ _ ta T.length tc lb L.length lc w20 HD20.out.cur (by omega) (by omega)).mono ?_
  rintro e w21 ⟨r1, rfl, hc, hk1⟩
  have HD21 := Lib.hid (HD20.out.draw hc hk1)
  try (have g8 := Lib.hid (HL1.out.draw hk1); clear HL1; have HL1 := g8; clear g8)
  clear hc hk1 hSS HD20
  have hSS : (fun W : World => W.cell? ⟨bo, 0, none⟩ = some (.slice ta T.length tc) ∧ W.cell? ⟨bo, 1, none⟩ = some (.slice lb L.length lc)) w21 := ⟨blk_cell HD21.out.box (j := 0) rfl, blk_cell HD21.out.box (j := 1) rfl⟩
  refine HK.out _ _ (fun _ => hSS) ?_
  clear HK
  have z0 := blk_cell HD21.out.res (j := 0) (v := .slice none 0 0) rfl
  have z1 := blk_cell HD21.out.res (j := 1) (v := .slice none 0 0) rfl
  have f0 := blk_free HD21.out.res 0
  have f1 := blk_free HD21.out.res 1
  clear hSS
  refine wpAnyE_one (i := 4) (by kernel_rfl) rfl (fun K hK => ?_)
  have HK := Lib.hid hK
  clear hK
  go_simp
  clear z0 z1 f0 f1
  obtain ⟨w9, hw9⟩ : ∃ W, W = (w21.setCell ⟨w.heap.size, 0, none⟩ (.slice ta T.length tc)).setCell ⟨w.heap.size, 1, none⟩ (.slice lb L.length lc) := ⟨_, rfl⟩
  rw [← hw9]
  obtain ⟨g2, go, gb, gO, gX⟩ := HD21.out.fin hw9
  have sw9 : w9.heap.size = w21.heap.size := by rw [hw9]; simp [World.setCell]
  have sbo := (Array.getElem?_eq_some_iff.1 HD21.out.box).1
  have hSS : (fun W : World => W.cell? ⟨bo, 0, none⟩ = some (.slice ta T.length tc) ∧ W.cell? ⟨bo, 1, none⟩ = some (.slice lb L.length lc)) w9 := ⟨blk_cell gb (j := 0) rfl, blk_cell gb (j := 1) rfl⟩
  have h6 := HD21.out.h6
  have h4 := HD21.out.h4
  have G2 := Lib.hid g2
  have GB := Lib.hid gb
  have GO := Lib.hid go
  have GON := Lib.hid gO
  have GX := Lib.hid gX
  clear hw9 g2 go gb gO gX HD21
  refine HK.out _ _ (fun _ => hSS) ?_
  clear HK
  refine wpAnyE_one (i := 5) (by kernel_rfl) rfl (fun K hK => ?_)
  have HK := Lib.hid hK
  clear hK
  go_simp
  refine HK.out _ _ (fun _ => hSS) (wpAnyE_done (by kernel_rfl) ?_ _)
  have x0 := blk_cell G2.out (j := 0) (v := .slice ta T.length tc) rfl
  have x1 := blk_cell G2.out (j := 1) (v := .slice lb L.length lc) rfl
  clear HK hSS
  go_wp2
  refine bodyPost_ret (v := .tuple #[.agg #[.slice ta T.length tc, .slice lb L.length lc], .int .i64 r1]) (by simp [results, Tryz.results25, go_sem, x0, x1]) rfl ⟨_, (T, L), _, rfl, ta, tc, lb, lc, rfl, (GON.out.wide (by omega) (by omega)).read, hT17, hL41, GX.out⟩
set_option maxRecDepth 100000 in
theorem c_DrawReachFrom (v : Value) (la ha : Nat) (bs : List Int) (w : World) (h : Bytes w la ha v bs) (hh : ha ≤ w.heap.size) : Calls Tryz.prog 20 #[v] w (GiveGI w) := by
  have C := Lib.hid (c_DrawNeighboursOf v la ha bs (w.alloc (.cells #[.slice none 0 0, .slice none 0 0] 27)) (h.ext (Ext.alloc _ _) hh) (by rw [size_alloc]; omega))
  obtain ⟨a, cap, rfl, _⟩ := h.1.formY
  clear h
  go_enter Tryz.func20, Tryz.ntmps20
  go_wp2_with fail
  refine C.out.mono ?_
  rintro e w2 ⟨v2, x, i, rfl, hg⟩
  have hg' := hg
  obtain ⟨ta, tc, lb, lc, rfl, _, _, _, hx⟩ := hg'
  have HG := Lib.hid hg
  have g0 := hx.blk (blk_alloc w (.cells #[.slice none 0 0, .slice none 0 0] 27))
  have z0 := blk_cell g0 (j := 0) (v := .slice none 0 0) rfl
  have z1 := blk_cell g0 (j := 1) (v := .slice none 0 0) rfl
  have f0 := blk_free g0 0
  have f1 := blk_free g0 1
  clear hg hx g0 C
  go_wp2
  obtain ⟨w9, hw9⟩ : ∃ W, W = (w2.setCell ⟨w.heap.size, 0, none⟩ (.slice ta x.1.length tc)).setCell ⟨w.heap.size, 1, none⟩ (.slice lb x.2.length lc) := ⟨_, rfl⟩
  rw [← hw9]
  obtain ⟨g2, hG⟩ := HG.out.store hw9
  have x0 := blk_cell g2 (j := 0) (v := .slice ta x.1.length tc) rfl
  have x1 := blk_cell g2 (j := 1) (v := .slice lb x.2.length lc) rfl
  refine bodyPost_ret (v := .tuple #[.agg #[.slice ta x.1.length tc, .slice lb x.2.length lc], .int .i64 i]) (by simp [results, Tryz.results20, go_sem, x0, x1]) rfl ⟨_, x, i, rfl, hG⟩
end Go.Proofs.YtmaaeemhbccpcaaGreatDoor
