
/- Clones of towers and links; cloneNet. -/
import Derived.Test.YtiipjlcmekakaaaDrop
import Derived.Test.YtiipjlcmekakaaaAnyE
import Derived.Deep.DeepCutAuto
namespace Go.Proofs.Ytiipjlcmekakaaa
open Go.RowKit
set_option linter.unusedSimpArgs false
theorem row_cells3 {α : Type} {enc : α → List Value} (hen : ∀ x, (enc x).length = 3) {w : World} {lo hi n cap : Nat} {ad : Addr} {xs : List α} (h : Row enc 3 w lo hi (.slice (some ad) n cap) xs) : ∀ t u, (xs.flatMap enc)[t]? = some u → w.cell? (ad.add t) = some u := by
  intro t u hu
  have hr := h
  obtain ⟨a, c, e, m1, m2, b, off, m3, _⟩ := h
  simp only [Value.slice.injEq] at e
  obtain ⟨rfl, rfl, rfl⟩ := e
  cases xs with
  | nil => simp at hu
  | cons x r =>
    have m4 := (m3 (by simp)).1
    simp only [Option.some.injEq] at m4
    subst m4
    rw [add_lit1]
    exact row_src hen hr (by simp) t u hu
set_option maxRecDepth 100000 in
theorem c_CloneL (v : Value) (la ha : Nat) (T : List LinkT) (w : World) (h : Row encLink 3 w la ha v T) (hh : ha ≤ w.heap.size) (hn : T.length ≤ 1048576) :
    Calls Try.prog 77 #[v] w fun e w' => ∃ v', e = .returned v' ∧ w'.ownsRow w.heap.size 29 3 v' T.length (T.flatMap encLink) ∧ Ext w w' := by
  obtain ⟨i0, hi0, hz0, hz1, hz2⟩ := info_parts Try.info_link
  have hr := h
  obtain ⟨a, cap, rfl, m1, m2, b, off, m3, _⟩ := h
  have hs := Lib.run_eql_slice_nil (P := Try.prog)
  cases a with
  | none =>
    have hx : T = [] := by
      cases T with
      | nil => rfl
      | cons x r => have := (m3 (by simp)).1; cases this
    subst hx
    clear m3 hr
    go_enter Try.func77, Try.ntmps77
    go_wp2
    go_ret
    exact ⟨_, rfl, World.ownsRow_nil _ _ _ _, Ext.refl _⟩
  | some ad =>
    have hs1 : Hid (∀ W, Ext w W → ∀ t u, (T.flatMap encLink)[t]? = some u → W.cell? (ad.add t) = some u) := fun W hX t u hu => hX.cell (row_cells3 encLink_len hr t u hu)
    have hfl := flat_len encLink_len T
    have ho := Lib.hid (encLink_one T)
    clear m3 hr
    go_enter Try.func77, Try.ntmps77
    go_wp2_with
      (at_builtin; refine wpList_append_own _ rfl _ _ 25 rfl w.heap.size 29 i0 (.agg #[.int .i64 0, .int .i64 0, .int .i64 0]) 3 24 Try.underlying25 hi0 hz0 hz1 hz2 rfl (by decide) _ _ _ rfl (own_lit3 w 29) ad T.length cap (T.flatMap encLink) rfl hfl (hs1.out _ (Ext.alloc _ _)) ho.out (by unfold maxLen; omega) (by omega) (by simp) ?_; intro v3 w3 hown3 hgrow3 hnil3)
    go_ret
    exact ⟨_, rfl, by simpa using hown3, ((Ext.refl w).al _).gr hgrow3 (fun k hk => ((own_lit3 w 29).lt k hk).1)⟩
set_option maxRecDepth 100000 in
set_option maxHeartbeats 2000000 in
theorem c_cloneNet (v : Value) (la ha : Nat) (x : NetT) (w : World) (h : Nets w la ha v x) (hh : ha ≤ w.heap.size) (hn1 : x.1.length ≤ 1048576) (hn2 : x.2.length ≤ 1048576) (h0 : 0 < x.1.length) :
    Calls Try.prog 41 #[v] w fun e w' => ∃ r, e = .returned r ∧ OwnNet w' w.heap.size w'.heap.size r x ∧ Ext w w' := by
  obtain ⟨a, ca, b, cb, rfl, _, _⟩ := h.form
  obtain ⟨hT, hL⟩ := h.parts
  obtain ⟨T, L⟩ := x
  simp only at hT hL hn1 hn2 h0 ⊢
  have CT : Hid (∀ W, Ext w W → Calls Try.prog 54 #[.slice a T.length ca] W fun e w' => ∃ v', e = .returned v' ∧ w'.ownsRow W.heap.size 75 3 v' T.length (T.flatMap encTower) ∧ Ext W w') := fun W hX => c_CloneT _ la ha T W (hT.ext hX hh) (Nat.le_trans hh hX.size) hn1 h0
  have CL : Hid (∀ W, Ext w W → Calls Try.prog 77 #[.slice b L.length cb] W fun e w' => ∃ v', e = .returned v' ∧ w'.ownsRow W.heap.size 29 3 v' L.length (L.flatMap encLink) ∧ Ext W w') := fun W hX => c_CloneL _ la ha L W (hL.ext hX hh) (Nat.le_trans hh hX.size) hn2
  obtain ⟨W1, hW1⟩ : ∃ W, W = ((w.alloc (.cells #[.slice a T.length ca, .slice b L.length cb] 27)).alloc (.cells #[.slice none 0 0, .slice none 0 0] 27)) := ⟨_, rfl⟩
  have X1 : Ext w W1 := by rw [hW1]; exact ((Ext.refl w).al _).al _
  have B1 : W1.heap[w.heap.size]? = some (.cells #[.slice a T.length ca, .slice b L.length cb] 27) := by rw [hW1]; exact blk_old (blk_alloc _ _)
  have B2 : W1.heap[w.heap.size + 1]? = some (.cells #[.slice none 0 0, .slice none 0 0] 27) := by rw [hW1]; exact blk_alloc2 _ _ _
  have s1 : W1.heap.size = w.heap.size + 2 := by rw [hW1, size_alloc, size_alloc]
  have HW1 := Lib.hid hW1
  clear hW1 h hT hL
  go_enter Try.func41, Try.ntmps41
  go_upto_region 1 with fail
  rw [← HW1.out]
  obtain ⟨w2, hw2⟩ : ∃ W, W = W1.drew := ⟨_, rfl⟩
  have X2 : Ext W1 w2 := by rw [hw2]; exact Ext.drew _
  refine wp_region_E (S := fun W => W.cell? ⟨w.heap.size, 0, none⟩ = some (.slice a T.length ca) ∧ W.cell? ⟨w.heap.size, 1, none⟩ = some (.slice b L.length cb)) (by kernel_rfl) ?_
  rw [← hw2]
  clear hw2 HW1
  have HS : Hid (∀ W, Ext W1 W → W.cell? ⟨w.heap.size, 0, none⟩ = some (.slice a T.length ca) ∧ W.cell? ⟨w.heap.size, 1, none⟩ = some (.slice b L.length cb)) := fun W hX => ⟨hX.cell (blk_cell B1 (j := 0) rfl), hX.cell (blk_cell B1 (j := 1) rfl)⟩
  have hSS : (fun W : World => W.cell? ⟨w.heap.size, 0, none⟩ = some (.slice a T.length ca) ∧ W.cell? ⟨w.heap.size, 1, none⟩ = some (.slice b L.length cb)) w2 := HS.out _ X2
  have HB2 := Lib.hid B2
  clear B1 B2
  refine wpAnyE_take (i := 0) (v := ?_) rfl (by kernel_rfl) (by kernel_rfl) (by kernel_rfl) (fun _ _ _ h => h) (Or.inl ⟨by rfl, ?_⟩) (by assumption) ?_
  rotate_left 1
  focus (intro W hSW; (try dsimp only at hSW); go_simp; try with_reducible rfl)
  (try simp only [Act.put, List.setIfInBounds_toArray, List.set_cons_zero, List.set_cons_succ])
  refine wpAnyE_take (i := 1) (v := ?_) rfl (by kernel_rfl) (by kernel_rfl) (by kernel_rfl) (fun _ _ _ h => h) (Or.inl ⟨by rfl, ?_⟩) (by assumption) ?_
  rotate_left 1
  focus (intro W hSW; (try dsimp only at hSW); go_simp; try with_reducible rfl)
  (try simp only [Act.put, List.setIfInBounds_toArray, List.set_cons_zero, List.set_cons_succ])
  refine wpAnyE_take (i := 3) (v := ?_) rfl (by kernel_rfl) (by kernel_rfl) (by kernel_rfl) (fun _ _ _ h => h) (Or.inl ⟨by rfl, ?_⟩) (by assumption) ?_
  rotate_left 1
  focus (intro W hSW; (try dsimp only at hSW); go_simp; try with_reducible rfl)
  (try simp only [Act.put, List.setIfInBounds_toArray, List.set_cons_zero, List.set_cons_succ])
  refine wpAnyE_take (i := 4) (v := ?_) rfl (by kernel_rfl) (by kernel_rfl) (by kernel_rfl) (fun _ _ _ h => h) (Or.inl ⟨by rfl, ?_⟩) (by assumption) ?_
  rotate_left 1
  focus (intro W hSW; (try dsimp only at hSW); go_simp; try with_reducible rfl)
  (try simp only [Act.put, List.setIfInBounds_toArray, List.set_cons_zero, List.set_cons_succ])
  refine wpAnyE_one (i := 2) (by kernel_rfl) rfl (fun K hK => ?_)
  have HK := Lib.hid hK
  clear hK
  go_simp
  refine (CT.out _ (X1.trans X2)).mono ?_
  rintro e w3 ⟨v3, rfl, ho3, hx3⟩
  obtain ⟨a3, c3, rfl, _, _, _⟩ := own_form ho3
  have X3 := X2.trans hx3
  refine HK.out _ _ (fun _ => HS.out _ X3) ?_
  have HO3 := Lib.hid ho3
  have hs2 := X2.size
  clear HK hSS ho3 hx3 X2
  refine wpAnyE_one (i := 5) (by kernel_rfl) rfl (fun K hK => ?_)
  have HK := Lib.hid hK
  clear hK
  go_simp
  refine (CL.out _ (X1.trans X3)).mono ?_
  rintro e w4 ⟨v4, rfl, ho4, hx4⟩
  obtain ⟨a4, c4, rfl, _, _, _⟩ := own_form ho4
  have X4 := X3.trans hx4
  have hSS : (fun W : World => W.cell? ⟨w.heap.size, 0, none⟩ = some (.slice a T.length ca) ∧ W.cell? ⟨w.heap.size, 1, none⟩ = some (.slice b L.length cb)) w4 := HS.out _ X4
  refine HK.out _ _ (fun _ => hSS) ?_
  have HO4 := Lib.hid ho4
  have HO5 := Lib.hid (own_ext HO3.out hx4)
  have hs3 := X3.size
  have hs4 := hx4.size
  clear HK ho4 hx4
  refine wpAnyE_take (i := 6) (v := ?_) rfl (by kernel_rfl) (by kernel_rfl) (by kernel_rfl) (fun _ _ _ h => h) (Or.inl ⟨by rfl, ?_⟩) (by assumption) ?_
  rotate_left 1
  focus (intro W hSW; (try dsimp only at hSW); go_simp; try with_reducible rfl)
  (try simp only [Act.put, List.setIfInBounds_toArray, List.set_cons_zero, List.set_cons_succ])
  clear hSS
  have HB4 := Lib.hid (X4.blk HB2.out)
  have z0 := blk_cell HB4.out (j := 0) (v := .slice none 0 0) rfl
  have z1 := blk_cell HB4.out (j := 1) (v := .slice none 0 0) rfl
  have f0 := blk_free HB4.out 0
  have f1 := blk_free HB4.out 1
  refine wpAnyE_one (i := 7) (by kernel_rfl) rfl (fun K hK => ?_)
  have HK := Lib.hid hK
  clear hK
  go_simp
  refine HK.out _ _ (fun hn => absurd ?_ hn) (wpAnyE_done (by kernel_rfl) ?_ _)
  · intro oj hoj q hq hne
    cases hoj
    revert hne
    revert q
    decide
  clear HK z0 z1 f0 f1
  obtain ⟨w6, hw6⟩ : ∃ W, W = (w4.setCell ⟨w.heap.size + 1, 0, none⟩ (.slice a3 T.length c3)).setCell ⟨w.heap.size + 1, 1, none⟩ (.slice a4 L.length c4) := ⟨_, rfl⟩
  rw [← hw6]
  have g1 : (w4.setCell ⟨w.heap.size + 1, 0, none⟩ (.slice a3 T.length c3)).heap[w.heap.size + 1]? = some (.cells #[.slice a3 T.length c3, .slice none 0 0] 27) := by rw [heap_setCell_same _ _ _ _ _ _ HB4.out]; rfl
  have g2 : w6.heap[w.heap.size + 1]? = some (.cells #[.slice a3 T.length c3, .slice a4 L.length c4] 27) := by rw [hw6, heap_setCell_same _ _ _ _ _ _ g1]; rfl
  have k0 := blk_cell g2 (j := 0) (v := .slice a3 T.length c3) rfl
  have k1 := blk_cell g2 (j := 1) (v := .slice a4 L.length c4) rfl
  have X6 : Hid (Ext w w6) := by
    unfold Hid; rw [hw6]
    exact ((X1.trans X4).st (p := ⟨w.heap.size + 1, 0, none⟩) (by dsimp only; omega) _).st (p := ⟨w.heap.size + 1, 1, none⟩) (by dsimp only; omega) _
  have o3 : Hid (w6.ownsRow w2.heap.size 75 3 (.slice a3 T.length c3) T.length (T.flatMap encTower)) := by
    unfold Hid; rw [hw6]
    exact ownsRow_setCell_below (ownsRow_setCell_below HO5.out (by dsimp only; omega) _) (by dsimp only; omega) _
  have o4 : Hid (w6.ownsRow w3.heap.size 29 3 (.slice a4 L.length c4) L.length (L.flatMap encLink)) := by
    unfold Hid; rw [hw6]
    exact ownsRow_setCell_below (ownsRow_setCell_below HO4.out (by dsimp only; omega) _) (by dsimp only; omega) _
  have hd : Hid (∀ k, (Value.slice a3 T.length c3).ownBlock = some k → (Value.slice a4 L.length c4).ownBlock ≠ some k) := fun k h3 h4 => by
    have e3 := (HO3.out.lt k h3).2
    have e4 := (HO4.out.lt k h4).1
    omega
  clear hw6 g1 g2
  go_wp2
  refine bodyPost_ret (v := .agg #[.slice a3 T.length c3, .slice a4 L.length c4]) (by simp [results, Try.results41, go_sem, k0, k1]) rfl ⟨_, rfl, ⟨_, _, rfl, ⟨own_mono o3.out (by omega), fun q hq => (o3.out.lt q hq).2⟩, ⟨own_mono o4.out (by omega), fun q hq => (o4.out.lt q hq).2⟩, hd.out⟩, X6.out⟩
end Go.Proofs.Ytiipjlcmekakaaa
