

/- Drawn lists of words: the reference's draw. -/
import Derived.Test.YtphfgfejacbhpaaDrawK
import Derived.Test.YtphfgfejacbhpaaApp
import Derived.Test.YtphfgfejacbhpaaAll
namespace Go.Proofs.Ytphfgfejacbhpaa
open Go.RowKit
/-- A list of lists that is being made: each list in a block of its own, none in the outer one's. -/
def RowsA (w : World) (base : Nat) (v : Value) (vs : List Value) (xss : List (List Int)) : Prop :=
  vs.length = xss.length ∧ w.ownsRow base 24 1 v vs.length vs ∧ ∀ (i : Nat) u xs, vs[i]? = some u → xss[i]? = some xs → w.ownsRow base 3 1 u xs.length (xs.flatMap encI) ∧ ∀ k, u.ownBlock = some k → v.ownBlock ≠ some k
theorem RowsA.nil (w : World) (base : Nat) : RowsA w base (.slice none 0 0) [] [] := ⟨rfl, World.ownsRow_nil _ _ _ _, by simp⟩
theorem RowsA.kc {w w' : World} {b base : Nat} {v : Value} {vs : List Value} {xss : List (List Int)} (h : RowsA w base v vs xss) (hk : Keep b (b + 1) w w') (hb : b < base) : RowsA w' base v vs xss :=
  ⟨h.1, own_kc h.2.1 hk hb, fun i u xs hu hx => ⟨own_kc (h.2.2 i u xs hu hx).1 hk hb, (h.2.2 i u xs hu hx).2⟩⟩
/-- .. is kept where a newer block is turned. -/
theorem RowsA.set {w w0 : World} {g j base : Nat} {x v : Value} {vs : List Value} {xss : List (List Int)} (h : RowsA w base v vs xss) (hs : ∀ k, (∃ (i : Nat) (u : Value) (xs : List Int), vs[i]? = some u ∧ xss[i]? = some xs ∧ u.ownBlock = some k) ∨ v.ownBlock = some k → k < w0.heap.size) (hg : w0.heap.size ≤ g) :
    RowsA (w.setCell ⟨g, j, none⟩ x) base v vs xss := by
  have hk : Keep g (g + 1) w (w.setCell ⟨g, j, none⟩ x) := keep_setj w g j x
  refine ⟨h.1, own_keep h.2.1 hk (fun k e => .inl (by have := hs k (.inr e); omega)), fun i u xs hu hx => ⟨own_keep (h.2.2 i u xs hu hx).1 hk (fun k e => .inl (by have := hs k (.inl ⟨i, u, xs, hu, hx, e⟩); omega)), (h.2.2 i u xs hu hx).2⟩⟩
theorem RowsA.lt {w : World} {base : Nat} {v : Value} {vs : List Value} {xss : List (List Int)} (h : RowsA w base v vs xss) : ∀ k, (∃ (i : Nat) (u : Value) (xs : List Int), vs[i]? = some u ∧ xss[i]? = some xs ∧ u.ownBlock = some k) ∨ v.ownBlock = some k → k < w.heap.size := by
  rintro k (⟨i, u, xs, hu, hx, e⟩ | e)
  · exact ((h.2.2 i u xs hu hx).1.lt k e).2
  · exact (h.2.1.lt k e).2
theorem RowsA.read {w : World} {base : Nat} {v : Value} {vs : List Value} {xss : List (List Int)} (h : RowsA w base v vs xss) : Intss w base w.heap.size v xss :=
  ⟨vs, h.1, Row.of_own encV_len (by rw [flat_encV]; exact h.2.1), fun i u xs hu hx => Row.of_own encI_len (h.2.2 i u xs hu hx).1⟩
theorem RowsA.push {w w7 : World} {base : Nat} {o : Obj} {v v' u : Value} {vs : List Value} {xss : List (List Int)} {xs : List Int} (h : RowsA w base v vs xss) (ho : w.ownsRow base 3 1 u xs.length (xs.flatMap encI)) (hd : ∀ k, u.ownBlock = some k → v.ownBlock ≠ some k)
    (h' : w7.ownsRow base 24 1 v' (vs.length + 1) (vs ++ [u])) (hg : (w.alloc o).grownBy w7 v.ownBlock) (hb : ∀ k, v'.ownBlock = some k → v.ownBlock = some k ∨ (w.alloc o).heap.size ≤ k) : RowsA w7 base v' (vs ++ [u]) (xss ++ [xs]) := by
  have key : ∀ (u : Value) (xs : List Int), w.ownsRow base 3 1 u xs.length (xs.flatMap encI) → (∀ k, u.ownBlock = some k → v.ownBlock ≠ some k) → w7.ownsRow base 3 1 u xs.length (xs.flatMap encI) ∧ ∀ k, u.ownBlock = some k → v'.ownBlock ≠ some k := by
    intro u xs ho hd
    refine ⟨(ho.alloc o).kept hg ?_, fun k hk e => ?_⟩
    · cases hb2 : u.ownBlock with
      | none => exact .inl rfl
      | some k => exact .inr (fun e => hd k hb2 e.symm)
    · rcases hb k e with h1 | h1
      · exact hd k hk h1
      · have := (ho.lt k hk).2
        simp at h1
        omega
  refine ⟨by simp [h.1], by rw [List.length_append]; exact h', fun i u' xs' hu hx => ?_⟩
  by_cases hi : i < vs.length
  · rw [List.getElem?_append_left hi] at hu
    rw [List.getElem?_append_left (by rw [← h.1]; exact hi)] at hx
    obtain ⟨h1, h2⟩ := h.2.2 i u' xs' hu hx
    exact key u' xs' h1 h2
  · rw [List.getElem?_append_right (by omega)] at hu
    rw [List.getElem?_append_right (by rw [← h.1]; omega)] at hx
    have hi2 := (List.getElem?_eq_some_iff.1 hu).1
    simp at hi2
    rw [show i - vs.length = 0 by omega] at hu
    rw [show i - xss.length = 0 by rw [← h.1]; omega] at hx
    simp at hu hx
    subst hu hx
    exact key _ _ ho hd
def GiveLL (n : Nat) (w : World) (e : Ending) (w' : World) : Prop := ∃ (v : Value) (xss : List (List Int)), e = .returned v ∧ Intss w' w.heap.size w'.heap.size v xss ∧ xss.length ≤ n ∧ Ext w w'
theorem size_set (w : World) (p : Addr) (v : Value) : (w.setCell p v).heap.size = w.heap.size := by simp [World.setCell]
theorem Intss.mono {w : World} {lo hi lo' : Nat} {v : Value} {xss : List (List Int)} (h : Intss w lo hi v xss) (h1 : lo' ≤ lo) : Intss w lo' hi v xss := by
  obtain ⟨vs, a, b, c⟩ := h
  exact ⟨vs, a, b.mono h1 (Nat.le_refl _), fun i u xs hu hx => (c i u xs hu hx).mono h1 (Nat.le_refl _)⟩
set_option maxRecDepth 100000 in
set_option maxHeartbeats 8000000 in
theorem c_DrawCheckAll (v : Value) (la ha : Nat) (bs : List Int) (w : World) (h : Bytes w la ha v bs) (hh : ha ≤ w.heap.size) : Calls Try.prog 34 #[v] w (GiveLL 21 w) := by
  obtain ⟨j0, hj0, hy0, hy1, hy2⟩ := info_parts Try.info_intSS
  obtain ⟨a, cap, rfl, _⟩ := h.1.formY
  have HY := Lib.hid h
  clear h
  go_enter Try.func34, Try.ntmps34
  go_wp2_with fail
  obtain ⟨w1, hw1⟩ : ∃ W, W = w.alloc (.cells #[.slice a bs.length cap, .int .i64 0, .int .u64 0] 57) := ⟨_, rfl⟩
  rw [← hw1]
  have hC : Cur w1 w.heap.size 0 := by rw [hw1]; exact cur_new w _ la ha bs HY.out.1 hh HY.out.2
  have X1 : Ext w w1 := by rw [hw1]; exact Ext.alloc _ _
  have s1 : w.heap.size < w1.heap.size := by rw [hw1, size_alloc]; omega
  clear hw1
  refine (c_pick w.heap.size 0 6 w1 hC (by omega) (by omega)).mono ?_
  rintro e w2 ⟨r, rfl, r0, r1, hc, hk⟩
  have HC := Lib.hid hc
  have HK := Lib.hid hk
  clear hc hk hC
  go_wp2_with fail
  refine (c_one w.heap.size _ 20 _ HC.out (by omega) (by omega)).mono ?_
  rintro e w3 ⟨t, rfl, hc3, hk3⟩
  have HC3 := Lib.hid hc3
  have HK3 := Lib.hid (HK.out.trans hk3)
  have hr7 : r ≤ 5 := by omega
  clear hc3 hk3 HC HK
  have HC := HC3
  have HK := HK3
  clear HC3 HK3
  cases t
  · go_wp2
    go_loopg [4] 30 (fun gg v wr => ∃ (vs : List Value) (xss : List (List Int)), (vs.length : Int) ≤ r ∧ r ≤ vs.length + gg ∧ Hid (RowsA wr w1.heap.size v vs xss) ∧ Hid (Cur wr w.heap.size (4 + 330 * vs.length)) ∧ Hid (Keep w.heap.size (w.heap.size + 1) w1 wr))
    case atStart => exact ⟨[], [], by simp; omega, by simp; omega, RowsA.nil _ _, HC.out, HK.out⟩
    case round =>
      clear HC HK
      obtain ⟨vs, xss, hL, hLg, HR, hC, hK⟩ := hrel
      obtain ⟨a5, c5, rfl, _, q1, q2⟩ := own_form HR.out.2.1
      have hwr := hK.out.size
      by_cases hlt : (vs.length : Int) < r
      · go_wp2_with fail
        refine (c_pairWord w.heap.size _ 2 _ hC.out (by omega) (by omega)).mono ?_
        rintro e w3 ⟨v3, L, rfl, ho3, hl3, hc3, hk3⟩
        obtain ⟨a2, c2, rfl, _, q3, q4⟩ := own_form ho3
        have HO3 := Lib.hid ho3
        have HC3 := Lib.hid hc3
        have HK3 := Lib.hid (hK.out.trans hk3)
        have HR3 := Lib.hid (HR.out.kc hk3 s1)
        clear ho3 hc3 hk3
        by_cases hl0 : 0 < L.length
        · have hl0I : (0 : Int) < (L.length : Int) := by omega
          go_wp2_with fail
          refine (c_one w.heap.size _ 4 _ HC3.out (by omega) (by omega)).mono ?_
          rintro e w4 ⟨t4, rfl, hc4, hk4⟩
          have HO4 := Lib.hid (own_kc HO3.out hk4 (by omega))
          have HC4 := Lib.hid hc4
          have HK4 := Lib.hid (HK3.out.trans hk4)
          have HR4 := Lib.hid (HR3.out.kc hk4 s1)
          clear hc4 hk4
          cases t4
          · go_wp2_with (at_builtin; refine wpList_append_at _ rfl _ _ 43 rfl w1.heap.size 24 j0 (.slice none 0 0) 1 24 Try.underlying43 hj0 hy0 hy1 hy2 rfl (by decide) _ _ _ rfl (HR4.out.2.1.alloc _) ⟨w4.heap.size, 0, none⟩ 1 1 [.slice a2 L.length c2] rfl rfl (new_cells1 _ _ _) (by intro u hu; simp at hu; subst hu; rfl) (by unfold maxLen; omega) (by omega) (by have := HK4.out.size; simp; omega) ?_; intro v6 w6 hown6 hgrow6 hblk6)
            go_roundg (r - (vs.length + 1)).toNat
            case measure => omega
            case rel =>
              refine ⟨vs ++ [.slice a2 L.length c2], xss ++ [L], by simp; omega, by simp; omega, HR4.out.push ?_ ?_ hown6 hgrow6 hblk6, ?_, ?_⟩
              · rw [show (L).length = L.length from rfl]; exact own_mono HO4.out hwr
              · intro k hk e
                have := (HO4.out.lt k hk).1
                have := (HR.out.2.1.lt k e).2
                omega
              · exact (HC4.out.grown hgrow6 (fun q hq => by have := (HR4.out.2.1.lt q hq).1; omega)).mono (by simp; omega)
              · exact keep_grown HK4.out hgrow6 (fun q hq => (HR4.out.2.1.lt q hq).1)
          · go_wp2_with fail
            refine (c_pick w.heap.size _ _ _ HC4.out (by omega) (by omega)).mono ?_
            rintro e w5 ⟨r4, rfl, r40, r41, hc5, hk5⟩
            have HO5 := Lib.hid (own_kc HO4.out hk5 (by omega))
            have HC5 := Lib.hid hc5
            have HK5 := Lib.hid (HK4.out.trans hk5)
            have HR5 := Lib.hid (HR4.out.kc hk5 s1)
            obtain ⟨z4, rfl⟩ := Int.eq_ofNat_of_zero_le r40
            clear hc5 hk5
            go_wp2_with fail
            refine (c_pick w.heap.size _ 61 _ HC5.out (by omega) (by omega)).mono ?_
            rintro e w7 ⟨r5, rfl, r50, r51, hc7, hk7⟩
            have ho7 := own_kc HO5.out hk7 (by omega)
            have HC7 := Lib.hid hc7
            have HK7 := Lib.hid (HK5.out.trans hk7)
            have HR7 := Lib.hid (HR5.out.kc hk7 s1)
            obtain ⟨g5, cp5, e5, hg5, _⟩ := own_at0 ho7 hl0
            simp only [Value.slice.injEq, true_and] at e5
            obtain ⟨rfl, rfl⟩ := e5
            have hz4 : z4 < L.length := by omega
            have hz4I : (z4 : Int) < (L.length : Int) := by omega
            have e50 := own_cellv ho7 (List.getElem?_eq_getElem hz4) hz4
            have f50 := ho7.frozenAt z4
            have HO7 := Lib.hid ho7
            have HO8 : Hid ((w7.setCell ⟨g5, z4, none⟩ (.int .i64 (1 + r5))).ownsRow wr.heap.size 3 1 (.slice (some ⟨g5, 0, none⟩) L.length c2) L.length ((L.set z4 (1 + r5)).flatMap encI)) := own_setw HO7.out z4 (1 + r5)
            have HC8 : Hid (Cur (w7.setCell ⟨g5, z4, none⟩ (.int .i64 (1 + r5))) w.heap.size _) := HC7.out.set _ _ (by omega)
            have HK8 : Hid (Keep w.heap.size (w.heap.size + 1) w1 (w7.setCell ⟨g5, z4, none⟩ (.int .i64 (1 + r5)))) := keep_own _ _ hg5 HK7.out hwr
            have HR8 : Hid (RowsA (w7.setCell ⟨g5, z4, none⟩ (.int .i64 (1 + r5))) w1.heap.size (.slice a5 vs.length c5) vs xss) := HR7.out.set HR.out.lt hg5
            clear hc7 hk7 ho7
            go_wp2_with (at_builtin; refine wpList_append_at _ rfl _ _ 43 rfl w1.heap.size 24 j0 (.slice none 0 0) 1 24 Try.underlying43 hj0 hy0 hy1 hy2 rfl (by decide) _ _ _ rfl (HR8.out.2.1.alloc _) ⟨w7.heap.size, 0, none⟩ 1 1 [.slice (some ⟨g5, 0, none⟩) L.length c2] rfl rfl (by have h9 := new_cells1 (w7.setCell ⟨g5, z4, none⟩ (.int .i64 (1 + r5))) (.slice (some ⟨g5, 0, none⟩) L.length c2) 24; rw [size_set] at h9; exact h9) (by intro u hu; simp at hu; subst hu; rfl) (by unfold maxLen; omega) (by omega) (by have := HK8.out.size; simp; omega) ?_; intro v6 w6 hown6 hgrow6 hblk6)
            go_roundg (r - (vs.length + 1)).toNat
            case measure => omega
            case rel =>
              refine ⟨vs ++ [.slice (some ⟨g5, 0, none⟩) L.length c2], xss ++ [(L.set z4 (1 + r5))], by simp; omega, by simp; omega, HR8.out.push ?_ ?_ hown6 hgrow6 hblk6, ?_, ?_⟩
              · rw [show ((L.set z4 (1 + r5))).length = L.length from List.length_set]; exact own_mono HO8.out hwr
              · intro k hk e
                have := (HO8.out.lt k hk).1
                have := (HR.out.2.1.lt k e).2
                omega
              · exact (HC8.out.grown hgrow6 (fun q hq => by have := (HR8.out.2.1.lt q hq).1; omega)).mono (by simp; omega)
              · exact keep_grown HK8.out hgrow6 (fun q hq => (HR8.out.2.1.lt q hq).1)
        · have hl0I : ¬ ((0 : Int) < (L.length : Int)) := by omega
          go_wp2_with (at_builtin; refine wpList_append_at _ rfl _ _ 43 rfl w1.heap.size 24 j0 (.slice none 0 0) 1 24 Try.underlying43 hj0 hy0 hy1 hy2 rfl (by decide) _ _ _ rfl (HR3.out.2.1.alloc _) ⟨w3.heap.size, 0, none⟩ 1 1 [.slice a2 L.length c2] rfl rfl (new_cells1 _ _ _) (by intro u hu; simp at hu; subst hu; rfl) (by unfold maxLen; omega) (by omega) (by have := HK3.out.size; simp; omega) ?_; intro v6 w6 hown6 hgrow6 hblk6)
          go_roundg (r - (vs.length + 1)).toNat
          case measure => omega
          case rel =>
            refine ⟨vs ++ [.slice a2 L.length c2], xss ++ [L], by simp; omega, by simp; omega, HR3.out.push ?_ ?_ hown6 hgrow6 hblk6, ?_, ?_⟩
            · rw [show (L).length = L.length from rfl]; exact own_mono HO3.out hwr
            · intro k hk e
              have := (HO3.out.lt k hk).1
              have := (HR.out.2.1.lt k e).2
              omega
            · exact (HC3.out.grown hgrow6 (fun q hq => by have := (HR3.out.2.1.lt q hq).1; omega)).mono (by simp; omega)
            · exact keep_grown HK3.out hgrow6 (fun q hq => (HR3.out.2.1.lt q hq).1)
      · go_wp2
        go_ret
        exact ⟨_, xss, rfl, HR.out.read.mono (Nat.le_of_lt s1), by have := HR.out.1; omega, X1.keep hK.out (Nat.le_refl _)⟩
  · go_wp2_with fail
    refine (c_pick w.heap.size _ 2 _ HC.out (by omega) (by omega)).mono ?_
    rintro e w4 ⟨r2, rfl, r20, r21, hc4, hk4⟩
    have HC4 := Lib.hid hc4
    have HK4 := Lib.hid (HK.out.trans hk4)
    have hr21 : r2 ≤ 1 := by omega
    clear hc4 hk4 HC HK
    have HC := HC4
    have HK := HK4
    clear HC4 HK4
    go_wp2
    go_loopg [4] 30 (fun gg v wr => ∃ (vs : List Value) (xss : List (List Int)), (vs.length : Int) ≤ (20 + r2) ∧ (20 + r2) ≤ vs.length + gg ∧ Hid (RowsA wr w1.heap.size v vs xss) ∧ Hid (Cur wr w.heap.size (6 + 330 * vs.length)) ∧ Hid (Keep w.heap.size (w.heap.size + 1) w1 wr))
    case atStart => exact ⟨[], [], by simp; omega, by simp; omega, RowsA.nil _ _, HC.out, HK.out⟩
    case round =>
      clear HC HK
      obtain ⟨vs, xss, hL, hLg, HR, hC, hK⟩ := hrel
      obtain ⟨a5, c5, rfl, _, q1, q2⟩ := own_form HR.out.2.1
      have hwr := hK.out.size
      by_cases hlt : (vs.length : Int) < (20 + r2)
      · go_wp2_with fail
        refine (c_pairWord w.heap.size _ 2 _ hC.out (by omega) (by omega)).mono ?_
        rintro e w3 ⟨v3, L, rfl, ho3, hl3, hc3, hk3⟩
        obtain ⟨a2, c2, rfl, _, q3, q4⟩ := own_form ho3
        have HO3 := Lib.hid ho3
        have HC3 := Lib.hid hc3
        have HK3 := Lib.hid (hK.out.trans hk3)
        have HR3 := Lib.hid (HR.out.kc hk3 s1)
        clear ho3 hc3 hk3
        by_cases hl0 : 0 < L.length
        · have hl0I : (0 : Int) < (L.length : Int) := by omega
          go_wp2_with fail
          refine (c_one w.heap.size _ 4 _ HC3.out (by omega) (by omega)).mono ?_
          rintro e w4 ⟨t4, rfl, hc4, hk4⟩
          have HO4 := Lib.hid (own_kc HO3.out hk4 (by omega))
          have HC4 := Lib.hid hc4
          have HK4 := Lib.hid (HK3.out.trans hk4)
          have HR4 := Lib.hid (HR3.out.kc hk4 s1)
          clear hc4 hk4
          cases t4
          · go_wp2_with (at_builtin; refine wpList_append_at _ rfl _ _ 43 rfl w1.heap.size 24 j0 (.slice none 0 0) 1 24 Try.underlying43 hj0 hy0 hy1 hy2 rfl (by decide) _ _ _ rfl (HR4.out.2.1.alloc _) ⟨w4.heap.size, 0, none⟩ 1 1 [.slice a2 L.length c2] rfl rfl (new_cells1 _ _ _) (by intro u hu; simp at hu; subst hu; rfl) (by unfold maxLen; omega) (by omega) (by have := HK4.out.size; simp; omega) ?_; intro v6 w6 hown6 hgrow6 hblk6)
            go_roundg ((20 + r2) - (vs.length + 1)).toNat
            case measure => omega
            case rel =>
              refine ⟨vs ++ [.slice a2 L.length c2], xss ++ [L], by simp; omega, by simp; omega, HR4.out.push ?_ ?_ hown6 hgrow6 hblk6, ?_, ?_⟩
              · rw [show (L).length = L.length from rfl]; exact own_mono HO4.out hwr
              · intro k hk e
                have := (HO4.out.lt k hk).1
                have := (HR.out.2.1.lt k e).2
                omega
              · exact (HC4.out.grown hgrow6 (fun q hq => by have := (HR4.out.2.1.lt q hq).1; omega)).mono (by simp; omega)
              · exact keep_grown HK4.out hgrow6 (fun q hq => (HR4.out.2.1.lt q hq).1)
          · go_wp2_with fail
            refine (c_pick w.heap.size _ _ _ HC4.out (by omega) (by omega)).mono ?_
            rintro e w5 ⟨r4, rfl, r40, r41, hc5, hk5⟩
            have HO5 := Lib.hid (own_kc HO4.out hk5 (by omega))
            have HC5 := Lib.hid hc5
            have HK5 := Lib.hid (HK4.out.trans hk5)
            have HR5 := Lib.hid (HR4.out.kc hk5 s1)
            obtain ⟨z4, rfl⟩ := Int.eq_ofNat_of_zero_le r40
            clear hc5 hk5
            go_wp2_with fail
            refine (c_pick w.heap.size _ 61 _ HC5.out (by omega) (by omega)).mono ?_
            rintro e w7 ⟨r5, rfl, r50, r51, hc7, hk7⟩
            have ho7 := own_kc HO5.out hk7 (by omega)
            have HC7 := Lib.hid hc7
            have HK7 := Lib.hid (HK5.out.trans hk7)
            have HR7 := Lib.hid (HR5.out.kc hk7 s1)
            obtain ⟨g5, cp5, e5, hg5, _⟩ := own_at0 ho7 hl0
            simp only [Value.slice.injEq, true_and] at e5
            obtain ⟨rfl, rfl⟩ := e5
            have hz4 : z4 < L.length := by omega
            have hz4I : (z4 : Int) < (L.length : Int) := by omega
            have e50 := own_cellv ho7 (List.getElem?_eq_getElem hz4) hz4
            have f50 := ho7.frozenAt z4
            have HO7 := Lib.hid ho7
            have HO8 : Hid ((w7.setCell ⟨g5, z4, none⟩ (.int .i64 (1 + r5))).ownsRow wr.heap.size 3 1 (.slice (some ⟨g5, 0, none⟩) L.length c2) L.length ((L.set z4 (1 + r5)).flatMap encI)) := own_setw HO7.out z4 (1 + r5)
            have HC8 : Hid (Cur (w7.setCell ⟨g5, z4, none⟩ (.int .i64 (1 + r5))) w.heap.size _) := HC7.out.set _ _ (by omega)
            have HK8 : Hid (Keep w.heap.size (w.heap.size + 1) w1 (w7.setCell ⟨g5, z4, none⟩ (.int .i64 (1 + r5)))) := keep_own _ _ hg5 HK7.out hwr
            have HR8 : Hid (RowsA (w7.setCell ⟨g5, z4, none⟩ (.int .i64 (1 + r5))) w1.heap.size (.slice a5 vs.length c5) vs xss) := HR7.out.set HR.out.lt hg5
            clear hc7 hk7 ho7
            go_wp2_with (at_builtin; refine wpList_append_at _ rfl _ _ 43 rfl w1.heap.size 24 j0 (.slice none 0 0) 1 24 Try.underlying43 hj0 hy0 hy1 hy2 rfl (by decide) _ _ _ rfl (HR8.out.2.1.alloc _) ⟨w7.heap.size, 0, none⟩ 1 1 [.slice (some ⟨g5, 0, none⟩) L.length c2] rfl rfl (by have h9 := new_cells1 (w7.setCell ⟨g5, z4, none⟩ (.int .i64 (1 + r5))) (.slice (some ⟨g5, 0, none⟩) L.length c2) 24; rw [size_set] at h9; exact h9) (by intro u hu; simp at hu; subst hu; rfl) (by unfold maxLen; omega) (by omega) (by have := HK8.out.size; simp; omega) ?_; intro v6 w6 hown6 hgrow6 hblk6)
            go_roundg ((20 + r2) - (vs.length + 1)).toNat
            case measure => omega
            case rel =>
              refine ⟨vs ++ [.slice (some ⟨g5, 0, none⟩) L.length c2], xss ++ [(L.set z4 (1 + r5))], by simp; omega, by simp; omega, HR8.out.push ?_ ?_ hown6 hgrow6 hblk6, ?_, ?_⟩
              · rw [show ((L.set z4 (1 + r5))).length = L.length from List.length_set]; exact own_mono HO8.out hwr
              · intro k hk e
                have := (HO8.out.lt k hk).1
                have := (HR.out.2.1.lt k e).2
                omega
              · exact (HC8.out.grown hgrow6 (fun q hq => by have := (HR8.out.2.1.lt q hq).1; omega)).mono (by simp; omega)
              · exact keep_grown HK8.out hgrow6 (fun q hq => (HR8.out.2.1.lt q hq).1)
        · have hl0I : ¬ ((0 : Int) < (L.length : Int)) := by omega
          go_wp2_with (at_builtin; refine wpList_append_at _ rfl _ _ 43 rfl w1.heap.size 24 j0 (.slice none 0 0) 1 24 Try.underlying43 hj0 hy0 hy1 hy2 rfl (by decide) _ _ _ rfl (HR3.out.2.1.alloc _) ⟨w3.heap.size, 0, none⟩ 1 1 [.slice a2 L.length c2] rfl rfl (new_cells1 _ _ _) (by intro u hu; simp at hu; subst hu; rfl) (by unfold maxLen; omega) (by omega) (by have := HK3.out.size; simp; omega) ?_; intro v6 w6 hown6 hgrow6 hblk6)
          go_roundg ((20 + r2) - (vs.length + 1)).toNat
          case measure => omega
          case rel =>
            refine ⟨vs ++ [.slice a2 L.length c2], xss ++ [L], by simp; omega, by simp; omega, HR3.out.push ?_ ?_ hown6 hgrow6 hblk6, ?_, ?_⟩
            · rw [show (L).length = L.length from rfl]; exact own_mono HO3.out hwr
            · intro k hk e
              have := (HO3.out.lt k hk).1
              have := (HR.out.2.1.lt k e).2
              omega
            · exact (HC3.out.grown hgrow6 (fun q hq => by have := (HR3.out.2.1.lt q hq).1; omega)).mono (by simp; omega)
            · exact keep_grown HK3.out hgrow6 (fun q hq => (HR3.out.2.1.lt q hq).1)
      · go_wp2
        go_ret
        exact ⟨_, xss, rfl, HR.out.read.mono (Nat.le_of_lt s1), by have := HR.out.1; omega, X1.keep hK.out (Nat.le_refl _)⟩
end Go.Proofs.Ytphfgfejacbhpaa
