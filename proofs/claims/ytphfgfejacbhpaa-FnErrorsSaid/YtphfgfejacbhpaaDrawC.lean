
/- Drawn words: what the reference's draws give. -/
import Derived.Test.YtphfgfejacbhpaaCur2
import Derived.Test.YtphfgfejacbhpaaPair
import Derived.Test.YtphfgfejacbhpaaWithPair
import Derived.Test.YtphfgfejacbhpaaSwap
namespace Go.Proofs.Ytphfgfejacbhpaa
open Go.RowKit
/-- What a draw of a list gives: a list of the call's own. -/
def DrawL (b k len : Nat) (w : World) (e : Ending) (w' : World) : Prop := ∃ (v : Value) (xs : List Int), e = .returned v ∧ w'.ownsRow w.heap.size 3 1 v xs.length (xs.flatMap encI) ∧ xs.length ≤ len ∧ Cur w' b k ∧ Keep b (b + 1) w w'
theorem own_kc {w w' : World} {b base sz n : Nat} {e : TypeId} {v : Value} {xs : List Value} (h : w.ownsRow base e sz v n xs) (hk : Keep b (b + 1) w w') (hb : b < base) : w'.ownsRow base e sz v n xs :=
  own_keep h hk (fun k e => by have := (h.lt k e).1; omega)
/-- A store into a list of the call's own that a draw has given. -/
theorem keep_own {w : World} {b g base : Nat} (j : Nat) (v : Value) (hg : base ≤ g) {w0 : World} (hk : Keep b (b + 1) w0 w) (hs : w0.heap.size ≤ base) : Keep b (b + 1) w0 (w.setCell ⟨g, j, none⟩ v) :=
  ⟨hk.os, hk.tape, hk.output, by have := hk.size; simp [World.setCell]; exact this, fun i hi ho => by
    rw [heap_setCell_other _ _ _ _ (by show i ≠ g; omega)]; exact hk.block i hi ho⟩
theorem Cur.keep {w w' : World} {b k : Nat} (h : Cur w b k) (hk : ∀ j, j ≤ b → w'.heap[j]? = w.heap[j]?) : Cur w' b k := by
  obtain ⟨a, n, cap, t, s, xs, h1, h2, h3, h4⟩ := h
  exact ⟨a, n, cap, t, s, xs, by rw [hk b (Nat.le_refl _)]; exact h1, h2, h3.keep fun q _ hq => hk q (by omega), h4⟩
theorem Cur.set {w : World} {b k g : Nat} (h : Cur w b k) (j : Nat) (v : Value) (hg : b < g) : Cur (w.setCell ⟨g, j, none⟩ v) b k :=
  h.keep fun i hi => heap_setCell_other _ _ _ _ (by show i ≠ g; omega)
theorem Cur.grown {w w' : World} {b k : Nat} {row : Option Nat} {o : Obj} (h : Cur w b k) (hg : (w.alloc o).grownBy w' row) (hr : ∀ q, row = some q → b < q) : Cur w' b k :=
  h.keep fun i hi => by
    have := h.lt
    rw [hg.block i (by simp; omega) (fun e => by have := hr i e.symm; omega)]
    exact heap_alloc_old _ _ (by omega)
theorem keep_grown {w0 w w' : World} {b : Nat} {row : Option Nat} {o : Obj} (hk : Keep b (b + 1) w0 w) (hg : (w.alloc o).grownBy w' row) (hr : ∀ q, row = some q → w0.heap.size ≤ q) : Keep b (b + 1) w0 w' :=
  ⟨by rw [hg.os]; exact hk.os, by rw [hg.tape]; exact hk.tape, by rw [hg.output]; exact hk.output, by have := hk.size; have := hg.size; simp at this; omega, fun i hi ho => by
    have h1 := hk.size
    rw [hg.block i (by simp; omega) (fun e => by have := hr i e.symm; omega), heap_alloc_old _ _ (by omega)]
    exact hk.block i hi ho⟩
theorem own_setw {w : World} {base g n c : Nat} {xs : List Int} (h : w.ownsRow base 3 1 (.slice (some ⟨g, 0, none⟩) n c) n (xs.flatMap encI)) (k : Nat) (x : Int) :
    (w.setCell ⟨g, k, none⟩ (.int .i64 x)).ownsRow base 3 1 (.slice (some ⟨g, 0, none⟩) n c) n ((xs.set k x).flatMap encI) := by
  rw [flat_set]
  exact (h.stored k (.int .i64 x)).1
set_option maxRecDepth 100000 in
set_option maxHeartbeats 4000000 in
theorem c_checkWord (b k : Nat) (most : Int) (w : World) (h : Cur w b k) (hk : k ≤ 900000) (hm0 : 0 ≤ most) (hm : most ≤ 50) :
    Calls Try.prog 49 #[.pointer (some ⟨b, 0, none⟩), .int .i64 most] w (DrawL b (k + 300) 51 w) := by
  obtain ⟨i0, hi0, hz0, hz1, hz2⟩ := info_parts Try.info_intC
  have hbs := h.lt
  have C1 := Lib.hid (c_pick b k 8 w h (by omega) (by omega))
  clear h
  go_enter Try.func49, Try.ntmps49
  go_wp2_with fail
  refine C1.out.mono ?_
  rintro e w1 ⟨r, rfl, r0, r1, hc1, hk1⟩
  have HC1 := Lib.hid hc1
  have HK1 := Lib.hid hk1
  clear hc1 hk1 C1
  go_wp2_with fail
  refine (c_one b _ 20 _ HC1.out (by omega) (by omega)).mono ?_
  rintro e w2 ⟨t, rfl, hc2, hk2⟩
  have HC := Lib.hid hc2
  have HK := Lib.hid (HK1.out.trans hk2)
  clear hc2 hk2 HC1 HK1
  have hr7 : r ≤ 7 := by omega
  cases t
  · go_wp2
    go_loopg [5] 60 (fun gg v wr => ∃ (L : List Int), (L.length : Int) ≤ r ∧ r ≤ L.length + gg ∧ wr.ownsRow w.heap.size 3 1 v L.length (L.flatMap encI) ∧ Hid (Cur wr b (k + 4 + 4 * L.length)) ∧ Hid (Keep b (b + 1) w wr))
    case atStart => exact ⟨[], by simp; omega, by simp; omega, World.ownsRow_nil _ _ _ _, HC.out, HK.out⟩
    case round =>
      clear HC HK
      obtain ⟨L, hL, hLg, hown, hC, hK⟩ := hrel
      obtain ⟨a5, c5, rfl, _, q1, q2⟩ := own_form hown
      have HOWN := Lib.hid hown
      have hsz := hK.out.size
      clear hown
      by_cases hlt : (L.length : Int) < r
      · go_wp2_with fail
        refine (c_pick b _ 61 _ hC.out (by omega) (by omega)).mono ?_
        rintro e w3 ⟨r3, rfl, r30, r31, hc3, hk3⟩
        have HC3 := Lib.hid hc3
        have HK3 := Lib.hid (hK.out.trans hk3)
        have HO3 := Lib.hid (own_kc HOWN.out hk3 hbs)
        clear hc3 hk3
        go_wp2_with fail
        refine (c_amongL b _ [1, 5, 7, 60, 61, 1 + r3] 0 62 _ HC3.out (by omega) (by simp) (by simp) (by intro x hx; simp at hx; omega)).mono ?_
        rintro e w4 ⟨r4, rfl, r40, r41, hc4, hk4⟩
        have HC4 := Lib.hid hc4
        have HK4 := Lib.hid (HK3.out.trans hk4)
        have HO4 := Lib.hid (own_kc HO3.out hk4 hbs)
        have hs4 := HK4.out.size
        clear hc4 hk4
        go_wp2_with (at_builtin; refine wpList_append_own _ rfl _ _ 24 rfl w.heap.size 3 i0 (.int .i64 0) 1 8 Try.underlying24 hi0 hz0 hz1 hz2 rfl (by decide) _ _ _ rfl (HO4.out.alloc _) ⟨w4.heap.size, 0, none⟩ 1 1 [.int .i64 r4] rfl rfl (new_cells1 _ _ _) (by intro u hu; simp at hu; subst hu; rfl) (by unfold maxLen; omega) (by omega) (by simp; omega) ?_; intro v6 w6 hown6 hgrow6 _)
        go_roundg (r - (L.length + 1)).toNat
        case measure => omega
        case rel => exact ⟨L ++ [r4], by simp; omega, by simp; omega, own_push hown6, (HC4.out.grown hgrow6 (fun q hq => by have := (HO4.out.lt q hq).1; omega)).mono (by simp; omega), keep_grown HK4.out hgrow6 (fun q hq => (HO4.out.lt q hq).1)⟩
      · by_cases hl0 : 0 < L.length
        · have hl0I : (0 : Int) < (L.length : Int) := by omega
          go_wp2_with fail
          refine (c_one b _ 24 _ hC.out (by omega) (by omega)).mono ?_
          rintro e w3 ⟨t3, rfl, hc3, hk3⟩
          have HC3 := Lib.hid hc3
          have HK3 := Lib.hid (hK.out.trans hk3)
          have HO3 := Lib.hid (own_kc HOWN.out hk3 hbs)
          clear hc3 hk3
          cases t3
          · go_wp2
            go_ret
            exact ⟨_, L, rfl, HO3.out, by omega, HC3.out.mono (by omega), HK3.out⟩
          · go_wp2_with fail
            refine (c_pick b _ _ _ HC3.out (by omega) (by omega)).mono ?_
            rintro e w4 ⟨r4, rfl, r40, r41, hc4, hk4⟩
            have HC4 := Lib.hid hc4
            have HK4 := Lib.hid (HK3.out.trans hk4)
            have HO4 := Lib.hid (own_kc HO3.out hk4 hbs)
            obtain ⟨q4, rfl⟩ := Int.eq_ofNat_of_zero_le r40
            clear hc4 hk4
            go_wp2_with fail
            refine (c_amongL b _ [0, 62, 61] 0 62 _ HC4.out (by omega) (by simp) (by simp) (by intro x hx; simp at hx; omega)).mono ?_
            rintro e w5 ⟨r5, rfl, r50, r51, hc5, hk5⟩
            have HC5 := Lib.hid hc5
            have HK5 := Lib.hid (HK4.out.trans hk5)
            have ho5 := own_kc HO4.out hk5 hbs
            obtain ⟨g5, cp5, e5, hg5, _⟩ := own_at0 ho5 hl0
            simp only [Value.slice.injEq, true_and] at e5
            obtain ⟨rfl, rfl⟩ := e5
            have hq4 : q4 < L.length := by omega
            have hq4I : (q4 : Int) < (L.length : Int) := by omega
            have e50 := own_cellv ho5 (List.getElem?_eq_getElem hq4) hq4
            have f50 := ho5.frozenAt q4
            have HO5 := Lib.hid ho5
            clear hc5 hk5 ho5
            go_wp2
            go_ret
            exact ⟨_, L.set q4 r5, rfl, by rw [List.length_set]; exact own_setw HO5.out q4 r5, by rw [List.length_set]; omega, (HC5.out.set _ _ (by omega)).mono (by omega), keep_own _ _ hg5 HK5.out (Nat.le_refl _)⟩
        · have hl0I : ¬ ((0 : Int) < (L.length : Int)) := by omega
          go_wp2
          go_ret
          exact ⟨_, L, rfl, HOWN.out, by omega, hC.out.mono (by omega), hK.out⟩
  · go_wp2_with fail
    refine (c_pick b _ 2 _ HC.out (by omega) (by omega)).mono ?_
    rintro e w22 ⟨r2, rfl, r20, r21, hc2, hk2⟩
    have HC2 := Lib.hid hc2
    have HK2 := Lib.hid (HK.out.trans hk2)
    have hr21 : r2 ≤ 1 := by omega
    clear hc2 hk2 HC HK
    have HC := HC2
    have HK := HK2
    clear HC2 HK2
    go_wp2
    go_loopg [5] 60 (fun gg v wr => ∃ (L : List Int), (L.length : Int) ≤ (most + r2) ∧ (most + r2) ≤ L.length + gg ∧ wr.ownsRow w.heap.size 3 1 v L.length (L.flatMap encI) ∧ Hid (Cur wr b (k + 6 + 4 * L.length)) ∧ Hid (Keep b (b + 1) w wr))
    case atStart => exact ⟨[], by simp; omega, by simp; omega, World.ownsRow_nil _ _ _ _, HC.out, HK.out⟩
    case round =>
      clear HC HK
      obtain ⟨L, hL, hLg, hown, hC, hK⟩ := hrel
      obtain ⟨a5, c5, rfl, _, q1, q2⟩ := own_form hown
      have HOWN := Lib.hid hown
      have hsz := hK.out.size
      clear hown
      by_cases hlt : (L.length : Int) < (most + r2)
      · go_wp2_with fail
        refine (c_pick b _ 61 _ hC.out (by omega) (by omega)).mono ?_
        rintro e w3 ⟨r3, rfl, r30, r31, hc3, hk3⟩
        have HC3 := Lib.hid hc3
        have HK3 := Lib.hid (hK.out.trans hk3)
        have HO3 := Lib.hid (own_kc HOWN.out hk3 hbs)
        clear hc3 hk3
        go_wp2_with fail
        refine (c_amongL b _ [1, 5, 7, 60, 61, 1 + r3] 0 62 _ HC3.out (by omega) (by simp) (by simp) (by intro x hx; simp at hx; omega)).mono ?_
        rintro e w4 ⟨r4, rfl, r40, r41, hc4, hk4⟩
        have HC4 := Lib.hid hc4
        have HK4 := Lib.hid (HK3.out.trans hk4)
        have HO4 := Lib.hid (own_kc HO3.out hk4 hbs)
        have hs4 := HK4.out.size
        clear hc4 hk4
        go_wp2_with (at_builtin; refine wpList_append_own _ rfl _ _ 24 rfl w.heap.size 3 i0 (.int .i64 0) 1 8 Try.underlying24 hi0 hz0 hz1 hz2 rfl (by decide) _ _ _ rfl (HO4.out.alloc _) ⟨w4.heap.size, 0, none⟩ 1 1 [.int .i64 r4] rfl rfl (new_cells1 _ _ _) (by intro u hu; simp at hu; subst hu; rfl) (by unfold maxLen; omega) (by omega) (by simp; omega) ?_; intro v6 w6 hown6 hgrow6 _)
        go_roundg ((most + r2) - (L.length + 1)).toNat
        case measure => omega
        case rel => exact ⟨L ++ [r4], by simp; omega, by simp; omega, own_push hown6, (HC4.out.grown hgrow6 (fun q hq => by have := (HO4.out.lt q hq).1; omega)).mono (by simp; omega), keep_grown HK4.out hgrow6 (fun q hq => (HO4.out.lt q hq).1)⟩
      · by_cases hl0 : 0 < L.length
        · have hl0I : (0 : Int) < (L.length : Int) := by omega
          go_wp2_with fail
          refine (c_one b _ 24 _ hC.out (by omega) (by omega)).mono ?_
          rintro e w3 ⟨t3, rfl, hc3, hk3⟩
          have HC3 := Lib.hid hc3
          have HK3 := Lib.hid (hK.out.trans hk3)
          have HO3 := Lib.hid (own_kc HOWN.out hk3 hbs)
          clear hc3 hk3
          cases t3
          · go_wp2
            go_ret
            exact ⟨_, L, rfl, HO3.out, by omega, HC3.out.mono (by omega), HK3.out⟩
          · go_wp2_with fail
            refine (c_pick b _ _ _ HC3.out (by omega) (by omega)).mono ?_
            rintro e w4 ⟨r4, rfl, r40, r41, hc4, hk4⟩
            have HC4 := Lib.hid hc4
            have HK4 := Lib.hid (HK3.out.trans hk4)
            have HO4 := Lib.hid (own_kc HO3.out hk4 hbs)
            obtain ⟨q4, rfl⟩ := Int.eq_ofNat_of_zero_le r40
            clear hc4 hk4
            go_wp2_with fail
            refine (c_amongL b _ [0, 62, 61] 0 62 _ HC4.out (by omega) (by simp) (by simp) (by intro x hx; simp at hx; omega)).mono ?_
            rintro e w5 ⟨r5, rfl, r50, r51, hc5, hk5⟩
            have HC5 := Lib.hid hc5
            have HK5 := Lib.hid (HK4.out.trans hk5)
            have ho5 := own_kc HO4.out hk5 hbs
            obtain ⟨g5, cp5, e5, hg5, _⟩ := own_at0 ho5 hl0
            simp only [Value.slice.injEq, true_and] at e5
            obtain ⟨rfl, rfl⟩ := e5
            have hq4 : q4 < L.length := by omega
            have hq4I : (q4 : Int) < (L.length : Int) := by omega
            have e50 := own_cellv ho5 (List.getElem?_eq_getElem hq4) hq4
            have f50 := ho5.frozenAt q4
            have HO5 := Lib.hid ho5
            clear hc5 hk5 ho5
            go_wp2
            go_ret
            exact ⟨_, L.set q4 r5, rfl, by rw [List.length_set]; exact own_setw HO5.out q4 r5, by rw [List.length_set]; omega, (HC5.out.set _ _ (by omega)).mono (by omega), keep_own _ _ hg5 HK5.out (Nat.le_refl _)⟩
        · have hl0I : ¬ ((0 : Int) < (L.length : Int)) := by omega
          go_wp2
          go_ret
          exact ⟨_, L, rfl, HOWN.out, by omega, hC.out.mono (by omega), hK.out⟩
set_option maxRecDepth 100000 in
set_option maxHeartbeats 4000000 in
theorem c_pairWord (b k : Nat) (wrong : Int) (w : World) (h : Cur w b k) (hk : k ≤ 800000) (hm : wrong ≤ 50) :
    Calls Try.prog 53 #[.pointer (some ⟨b, 0, none⟩), .int .i64 wrong] w (DrawL b (k + 310) 53 w) := by
  obtain ⟨i0, hi0, hz0, hz1, hz2⟩ := info_parts Try.info_intC
  have hbs := h.lt
  have C1 := Lib.hid (c_checkWord b k 48 w h (by omega) (by omega) (by omega))
  clear h
  go_enter Try.func53, Try.ntmps53
  go_wp2_with fail
  refine C1.out.mono ?_
  rintro e w1 ⟨v1, L, rfl, ho1, hl1, hc1, hk1⟩
  have HC1 := Lib.hid hc1
  have HK1 := Lib.hid hk1
  have HR1 := Lib.hid (Row.of_own encI_len ho1)
  obtain ⟨a1, p1, rfl, _, q1, q2⟩ := own_form ho1
  have HO1 := Lib.hid ho1
  clear hc1 hk1 C1 ho1
  go_wp2_with fail
  refine (c_ckWord _ _ _ L 48 _ HR1.out).mono ?_
  rintro e w' ⟨rfl, rfl⟩
  cases e48 : wordB 48 L
  · go_wp2
    go_ret
    exact ⟨_, L, rfl, HO1.out, by omega, HC1.out.mono (by omega), HK1.out⟩
  · have h50 : wordB 50 L = true := wordB_mono e48 (by omega)
    have hl48 : L.length ≤ 48 := by
      simp only [wordB, Bool.and_eq_true, decide_eq_true_eq] at e48
      omega
    have hs1 := HK1.out.size
    clear e48
    go_wp2_with fail
    refine (c_ckPair _ _ _ L _ HR1.out h50).mono ?_
    rintro e w' ⟨rfl, rfl⟩
    go_wp2_with (at_builtin; refine wpList_append_own _ rfl _ _ 24 rfl w.heap.size 3 i0 (.int .i64 0) 1 8 Try.underlying24 hi0 hz0 hz1 hz2 rfl (by decide) _ _ _ rfl (HO1.out.alloc _) ⟨w1.heap.size, 0, none⟩ 2 2 [.int .i64 (pairA L), .int .i64 (pairB L)] rfl rfl (new_cells2 _ _ _ _) (by intro u hu; simp at hu; rcases hu with rfl | rfl <;> rfl) (by unfold maxLen; omega) (by omega) (by simp; omega) ?_; intro v6 w6 hown6 hgrow6 _; obtain ⟨a6, c6, rfl, _, q61, q62⟩ := own_form hown6)
    have HC6 := Lib.hid (HC1.out.grown hgrow6 (fun q hq => by have := (HO1.out.lt q hq).1; omega))
    have HK6 := Lib.hid (keep_grown HK1.out hgrow6 (fun q hq => (HO1.out.lt q hq).1))
    have HO6 := Lib.hid (own_push2 hown6)
    have hL6 : (L ++ [pairA L, pairB L]).length = L.length + 2 := by simp
    obtain ⟨M, hM⟩ : ∃ M, M = L ++ [pairA L, pairB L] := ⟨_, rfl⟩
    rw [← hM] at HO6 hL6
    rw [hL6] at HO6
    have HL6 := Lib.hid hL6
    have hl0 : 0 < L.length + 2 := by omega
    have hl50 : M.length ≤ 50 := by omega
    clear hown6 hgrow6 hM hL6
    refine (c_one b _ wrong _ HC6.out (by omega) (by omega)).mono ?_
    rintro e w3 ⟨t3, rfl, hc3, hk3⟩
    have HC3 := Lib.hid hc3
    have HK3 := Lib.hid (HK6.out.trans hk3)
    have HO3 := Lib.hid (own_kc HO6.out hk3 hbs)
    clear hc3 hk3
    cases t3
    · go_wp2
      go_ret
      exact ⟨_, M, rfl, by rw [HL6.out]; exact HO3.out, by omega, HC3.out.mono (by omega), HK3.out⟩
    · go_wp2_with fail
      refine (c_pick b _ _ _ HC3.out (by omega) (by omega)).mono ?_
      rintro e w4 ⟨r4, rfl, r40, r41, hc4, hk4⟩
      have HC4 := Lib.hid hc4
      have HK4 := Lib.hid (HK3.out.trans hk4)
      have HO4 := Lib.hid (own_kc HO3.out hk4 hbs)
      obtain ⟨q4, rfl⟩ := Int.eq_ofNat_of_zero_le r40
      clear hc4 hk4
      go_wp2_with fail
      refine (c_pick b _ 61 _ HC4.out (by omega) (by omega)).mono ?_
      rintro e w5 ⟨r5, rfl, r50, r51, hc5, hk5⟩
      have HC5 := Lib.hid hc5
      have HK5 := Lib.hid (HK4.out.trans hk5)
      have ho5 := own_kc HO4.out hk5 hbs
      obtain ⟨g5, cp5, e5, hg5, _⟩ := own_at0 ho5 hl0
      simp only [Value.slice.injEq, true_and] at e5
      obtain ⟨rfl, rfl⟩ := e5
      have hq4 : q4 < (L.length + 2) := by omega
      have hq4I : (q4 : Int) < (((L.length + 2) : Nat) : Int) := by omega
      have e50 := own_cellv ho5 (List.getElem?_eq_getElem (l := M) (by rw [HL6.out]; exact hq4)) hq4
      have f50 := ho5.frozenAt q4
      have HO5 := Lib.hid ho5
      clear hc5 hk5 ho5
      go_wp2
      go_ret
      exact ⟨_, (M).set q4 (1 + r5), rfl, by rw [List.length_set, HL6.out]; exact own_setw HO5.out q4 (1 + r5), by rw [List.length_set]; omega, (HC5.out.set _ _ (by omega)).mono (by omega), keep_own _ _ hg5 HK5.out (Nat.le_refl _)⟩
set_option maxRecDepth 100000 in
theorem c_wordIndex (b k : Nat) (a : Option Addr) (n cap : Nat) (w : World) (h : Cur w b k) (hk : k ≤ 900000) (hn : n ≤ 1000) (hc : n ≤ cap) (hc2 : cap ≤ 9223372036854775807) :
    Calls Try.prog 54 #[.pointer (some ⟨b, 0, none⟩), .slice a n cap] w (DrawI b (k + 6) (-1) 1000 w) := by
  have C1 := Lib.hid (c_pick b k 16 w h (by omega) (by omega))
  clear h
  go_enter Try.func54, Try.ntmps54
  go_wp2_with fail
  refine C1.out.mono ?_
  rintro e w1 ⟨r1, rfl, r10, r11, hc1, hk1⟩
  have HC1 := Lib.hid hc1
  have HK1 := Lib.hid hk1
  have hd0 : 0 ≤ r1 / 15 := by omega
  have hd1 : r1 / 15 ≤ 1 := by omega
  clear hc1 hk1 C1
  go_wp2_with fail
  refine (c_pick b _ _ _ HC1.out (by omega) (by omega)).mono ?_
  rintro e w2 ⟨r2, rfl, r20, r21, hc2', hk2⟩
  have HC2 := Lib.hid hc2'
  have HK2 := Lib.hid (HK1.out.trans hk2)
  clear hc2' hk2
  go_wp2_with fail
  refine (c_pick b _ 24 _ HC2.out (by omega) (by omega)).mono ?_
  rintro e w3 ⟨r3, rfl, r30, r31, hc3, hk3⟩
  have HC3 := Lib.hid hc3
  have HK3 := Lib.hid (HK2.out.trans hk3)
  have he0 : 0 ≤ r3 / 23 := by omega
  have he1 : r3 / 23 ≤ 1 := by omega
  clear hc3 hk3
  go_wp2
  go_ret
  exact DrawI.mk (by omega) (by omega) HC3.out HK3.out (by omega)
end Go.Proofs.Ytphfgfejacbhpaa
