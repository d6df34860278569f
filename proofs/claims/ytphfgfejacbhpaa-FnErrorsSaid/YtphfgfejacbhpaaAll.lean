
/- CheckAll of the program and of the reference: their contracts. -/
import Derived.Test.YtphfgfejacbhpaaCorrect
import Derived.Test.YtphfgfejacbhpaaSS
namespace Go.Proofs.Ytphfgfejacbhpaa
open Go.RowKit

def kindN (g : List Int) : Nat := if holdB g then 0 else if (coH g).isSome then 1 else 2
theorem kind_lt (g : List Int) : kindN g < 3 := by unfold kindN; split <;> (try split) <;> omega
def cup (C : List Int) (g : List Int) : List Int := C.set (kindN g) (C.getD (kindN g) 0 + 1)
def caB (xss : List (List Int)) : Bool := decide ((xss.length : Int) ≤ 20) && xss.all (wordB 50)
def caV (xss : List (List Int)) : List Int := if caB xss then xss.foldl cup [0, 0, 0] else []
theorem cup_len (C g : List Int) : (cup C g).length = C.length := by simp [cup]
theorem fold_len (xss : List (List Int)) : ∀ C, (xss.foldl cup C).length = C.length := by
  induction xss with
  | nil => intro C; rfl
  | cons x r ih => intro C; rw [List.foldl_cons, ih, cup_len]
theorem caV_len (xss : List (List Int)) : (caV xss).length ≤ 1099511627776 := by
  unfold caV; split
  · rw [fold_len]; simp
  · simp
def bdC (B : Int) (T : List Int) : Prop := ∀ x ∈ T, 0 ≤ x ∧ x ≤ B
theorem cup_bd {B : Int} {T : List Int} (h : bdC B T) (h0 : 0 ≤ B) (g : List Int) : bdC (B + 1) (cup T g) := by
  intro x hx
  rcases List.mem_or_eq_of_mem_set hx with hx | rfl
  · have := h x hx; omega
  · rw [List.getD_eq_getElem?_getD]
    cases e : T[kindN g]? with
    | none => simp; omega
    | some y => have := h y (List.mem_of_getElem? e); simp; omega
theorem own_setn {w : World} {base g n c : Nat} {xs : List Int} (h : w.ownsRow base 3 1 (.slice (some ⟨g, 0, none⟩) n c) n (xs.flatMap encI)) (k : Nat) (x : Int) :
    (w.setCell ⟨g, k, none⟩ (.int .i64 x)).ownsRow base 3 1 (.slice (some ⟨g, 0, none⟩) n c) n ((xs.set k x).flatMap encI) := by
  rw [flat_set]
  exact (h.stored k (.int .i64 x)).1
theorem made_ints (n : Nat) : (madeCells (Value.int .i64 0).cells (n * 1)).toList = (List.replicate n (0 : Int)).flatMap encI := by
  rw [flat_map]
  apply List.ext_getElem?
  intro i
  by_cases hi : i < n
  · simp [madeCells, hi, Nat.mod_one, Value.cells]
  · simp [madeCells, hi]
theorem all_dropW {f : List Int → Bool} {xss : List (List Int)} {k : Nat} {x : List Int} (h : xss[k]? = some x) : (xss.drop k).all f = (f x && (xss.drop (k + 1)).all f) := by
  have hk : k < xss.length := (List.getElem?_eq_some_iff.1 h).1
  have e : xss.drop k = x :: xss.drop (k + 1) := by
    rw [List.drop_eq_getElem_cons hk]; congr 1; exact (List.getElem?_eq_some_iff.1 h).2
  rw [e, List.all_cons]
theorem co_eq {g : List Int} (h50 : wordB 50 g = true) : coO g = coH g := by unfold coO; rw [h50]; rfl
theorem c_sCo (v : Value) (la ha : Nat) (xs : List Int) (w : World) (h : Ints w la ha v xs) (hh : ha ≤ w.heap.size) (h50 : wordB 50 xs = true) :
    Calls Try.prog 24 #[v] w fun e w' => ∃ r, e = .returned (.tuple #[r, .bool (coH xs).isSome]) ∧ w'.ownsRow w.heap.size 3 1 r ((coH xs).getD []).length (((coH xs).getD []).flatMap encI) ∧ Ext w w' := by
  rw [← co_eq h50]; exact c_sCorrectOne v la ha xs w h hh
set_option maxRecDepth 100000 in
set_option maxHeartbeats 2000000 in
theorem c_iCheckAll (va : Value) (la ha : Nat) (xss : List (List Int)) (w : World) (h : Intss w la ha va xss) (hh : ha ≤ w.heap.size) :
    Calls Try.prog 35 #[va] w fun e w' => ∃ r, e = .returned (.tuple #[r, .bool (caB xss)]) ∧ w'.ownsRow w.heap.size 3 1 r (caV xss).length ((caV xss).flatMap encI) ∧ Ext w w' := by
  obtain ⟨i0, hi0, hz0, hz1, hz2⟩ := info_parts Try.info_intC
  obtain ⟨Z, hZ⟩ : ∃ r, r = caV xss := ⟨_, rfl⟩
  obtain ⟨b, hb⟩ : ∃ r, r = caB xss := ⟨_, rfl⟩
  rw [← hZ, ← hb]
  unfold caV at hZ
  rw [← hb] at hZ
  unfold caB at hb
  obtain ⟨a, cap, rfl, m1, m2⟩ := h.form
  have H := Lib.hid h
  obtain ⟨m, hm⟩ : ∃ m, m = xss.length := ⟨_, rfl⟩
  rw [← hm] at m1 H hb ⊢
  have HM := Lib.hid hm
  clear h hm
  by_cases h20 : (m : Int) ≤ 20
  · rw [decide_eq_true h20, Bool.true_and] at hb
    have HBW := Lib.hid hb
    have HZ := Lib.hid hZ
    clear hb hZ
    go_enter Try.func35, Try.ntmps35
    go_wp2_with (at_make; refine wpList_make_full _ rfl _ _ 24 rfl w.heap.size 3 i0 (.int .i64 0) 1 Try.underlying24 hi0 hz0 hz1 _ _ _ _ 3 rfl rfl rfl rfl (by rw [hz2]; omega) (by unfold maxLen; omega) (Nat.le_refl _) ?_; intro w1 hown hgrow)
    rw [made_ints] at hown
    have hx1 : Ext w w1 := (Ext.refl w).gr hgrow (by simp)
    have hOWN := Lib.hid hown
    clear hgrow hown
    go_loopw [15] (fun t wr => ∃ (k : Nat) (C : List Int), k ≤ m ∧ t = .int .i64 k ∧ wr.ownsRow w.heap.size 3 1 (.slice (some ⟨w.heap.size, 0, none⟩) 3 3) 3 (C.flatMap encI) ∧ Hid (C = (xss.take k).foldl cup [0, 0, 0]) ∧ Hid (bdC k C) ∧ Hid (b = (xss.drop k).all (wordB 50)) ∧ Ext w wr) (fun t _ => m - (intOf t).toNat)
    case atStart => exact ⟨0, _, by omega, rfl, hOWN.out, rfl, (fun x hx => by simp at hx; omega), HBW.out, hx1⟩
    case round =>
      clear hOWN
      obtain ⟨k, C, hk, rfl, hown, hC, hB, hS, hx⟩ := hrel
      by_cases hlt : k < m
      · obtain ⟨b1, o1, a2, c2, g, rfl, hg, c0, HG, q1, q2⟩ := Intss_at H.out hlt
        have d0 := hx.cell c0
        have hltI : (k : Int) < (m : Int) := by omega
        have hs := hS.out.trans (all_dropW hg.out)
        have hCl : C.length = 3 := by have := hown.1; rw [flat_map, List.length_map] at this; omega
        have HOWN := Lib.hid hown
        clear c0 hown
        obtain ⟨t, ht⟩ : ∃ t, t = wordB 50 g := ⟨_, rfl⟩
        rw [← ht] at hs
        have CW : Hid (∀ W, Ext w W → Calls Try.prog 39 #[.slice a2 g.length c2] W fun e w' => e = .returned (.bool t) ∧ W = w') := fun W hX => by
          rw [ht]; exact c_isWord _ la ha g 0 W (HG.out.ext hX hh)
        cases t
        · have HF : Hid (b = false) := by unfold Hid; rw [hs]; rfl
          clear hs ht hCl
          have HZ2 : Hid (Z = []) := by unfold Hid; rw [HZ.out, HF.out]; rfl
          go_wp2_with (go_at_call 39; refine (CW.out _ hx).mono ?_; rintro e w' ⟨rfl, rfl⟩)
          go_ret2
          refine ⟨_, by rw [HF.out]; rfl, ?_, hx⟩
          rw [HZ2.out]
          exact World.ownsRow_nil _ _ _ _
        · have HS : Hid (b = (xss.drop (k + 1)).all (wordB 50)) := by unfold Hid; rw [hs]; rfl
          have h50 : wordB 50 g = true := ht.symm
          obtain ⟨q, hq⟩ : ∃ q, q = (coH g).isSome := ⟨_, rfl⟩
          obtain ⟨u, hu⟩ : ∃ u, u = holdB g := ⟨_, rfl⟩
          have CO : Hid (∀ W, Ext w W → Calls Try.prog 46 #[.slice a2 g.length c2] W fun e w' => ∃ a3 n3 c3, e = .returned (.tuple #[.slice a3 n3 c3, .bool q]) ∧ Ext W w') := fun W hX => by
            rw [hq]
            refine (c_correctOne _ la ha g W (HG.out.ext hX hh) (Nat.le_trans hh hX.size) h50).mono fun e w' ⟨r, he, ho, hx⟩ => ?_
            obtain ⟨a3, c3, hv, _⟩ := own_form ho
            exact ⟨a3, _, c3, by rw [he, hv], hx⟩
          have CH : Hid (∀ W, Ext w W → Calls Try.prog 61 #[.slice a2 g.length c2] W fun e w' => e = .returned (.bool u) ∧ W = w') := fun W hX => by
            rw [hu]; exact c_holdsAsPair _ la ha g W (HG.out.ext hX hh) h50
          have hkd : kindN g = if u then 0 else if q then 1 else 2 := by unfold kindN; rw [hu, hq]
          clear hs ht h50 hq hu
          cases u
          · cases q
            · have hkind : Hid (kindN g = 2) := hkd
              clear hkd
              obtain ⟨y, hy⟩ : ∃ y, C[2]? = some y := ⟨_, List.getElem?_eq_getElem (by omega)⟩
              have hy2 := hB.out y (List.mem_of_getElem? hy)
              have HY := Lib.hid hy
              have hCC : Hid (C.set 2 (y + 1) = (xss.take (k + 1)).foldl cup [0, 0, 0]) := by
                unfold Hid
                rw [take_snoc' hg.out, List.foldl_append, ← hC.out]
                show _ = cup C g
                unfold cup
                rw [hkind.out, List.getD_eq_getElem?_getD, hy]; rfl
              have hBB : Hid (bdC (k + 1 : Nat) (C.set 2 (y + 1))) := by
                have h9 := cup_bd hB.out (by omega) g
                unfold cup at h9
                rw [hkind.out, List.getD_eq_getElem?_getD, hy] at h9
                exact h9
              have y63 : y + 1 ≤ 9223372036854775807 := by omega
              have y0 : 0 ≤ y + 1 := by omega
              clear hy hy2 hCl
              go_wp2_with (first | (go_at_call 39; refine (CW.out _ hx).mono ?_; rintro e w' ⟨rfl, rfl⟩) | (go_at_call 46; refine (CO.out _ hx).mono ?_; rintro e w2 ⟨a3, n3, c3, rfl, hx2⟩; have o2 := own_ext HOWN.out hx2; have e0 := own_cellv o2 HY.out (by omega); have z0 := o2.frozenAt 2) | (go_at_call 61; refine (CH.out _ (hx.trans hx2)).mono ?_; rintro e w' ⟨rfl, rfl⟩))
              go_roundw
              case rel => exact ⟨k + 1, _, by omega, by go_num, own_setn (own_ext HOWN.out hx2) 2 (y + 1), hCC.out, hBB.out, HS.out, (hx.trans hx2).st (Nat.le_refl _) _⟩
              case measure => simp [intOf]; omega
            · have hkind : Hid (kindN g = 1) := hkd
              clear hkd
              obtain ⟨y, hy⟩ : ∃ y, C[1]? = some y := ⟨_, List.getElem?_eq_getElem (by omega)⟩
              have hy2 := hB.out y (List.mem_of_getElem? hy)
              have HY := Lib.hid hy
              have hCC : Hid (C.set 1 (y + 1) = (xss.take (k + 1)).foldl cup [0, 0, 0]) := by
                unfold Hid
                rw [take_snoc' hg.out, List.foldl_append, ← hC.out]
                show _ = cup C g
                unfold cup
                rw [hkind.out, List.getD_eq_getElem?_getD, hy]; rfl
              have hBB : Hid (bdC (k + 1 : Nat) (C.set 1 (y + 1))) := by
                have h9 := cup_bd hB.out (by omega) g
                unfold cup at h9
                rw [hkind.out, List.getD_eq_getElem?_getD, hy] at h9
                exact h9
              have y63 : y + 1 ≤ 9223372036854775807 := by omega
              have y0 : 0 ≤ y + 1 := by omega
              clear hy hy2 hCl
              go_wp2_with (first | (go_at_call 39; refine (CW.out _ hx).mono ?_; rintro e w' ⟨rfl, rfl⟩) | (go_at_call 46; refine (CO.out _ hx).mono ?_; rintro e w2 ⟨a3, n3, c3, rfl, hx2⟩; have o2 := own_ext HOWN.out hx2; have e0 := own_cellv o2 HY.out (by omega); have z0 := o2.frozenAt 1) | (go_at_call 61; refine (CH.out _ (hx.trans hx2)).mono ?_; rintro e w' ⟨rfl, rfl⟩))
              go_roundw
              case rel => exact ⟨k + 1, _, by omega, by go_num, own_setn (own_ext HOWN.out hx2) 1 (y + 1), hCC.out, hBB.out, HS.out, (hx.trans hx2).st (Nat.le_refl _) _⟩
              case measure => simp [intOf]; omega
          · have hkind : Hid (kindN g = 0) := hkd
            clear hkd
            cases q
            · obtain ⟨y, hy⟩ : ∃ y, C[0]? = some y := ⟨_, List.getElem?_eq_getElem (by omega)⟩
              have hy2 := hB.out y (List.mem_of_getElem? hy)
              have HY := Lib.hid hy
              have hCC : Hid (C.set 0 (y + 1) = (xss.take (k + 1)).foldl cup [0, 0, 0]) := by
                unfold Hid
                rw [take_snoc' hg.out, List.foldl_append, ← hC.out]
                show _ = cup C g
                unfold cup
                rw [hkind.out, List.getD_eq_getElem?_getD, hy]; rfl
              have hBB : Hid (bdC (k + 1 : Nat) (C.set 0 (y + 1))) := by
                have h9 := cup_bd hB.out (by omega) g
                unfold cup at h9
                rw [hkind.out, List.getD_eq_getElem?_getD, hy] at h9
                exact h9
              have y63 : y + 1 ≤ 9223372036854775807 := by omega
              have y0 : 0 ≤ y + 1 := by omega
              clear hy hy2 hCl
              go_wp2_with (first | (go_at_call 39; refine (CW.out _ hx).mono ?_; rintro e w' ⟨rfl, rfl⟩) | (go_at_call 46; refine (CO.out _ hx).mono ?_; rintro e w2 ⟨a3, n3, c3, rfl, hx2⟩; have o2 := own_ext HOWN.out hx2; have e0 := own_cellv o2 HY.out (by omega); have z0 := o2.frozenAt 0) | (go_at_call 61; refine (CH.out _ (hx.trans hx2)).mono ?_; rintro e w' ⟨rfl, rfl⟩))
              go_roundw
              case rel => exact ⟨k + 1, _, by omega, by go_num, own_setn (own_ext HOWN.out hx2) 0 (y + 1), hCC.out, hBB.out, HS.out, (hx.trans hx2).st (Nat.le_refl _) _⟩
              case measure => simp [intOf]; omega
            · obtain ⟨y, hy⟩ : ∃ y, C[0]? = some y := ⟨_, List.getElem?_eq_getElem (by omega)⟩
              have hy2 := hB.out y (List.mem_of_getElem? hy)
              have HY := Lib.hid hy
              have hCC : Hid (C.set 0 (y + 1) = (xss.take (k + 1)).foldl cup [0, 0, 0]) := by
                unfold Hid
                rw [take_snoc' hg.out, List.foldl_append, ← hC.out]
                show _ = cup C g
                unfold cup
                rw [hkind.out, List.getD_eq_getElem?_getD, hy]; rfl
              have hBB : Hid (bdC (k + 1 : Nat) (C.set 0 (y + 1))) := by
                have h9 := cup_bd hB.out (by omega) g
                unfold cup at h9
                rw [hkind.out, List.getD_eq_getElem?_getD, hy] at h9
                exact h9
              have y63 : y + 1 ≤ 9223372036854775807 := by omega
              have y0 : 0 ≤ y + 1 := by omega
              clear hy hy2 hCl
              go_wp2_with (first | (go_at_call 39; refine (CW.out _ hx).mono ?_; rintro e w' ⟨rfl, rfl⟩) | (go_at_call 46; refine (CO.out _ hx).mono ?_; rintro e w2 ⟨a3, n3, c3, rfl, hx2⟩; have o2 := own_ext HOWN.out hx2; have e0 := own_cellv o2 HY.out (by omega); have z0 := o2.frozenAt 0) | (go_at_call 61; refine (CH.out _ (hx.trans hx2)).mono ?_; rintro e w' ⟨rfl, rfl⟩))
              go_roundw
              case rel => exact ⟨k + 1, _, by omega, by go_num, own_setn (own_ext HOWN.out hx2) 0 (y + 1), hCC.out, hBB.out, HS.out, (hx.trans hx2).st (Nat.le_refl _) _⟩
              case measure => simp [intOf]; omega
      · have hge : ¬ ((k : Int) < (m : Int)) := by omega
        have HT : Hid (b = true) := by
          have e := hS.out
          rw [List.drop_eq_nil_of_le (by rw [← HM.out]; omega)] at e
          exact e
        have HZC : Hid (Z = C) := by
          unfold Hid
          rw [HZ.out, HT.out, hC.out, List.take_of_length_le (by rw [← HM.out]; omega)]; rfl
        have hCl : C.length = 3 := by have := hown.1; rw [flat_map, List.length_map] at this; omega
        have HCL := Lib.hid hCl
        have HOWN := Lib.hid hown
        clear hown hCl
        go_wp2
        go_ret2
        refine ⟨_, by rw [HT.out]; rfl, ?_, hx⟩
        rw [HZC.out, HCL.out]
        exact HOWN.out
  · rw [decide_eq_false h20, Bool.false_and] at hb
    subst hb
    simp at hZ; subst hZ
    go_enter Try.func35, Try.ntmps35
    go_wp2
    go_ret2
    exact ⟨_, rfl, World.ownsRow_nil _ _ _ _, Ext.refl _⟩
set_option maxRecDepth 100000 in
set_option maxHeartbeats 2000000 in
theorem c_sCheckAll (va : Value) (la ha : Nat) (xss : List (List Int)) (w : World) (h : Intss w la ha va xss) (hh : ha ≤ w.heap.size) :
    Calls Try.prog 36 #[va] w fun e w' => ∃ r, e = .returned (.tuple #[r, .bool (caB xss)]) ∧ w'.ownsRow w.heap.size 3 1 r (caV xss).length ((caV xss).flatMap encI) ∧ Ext w w' := by
  obtain ⟨i0, hi0, hz0, hz1, hz2⟩ := info_parts Try.info_intC
  obtain ⟨Z, hZ⟩ : ∃ r, r = caV xss := ⟨_, rfl⟩
  obtain ⟨b, hb⟩ : ∃ r, r = caB xss := ⟨_, rfl⟩
  rw [← hZ, ← hb]
  unfold caV at hZ
  rw [← hb] at hZ
  unfold caB at hb
  obtain ⟨a, cap, rfl, m1, m2⟩ := h.form
  have H := Lib.hid h
  obtain ⟨m, hm⟩ : ∃ m, m = xss.length := ⟨_, rfl⟩
  rw [← hm] at m1 H hb ⊢
  have HM := Lib.hid hm
  clear h hm
  by_cases h20 : (m : Int) ≤ 20
  · rw [decide_eq_true h20, Bool.true_and] at hb
    have HBW := Lib.hid hb
    have HZ := Lib.hid hZ
    clear hb hZ
    go_enter Try.func36, Try.ntmps36
    go_wp2_with (at_make; refine wpList_make_full _ rfl _ _ 24 rfl w.heap.size 3 i0 (.int .i64 0) 1 Try.underlying24 hi0 hz0 hz1 _ _ _ _ 3 rfl rfl rfl rfl (by rw [hz2]; omega) (by unfold maxLen; omega) (Nat.le_refl _) ?_; intro w1 hown hgrow)
    rw [made_ints] at hown
    have hx1 : Ext w w1 := (Ext.refl w).gr hgrow (by simp)
    have hOWN := Lib.hid hown
    clear hgrow hown
    go_loopw [16] (fun t wr => ∃ (k : Nat) (C : List Int), k ≤ m ∧ t = .int .i64 k ∧ wr.ownsRow w.heap.size 3 1 (.slice (some ⟨w.heap.size, 0, none⟩) 3 3) 3 (C.flatMap encI) ∧ Hid (C = (xss.take k).foldl cup [0, 0, 0]) ∧ Hid (bdC k C) ∧ Hid (b = (xss.drop k).all (wordB 50)) ∧ Ext w wr) (fun t _ => m - (intOf t).toNat)
    case atStart => exact ⟨0, _, by omega, rfl, hOWN.out, rfl, (fun x hx => by simp at hx; omega), HBW.out, hx1⟩
    case round =>
      clear hOWN
      obtain ⟨k, C, hk, rfl, hown, hC, hB, hS, hx⟩ := hrel
      by_cases hlt : k < m
      · obtain ⟨b1, o1, a2, c2, g, rfl, hg, c0, HG, q1, q2⟩ := Intss_at H.out hlt
        have d0 := hx.cell c0
        have hltI : (k : Int) < (m : Int) := by omega
        have hs := hS.out.trans (all_dropW hg.out)
        have hCl : C.length = 3 := by have := hown.1; rw [flat_map, List.length_map] at this; omega
        have HOWN := Lib.hid hown
        clear c0 hown
        obtain ⟨t, ht⟩ : ∃ t, t = wordB 50 g := ⟨_, rfl⟩
        rw [← ht] at hs
        have CW : Hid (∀ W, Ext w W → Calls Try.prog 42 #[.slice a2 g.length c2, .int .i64 50] W fun e w' => e = .returned (.bool t) ∧ W = w') := fun W hX => by
          rw [ht]; exact c_ckWord _ la ha g 50 W (HG.out.ext hX hh)
        cases t
        · have HF : Hid (b = false) := by unfold Hid; rw [hs]; rfl
          clear hs ht hCl
          have HZ2 : Hid (Z = []) := by unfold Hid; rw [HZ.out, HF.out]; rfl
          go_wp2_with (go_at_call 42; refine (CW.out _ hx).mono ?_; rintro e w' ⟨rfl, rfl⟩)
          go_ret2
          refine ⟨_, by rw [HF.out]; rfl, ?_, hx⟩
          rw [HZ2.out]
          exact World.ownsRow_nil _ _ _ _
        · have HS : Hid (b = (xss.drop (k + 1)).all (wordB 50)) := by unfold Hid; rw [hs]; rfl
          have h50 : wordB 50 g = true := ht.symm
          obtain ⟨q, hq⟩ : ∃ q, q = (coH g).isSome := ⟨_, rfl⟩
          obtain ⟨u, hu⟩ : ∃ u, u = holdB g := ⟨_, rfl⟩
          have CO : Hid (∀ W, Ext w W → Calls Try.prog 24 #[.slice a2 g.length c2] W fun e w' => ∃ a3 n3 c3, e = .returned (.tuple #[.slice a3 n3 c3, .bool q]) ∧ Ext W w') := fun W hX => by
            rw [hq]
            refine (c_sCo _ la ha g W (HG.out.ext hX hh) (Nat.le_trans hh hX.size) h50).mono fun e w' ⟨r, he, ho, hx⟩ => ?_
            obtain ⟨a3, c3, hv, _⟩ := own_form ho
            exact ⟨a3, _, c3, by rw [he, hv], hx⟩
          have CH : Hid (∀ W, Ext w W → Calls Try.prog 62 #[.slice a2 g.length c2] W fun e w' => e = .returned (.bool u) ∧ W = w') := fun W hX => by
            rw [hu]; exact c_ckHolds _ la ha g W (HG.out.ext hX hh) h50
          have hkd : kindN g = if u then 0 else if q then 1 else 2 := by unfold kindN; rw [hu, hq]
          clear hs ht h50 hq hu
          cases u
          · cases q
            · have hkind : Hid (kindN g = 2) := hkd
              clear hkd
              obtain ⟨y, hy⟩ : ∃ y, C[2]? = some y := ⟨_, List.getElem?_eq_getElem (by omega)⟩
              have hy2 := hB.out y (List.mem_of_getElem? hy)
              have HY := Lib.hid hy
              have hCC : Hid (C.set 2 (y + 1) = (xss.take (k + 1)).foldl cup [0, 0, 0]) := by
                unfold Hid
                rw [take_snoc' hg.out, List.foldl_append, ← hC.out]
                show _ = cup C g
                unfold cup
                rw [hkind.out, List.getD_eq_getElem?_getD, hy]; rfl
              have hBB : Hid (bdC (k + 1 : Nat) (C.set 2 (y + 1))) := by
                have h9 := cup_bd hB.out (by omega) g
                unfold cup at h9
                rw [hkind.out, List.getD_eq_getElem?_getD, hy] at h9
                exact h9
              have y63 : y + 1 ≤ 9223372036854775807 := by omega
              have y0 : 0 ≤ y + 1 := by omega
              clear hy hy2 hCl
              go_wp2_with (first | (go_at_call 42; refine (CW.out _ hx).mono ?_; rintro e w' ⟨rfl, rfl⟩) | (go_at_call 24; refine (CO.out _ hx).mono ?_; rintro e w2 ⟨a3, n3, c3, rfl, hx2⟩; have o2 := own_ext HOWN.out hx2; have e0 := own_cellv o2 HY.out (by omega); have z0 := o2.frozenAt 2) | (go_at_call 62; refine (CH.out _ (hx.trans hx2)).mono ?_; rintro e w' ⟨rfl, rfl⟩))
              go_roundw
              case rel => exact ⟨k + 1, _, by omega, by go_num, own_setn (own_ext HOWN.out hx2) 2 (y + 1), hCC.out, hBB.out, HS.out, (hx.trans hx2).st (Nat.le_refl _) _⟩
              case measure => simp [intOf]; omega
            · have hkind : Hid (kindN g = 1) := hkd
              clear hkd
              obtain ⟨y, hy⟩ : ∃ y, C[1]? = some y := ⟨_, List.getElem?_eq_getElem (by omega)⟩
              have hy2 := hB.out y (List.mem_of_getElem? hy)
              have HY := Lib.hid hy
              have hCC : Hid (C.set 1 (y + 1) = (xss.take (k + 1)).foldl cup [0, 0, 0]) := by
                unfold Hid
                rw [take_snoc' hg.out, List.foldl_append, ← hC.out]
                show _ = cup C g
                unfold cup
                rw [hkind.out, List.getD_eq_getElem?_getD, hy]; rfl
              have hBB : Hid (bdC (k + 1 : Nat) (C.set 1 (y + 1))) := by
                have h9 := cup_bd hB.out (by omega) g
                unfold cup at h9
                rw [hkind.out, List.getD_eq_getElem?_getD, hy] at h9
                exact h9
              have y63 : y + 1 ≤ 9223372036854775807 := by omega
              have y0 : 0 ≤ y + 1 := by omega
              clear hy hy2 hCl
              go_wp2_with (first | (go_at_call 42; refine (CW.out _ hx).mono ?_; rintro e w' ⟨rfl, rfl⟩) | (go_at_call 24; refine (CO.out _ hx).mono ?_; rintro e w2 ⟨a3, n3, c3, rfl, hx2⟩; have o2 := own_ext HOWN.out hx2; have e0 := own_cellv o2 HY.out (by omega); have z0 := o2.frozenAt 1) | (go_at_call 62; refine (CH.out _ (hx.trans hx2)).mono ?_; rintro e w' ⟨rfl, rfl⟩))
              go_roundw
              case rel => exact ⟨k + 1, _, by omega, by go_num, own_setn (own_ext HOWN.out hx2) 1 (y + 1), hCC.out, hBB.out, HS.out, (hx.trans hx2).st (Nat.le_refl _) _⟩
              case measure => simp [intOf]; omega
          · have hkind : Hid (kindN g = 0) := hkd
            clear hkd
            cases q
            · obtain ⟨y, hy⟩ : ∃ y, C[0]? = some y := ⟨_, List.getElem?_eq_getElem (by omega)⟩
              have hy2 := hB.out y (List.mem_of_getElem? hy)
              have HY := Lib.hid hy
              have hCC : Hid (C.set 0 (y + 1) = (xss.take (k + 1)).foldl cup [0, 0, 0]) := by
                unfold Hid
                rw [take_snoc' hg.out, List.foldl_append, ← hC.out]
                show _ = cup C g
                unfold cup
                rw [hkind.out, List.getD_eq_getElem?_getD, hy]; rfl
              have hBB : Hid (bdC (k + 1 : Nat) (C.set 0 (y + 1))) := by
                have h9 := cup_bd hB.out (by omega) g
                unfold cup at h9
                rw [hkind.out, List.getD_eq_getElem?_getD, hy] at h9
                exact h9
              have y63 : y + 1 ≤ 9223372036854775807 := by omega
              have y0 : 0 ≤ y + 1 := by omega
              clear hy hy2 hCl
              go_wp2_with (first | (go_at_call 42; refine (CW.out _ hx).mono ?_; rintro e w' ⟨rfl, rfl⟩) | (go_at_call 24; refine (CO.out _ hx).mono ?_; rintro e w2 ⟨a3, n3, c3, rfl, hx2⟩; have o2 := own_ext HOWN.out hx2; have e0 := own_cellv o2 HY.out (by omega); have z0 := o2.frozenAt 0) | (go_at_call 62; refine (CH.out _ (hx.trans hx2)).mono ?_; rintro e w' ⟨rfl, rfl⟩))
              go_roundw
              case rel => exact ⟨k + 1, _, by omega, by go_num, own_setn (own_ext HOWN.out hx2) 0 (y + 1), hCC.out, hBB.out, HS.out, (hx.trans hx2).st (Nat.le_refl _) _⟩
              case measure => simp [intOf]; omega
            · obtain ⟨y, hy⟩ : ∃ y, C[0]? = some y := ⟨_, List.getElem?_eq_getElem (by omega)⟩
              have hy2 := hB.out y (List.mem_of_getElem? hy)
              have HY := Lib.hid hy
              have hCC : Hid (C.set 0 (y + 1) = (xss.take (k + 1)).foldl cup [0, 0, 0]) := by
                unfold Hid
                rw [take_snoc' hg.out, List.foldl_append, ← hC.out]
                show _ = cup C g
                unfold cup
                rw [hkind.out, List.getD_eq_getElem?_getD, hy]; rfl
              have hBB : Hid (bdC (k + 1 : Nat) (C.set 0 (y + 1))) := by
                have h9 := cup_bd hB.out (by omega) g
                unfold cup at h9
                rw [hkind.out, List.getD_eq_getElem?_getD, hy] at h9
                exact h9
              have y63 : y + 1 ≤ 9223372036854775807 := by omega
              have y0 : 0 ≤ y + 1 := by omega
              clear hy hy2 hCl
              go_wp2_with (first | (go_at_call 42; refine (CW.out _ hx).mono ?_; rintro e w' ⟨rfl, rfl⟩) | (go_at_call 24; refine (CO.out _ hx).mono ?_; rintro e w2 ⟨a3, n3, c3, rfl, hx2⟩; have o2 := own_ext HOWN.out hx2; have e0 := own_cellv o2 HY.out (by omega); have z0 := o2.frozenAt 0) | (go_at_call 62; refine (CH.out _ (hx.trans hx2)).mono ?_; rintro e w' ⟨rfl, rfl⟩))
              go_roundw
              case rel => exact ⟨k + 1, _, by omega, by go_num, own_setn (own_ext HOWN.out hx2) 0 (y + 1), hCC.out, hBB.out, HS.out, (hx.trans hx2).st (Nat.le_refl _) _⟩
              case measure => simp [intOf]; omega
      · have hge : ¬ ((k : Int) < (m : Int)) := by omega
        have HT : Hid (b = true) := by
          have e := hS.out
          rw [List.drop_eq_nil_of_le (by rw [← HM.out]; omega)] at e
          exact e
        have HZC : Hid (Z = C) := by
          unfold Hid
          rw [HZ.out, HT.out, hC.out, List.take_of_length_le (by rw [← HM.out]; omega)]; rfl
        have hCl : C.length = 3 := by have := hown.1; rw [flat_map, List.length_map] at this; omega
        have HCL := Lib.hid hCl
        have HOWN := Lib.hid hown
        clear hown hCl
        go_wp2
        go_ret2
        refine ⟨_, by rw [HT.out]; rfl, ?_, hx⟩
        rw [HZC.out, HCL.out]
        exact HOWN.out
  · rw [decide_eq_false h20, Bool.false_and] at hb
    subst hb
    simp at hZ; subst hZ
    go_enter Try.func36, Try.ntmps36
    go_wp2
    go_ret2
    exact ⟨_, rfl, World.ownsRow_nil _ _ _ _, Ext.refl _⟩
end Go.Proofs.Ytphfgfejacbhpaa
