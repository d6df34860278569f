
/- l1Put: a number put into a sorted list. -/
import Derived.Test.YtmaaeemhbccpcaaGreatDoorGB
namespace Go.Proofs.YtmaaeemhbccpcaaGreatDoor
open Go.RowKit

/-- The first place from k on whose number is not less than n. -/
def putAt (n : Int) : List Int → Nat
  | [] => 0
  | x :: r => if x < n then putAt n r + 1 else 0
def insL (L : List Int) (n : Int) : List Int := if L[putAt n L]? = some n then L else L.take (putAt n L) ++ [n] ++ L.drop (putAt n L)
theorem putAt_le (n : Int) : ∀ L, putAt n L ≤ L.length
  | [] => Nat.le_refl _
  | x :: r => by have := putAt_le n r; unfold putAt; split <;> simp <;> omega
theorem putAt_lt {n : Int} : ∀ {L : List Int} {k : Nat} {x : Int}, k < putAt n L → L[k]? = some x → x < n
  | [], k, x, h, hx => by simp at hx
  | y :: r, k, x, h, hx => by
    unfold putAt at h
    by_cases hy : y < n
    · rw [if_pos hy] at h
      cases k with
      | zero => simp at hx; omega
      | succ k => exact putAt_lt (L := r) (k := k) (by omega) (by simpa using hx)
    · rw [if_neg hy] at h; omega
theorem putAt_at {n : Int} : ∀ {L : List Int} {x : Int}, L[putAt n L]? = some x → ¬ x < n
  | [], x, hx => by simp at hx
  | y :: r, x, hx => by
    unfold putAt at hx
    by_cases hy : y < n
    · rw [if_pos hy] at hx; exact putAt_at (L := r) (by simpa using hx)
    · rw [if_neg hy] at hx; simp at hx; omega
theorem take_cells {w : World} {la ha m k b o cap : Nat} {L : List Int} (h : Ints w la ha (.slice (some ⟨b, o, none⟩) m cap) L) :
    ∀ j u, ((L.take k).flatMap encI)[j]? = some u → w.cell? ((⟨b, o, none⟩ : Addr).add j) = some u := by
  intro j u hu
  refine Ints_cells h j u ?_
  rw [flat_map] at hu ⊢
  rw [List.map_take, List.getElem?_take] at hu
  split at hu
  · exact hu
  · cases hu
theorem drop_cells {w : World} {la ha m k b o cap : Nat} {L : List Int} (h : Ints w la ha (.slice (some ⟨b, o, none⟩) m cap) L) :
    ∀ j u, ((L.drop k).flatMap encI)[j]? = some u → w.cell? ((⟨b, o + k, none⟩ : Addr).add j) = some u := by
  intro j u hu
  have h1 := Ints_cells h (k + j) u (by rw [flat_map] at hu ⊢; rw [List.map_drop, List.getElem?_drop] at hu; exact hu)
  rw [add_lit1] at h1 ⊢
  rw [show o + k + j = o + (k + j) by omega]
  exact h1
theorem own_app {w : World} {base : Nat} {e : TypeId} {v : Value} {P S : List Int} (h : w.ownsRow base e 1 v (P.length + S.length) (P.flatMap encI ++ S.flatMap encI)) :
    w.ownsRow base e 1 v (P ++ S).length ((P ++ S).flatMap encI) := by
  rw [List.length_append, List.flatMap_append]; exact h
set_option maxRecDepth 100000 in
set_option maxHeartbeats 1000000 in
theorem c_l1Put (v : Value) (base : Nat) (L : List Int) (n : Int) (w : World) (hown : w.ownsRow base 3 1 v L.length (L.flatMap encI)) (hb : base ≤ w.heap.size) (hl : L.length ≤ 20) :
    Calls Tryz.prog 63 #[v, .int .i64 n] w fun e w' => ∃ r, e = .returned r ∧ w'.ownsRow base 3 1 r (insL L n).length ((insL L n).flatMap encI) ∧ Ext w w' := by
  obtain ⟨i0, hi0, hz0, hz1, hz2⟩ := info_parts Tryz.info_intC
  have H := Lib.hid (Row.of_own encI_len hown)
  have HOWN := Lib.hid hown
  obtain ⟨a, cap, rfl, _, m1, m2⟩ := own_form hown
  obtain ⟨p, hp⟩ : ∃ p, p = putAt n L := ⟨_, rfl⟩
  obtain ⟨Z, hZ⟩ : ∃ Z, Z = insL L n := ⟨_, rfl⟩
  rw [← hZ]
  unfold insL at hZ
  rw [← hp] at hZ
  obtain ⟨m, hm⟩ : ∃ m, m = L.length := ⟨_, rfl⟩
  rw [← hm] at m1 H HOWN hl ⊢
  have HM := Lib.hid hm
  have HZ := Lib.hid hZ
  have HP := Lib.hid hp
  clear hown hm hZ hp
  go_enter Tryz.func63, Tryz.ntmps63
  go_wp2
  go_loop [5] (fun t => ∃ k : Nat, k ≤ p ∧ t = .int .i64 k) (fun t => p - (intOf t).toNat)
  case atStart => exact ⟨0, by omega, rfl⟩
  case round =>
    obtain ⟨k, hk, rfl⟩ := hrel
    have hpm : p ≤ m := by rw [HP.out, HM.out]; exact putAt_le n L
    by_cases hlt : k < p
    · obtain ⟨b, o, x, rfl, hg, c0⟩ := Ints_at H.out (k := k) (by omega)
      have hx : x < n := putAt_lt (by rw [← HP.out]; exact hlt) hg.out
      have hltI : (k : Int) < (m : Int) := by omega
      clear m1 m2
      go_wp2
      go_round
      case rel => exact ⟨k + 1, by omega, by go_num⟩
      case measure => simp [intOf]; omega
    · have : k = p := by omega
      subst this
      by_cases hkm : k < m
      · obtain ⟨b, o, x, rfl, hg, c0⟩ := Ints_at H.out (k := k) (by omega)
        have hx : ¬ (x < n) := putAt_at (L := L) (by rw [← HP.out]; exact hg.out)
        have hltI : (k : Int) < (m : Int) := by omega
        by_cases hxn : x = n
        · subst hxn
          have hZ := HZ.out
          rw [if_pos hg.out] at hZ
          have HZ2 := Lib.hid hZ
          have hxx : ((x : Int) == x) = true := by simp
          clear hZ hx
          go_wp2
          go_ret
          refine ⟨_, rfl, ?_, Ext.refl _⟩
          rw [HZ2.out, ← HM.out]
          exact HOWN.out
        · have hxb : ((x : Int) == n) = false := by simpa using hxn
          have hZ := HZ.out
          rw [if_neg (by rw [hg.out]; simpa using hxn)] at hZ
          obtain ⟨P, hP⟩ : ∃ P, P = L.take k := ⟨_, rfl⟩
          obtain ⟨S, hS⟩ : ∃ S, S = L.drop k := ⟨_, rfl⟩
          have hPl : P.length = k := by rw [hP, List.length_take_of_le (by rw [← HM.out]; omega)]
          have hSl : S.length = m - k := by rw [hS, List.length_drop, ← HM.out]
          rw [← hP, ← hS] at hZ
          have HZ2 := Lib.hid hZ
          have CP : Hid (∀ W, Ext w W → ∀ j u, (P.flatMap encI)[j]? = some u → W.cell? ((⟨b, o, none⟩ : Addr).add j) = some u) := fun W hX => by rw [hP]; exact take_cells (H.out.ext hX (Nat.le_refl _))
          have CQ : Hid (∀ W, Ext w W → ∀ j u, (S.flatMap encI)[j]? = some u → W.cell? ((⟨b, o + k, none⟩ : Addr).add j) = some u) := fun W hX => by rw [hS]; exact drop_cells (H.out.ext hX (Nat.le_refl _))
          have HPL := Lib.hid hPl
          have HSL := Lib.hid hSl
          clear hZ hP hS hPl hSl
          go_wp2_with (first
            | (at_builtin; refine wpList_append_own _ rfl _ _ 31 rfl w.heap.size 3 i0 (.int .i64 0) 1 8 Tryz.underlying31 hi0 hz0 hz1 hz2 rfl (by decide) _ _ _ rfl HO4.out ⟨b, o + k, none⟩ (m - k) _ (S.flatMap encI) rfl (by rw [flat_map, List.length_map, HSL.out]; omega) (CQ.out _ X4) (ints_one S) (by unfold maxLen; omega) (by omega) (by have := X4.size; simp; omega) ?_; intro v5 w5 hown5 hgrow5 hnil5)
            | (at_builtin; refine wpList_append_own _ rfl _ _ 31 rfl w.heap.size 3 i0 (.int .i64 0) 1 8 Tryz.underlying31 hi0 hz0 hz1 hz2 rfl (by decide) _ _ _ rfl (HO3.out.alloc _) ⟨w3.heap.size, 0, none⟩ 1 1 [.int .i64 n] rfl rfl (new_cells1 _ _ _) (by intro u hu; simp at hu; subst hu; rfl) (by unfold maxLen; omega) (by omega) (by have := X3.size; simp; omega) ?_; intro v4 w4 hown4 hgrow4 _; have HO4 := Lib.hid hown4; have X4 := X3.push HO3.out hgrow4 (Nat.le_refl _))
            | (at_builtin; refine wpList_append_own _ rfl _ _ 31 rfl w.heap.size 3 i0 (.int .i64 0) 1 8 Tryz.underlying31 hi0 hz0 hz1 hz2 rfl (by decide) _ _ _ rfl (own_lit0 w 3) ⟨b, o, none⟩ k _ (P.flatMap encI) rfl (by rw [flat_map, List.length_map, HPL.out]; omega) (CP.out _ (Ext.alloc _ _)) (ints_one P) (by unfold maxLen; omega) (by omega) (by simp) ?_; intro v3 w3 hown3 hgrow3 hnil3; have HO3 := Lib.hid hown3; have X3 : Ext w w3 := ((Ext.refl w).al _).gr hgrow3 (fun k hk => ((own_lit0 w 3).lt k hk).1)))
          go_ret
          refine ⟨_, rfl, ?_, X4.gr hgrow5 (fun q hq => (HO4.out.lt q hq).1)⟩
          have eL : (P ++ [n] ++ S).length = 0 + k + 1 + (m - k) := by simp [HPL.out, HSL.out]; omega
          have eC : (P ++ [n] ++ S).flatMap encI = [] ++ P.flatMap encI ++ [.int .i64 n] ++ S.flatMap encI := by simp [encI]
          rw [HZ2.out, eL, eC]
          exact own_mono hown5 hb
      · have hltI : ¬ ((k : Int) < (m : Int)) := by omega
        have hkm2 : k = m := by omega
        subst hkm2
        have hZ := HZ.out
        have hlen : L.length = k := HM.out.symm
        rw [List.getElem?_eq_none (by omega), if_neg (by simp), List.take_of_length_le (by omega), List.drop_of_length_le (by omega)] at hZ
        have HZ2 := Lib.hid hZ
        have HLL := Lib.hid hlen
        clear hZ hlen
        rcases HOWN.out.2 with ⟨hv, hm0⟩ | ⟨g, cap', cur, hv, _, _, hkc, _⟩
        · simp only [Value.slice.injEq] at hv
          obtain ⟨rfl, rfl, rfl⟩ := hv
          have hLn : L = [] := List.eq_nil_of_length_eq_zero HLL.out
          have HLN := Lib.hid hLn
          clear hLn
          go_wp2_with (first
            | (at_builtin; refine wpList_append_own_none rfl _ _ 31 rfl w.heap.size 3 i0 1 Tryz.underlying31 hi0 _ _ _ rfl HO4.out rfl ?_)
            | (at_builtin; refine wpList_append_own_none rfl _ _ 31 rfl w.heap.size 3 i0 1 Tryz.underlying31 hi0 _ _ _ rfl (own_lit0 w 3) rfl ?_)
            | (at_builtin; refine wpList_append_own _ rfl _ _ 31 rfl w.heap.size 3 i0 (.int .i64 0) 1 8 Tryz.underlying31 hi0 hz0 hz1 hz2 rfl (by decide) _ _ _ rfl ((own_lit0 w 3).alloc _) ⟨w.heap.size + 1, 0, none⟩ 1 1 [.int .i64 n] rfl rfl (by intro j u hu; have h9 := new_cells1 (w.alloc (.cells #[] 3)) (.int .i64 n) 3 j u hu; simpa using h9) (by intro u hu; simp at hu; subst hu; rfl) (by unfold maxLen; omega) (by omega) (by simp; omega) ?_; intro v4 w4 hown4 hgrow4 _; have HO4 := Lib.hid hown4; have X4 : Ext w w4 := ((Ext.refl w).al _).push (own_lit0 w 3) hgrow4 (Nat.le_refl _)))
          go_ret
          refine ⟨_, rfl, ?_, X4⟩
          rw [HZ2.out, HLN.out]
          exact own_mono HO4.out hb
        · simp only [Value.slice.injEq, true_and] at hv
          obtain ⟨rfl, rfl⟩ := hv
          have CP : Hid (∀ W, Ext w W → ∀ j u, (L.flatMap encI)[j]? = some u → W.cell? ((⟨g, 0, none⟩ : Addr).add j) = some u) := fun W hX => Ints_cells (H.out.ext hX (Nat.le_refl _))
          by_cases hc : cap = k
          · subst hc
            go_wp2_with (first
            | (at_builtin; refine wpList_append_own _ rfl _ _ 31 rfl w.heap.size 3 i0 (.int .i64 0) 1 8 Tryz.underlying31 hi0 hz0 hz1 hz2 rfl (by decide) _ _ _ rfl HO4.out ⟨g, 0, none⟩ 0 _ [] rfl rfl (by intro j u hu; simp at hu) (by intro u hu; cases hu) (by unfold maxLen; omega) (by omega) (by have := X4.size; simp; omega) ?_; intro v5 w5 hown5 hgrow5 hnil5)
            | (at_builtin; refine wpList_append_own _ rfl _ _ 31 rfl w.heap.size 3 i0 (.int .i64 0) 1 8 Tryz.underlying31 hi0 hz0 hz1 hz2 rfl (by decide) _ _ _ rfl (HO3.out.alloc _) ⟨w3.heap.size, 0, none⟩ 1 1 [.int .i64 n] rfl rfl (new_cells1 _ _ _) (by intro u hu; simp at hu; subst hu; rfl) (by unfold maxLen; omega) (by omega) (by have := X3.size; simp; omega) ?_; intro v4 w4 hown4 hgrow4 _; have HO4 := Lib.hid hown4; have X4 := X3.push HO3.out hgrow4 (Nat.le_refl _))
            | (at_builtin; refine wpList_append_own _ rfl _ _ 31 rfl w.heap.size 3 i0 (.int .i64 0) 1 8 Tryz.underlying31 hi0 hz0 hz1 hz2 rfl (by decide) _ _ _ rfl (own_lit0 w 3) ⟨g, 0, none⟩ cap _ (L.flatMap encI) rfl (by rw [flat_map, List.length_map, HLL.out]; omega) (CP.out _ (Ext.alloc _ _)) (ints_one L) (by unfold maxLen; omega) (by omega) (by simp) ?_; intro v3 w3 hown3 hgrow3 hnil3; have HO3 := Lib.hid hown3; have X3 : Ext w w3 := ((Ext.refl w).al _).gr hgrow3 (fun k hk => ((own_lit0 w 3).lt k hk).1)))
            go_ret
            refine ⟨_, rfl, ?_, X4.gr hgrow5 (fun q hq => (HO4.out.lt q hq).1)⟩
            rw [HZ2.out]
            have eL : (L ++ [n] ++ []).length = 0 + cap + 1 + 0 := by simp [HLL.out]
            have eC : (L ++ [n] ++ []).flatMap encI = [] ++ L.flatMap encI ++ [.int .i64 n] ++ [] := by simp [encI]
            rw [eL, eC]
            exact own_mono hown5 hb
          · go_wp2_with (first
            | (at_builtin; refine wpList_append_own _ rfl _ _ 31 rfl w.heap.size 3 i0 (.int .i64 0) 1 8 Tryz.underlying31 hi0 hz0 hz1 hz2 rfl (by decide) _ _ _ rfl HO4.out ⟨g, k, none⟩ 0 _ [] rfl rfl (by intro j u hu; simp at hu) (by intro u hu; cases hu) (by unfold maxLen; omega) (by omega) (by have := X4.size; simp; omega) ?_; intro v5 w5 hown5 hgrow5 hnil5)
            | (at_builtin; refine wpList_append_own _ rfl _ _ 31 rfl w.heap.size 3 i0 (.int .i64 0) 1 8 Tryz.underlying31 hi0 hz0 hz1 hz2 rfl (by decide) _ _ _ rfl (HO3.out.alloc _) ⟨w3.heap.size, 0, none⟩ 1 1 [.int .i64 n] rfl rfl (new_cells1 _ _ _) (by intro u hu; simp at hu; subst hu; rfl) (by unfold maxLen; omega) (by omega) (by have := X3.size; simp; omega) ?_; intro v4 w4 hown4 hgrow4 _; have HO4 := Lib.hid hown4; have X4 := X3.push HO3.out hgrow4 (Nat.le_refl _))
            | (at_builtin; refine wpList_append_own _ rfl _ _ 31 rfl w.heap.size 3 i0 (.int .i64 0) 1 8 Tryz.underlying31 hi0 hz0 hz1 hz2 rfl (by decide) _ _ _ rfl (own_lit0 w 3) ⟨g, 0, none⟩ k _ (L.flatMap encI) rfl (by rw [flat_map, List.length_map, HLL.out]; omega) (CP.out _ (Ext.alloc _ _)) (ints_one L) (by unfold maxLen; omega) (by omega) (by simp) ?_; intro v3 w3 hown3 hgrow3 hnil3; have HO3 := Lib.hid hown3; have X3 : Ext w w3 := ((Ext.refl w).al _).gr hgrow3 (fun k hk => ((own_lit0 w 3).lt k hk).1)))
            go_ret
            refine ⟨_, rfl, ?_, X4.gr hgrow5 (fun q hq => (HO4.out.lt q hq).1)⟩
            rw [HZ2.out]
            have eL : (L ++ [n] ++ []).length = 0 + k + 1 + 0 := by simp [HLL.out]
            have eC : (L ++ [n] ++ []).flatMap encI = [] ++ L.flatMap encI ++ [.int .i64 n] ++ [] := by simp [encI]
            rw [eL, eC]
            exact own_mono hown5 hb
end Go.Proofs.YtmaaeemhbccpcaaGreatDoor
