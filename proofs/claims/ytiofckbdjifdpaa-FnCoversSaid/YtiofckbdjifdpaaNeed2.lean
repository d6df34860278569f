
/- NeededSites of the program: its closure, slices.ContainsFunc, its contract. -/
import Derived.Test.YtiofckbdjifdpaaNeed
namespace Go.Proofs.Ytiofckbdjifdpaa
open Go.RowKit
def idxQ (p : Int → Bool) : Nat → List Int → Int
  | _, [] => -1
  | k, y :: r => if p y then (k : Int) else idxQ p (k + 1) r
theorem idxQ_drop {xs : List Int} {k : Nat} {y : Int} (p : Int → Bool) (h : xs[k]? = some y) : idxQ p k (xs.drop k) = if p y then (k : Int) else idxQ p (k + 1) (xs.drop (k + 1)) := by
  have hk : k < xs.length := (List.getElem?_eq_some_iff.1 h).1
  have e : xs.drop k = y :: xs.drop (k + 1) := by
    rw [List.drop_eq_getElem_cons hk]; congr 1; exact (List.getElem?_eq_some_iff.1 h).2
  rw [e]; rfl
theorem idxQ_any (p : Int → Bool) : ∀ (xs : List Int) (k : Nat), decide (0 ≤ idxQ p k xs) = xs.any p
  | [], k => by simp [idxQ]
  | y :: r, k => by
    unfold idxQ
    rw [List.any_cons, ← idxQ_any p r (k + 1)]
    cases e : p y <;> simp
set_option maxRecDepth 100000 in
theorem c_needFn (s : Int) (g : Nat) (vt : Value) (la ha : Nat) (T : List Int) (w : World) (h : Ints w la ha vt T) (hc : w.cell? ⟨g, 0, none⟩ = some vt) (h0 : 0 ≤ s) (h1 : s < T.length) :
    Calls Try.prog 68 #[.int .i64 s, .pointer (some ⟨g, 0, none⟩)] w fun e w' => e = .returned (.bool (ndB T s)) ∧ w = w' := by
  obtain ⟨p, rfl⟩ := Int.eq_ofNat_of_zero_le h0
  obtain ⟨r, hr⟩ : ∃ r, r = ndB T (p : Int) := ⟨_, rfl⟩
  rw [← hr]
  unfold ndB at hr
  obtain ⟨a, cap, rfl, m1, m2⟩ := h.form
  have H := Lib.hid h
  obtain ⟨b, o, y, rfl, hy, c0⟩ := Ints_at H.out (k := p) (by omega)
  rw [Int.toNat_natCast, List.getD_eq_getElem?_getD, hy.out] at hr
  have hr2 : r = (y == 1) := hr
  have HR := Lib.hid hr2
  clear h hr hr2
  rw [HR.out]
  go_enter Try.func68, Try.ntmps68
  go_wp2
  go_ret
  exact ⟨rfl, rfl⟩
set_option maxRecDepth 100000 in
set_option maxHeartbeats 1000000 in
theorem c_needIndex (v : Value) (la ha : Nat) (xs : List Int) (g : Nat) (p : Int → Bool) (w : World) (h : Ints w la ha v xs)
    (hp : ∀ x ∈ xs, Calls Try.prog 68 #[.int .i64 x, .pointer (some ⟨g, 0, none⟩)] w fun e w' => e = .returned (.bool (p x)) ∧ w = w') :
    Calls Try.prog 81 #[v, .func (.func 68) #[] #[.pointer (some ⟨g, 0, none⟩)]] w fun e w' => e = .returned (.int .i64 (idxQ p 0 xs)) ∧ w = w' := by
  obtain ⟨r, hr⟩ : ∃ r, r = idxQ p 0 xs := ⟨_, rfl⟩
  rw [← hr]
  have HR := Lib.hid hr
  obtain ⟨a, cap, rfl, m1, m2⟩ := h.form
  have H := Lib.hid h
  have HP := Lib.hid hp
  obtain ⟨n, hn⟩ : ∃ n, n = xs.length := ⟨_, rfl⟩
  rw [← hn] at m1 H ⊢
  have HN := Lib.hid hn
  clear h hn hr hp
  go_enter Try.func81, Try.ntmps81
  go_wp2
  go_loop [5, 8] (fun _ t => ∃ k : Nat, k ≤ n ∧ t = .int .i64 k ∧ Hid (r = idxQ p k (xs.drop k))) (fun _ t => n - (intOf t).toNat)
  case atStart => exact ⟨0, by omega, rfl, HR.out⟩
  case round =>
    obtain ⟨k, hk, rfl, hT⟩ := hrel
    by_cases hlt : k < n
    · obtain ⟨b, o, y, rfl, hg, c0⟩ := Ints_at H.out hlt
      have hs := hT.out.trans (idxQ_drop p hg.out)
      have hltI : (k : Int) < (n : Int) := by omega
      have CP := Lib.hid (HP.out y (List.mem_of_getElem? hg.out))
      cases e : p y
      · rw [e] at hs CP
        have HS := Lib.hid hs
        clear hs e
        go_wp2_with (go_at_call 68; refine CP.out.mono ?_; rintro e w' ⟨rfl, rfl⟩)
        go_round
        case rel => exact ⟨k + 1, by omega, by go_num, HS.out⟩
        case measure => simp [intOf]; omega
      · rw [e] at hs CP
        have HS := Lib.hid hs
        clear hs e
        go_wp2_with (go_at_call 68; refine CP.out.mono ?_; rintro e w' ⟨rfl, rfl⟩)
        go_ret
        exact ⟨by rw [HS.out]; rfl, rfl⟩
    · have hge : ¬ ((k : Int) < (n : Int)) := by omega
      have HS : Hid (r = -1) := by
        have e := hT.out
        rw [List.drop_eq_nil_of_le (by rw [← HN.out]; omega)] at e
        exact e
      go_wp2
      go_ret
      exact ⟨by rw [HS.out]; rfl, rfl⟩
set_option maxRecDepth 100000 in
theorem c_needCont (v : Value) (la ha : Nat) (xs : List Int) (g : Nat) (p : Int → Bool) (w : World) (h : Ints w la ha v xs)
    (hp : ∀ x ∈ xs, Calls Try.prog 68 #[.int .i64 x, .pointer (some ⟨g, 0, none⟩)] w fun e w' => e = .returned (.bool (p x)) ∧ w = w') :
    Calls Try.prog 67 #[v, .func (.func 68) #[] #[.pointer (some ⟨g, 0, none⟩)]] w fun e w' => e = .returned (.bool (xs.any p)) ∧ w = w' := by
  have CI := Lib.hid (c_needIndex v la ha xs g p w h hp)
  obtain ⟨r, hr⟩ : ∃ r, r = xs.any p := ⟨_, rfl⟩
  rw [← hr]
  have HR := Lib.hid (hr.trans (idxQ_any p xs 0).symm)
  obtain ⟨a, cap, rfl, m1, m2⟩ := h.form
  clear h hr hp
  rw [HR.out]
  go_enter Try.func67, Try.ntmps67
  go_wp2_with (go_at_call 81; refine CI.out.mono ?_; rintro e w' ⟨rfl, rfl⟩)
  go_ret
  exact ⟨rfl, rfl⟩
set_option maxRecDepth 100000 in
set_option maxHeartbeats 2000000 in
theorem c_iNeeded (va : Value) (la ha : Nat) (xss : List (List Int)) (n : Int) (w : World) (h : Intss w la ha va xss) (hh : ha ≤ w.heap.size) :
    Calls Try.prog 29 #[va, .int .i64 n] w fun e w' => ∃ r, e = .returned (.tuple #[r, .bool (sitesB xss n)]) ∧ w'.ownsRow w.heap.size 3 1 r (neV xss n).length ((neV xss n).flatMap encI) ∧ Ext w w' := by
  obtain ⟨i0, hi0, hz0, hz1, hz2⟩ := info_parts Try.info_intC
  obtain ⟨Z, hZ⟩ : ∃ r, r = neV xss n := ⟨_, rfl⟩
  rw [← hZ]
  unfold neV at hZ
  have C1 := Lib.hid (c_iAreSites va la ha xss n w h hh)
  cases e1 : sitesB xss n
  · rw [e1] at C1 hZ
    simp at hZ; subst hZ
    clear h e1
    go_enter Try.func29, Try.ntmps29
    go_wp2_with (go_at_call 39; refine C1.out.mono ?_; rintro e w2 ⟨rfl, hx⟩)
    go_ret2
    exact ⟨_, rfl, World.ownsRow_nil _ _ _ _, hx⟩
  · obtain ⟨m, rfl, gs⟩ := GoodS.of e1
    rw [e1] at C1 hZ
    simp at hZ
    have s12 := gs.s12
    have n16 := gs.n16
    obtain ⟨T, hT⟩ : ∃ T, T = timesL xss m (upto xss.length) := ⟨_, rfl⟩
    have hTl : T.length = m := by rw [hT, timesL_len]
    have C3 : Hid (∀ W vb lb hb, Ext w W → Ints W lb hb vb (upto xss.length) → hb ≤ W.heap.size → Calls Try.prog 66 #[va, .int .i64 m, vb] W fun e w' => ∃ v, e = .returned v ∧ OwnI w' W.heap.size w'.heap.size v T ∧ Ext W w') :=
      fun W vb lb hb hX hr hbb => by rw [hT]; exact c_seenTimes va vb la ha lb hb xss m _ W (h.ext hX hh) (Nat.le_trans hh hX.size) hr hbb gs (upto_good _ s12)
    rw [← hT] at hZ
    obtain ⟨a, cap, rfl, m1, m2⟩ := h.form
    have H := Lib.hid h
    obtain ⟨s, hs⟩ : ∃ s, s = xss.length := ⟨_, rfl⟩
    rw [← hs] at m1 H s12 C1 C3 ⊢
    have HS := Lib.hid hs
    have HZ := Lib.hid hZ
    have HTL := Lib.hid hTl
    have GS := Lib.hid gs
    clear h e1 gs hZ hT hTl hs
    go_enter Try.func29, Try.ntmps29
    go_wp2_with (go_at_call 39; refine C1.out.mono ?_; rintro e w2 ⟨rfl, hx⟩)
    refine (c_firstChoice s _ (by omega)).mono ?_
    rintro e w3 ⟨vu, rfl, ho3, hx3⟩
    have HO3 := Lib.hid (OwnI.of ho3)
    obtain ⟨au, cu, rfl, _, _⟩ := HO3.out.form
    clear ho3
    have X3 := hx.trans hx3
    go_wp2_with fail
    refine (C3.out _ _ _ _ X3 HO3.out.read (Nat.le_refl _)).mono ?_
    rintro e w4 ⟨vt, rfl, ho4, hx4⟩
    have HO4 := Lib.hid ho4
    obtain ⟨at_, ct, rfl, q1, q2⟩ := ho4.form
    rw [HTL.out] at HO4 q1
    rw [HTL.out]
    clear ho4 HO3
    have X4 := X3.trans hx4
    go_wp2_with fail
    obtain ⟨w5, hw5⟩ : ∃ W, W = w4.alloc (.cells #[.slice at_ m ct] 24) := ⟨_, rfl⟩
    rw [← hw5]
    have X45 : Ext w4 w5 := by rw [hw5]; exact Ext.alloc _ _
    have B5 : w5.heap[w4.heap.size]? = some (.cells #[.slice at_ m ct] 24) := by rw [hw5]; exact blk_alloc _ _
    have HO5 := Lib.hid (HO4.out.ext X45)
    have X5 := X4.trans X45
    have HSZ := Lib.hid X5.size
    have hs4 := X45.size
    have HB5 := Lib.hid B5
    clear hw5 HO4 B5
    go_loopw [7, 22] (fun v t wr => ∃ (k : Nat) (L : List Int), k ≤ s ∧ t = .int .i64 k ∧ wr.ownsRow w5.heap.size 3 1 v L.length (L.flatMap encI) ∧ Hid (L = ndL T 0 (xss.take k)) ∧ Ext w5 wr) (fun _ t _ => s - (intOf t).toNat)
    case atStart => exact ⟨0, [], by omega, rfl, World.ownsRow_nil _ _ _ _, rfl, Ext.refl _⟩
    case round =>
      obtain ⟨k, L, hk, rfl, hown, hL, hxr⟩ := hrel
      by_cases hlt : k < s
      · obtain ⟨b, o, a3, c3, l, rfl, hl, c0, HL, r1, r2⟩ := Intss_at H.out hlt
        have d0 := (X5.trans hxr).cell c0
        have hltI : (k : Int) < (s : Int) := by omega
        have hlm := List.mem_of_getElem? hl.out
        have hLl : L.length ≤ 12 := by
          have h9 := ndL_len T (xss.take k) 0
          rw [← hL.out] at h9
          have := List.length_take_le k xss
          omega
        obtain ⟨t, ht⟩ : ∃ t, t = l.any (ndB T) := ⟨_, rfl⟩
        have hsn : Hid (ndL T 0 (xss.take (k + 1)) = L ++ (if t then [(k : Int)] else [])) := by
          unfold Hid
          rw [take_snoc' hl.out, ndL_snoc, ← hL.out, List.length_take_of_le (by rw [← HS.out]; exact hk), ht]; simp
        have CF : Hid (Calls Try.prog 67 #[.slice a3 l.length c3, .func (.func 68) #[] #[.pointer (some ⟨w4.heap.size, 0, none⟩)]] wr fun e w' => e = .returned (.bool t) ∧ wr = w') := by
          rw [ht]
          refine c_needCont _ la ha l w4.heap.size (ndB T) wr (HL.out.ext (X5.trans hxr) hh) fun x hx => ?_
          obtain ⟨x1, x2⟩ := GS.out.mem l hlm x hx
          have HOX := HO5.out.ext hxr
          have hr := HOX.read
          rw [← HTL.out] at hr
          refine c_needFn x w4.heap.size _ _ _ T wr hr ?_ x1 (by rw [HTL.out]; exact x2)
          rw [HTL.out]
          exact blk_cell (hxr.blk HB5.out) (j := 0) rfl
        have HOWN := Lib.hid hown
        clear c0 HL hlm hown ht
        cases t
        · go_wp2_with (go_at_call 67; refine CF.out.mono ?_; rintro e w' ⟨rfl, rfl⟩)
          go_roundw
          case rel => exact ⟨k + 1, L, by omega, by go_num, HOWN.out, (by unfold Hid; rw [hsn.out]; simp), hxr⟩
          case measure => simp [intOf]; omega
        · go_wp2_with (first | (go_at_call 67; refine CF.out.mono ?_; rintro e w' ⟨rfl, rfl⟩) | (at_builtin; refine wpList_append_own _ rfl _ _ 24 rfl w5.heap.size 3 i0 (.int .i64 0) 1 8 Try.underlying24 hi0 hz0 hz1 hz2 rfl (by decide) _ _ _ rfl (HOWN.out.alloc _) ⟨wr.heap.size, 0, none⟩ 1 1 [.int .i64 (k : Int)] rfl rfl (new_cells1 _ _ _) (by intro u hu; simp at hu; subst hu; rfl) (by unfold maxLen; omega) (by omega) (by have := hxr.size; simp; omega) ?_; intro v3 w6 hown3 hgrow3 _))
          go_roundw
          case rel => exact ⟨k + 1, _, by omega, by go_num, own_push hown3, (by unfold Hid; rw [hsn.out]; simp), hxr.push HOWN.out hgrow3 (Nat.le_refl _)⟩
          case measure => simp [intOf]; omega
      · have hge : ¬ ((k : Int) < (s : Int)) := by omega
        have hLZ : Hid (Z = L) := by
          unfold Hid; rw [HZ.out, hL.out, List.take_of_length_le (by rw [← HS.out]; omega)]
        have HOWN := Lib.hid hown
        obtain ⟨a5, c5, rfl, _, _, _⟩ := own_form hown
        clear hown
        go_wp2
        go_ret2
        refine ⟨_, rfl, ?_, X5.trans hxr⟩
        rw [hLZ.out]
        exact own_mono HOWN.out HSZ.out
end Go.Proofs.Ytiofckbdjifdpaa
