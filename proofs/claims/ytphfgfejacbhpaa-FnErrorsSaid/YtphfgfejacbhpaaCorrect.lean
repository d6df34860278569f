
/- CorrectOne of the program and of the reference: their contracts. -/
import Derived.Test.YtphfgfejacbhpaaSwap
namespace Go.Proofs.Ytphfgfejacbhpaa
open Go.RowKit

def srch (p : Nat → Bool) : Nat → Nat → Option Nat
  | 0, _ => none
  | f + 1, k => if p k then some k else srch p f (k + 1)
def coP (a b : Int) (i : Nat) : Bool := decide (((i : Int) + 1) * a % 61 = b)
def coH (xs : List Int) : Option (List Int) :=
  if holdB xs then some xs else if lsum xs % 61 = 0 then none
  else (srch (coP (lsum xs % 61) (wsum 0 xs % 61)) xs.length 0).map fun i => xs.set i (resid (xs.getD i 0 - lsum xs % 61))
def coO (xs : List Int) : Option (List Int) := if wordB 50 xs then coH xs else none
theorem own_set {w : World} {base g n c : Nat} {xs : List Int} (h : w.ownsRow base 3 1 (.slice (some ⟨g, 0, none⟩) n c) n (xs.flatMap encI)) (hn : n = xs.length) (k : Nat) (x : Int) :
    (w.setCell ⟨g, k, none⟩ (.int .i64 x)).ownsRow base 3 1 (.slice (some ⟨g, 0, none⟩) n c) (xs.set k x).length ((xs.set k x).flatMap encI) := by
  rw [flat_set, List.length_set, ← hn]
  exact (h.stored k (.int .i64 x)).1
set_option maxRecDepth 100000 in
set_option maxHeartbeats 1000000 in
theorem c_correctOne (v : Value) (la ha : Nat) (xs : List Int) (w : World) (h : Ints w la ha v xs) (hh : ha ≤ w.heap.size) (h50 : wordB 50 xs = true) :
    Calls Try.prog 46 #[v] w fun e w' => ∃ r, e = .returned (.tuple #[r, .bool (coH xs).isSome]) ∧ w'.ownsRow w.heap.size 3 1 r ((coH xs).getD []).length (((coH xs).getD []).flatMap encI) ∧ Ext w w' := by
  obtain ⟨O, hO⟩ : ∃ O, O = coH xs := ⟨_, rfl⟩
  rw [← hO]
  unfold coH holdB at hO
  have h0 := h
  obtain ⟨a, cap, rfl, m1, m2, _⟩ := h0
  have H := Lib.hid h
  clear h
  have hb := h50
  unfold wordB at hb
  simp only [Bool.and_eq_true, decide_eq_true_eq] at hb
  obtain ⟨hb1, hb2⟩ := hb
  have HB := Lib.hid hb2
  have HW := Lib.hid h50
  obtain ⟨s, hs⟩ : ∃ s, s = lsum xs % 61 := ⟨_, rfl⟩
  obtain ⟨t, ht⟩ : ∃ t, t = wsum 0 xs % 61 := ⟨_, rfl⟩
  rw [← hs, ← ht] at hO
  have hs1 : 0 ≤ s := by omega
  have hs2 : s < 61 := by omega
  have ht1 : 0 ≤ t := by omega
  have ht2 : t < 61 := by omega
  have hs0 : s ≠ 0 → 0 < xs.length := fun h => by
    cases xs with
    | nil => exact absurd (hs.trans rfl) h
    | cons x r => simp
  have HS := Lib.hid hs
  have HT := Lib.hid ht
  have HS0 := Lib.hid hs0
  have CY := Lib.hid (c_syndromes _ _ _ xs w H.out h50)
  rw [← hs, ← ht] at CY
  have CC1 := Lib.hid (c_Clone _ _ _ xs w H.out hh (by omega))
  have CC : Hid (0 < xs.length → Calls Try.prog 41 #[.slice a xs.length cap] w fun e w' => ∃ g c, e = .returned (.slice (some ⟨g, 0, none⟩) xs.length c) ∧ w'.ownsRow w.heap.size 3 1 (.slice (some ⟨g, 0, none⟩) xs.length c) xs.length (xs.flatMap encI) ∧ w.heap.size ≤ g ∧ Ext w w') := fun h0 => by
    refine CC1.out.mono fun e w' hq => ?_
    obtain ⟨v', he, ho, hx'⟩ := hq
    obtain ⟨g, c, rfl, hg1, hg2⟩ := own_at0 ho h0
    exact ⟨g, c, he, ho, hg1, hx'⟩
  clear hb2 h50 hs ht hs0
  obtain ⟨n, hn⟩ : ∃ n, n = xs.length := ⟨_, rfl⟩
  rw [← hn] at m1 H hb1 HS0 CC1 CC CY hO ⊢
  have HN := Lib.hid hn
  clear hn
  by_cases hz : s = 0
  · subst hz
    by_cases hz2 : t = 0
    · subst hz2
      simp at hO
      subst hO
      have hzb : ((0 : Int) == 0) = true := rfl
      go_enter Try.func46, Try.ntmps46
      go_wp2_with (first | (go_at_call 45; refine CY.out.mono ?_; rintro e w' ⟨rfl, rfl⟩) | (go_at_call 41; refine CC1.out.mono ?_; rintro e w2 ⟨r, rfl, hown, hx2⟩))
      go_ret2
      exact ⟨r, rfl, by show w2.ownsRow w.heap.size 3 1 r xs.length (xs.flatMap encI); rw [← HN.out]; exact hown, hx2⟩
    · simp [hz2] at hO
      subst hO
      go_enter Try.func46, Try.ntmps46
      go_wp2_with (first | (go_at_call 45; refine CY.out.mono ?_; rintro e w' ⟨rfl, rfl⟩) | (go_at_call 41; refine CC1.out.mono ?_; rintro e w2 ⟨r, rfl, hown, hx2⟩))
      go_ret2
      exact ⟨_, rfl, World.ownsRow_nil _ _ _ _, hx2⟩
  · have hn0 := HS0.out hz
    have CCn := Lib.hid (CC.out hn0)
    simp [hz] at hO
    have HO := Lib.hid hO
    clear hO CC1 CC
    go_enter Try.func46, Try.ntmps46
    go_wp2_with (first | (go_at_call 45; refine CY.out.mono ?_; rintro e w' ⟨rfl, rfl⟩) | (go_at_call 41; refine CCn.out.mono ?_; rintro e w2 ⟨g, c, rfl, hown, hgb, hx2⟩))
    have HOWN := Lib.hid hown
    have fz0 := fun j => hown.frozenAt j
    clear hown
    go_loop [26, 7] (fun u _ => ∃ k : Nat, k ≤ n ∧ u = .int .i64 k ∧ Hid (O = (srch (coP s t) (n - k) k).map fun i => xs.set i (resid (xs.getD i 0 - s)))) (fun u _ => n - (intOf u).toNat)
    case atStart => exact ⟨0, by omega, rfl, by unfold Hid; rw [HO.out]; simp⟩
    case round =>
      obtain ⟨k, hk, rfl, hR⟩ := hrel
      by_cases hlt : k < n
      · obtain ⟨b, o, x, ha, hg, c0⟩ := Ints_at H.out hlt
        have hltI : (k : Int) < (n : Int) := by omega
        obtain ⟨hg1, hg2⟩ := allB_get HB.out hg.out
        obtain ⟨hp1, hp2⟩ := mulBd (a := (k : Int) + 1) (b := s) (A := 50) (B := 61) (by omega) (by omega) (by omega) (by omega)
        have hR2 := hR.out
        rw [show n - k = (n - (k + 1)) + 1 by omega, srch] at hR2
        have hx0 : xs.getD k 0 = x := by rw [List.getD_eq_getElem?_getD, hg.out]; rfl
        have cg := own_cellv HOWN.out hg.out hlt
        by_cases hc : ((k : Int) + 1) * s % 61 = t
        · have hP : coP s t k = true := by unfold coP; simp [hc]
          rw [hP] at hR2
          simp only [if_true, Option.map_some, hx0] at hR2
          have HR := Lib.hid hR2
          clear hR hR2 c0 hP hx0
          go_wp2_with (go_at_call 48; refine (c_residue _ _ (by omega) (by omega)).mono ?_; rintro e w' ⟨rfl, rfl⟩)
          go_ret2
          rw [HR.out]
          exact ⟨_, rfl, own_set HOWN.out HN.out k _, hx2.st hgb _⟩
        · have hP : coP s t k = false := by unfold coP; simp [hc]
          rw [hP] at hR2
          have HR := Lib.hid hR2
          clear hR hR2 c0 hP hx0
          go_wp2
          go_round
          case rel => exact ⟨k + 1, by omega, by go_num, HR.out⟩
          case measure => simp [intOf]; omega
      · have hR2 : O = none := by
          have := hR.out
          rw [show n - k = 0 by omega] at this
          exact this
        subst hR2
        clear hR
        go_wp2
        go_ret2
        exact ⟨_, rfl, World.ownsRow_nil _ _ _ _, hx2⟩
set_option maxRecDepth 100000 in
theorem c_iCorrectOne (v : Value) (la ha : Nat) (xs : List Int) (w : World) (h : Ints w la ha v xs) (hh : ha ≤ w.heap.size) :
    Calls Try.prog 13 #[v] w fun e w' => ∃ r, e = .returned (.tuple #[r, .bool (coO xs).isSome]) ∧ w'.ownsRow w.heap.size 3 1 r ((coO xs).getD []).length (((coO xs).getD []).flatMap encI) ∧ Ext w w' := by
  cases h50 : wordB 50 xs
  · have hO : coO xs = none := by unfold coO; simp [h50]
    rw [hO]
    have H := Lib.hid h
    clear h hO
    go_enter Try.func13, Try.ntmps13
    go_wp2_with ((go_at_call 39; refine (c_isWord _ _ _ xs 0 _ H.out).mono ?_; rintro e w' ⟨rfl, rfl⟩))
    go_ret2
    exact ⟨_, rfl, World.ownsRow_nil _ _ _ _, Ext.refl _⟩
  have hO2 : coO xs = coH xs := by unfold coO; simp [h50]
  rw [hO2]
  have CO := Lib.hid (c_correctOne v la ha xs w h hh h50)
  obtain ⟨O, hO⟩ : ∃ O, O = coH xs := ⟨_, rfl⟩
  rw [← hO] at CO ⊢
  have H := Lib.hid h
  clear h hO hO2
  go_enter Try.func13, Try.ntmps13
  go_wp2_with (first | (go_at_call 39; refine (c_isWord _ _ _ xs 0 _ H.out).mono ?_; rintro e w' ⟨rfl, rfl⟩) | (go_at_call 46; refine CO.out.mono ?_; rintro e w2 ⟨r, rfl, hown, hx2⟩))
  go_ret2
  exact ⟨r, rfl, hown, hx2⟩
set_option maxRecDepth 100000 in
set_option maxHeartbeats 1000000 in
theorem c_sCorrectOne (v : Value) (la ha : Nat) (xs : List Int) (w : World) (h : Ints w la ha v xs) (hh : ha ≤ w.heap.size) :
    Calls Try.prog 24 #[v] w fun e w' => ∃ r, e = .returned (.tuple #[r, .bool (coO xs).isSome]) ∧ w'.ownsRow w.heap.size 3 1 r ((coO xs).getD []).length (((coO xs).getD []).flatMap encI) ∧ Ext w w' := by
  cases h50 : wordB 50 xs
  · have hO : coO xs = none := by unfold coO; simp [h50]
    rw [hO]
    have H := Lib.hid h
    clear h hO
    go_enter Try.func24, Try.ntmps24
    go_wp2_with ((go_at_call 42; refine (c_ckWord _ _ _ xs _ _ H.out).mono ?_; rintro e w' ⟨rfl, rfl⟩))
    go_ret2
    exact ⟨_, rfl, World.ownsRow_nil _ _ _ _, Ext.refl _⟩
  have hO2 : coO xs = coH xs := by unfold coO; simp [h50]
  rw [hO2]
  clear hO2
  have CW0 := Lib.hid (c_ckWord v la ha xs 50 w h)
  rw [h50] at CW0
  obtain ⟨O, hO⟩ : ∃ O, O = coH xs := ⟨_, rfl⟩
  rw [← hO]
  unfold coH holdB at hO
  have h0 := h
  obtain ⟨a, cap, rfl, m1, m2, _⟩ := h0
  have H := Lib.hid h
  clear h
  have hb := h50
  unfold wordB at hb
  simp only [Bool.and_eq_true, decide_eq_true_eq] at hb
  obtain ⟨hb1, hb2⟩ := hb
  have HB := Lib.hid hb2
  have HW := Lib.hid h50
  obtain ⟨s, hs⟩ : ∃ s, s = lsum xs % 61 := ⟨_, rfl⟩
  obtain ⟨t, ht⟩ : ∃ t, t = wsum 0 xs % 61 := ⟨_, rfl⟩
  rw [← hs, ← ht] at hO
  have hs1 : 0 ≤ s := by omega
  have hs2 : s < 61 := by omega
  have ht1 : 0 ≤ t := by omega
  have ht2 : t < 61 := by omega
  have hs0 : s ≠ 0 → 0 < xs.length := fun h => by
    cases xs with
    | nil => exact absurd (hs.trans rfl) h
    | cons x r => simp
  have HS := Lib.hid hs
  have HT := Lib.hid ht
  have HS0 := Lib.hid hs0
  have CY := Lib.hid (c_ckSum _ _ _ xs w H.out h50)
  rw [← hs, ← ht] at CY
  have CC1 := Lib.hid (c_l1Own _ _ _ xs w H.out hh (by omega))
  have CC : Hid (0 < xs.length → Calls Try.prog 44 #[.slice a xs.length cap] w fun e w' => ∃ g c, e = .returned (.slice (some ⟨g, 0, none⟩) xs.length c) ∧ w'.ownsRow w.heap.size 3 1 (.slice (some ⟨g, 0, none⟩) xs.length c) xs.length (xs.flatMap encI) ∧ w.heap.size ≤ g ∧ Ext w w') := fun h0 => by
    refine CC1.out.mono fun e w' hq => ?_
    obtain ⟨v', he, ho, hx'⟩ := hq
    obtain ⟨g, c, rfl, hg1, hg2⟩ := own_at0 ho h0
    exact ⟨g, c, he, ho, hg1, hx'⟩
  clear hb2 h50 hs ht hs0
  obtain ⟨n, hn⟩ : ∃ n, n = xs.length := ⟨_, rfl⟩
  rw [← hn] at m1 H hb1 HS0 CC1 CC CY hO ⊢
  have HN := Lib.hid hn
  clear hn
  rw [HN.out.symm] at CW0
  by_cases hz : s = 0
  · subst hz
    by_cases hz2 : t = 0
    · subst hz2
      simp at hO
      subst hO
      go_enter Try.func24, Try.ntmps24
      go_wp2_with (first | (go_at_call 42; refine CW0.out.mono ?_; rintro e w' ⟨rfl, rfl⟩) | (go_at_call 50; refine CY.out.mono ?_; rintro e w' ⟨rfl, rfl⟩) | (go_at_call 44; refine CC1.out.mono ?_; rintro e w2 ⟨r, rfl, hown, hx2⟩))
      go_ret2
      exact ⟨r, rfl, by show w2.ownsRow w.heap.size 3 1 r xs.length (xs.flatMap encI); rw [← HN.out]; exact hown, hx2⟩
    · simp [hz2] at hO
      subst hO
      have hz3 : ((t : Int) == 0) = false := by simpa using hz2
      go_enter Try.func24, Try.ntmps24
      go_wp2_with (first | (go_at_call 42; refine CW0.out.mono ?_; rintro e w' ⟨rfl, rfl⟩) | (go_at_call 50; refine CY.out.mono ?_; rintro e w' ⟨rfl, rfl⟩))
      go_loop [27, 6, 7] (fun u _ _ => ∃ k : Nat, k ≤ n ∧ u = .int .i64 k) (fun u _ _ => n - (intOf u).toNat)
      case atStart => exact ⟨0, by omega, rfl⟩
      case round =>
        obtain ⟨k, hk, rfl⟩ := hrel
        by_cases hlt : k < n
        · obtain ⟨b, o, x, rfl, hg, c0⟩ := Ints_at H.out hlt
          have hltI : (k : Int) < (n : Int) := by omega
          go_wp2
          go_round
          case rel => exact ⟨k + 1, by omega, by go_num⟩
          case measure => simp [intOf]; omega
        · go_wp2
          go_ret2
          exact ⟨_, rfl, World.ownsRow_nil _ _ _ _, Ext.refl _⟩
  · have hn0 := HS0.out hz
    have CCn := Lib.hid (CC.out hn0)
    simp [hz] at hO
    have HO := Lib.hid hO
    have hzb : ((s : Int) == 0) = false := by simpa using hz
    clear hO CC1 CC
    go_enter Try.func24, Try.ntmps24
    go_wp2_with (first | (go_at_call 42; refine CW0.out.mono ?_; rintro e w' ⟨rfl, rfl⟩) | (go_at_call 50; refine CY.out.mono ?_; rintro e w' ⟨rfl, rfl⟩))
    go_loop [27, 6, 7] (fun u _ _ => ∃ k : Nat, k ≤ n ∧ u = .int .i64 k ∧ Hid (O = (srch (coP s t) (n - k) k).map fun i => xs.set i (resid (xs.getD i 0 - s)))) (fun u _ _ => n - (intOf u).toNat)
    case atStart => exact ⟨0, by omega, rfl, by unfold Hid; rw [HO.out]; simp⟩
    case round =>
      obtain ⟨k, hk, rfl, hR⟩ := hrel
      by_cases hlt : k < n
      · obtain ⟨b, o, x, ha, hg, c0⟩ := Ints_at H.out hlt
        have hltI : (k : Int) < (n : Int) := by omega
        obtain ⟨hg1, hg2⟩ := allB_get HB.out hg.out
        obtain ⟨hp1, hp2⟩ := mulBd (a := (k : Int) + 1) (b := s) (A := 50) (B := 61) (by omega) (by omega) (by omega) (by omega)
        have hR2 := hR.out
        rw [show n - k = (n - (k + 1)) + 1 by omega, srch] at hR2
        have hx0 : xs.getD k 0 = x := by rw [List.getD_eq_getElem?_getD, hg.out]; rfl
        subst ha
        by_cases hc : ((k : Int) + 1) * s % 61 = t
        · have hP : coP s t k = true := by unfold coP; simp [hc]
          rw [hP] at hR2
          simp only [if_true, Option.map_some, hx0] at hR2
          have HR := Lib.hid hR2
          clear hR hR2 hP hx0
          go_wp2_with fail
          refine CCn.out.mono ?_
          rintro e w2 ⟨g, c, rfl, hown, hgb, hx2⟩
          have HOWN := Lib.hid hown
          have fz0 := fun j => hown.frozenAt j
          have cg := own_cellv hown hg.out hlt
          clear hown
          go_wp2_with (go_at_call 51; refine (c_ckSign _ _ (by omega) (by omega)).mono ?_; rintro e w' ⟨rfl, rfl⟩)
          go_ret2
          rw [HR.out]
          exact ⟨_, rfl, own_set HOWN.out HN.out k _, hx2.st hgb _⟩
        · have hP : coP s t k = false := by unfold coP; simp [hc]
          have hcb : ((((k : Int) + 1) * s % 61) == t) = false := by simpa using hc
          rw [hP] at hR2
          have HR := Lib.hid hR2
          clear hR hR2 hP hx0
          go_wp2
          go_round
          case rel => exact ⟨k + 1, by omega, by go_num, HR.out⟩
          case measure => simp [intOf]; omega
      · have hR2 : O = none := by
          have := hR.out
          rw [show n - k = 0 by omega] at this
          exact this
        subst hR2
        clear hR
        go_wp2
        go_ret2
        exact ⟨_, rfl, World.ownsRow_nil _ _ _ _, Ext.refl _⟩
end Go.Proofs.Ytphfgfejacbhpaa
