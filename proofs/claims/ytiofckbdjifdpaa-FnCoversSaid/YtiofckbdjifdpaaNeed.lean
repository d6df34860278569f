
/- NeededSites of the program and of the reference: their contracts. -/
import Derived.Test.YtiofckbdjifdpaaCover
import Derived.Test.YtiofckbdjifdpaaPut
import Derived.Test.YtiofckbdjifdpaaSet
namespace Go.Proofs.Ytiofckbdjifdpaa
open Go.RowKit
def upto (m : Nat) : List Int := (List.range m).map fun i : Nat => (i : Int)
theorem upto_len (m : Nat) : (upto m).length = m := by simp [upto]
theorem upto_succ (m : Nat) : upto (m + 1) = upto m ++ [(m : Int)] := by simp [upto, List.range_succ]
theorem upto_get {m k : Nat} (h : k < m) : (upto m)[k]? = some (k : Int) := by simp [upto, h]
theorem upto_take {m k : Nat} (h : k ≤ m) : (upto m).take k = upto k := by
  unfold upto
  rw [← List.map_take, List.take_range, Nat.min_eq_left h]
theorem upto_good (m : Nat) (h : m ≤ 12) : GoodC m (upto m) := by
  refine ⟨by rw [upto_len]; exact h, fun i hi => ?_⟩
  obtain ⟨j, hj, rfl⟩ := List.mem_map.1 hi
  have := List.mem_range.1 hj
  omega
set_option maxRecDepth 100000 in
set_option maxHeartbeats 1000000 in
theorem c_stAll (va : Value) (la ha : Nat) (xss : List (List Int)) (w : World) (h : Intss w la ha va xss) (hl : xss.length ≤ 20) :
    Calls Try.prog 64 #[va] w fun e w' => ∃ r, e = .returned r ∧ w'.ownsRow w.heap.size 3 1 r (upto xss.length).length ((upto xss.length).flatMap encI) ∧ Ext w w' := by
  obtain ⟨i0, hi0, hz0, hz1, hz2⟩ := info_parts Try.info_intC
  obtain ⟨a, cap, rfl, m1, m2⟩ := h.form
  obtain ⟨m, hm⟩ : ∃ m, m = xss.length := ⟨_, rfl⟩
  rw [← hm] at m1 hl ⊢
  clear h hm
  go_enter Try.func64, Try.ntmps64
  go_wp2
  go_loopw [3, 7] (fun v t wr => ∃ (k : Nat) (L : List Int), k ≤ m ∧ t = .int .i64 k ∧ wr.ownsRow w.heap.size 3 1 v L.length (L.flatMap encI) ∧ Hid (L = upto k) ∧ Ext w wr) (fun _ t _ => m - (intOf t).toNat)
  case atStart => exact ⟨0, [], by omega, rfl, World.ownsRow_nil _ _ _ _, rfl, Ext.refl _⟩
  case round =>
    obtain ⟨k, L, hk, rfl, hown, hL, hxr⟩ := hrel
    by_cases hlt : k < m
    · have hltI : (k : Int) < (m : Int) := by omega
      have hlen : L.length ≤ 20 := by rw [hL.out, upto_len]; omega
      have HOWN := Lib.hid hown
      clear hown
      go_wp2_with (at_builtin; refine wpList_append_own _ rfl _ _ 24 rfl w.heap.size 3 i0 (.int .i64 0) 1 8 Try.underlying24 hi0 hz0 hz1 hz2 rfl (by decide) _ _ _ rfl (HOWN.out.alloc _) ⟨wr.heap.size, 0, none⟩ 1 1 [.int .i64 (k : Int)] rfl rfl (new_cells1 _ _ _) (by intro u hu; simp at hu; subst hu; rfl) (by unfold maxLen; omega) (by omega) (by have := hxr.size; simp; omega) ?_; intro v3 w4 hown3 hgrow3 _)
      go_roundw
      case rel =>
        refine ⟨k + 1, L ++ [(k : Int)], by omega, by go_num, own_push hown3, ?_, hxr.push HOWN.out hgrow3 (Nat.le_refl _)⟩
        unfold Hid; rw [upto_succ, hL.out]
      case measure => simp [intOf]; omega
    · have hge : ¬ ((k : Int) < (m : Int)) := by omega
      have hLZ : Hid (L = upto m) := by unfold Hid; rw [hL.out]; congr 1; omega
      have HOWN := Lib.hid hown
      obtain ⟨a5, c5, rfl, _, _, _⟩ := own_form hown
      clear hown
      go_wp2
      go_ret
      refine ⟨_, rfl, ?_, hxr⟩
      rw [← hLZ.out]
      exact HOWN.out
set_option maxRecDepth 100000 in
set_option maxHeartbeats 1000000 in
theorem c_firstChoice (m : Nat) (w : World) (hl : m ≤ 20) :
    Calls Try.prog 57 #[.int .i64 m] w fun e w' => ∃ r, e = .returned r ∧ w'.ownsRow w.heap.size 3 1 r (upto m).length ((upto m).flatMap encI) ∧ Ext w w' := by
  obtain ⟨i0, hi0, hz0, hz1, hz2⟩ := info_parts Try.info_intC
  have hlI : (m : Int) ≤ 20 := by omega
  have hl0 : 0 ≤ (m : Int) := by omega
  go_enter Try.func57, Try.ntmps57
  go_wp2_with (at_make; refine wpList_make_full _ rfl _ _ 24 rfl w.heap.size 3 i0 (.int .i64 0) 1 Try.underlying24 hi0 hz0 hz1 _ _ _ _ m rfl rfl rfl rfl (by rw [hz2]; omega) (by unfold maxLen; omega) (Nat.le_refl _) ?_; intro w1 hown hgrow)
  rw [made_ints] at hown
  have hx1 : Ext w w1 := (Ext.refl w).gr hgrow (by simp)
  have hOWN := Lib.hid hown
  clear hgrow hown
  go_loopw [9] (fun t wr => ∃ (k : Nat) (T : List Int), k ≤ m ∧ t = .int .i64 k ∧ wr.ownsRow w.heap.size 3 1 (.slice (some ⟨w.heap.size, 0, none⟩) m m) m (T.flatMap encI) ∧ Hid (T.take k = upto k) ∧ Ext w wr) (fun t _ => m - (intOf t).toNat)
  case atStart => exact ⟨0, _, by omega, rfl, hOWN.out, rfl, hx1⟩
  case round =>
    clear hOWN
    obtain ⟨k, T, hk, rfl, hown, hT, hx⟩ := hrel
    have hTl : T.length = m := by have := hown.1; rw [flat_map, List.length_map] at this; omega
    by_cases hlt : k < m
    · have hltI : (k : Int) < (m : Int) := by omega
      obtain ⟨y, hy⟩ : ∃ y, T[k]? = some y := ⟨_, List.getElem?_eq_getElem (by omega)⟩
      have e0 := own_cellv hown hy hlt
      have z0 := hown.frozenAt k
      have HTL := Lib.hid hTl
      have HOWN := Lib.hid hown
      clear hown hTl hy
      go_wp2
      go_roundw
      case rel =>
        refine ⟨k + 1, _, by omega, by go_num, own_set HOWN.out k (k : Int), ?_, hx.st (Nat.le_refl _) _⟩
        unfold Hid
        have hTl := HTL.out
        rw [List.take_add_one, List.getElem?_set_self (by omega), List.take_set_of_le (Nat.le_refl _), hT.out, upto_succ]; rfl
      case measure => simp [intOf]; omega
    · have hge : ¬ ((k : Int) < (m : Int)) := by omega
      have hTZ : Hid (T = upto m) := by
        unfold Hid
        have h9 := hT.out
        rw [List.take_of_length_le (by omega)] at h9
        rw [h9]; congr 1; omega
      have HOWN := Lib.hid hown
      clear hown hTl
      go_wp2
      go_ret
      refine ⟨_, rfl, ?_, hx⟩
      rw [upto_len, ← hTZ.out]
      exact HOWN.out

/-! ### The sites without which some spot is not seen -/
def ndB (T : List Int) (s : Int) : Bool := T.getD s.toNat 0 == 1
def ndL (T : List Int) : Nat → List (List Int) → List Int
  | _, [] => []
  | i, l :: r => (if l.any (ndB T) then [(i : Int)] else []) ++ ndL T (i + 1) r
theorem ndL_snoc (T : List Int) (xs : List (List Int)) (x : List Int) : ∀ i, ndL T i (xs ++ [x]) = ndL T i xs ++ (if x.any (ndB T) then [((i + xs.length : Nat) : Int)] else []) := by
  induction xs with
  | nil => intro i; simp [ndL]
  | cons y r ih =>
    intro i
    simp only [List.cons_append, ndL, ih (i + 1), List.length_cons, List.append_assoc]
    rw [show i + 1 + r.length = i + (r.length + 1) by omega]
theorem ndL_len (T : List Int) (l : List (List Int)) : ∀ i, (ndL T i l).length ≤ l.length := by
  induction l with
  | nil => intro i; simp [ndL]
  | cons y r ih => intro i; have := ih (i + 1); simp only [ndL, List.length_append, List.length_cons]; split <;> simp <;> omega
theorem ndL_lt (T : List Int) (l : List (List Int)) : ∀ i, ∀ x ∈ ndL T i l, x < ((i + l.length : Nat) : Int) := by
  induction l with
  | nil => intro i x hx; simp [ndL] at hx
  | cons y r ih =>
    intro i x hx
    simp only [ndL, List.mem_append, List.length_cons] at hx ⊢
    rcases hx with hx | hx
    · split at hx
      · simp at hx; omega
      · simp at hx
    · have := ih (i + 1) x hx; omega
def neV (xss : List (List Int)) (n : Int) : List Int := if sitesB xss n then ndL (timesL xss n.toNat (upto xss.length)) 0 xss else []
theorem neV_len (xss : List (List Int)) (n : Int) : (neV xss n).length ≤ 1099511627776 := by
  unfold neV
  split
  · rename_i h
    obtain ⟨m, rfl, gs⟩ := GoodS.of h
    have h1 := ndL_len (timesL xss m (upto xss.length)) xss 0
    have := gs.s12
    rw [Int.toNat_natCast]; omega
  · simp
theorem putAt_top {n : Int} : ∀ {L : List Int}, (∀ x ∈ L, x < n) → putAt n L = L.length
  | [], _ => rfl
  | x :: r, h => by
    unfold putAt
    rw [if_pos (h x (by simp)), putAt_top (fun y hy => h y (by simp [hy]))]; rfl
theorem insL_top {n : Int} {L : List Int} (h : ∀ x ∈ L, x < n) : insL L n = L ++ [n] := by
  unfold insL
  rw [putAt_top h, List.getElem?_eq_none (Nat.le_refl _), if_neg (by simp), List.take_of_length_le (Nat.le_refl _), List.drop_of_length_le (Nat.le_refl _)]
  simp
theorem putAt_snoc {n : Int} : ∀ {L : List Int}, (∀ x ∈ L, x < n) → putAt n (L ++ [n]) = L.length
  | [], _ => by simp [putAt]
  | x :: r, h => by
    rw [List.cons_append]
    unfold putAt
    rw [if_pos (h x (by simp)), putAt_snoc (fun y hy => h y (by simp [hy]))]; rfl
theorem insL_again {n : Int} {L : List Int} (h : ∀ x ∈ L, x < n) : insL (L ++ [n]) n = L ++ [n] := by
  unfold insL
  rw [putAt_snoc h, if_pos (by simp)]
theorem any_snoc {f : Int → Bool} {l : List Int} {k : Nat} {x : Int} (h : l[k]? = some x) : (l.take (k + 1)).any f = ((l.take k).any f || f x) := by
  rw [take_snoc' h, List.any_append]; simp
set_option maxRecDepth 100000 in
set_option maxHeartbeats 2000000 in
theorem c_sNeeded (va : Value) (la ha : Nat) (xss : List (List Int)) (n : Int) (w : World) (h : Intss w la ha va xss) (hh : ha ≤ w.heap.size) :
    Calls Try.prog 30 #[va, .int .i64 n] w fun e w' => ∃ r, e = .returned (.tuple #[r, .bool (sitesB xss n)]) ∧ w'.ownsRow w.heap.size 3 1 r (neV xss n).length ((neV xss n).flatMap encI) ∧ Ext w w' := by
  obtain ⟨Z, hZ⟩ : ∃ r, r = neV xss n := ⟨_, rfl⟩
  rw [← hZ]
  unfold neV at hZ
  have C1 := Lib.hid (c_stGood va la ha xss n w h hh)
  cases e1 : sitesB xss n
  · rw [e1] at C1 hZ
    simp at hZ; subst hZ
    clear h e1
    go_enter Try.func30, Try.ntmps30
    go_wp2_with (go_at_call 42; refine C1.out.mono ?_; rintro e w2 ⟨rfl, hx⟩)
    go_ret2
    exact ⟨_, rfl, World.ownsRow_nil _ _ _ _, hx⟩
  · obtain ⟨m, rfl, gs⟩ := GoodS.of e1
    rw [e1] at C1 hZ
    simp at hZ
    have s12 := gs.s12
    have n16 := gs.n16
    obtain ⟨T, hT⟩ : ∃ T, T = timesL xss m (upto xss.length) := ⟨_, rfl⟩
    have hTl : T.length = m := by rw [hT, timesL_len]
    have C2 : Hid (∀ W, Ext w W → Calls Try.prog 64 #[va] W fun e w' => ∃ v, e = .returned v ∧ OwnI w' W.heap.size w'.heap.size v (upto xss.length) ∧ Ext W w') :=
      fun W hX => (c_stAll va la ha xss W (h.ext hX hh) (by omega)).mono fun e w' ⟨v, he, ho, hx⟩ => ⟨v, he, OwnI.of ho, hx⟩
    have C3 : Hid (∀ W vb lb hb, Ext w W → Ints W lb hb vb (upto xss.length) → hb ≤ W.heap.size → Calls Try.prog 65 #[va, .int .i64 m, vb] W fun e w' => ∃ v, e = .returned v ∧ OwnI w' W.heap.size w'.heap.size v T ∧ Ext W w') :=
      fun W vb lb hb hX hr hbb => by rw [hT]; exact c_stTimes va vb la ha lb hb xss m _ W (h.ext hX hh) (Nat.le_trans hh hX.size) hr hbb gs (upto_good _ s12)
    rw [← hT] at hZ
    obtain ⟨a, cap, rfl, m1, m2⟩ := h.form
    have H := Lib.hid h
    obtain ⟨s, hs⟩ : ∃ s, s = xss.length := ⟨_, rfl⟩
    rw [← hs] at m1 H s12 C1 C2 C3 ⊢
    have HS := Lib.hid hs
    have HZ := Lib.hid hZ
    have HTL := Lib.hid hTl
    have GS := Lib.hid gs
    clear h e1 gs hZ hT hTl hs
    go_enter Try.func30, Try.ntmps30
    go_wp2_with (go_at_call 42; refine C1.out.mono ?_; rintro e w2 ⟨rfl, hx⟩)
    refine (C2.out _ hx).mono ?_
    rintro e w3 ⟨vu, rfl, ho3, hx3⟩
    have HO3 := Lib.hid ho3
    obtain ⟨au, cu, rfl, _, _⟩ := ho3.form
    clear ho3
    have X3 := hx.trans hx3
    go_wp2_with fail
    refine (C3.out _ _ _ _ X3 HO3.out.read (Nat.le_refl _)).mono ?_
    rintro e w4 ⟨vt, rfl, ho4, hx4⟩
    have HO4 := Lib.hid ho4
    obtain ⟨at_, ct, rfl, q1, q2⟩ := ho4.form
    rw [HTL.out] at HO4 q1
    rw [HTL.out]
    clear ho4 HO3
    have X4 := X3.trans hx4
    have HSZ := Lib.hid X4.size
    go_wp2
    go_loopw [6, 23] (fun v t wr => ∃ (k : Nat) (L : List Int), k ≤ s ∧ t = .int .i64 k ∧ wr.ownsRow w4.heap.size 3 1 v L.length (L.flatMap encI) ∧ Hid (L = ndL T 0 (xss.take k)) ∧ Ext w4 wr) (fun _ t _ => s - (intOf t).toNat)
    case atStart => exact ⟨0, [], by omega, rfl, World.ownsRow_nil _ _ _ _, rfl, Ext.refl _⟩
    case round =>
      obtain ⟨k, L, hk, rfl, hown, hL, hxr⟩ := hrel
      by_cases hlt : k < s
      · obtain ⟨b, o, a3, c3, l, rfl, hl, c0, HL, r1, r2⟩ := Intss_at H.out hlt
        have d0 := (X4.trans hxr).cell c0
        have hltI : (k : Int) < (s : Int) := by omega
        have hlm := List.mem_of_getElem? hl.out
        have GL : Hid (∀ s ∈ l, 0 ≤ s ∧ s < (m : Int)) := GS.out.mem l hlm
        have hLk : Hid (∀ x ∈ L, x < (k : Int)) := fun x hx => by
          have := ndL_lt T (xss.take k) 0 x (by rw [← hL.out]; exact hx)
          have := List.length_take_le k xss
          omega
        have hLl : L.length ≤ 12 := by
          have h9 := ndL_len T (xss.take k) 0
          rw [← hL.out] at h9
          have := List.length_take_le k xss
          omega
        have HLX := HL.out.ext (X4.trans hxr) hh
        have HLX2 := Lib.hid HLX
        have hsn : Hid (ndL T 0 (xss.take (k + 1)) = L ++ (if l.any (ndB T) then [(k : Int)] else [])) := by
          unfold Hid
          rw [take_snoc' hl.out, ndL_snoc, ← hL.out, List.length_take_of_le (by rw [← HS.out]; exact hk)]; simp
        obtain ⟨nl, hnl⟩ : ∃ nl, nl = l.length := ⟨_, rfl⟩
        rw [← hnl] at d0 HLX2 r1
        have HNL := Lib.hid hnl
        have HOWN := Lib.hid hown
        clear c0 HL HLX hlm hnl hown
        go_wp2
        go_loopw [6, 30] (fun v t wr2 => ∃ (q : Nat) (U : List Int), q ≤ nl ∧ t = .int .i64 q ∧ wr2.ownsRow w4.heap.size 3 1 v U.length (U.flatMap encI) ∧ Hid (U = L ++ (if (l.take q).any (ndB T) then [(k : Int)] else [])) ∧ Ext wr wr2) (fun _ t _ => nl - (intOf t).toNat)
        case atStart => exact ⟨0, L, by omega, rfl, HOWN.out, by simp [Hid], Ext.refl _⟩
        case round =>
          obtain ⟨q, U, hq, rfl, hown2, hU, hx2⟩ := hrel
          by_cases hlt2 : q < nl
          · obtain ⟨b2, o2, sp, rfl, hsp, c1⟩ := Ints_at HLX2.out hlt2
            have e1 := hx2.cell c1
            obtain ⟨s1, s2⟩ := GL.out sp (List.mem_of_getElem? hsp.out)
            obtain ⟨p, rfl⟩ := Int.eq_ofNat_of_zero_le s1
            have hpn : p < m := by omega
            obtain ⟨b3, o3, y, rfl, hy, c2⟩ := Ints_at HO4.out.read hpn
            have e2 := (hxr.trans hx2).cell c2
            have hlt2I : (q : Int) < (nl : Int) := by omega
            have hUl : U.length ≤ 20 := by rw [hU.out]; simp; split <;> simp <;> omega
            have han := any_snoc (f := ndB T) hsp.out
            have hnd : ndB T (p : Int) = (y == 1) := by unfold ndB; rw [Int.toNat_natCast, List.getD_eq_getElem?_getD, hy.out]; rfl
            rw [hnd] at han
            have HOWN2 := Lib.hid hown2
            have HAN := Lib.hid han
            clear c1 c2 hown2 hnd han
            cases hy1 : (y == 1)
            · have hUU : Hid (U = L ++ (if (l.take (q + 1)).any (ndB T) then [(k : Int)] else [])) := by
                unfold Hid; rw [HAN.out, hy1, Bool.or_false]; exact hU.out
              go_wp2
              go_roundw
              case rel => exact ⟨q + 1, U, by omega, by go_num, HOWN2.out, hUU.out, hx2⟩
              case measure => simp [intOf]; omega
            · have hUU : Hid (insL U (k : Int) = L ++ (if (l.take (q + 1)).any (ndB T) then [(k : Int)] else [])) := by
                unfold Hid
                rw [HAN.out, hy1, Bool.or_true, if_pos rfl, hU.out]
                split
                · exact insL_again hLk.out
                · rw [List.append_nil]; exact insL_top hLk.out
              go_wp2_with (go_at_call 69; refine (c_l1Put _ w4.heap.size U (k : Int) _ HOWN2.out (by have := hx2.size; have := hxr.size; omega) hUl).mono ?_; rintro e w6 ⟨r6, rfl, ho6, hx6⟩)
              go_roundw
              case rel => exact ⟨q + 1, _, by omega, by go_num, ho6, hUU.out, hx2.trans hx6⟩
              case measure => simp [intOf]; omega
          · have hge : ¬ ((q : Int) < (nl : Int)) := by omega
            have hUU : Hid (U = ndL T 0 (xss.take (k + 1))) := by
              unfold Hid; rw [hsn.out, hU.out, List.take_of_length_le (by rw [← HNL.out]; omega)]
            have HOWN2 := Lib.hid hown2
            clear hown2
            go_wp2
            go_roundw
            case rel => exact ⟨k + 1, U, by omega, by go_num, HOWN2.out, hUU.out, hxr.trans hx2⟩
            case measure => simp [intOf]; omega
      · have hge : ¬ ((k : Int) < (s : Int)) := by omega
        have hLZ : Hid (Z = L) := by
          unfold Hid; rw [HZ.out, hL.out, List.take_of_length_le (by rw [← HS.out]; omega)]
        have HOWN := Lib.hid hown
        obtain ⟨a5, c5, rfl, _, _, _⟩ := own_form hown
        clear hown
        go_wp2
        go_ret2
        refine ⟨_, rfl, ?_, X4.trans hxr⟩
        rw [hLZ.out]
        exact own_mono HOWN.out HSZ.out
end Go.Proofs.Ytiofckbdjifdpaa
