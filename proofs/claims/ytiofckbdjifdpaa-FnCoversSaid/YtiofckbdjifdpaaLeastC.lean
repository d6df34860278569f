
/- LeastCover of the program and of the reference: their contracts. -/
import Derived.Test.YtiofckbdjifdpaaCount
namespace Go.Proofs.Ytiofckbdjifdpaa
open Go.RowKit
theorem lexB_drop {a b : List Int} {k : Nat} {x y : Int} (ha : a[k]? = some x) (hb : b[k]? = some y) : lexB (a.drop k) (b.drop k) = if x = y then lexB (a.drop (k + 1)) (b.drop (k + 1)) else decide (x < y) := by
  have h1 := (List.getElem?_eq_some_iff.1 ha).1
  have h2 := (List.getElem?_eq_some_iff.1 hb).1
  have e1 : a.drop k = x :: a.drop (k + 1) := by
    rw [List.drop_eq_getElem_cons h1]; congr 1; exact (List.getElem?_eq_some_iff.1 ha).2
  have e2 : b.drop k = y :: b.drop (k + 1) := by
    rw [List.drop_eq_getElem_cons h2]; congr 1; exact (List.getElem?_eq_some_iff.1 hb).2
  rw [e1, e2]; rfl
set_option maxRecDepth 100000 in
set_option maxHeartbeats 1000000 in
theorem c_stBefore (va vb : Value) (la ha lb hb : Nat) (A B : List Int) (w : World) (h1 : Ints w la ha va A) (h2 : Ints w lb hb vb B) (hl : A.length = B.length) :
    Calls Try.prog 63 #[va, vb] w fun e w' => e = .returned (.bool (lexB A B)) ∧ w = w' := by
  obtain ⟨r, hr⟩ : ∃ r, r = lexB A B := ⟨_, rfl⟩
  rw [← hr]
  obtain ⟨a, cap, rfl, m1, m2⟩ := h1.form
  obtain ⟨a2, cap2, rfl, m3, m4⟩ := h2.form
  have H1 := Lib.hid h1
  have H2 := Lib.hid h2
  obtain ⟨n, hn⟩ : ∃ n, n = A.length := ⟨_, rfl⟩
  rw [← hl, ← hn] at m3 H2
  rw [← hl]
  rw [← hn] at m1 H1 ⊢
  have HN := Lib.hid hn
  have HL := Lib.hid hl
  have HR := Lib.hid hr
  clear h1 h2 hn hl hr
  go_enter Try.func63, Try.ntmps63
  go_wp2
  go_loop [9] (fun t => ∃ k : Nat, k ≤ n ∧ t = .int .i64 k ∧ Hid (r = lexB (A.drop k) (B.drop k))) (fun t => n - (intOf t).toNat)
  case atStart => exact ⟨0, by omega, rfl, HR.out⟩
  case round =>
    obtain ⟨k, hk, rfl, hT⟩ := hrel
    by_cases hlt : k < n
    · obtain ⟨b, o, x, rfl, hx, c0⟩ := Ints_at H1.out hlt
      obtain ⟨b2, o2, y, rfl, hy, c1⟩ := Ints_at H2.out hlt
      have hs := hT.out.trans (lexB_drop hx.out hy.out)
      have hltI : (k : Int) < (n : Int) := by omega
      by_cases hxy : x = y
      · have hb : ((x : Int) != y) = false := by simp [hxy]
        rw [if_pos hxy] at hs
        have HS := Lib.hid hs
        clear hs hxy
        go_wp2
        go_round
        case rel => exact ⟨k + 1, by omega, by go_num, HS.out⟩
        case measure => simp [intOf]; omega
      · have hb : ((x : Int) != y) = true := by simp [hxy]
        rw [if_neg hxy] at hs
        have HS := Lib.hid hs
        clear hs hxy
        go_wp2
        go_ret
        exact ⟨by rw [HS.out]; rfl, rfl⟩
    · have hge : ¬ ((k : Int) < (n : Int)) := by omega
      have HS : Hid (r = false) := by
        have e := hT.out
        rw [List.drop_eq_nil_of_le (by rw [← HN.out]; omega)] at e
        exact e
      go_wp2
      go_ret
      exact ⟨by rw [HS.out]; rfl, rfl⟩
theorem cover_nil {xss : List (List Int)} {n : Nat} (hn : 1 ≤ n) {t : Int} (ht : 1 ≤ t) (hg : ∀ k, k < n → (timesL xss n [])[k]? = some ((cntL xss [] k : Nat) : Int)) : coverB xss n [] t = false := by
  rw [Bool.eq_false_iff]
  intro h
  unfold coverB at h
  rw [List.all_eq_true] at h
  have h1 := h _ (List.mem_of_getElem? (hg 0 (by omega)))
  simp [cntL] at h1
  omega
def lcA (xss : List (List Int)) (n t : Int) : Bool := sitesB xss n && inB 1 2 t
def lcR (xss : List (List Int)) (n t : Int) : Option (List Int) := if lcA xss n t then bstF (fun c => coverB xss n.toNat c t) none (bitsA xss.length) else none
def lcOk (xss : List (List Int)) (n t : Int) : Bool := (lcR xss n t).isSome
def lcV (xss : List (List Int)) (n t : Int) : List Int := (lcR xss n t).getD []
theorem bstF_mem {P : List Int → Bool} {S : List (List Int)} {V : List Int} (h : bstF P none S = some V) : V ∈ S ∧ P V = true := by
  have h1 := bstF_lst (P := P) S [] (o := none) (fun U hU => by cases hU)
  rw [h, List.nil_append] at h1
  exact ⟨h1.mem, h1.ok⟩
theorem lc_len (xss : List (List Int)) (n t : Int) : (lcV xss n t).length ≤ 1099511627776 := by
  unfold lcV lcR
  split
  · rename_i h
    cases e : bstF (fun c => coverB xss n.toNat c t) none (bitsA xss.length) with
    | none => simp
    | some V =>
      have h1 := (bstF_mem e).1
      unfold bitsA at h1
      obtain ⟨z, _, rfl⟩ := List.mem_map.1 h1
      unfold lcA at h
      simp only [Bool.and_eq_true] at h
      obtain ⟨m, _, gs⟩ := GoodS.of h.1
      have h2 := (bitL_good (z := z) gs.s12).len
      simp only [Option.getD_some]; omega
  · simp
set_option maxRecDepth 100000 in
set_option maxHeartbeats 8000000 in
theorem c_sLeast (va : Value) (la ha : Nat) (xss : List (List Int)) (n t : Int) (w : World) (h : Intss w la ha va xss) (hh : ha ≤ w.heap.size) :
    Calls Try.prog 24 #[va, .int .i64 n, .int .i64 t] w fun e w' => ∃ r, e = .returned (.tuple #[r, .bool (lcOk xss n t)]) ∧ w'.ownsRow w.heap.size 3 1 r (lcV xss n t).length ((lcV xss n t).flatMap encI) ∧ Ext w w' := by
  obtain ⟨i0, hi0, hz0, hz1, hz2⟩ := info_parts Try.info_intC
  unfold lcOk lcV
  obtain ⟨R, hR⟩ : ∃ R, R = lcR xss n t := ⟨_, rfl⟩
  rw [← hR]
  unfold lcR lcA at hR
  have C1 := Lib.hid (c_stGood va la ha xss n w h hh)
  cases e1 : sitesB xss n
  · rw [e1] at C1 hR
    simp at hR
    subst hR
    obtain ⟨a, cap, rfl, m1, m2⟩ := h.form
    clear h e1
    go_enter Try.func24, Try.ntmps24
    go_wp2_with (go_at_call 42; refine C1.out.mono ?_; rintro e w2 ⟨rfl, hx⟩)
    go_ret2
    exact ⟨_, rfl, World.ownsRow_nil _ _ _ _, hx⟩
  cases e2 : inB 1 2 t
  · rw [e1] at C1
    rw [e1, e2] at hR
    simp at hR
    subst hR
    obtain ⟨a, cap, rfl, m1, m2⟩ := h.form
    clear h e1
    go_enter Try.func24, Try.ntmps24
    go_wp2_with (first | (go_at_call 42; refine C1.out.mono ?_; rintro e w2 ⟨rfl, hx⟩) | (go_at_call 60; refine (l1In_c _ _ _ _).mono ?_; rintro e w' ⟨rfl, rfl⟩))
    go_ret2
    exact ⟨_, rfl, World.ownsRow_nil _ _ _ _, hx⟩
  obtain ⟨m, rfl, gs⟩ := GoodS.of e1
  obtain ⟨t1, t2⟩ := inB_t e2
  rw [e1] at C1
  rw [e1, e2] at hR
  simp only [Bool.and_true, if_true, Int.toNat_natCast] at hR
  have s12 := gs.s12
  have n16 := gs.n16
  obtain ⟨P, hP⟩ : ∃ P : List Int → Bool, P = fun c => coverB xss m c t := ⟨_, rfl⟩
  rw [← hP] at hR
  have HPN : Hid (P [] = false) := by
    unfold Hid; rw [hP]
    exact cover_nil gs.n1 t1 (fun k hk => timesL_get gs.pn [] hk)
  have CC : Hid (∀ W v lb hb l, Ext w W → Ints W lb hb v l → hb ≤ W.heap.size → GoodC xss.length l → Calls Try.prog 62 #[va, .int .i64 m, v, .int .i64 t] W fun e w' => e = .returned (.bool (P l)) ∧ Ext W w') :=
    fun W v lb hb l hX hr hbb hg => by rw [hP]; exact c_stCovers va v la ha lb hb xss m l t W (h.ext hX hh) (Nat.le_trans hh hX.size) hr hbb gs hg
  obtain ⟨a, cap, rfl, m1, m2⟩ := h.form
  obtain ⟨s, hs⟩ : ∃ s, s = xss.length := ⟨_, rfl⟩
  rw [← hs] at m1 s12 C1 CC hR ⊢
  have HR := Lib.hid hR
  clear h gs hR hs hP e1
  obtain ⟨M, hM⟩ : ∃ M, M = 2 ^ s := ⟨_, rfl⟩
  have hpw : M ≤ 4096 := by rw [hM]; exact Nat.pow_le_pow_right (n := 2) (by decide) s12
  have hw : wrap64 (2 ^ s) = (M : Int) := by
    have h9 : ((2 : Int) ^ s) = (M : Int) := by rw [hM, Int.natCast_pow]; rfl
    rw [h9]; exact IntWalk.wrap64_in _ ⟨by omega, by omega⟩
  have hM1 : 1 ≤ M := by rw [hM]; exact Nat.one_le_two_pow
  have HM := Lib.hid hM
  have HST : Hid (R = bstF P none ((bitsA s).drop 1)) := by
    unfold Hid
    have h1 := bstF_drop (P := P) (bitsA_get (s := s) (z := 0) (Nat.two_pow_pos s)) none
    have h2 : bitL s 0 = [] := by
      have := ftoI_stop (f := fun i => (0 : Nat).testBit i) (m := 0) (fun k _ => by simp) s
      rw [Nat.zero_add] at this; exact this
    rw [List.drop_zero, h2] at h1
    rw [HR.out, h1]
    unfold stepF
    rw [HPN.out]; rfl
  clear hM
  go_enter Try.func24, Try.ntmps24
  go_wp2_with (first | (go_at_call 42; refine C1.out.mono ?_; rintro e w2 ⟨rfl, hx⟩) | (go_at_call 60; refine (l1In_c _ _ _ _).mono ?_; rintro e w' ⟨rfl, rfl⟩))
  go_loopw [8, 9, 10] (fun vb vf vt wr => ∃ (z : Nat) (o : Option (List Int)), 1 ≤ z ∧ z ≤ M ∧ vt = .int .i64 z ∧ vf = .bool o.isSome ∧ (o.getD []).length ≤ 12 ∧ wr.ownsRow w.heap.size 3 1 vb (o.getD []).length ((o.getD []).flatMap encI) ∧ Hid (R = bstF P o ((bitsA s).drop z)) ∧ Ext w wr) (fun _ _ vt _ => M - (intOf vt).toNat)
  case atStart => exact ⟨1, none, by omega, hM1, rfl, rfl, by simp, World.ownsRow_nil _ _ _ _, HST.out, hx⟩
  case round =>
    clear hx
    obtain ⟨z, o, hz1', hz, rfl, rfl, hol, hown, hT, hx⟩ := hrel
    obtain ⟨wo, hwo⟩ : ∃ W, W = wr := ⟨_, rfl⟩
    subst hwo
    by_cases hlt : z < M
    · have hltI : (z : Int) < (M : Int) := by omega
      have CS := Lib.hid (c_stSet z s wo (by rw [← HM.out]; exact hlt) s12)
      have hsn := hT.out.trans (bstF_drop (P := P) (bitsA_get (s := s) (z := z) (by rw [← HM.out]; exact hlt)) o)
      have hGC := bitL_good (z := z) s12
      obtain ⟨c, hc⟩ : ∃ c, c = bitL s z := ⟨_, rfl⟩
      rw [← hc] at CS hsn hGC
      have HGC := Lib.hid hGC
      have hc12 := hGC.len
      have HSN := Lib.hid hsn
      obtain ⟨B, hB⟩ : ∃ B, B = o.getD [] := ⟨_, rfl⟩
      rw [← hB] at hown hol
      obtain ⟨a5, c5, rfl, _, hbc, hbc2⟩ := own_form hown
      have HOWN := Lib.hid hown
      have hszo := hx.size
      clear hc hsn hGC hown
      go_wp2_with fail
      refine CS.out.mono ?_
      rintro e w3 ⟨v3, rfl, ho3, hx3⟩
      obtain ⟨a3, c3, rfl, _, hcc, hcc2⟩ := own_form ho3
      have HO3 := Lib.hid (OwnI.of ho3)
      have HOC := Lib.hid (own_mono ho3 hszo)
      have HOB := Lib.hid (own_ext HOWN.out hx3)
      have hsz3 := hx3.size
      have XX := hx.trans hx3
      obtain ⟨p, hp⟩ : ∃ p, p = P c := ⟨_, rfl⟩
      have CV := Lib.hid (CC.out w3 _ _ _ c XX HO3.out.read (Nat.le_refl _) HGC.out)
      rw [← hp] at CV
      have HP := Lib.hid hp
      clear ho3 hp HOWN
      have KEEP : Hid (stepF P o c = o → R = bstF P o ((bitsA s).drop (z + 1))) := fun e => by rw [HSN.out, e]
      have TAKE : Hid (stepF P o c = some c → R = bstF P (some c) ((bitsA s).drop (z + 1))) := fun e => by rw [HSN.out, e]
      cases o with
      | none =>
        simp only [Option.getD_none] at hB
        subst hB
        cases p
        · have HS : Hid (R = bstF P none ((bitsA s).drop (z + 1))) := KEEP.out (by unfold stepF; rw [← HP.out]; rfl)
          go_wp2_with (go_at_call 62; refine CV.out.mono ?_; rintro e w4 ⟨rfl, hx4⟩)
          go_roundw
          case rel => exact ⟨z + 1, none, by omega, by omega, by go_num, rfl, by simp, own_ext HOB.out hx4, HS.out, XX.trans hx4⟩
          case measure => simp [intOf]; omega
        · have HS : Hid (R = bstF P (some c) ((bitsA s).drop (z + 1))) := TAKE.out (by unfold stepF; rw [← HP.out]; rfl)
          go_wp2_with (go_at_call 62; refine CV.out.mono ?_; rintro e w4 ⟨rfl, hx4⟩)
          go_roundw
          case rel => exact ⟨z + 1, some c, by omega, by omega, by go_num, rfl, hc12, own_ext HOC.out hx4, HS.out, XX.trans hx4⟩
          case measure => simp [intOf]; omega
      | some B' =>
        simp only [Option.getD_some] at hB
        subst hB
        by_cases hlc : B.length < c.length
        · have hlcI : (B.length : Int) < (c.length : Int) := by omega
          have HS : Hid (R = bstF P (some B) ((bitsA s).drop (z + 1))) := KEEP.out (by
            unfold stepF
            have : betB c B = false := by rw [Bool.eq_false_iff, Ne, betB_iff]; omega
            simp only [this]; rw [Bool.and_false]; rfl)
          go_wp2
          go_roundw
          case rel => exact ⟨z + 1, some B, by omega, by omega, by go_num, rfl, hol, HOB.out, HS.out, XX⟩
          case measure => simp [intOf]; omega
        · have hlcI : ¬ (B.length : Int) < (c.length : Int) := by omega
          cases p
          · have HS : Hid (R = bstF P (some B) ((bitsA s).drop (z + 1))) := KEEP.out (by unfold stepF; rw [← HP.out]; rfl)
            go_wp2_with (go_at_call 62; refine CV.out.mono ?_; rintro e w4 ⟨rfl, hx4⟩)
            go_roundw
            case rel => exact ⟨z + 1, some B, by omega, by omega, by go_num, rfl, hol, own_ext HOB.out hx4, HS.out, XX.trans hx4⟩
            case measure => simp [intOf]; omega
          · by_cases hlc2 : c.length < B.length
            · have hlc2I : (c.length : Int) < (B.length : Int) := by omega
              have HS : Hid (R = bstF P (some c) ((bitsA s).drop (z + 1))) := TAKE.out (by
                unfold stepF
                have : betB c B = true := betB_iff.2 (.inl hlc2)
                simp only [this]; rw [← HP.out]; rfl)
              go_wp2_with (go_at_call 62; refine CV.out.mono ?_; rintro e w4 ⟨rfl, hx4⟩)
              go_roundw
              case rel => exact ⟨z + 1, some c, by omega, by omega, by go_num, rfl, hc12, own_ext HOC.out hx4, HS.out, XX.trans hx4⟩
              case measure => simp [intOf]; omega
            · have hlc2I : ¬ (c.length : Int) < (B.length : Int) := by omega
              have hle : c.length = B.length := by omega
              have hbb : betB c B = lexB c B := by
                rw [Bool.eq_iff_iff, betB_iff]
                exact ⟨fun h => h.elim (fun h => absurd h hlc2) (fun h => h.2), fun h => .inr ⟨hle, h⟩⟩
              obtain ⟨x, hx9⟩ : ∃ x, x = lexB c B := ⟨_, rfl⟩
              have CB : Hid (∀ W, Ext w3 W → Calls Try.prog 63 #[.slice a3 c.length c3, .slice a5 B.length c5] W fun e w' => e = .returned (.bool x) ∧ W = w') := fun W hX => by
                rw [hx9]
                exact c_stBefore _ _ _ _ _ _ c B W (Row.of_own encI_len (own_ext HOC.out hX)) (Row.of_own encI_len (own_ext HOB.out hX)) hle
              rw [← hx9] at hbb
              have HBB := Lib.hid hbb
              clear hbb hx9 hle
              cases x
              · have HS : Hid (R = bstF P (some B) ((bitsA s).drop (z + 1))) := KEEP.out (by
                  unfold stepF
                  simp only [HBB.out]; rw [Bool.and_false]; rfl)
                go_wp2_with (first | (go_at_call 62; refine CV.out.mono ?_; rintro e w4 ⟨rfl, hx4⟩) | (go_at_call 63; refine (CB.out _ hx4).mono ?_; rintro e w' ⟨rfl, rfl⟩))
                go_roundw
                case rel => exact ⟨z + 1, some B, by omega, by omega, by go_num, rfl, hol, own_ext HOB.out hx4, HS.out, XX.trans hx4⟩
                case measure => simp [intOf]; omega
              · have HS : Hid (R = bstF P (some c) ((bitsA s).drop (z + 1))) := TAKE.out (by
                  unfold stepF
                  simp only [HBB.out]; rw [← HP.out]; rfl)
                go_wp2_with (first | (go_at_call 62; refine CV.out.mono ?_; rintro e w4 ⟨rfl, hx4⟩) | (go_at_call 63; refine (CB.out _ hx4).mono ?_; rintro e w' ⟨rfl, rfl⟩))
                go_roundw
                case rel => exact ⟨z + 1, some c, by omega, by omega, by go_num, rfl, hc12, own_ext HOC.out hx4, HS.out, XX.trans hx4⟩
                case measure => simp [intOf]; omega
    · have hge : ¬ ((z : Int) < (M : Int)) := by omega
      have HRC : Hid (R = o) := by
        have e := hT.out
        rw [List.drop_eq_nil_of_le (by rw [bitsA_len, ← HM.out]; omega)] at e
        exact e
      have HOWN := Lib.hid hown
      obtain ⟨a5, c5, rfl, _, hbc, hbc2⟩ := own_form hown
      clear hown
      cases o with
      | none =>
        go_wp2
        go_ret2
        refine ⟨_, by rw [HRC.out]; rfl, ?_, hx⟩
        rw [HRC.out]; exact World.ownsRow_nil _ _ _ _
      | some B =>
        go_wp2
        go_ret2
        refine ⟨_, by rw [HRC.out]; rfl, ?_, hx⟩
        rw [HRC.out]; exact HOWN.out
set_option maxRecDepth 100000 in
set_option maxHeartbeats 8000000 in
theorem c_iLeast (va : Value) (la ha : Nat) (xss : List (List Int)) (n t : Int) (w : World) (h : Intss w la ha va xss) (hh : ha ≤ w.heap.size) :
    Calls Try.prog 23 #[va, .int .i64 n, .int .i64 t] w fun e w' => ∃ r, e = .returned (.tuple #[r, .bool (lcOk xss n t)]) ∧ w'.ownsRow w.heap.size 3 1 r (lcV xss n t).length ((lcV xss n t).flatMap encI) ∧ Ext w w' := by
  obtain ⟨i0, hi0, hz0, hz1, hz2⟩ := info_parts Try.info_intC
  unfold lcOk lcV
  obtain ⟨R, hR⟩ : ∃ R, R = lcR xss n t := ⟨_, rfl⟩
  rw [← hR]
  unfold lcR lcA at hR
  have C1 := Lib.hid (c_iAreSites va la ha xss n w h hh)
  cases e1 : sitesB xss n
  · rw [e1] at C1 hR
    simp at hR
    subst hR
    obtain ⟨a, cap, rfl, m1, m2⟩ := h.form
    clear h e1
    go_enter Try.func23, Try.ntmps23
    go_wp2_with (go_at_call 39; refine C1.out.mono ?_; rintro e w2 ⟨rfl, hx⟩)
    go_ret2
    exact ⟨_, rfl, World.ownsRow_nil _ _ _ _, hx⟩
  cases e2 : inB 1 2 t
  · rw [e1] at C1
    rw [e1, e2] at hR
    simp at hR
    subst hR
    obtain ⟨a, cap, rfl, m1, m2⟩ := h.form
    clear h e1
    go_enter Try.func23, Try.ntmps23
    go_wp2_with (first | (go_at_call 39; refine C1.out.mono ?_; rintro e w2 ⟨rfl, hx⟩) | (go_at_call 56; refine (within_c _ _ _ _).mono ?_; rintro e w' ⟨rfl, rfl⟩))
    go_ret2
    exact ⟨_, rfl, World.ownsRow_nil _ _ _ _, hx⟩
  obtain ⟨m, rfl, gs⟩ := GoodS.of e1
  obtain ⟨t1, t2⟩ := inB_t e2
  rw [e1] at C1
  rw [e1, e2] at hR
  simp only [Bool.and_true, if_true, Int.toNat_natCast] at hR
  have s12 := gs.s12
  have n16 := gs.n16
  obtain ⟨P, hP⟩ : ∃ P : List Int → Bool, P = fun c => coverB xss m c t := ⟨_, rfl⟩
  rw [← hP] at hR
  have HPN : Hid (P [] = false) := by
    unfold Hid; rw [hP]
    exact cover_nil gs.n1 t1 (fun k hk => timesL_get gs.pn [] hk)
  have CC : Hid (∀ W v lb hb l, Ext w W → Ints W lb hb v l → hb ≤ W.heap.size → GoodC xss.length l → Calls Try.prog 58 #[va, .int .i64 m, v, .int .i64 t] W fun e w' => e = .returned (.bool (P l)) ∧ Ext W w') :=
    fun W v lb hb l hX hr hbb hg => by rw [hP]; exact c_covers va v la ha lb hb xss m l t W (h.ext hX hh) (Nat.le_trans hh hX.size) hr hbb gs hg
  obtain ⟨a, cap, rfl, m1, m2⟩ := h.form
  obtain ⟨s, hs⟩ : ∃ s, s = xss.length := ⟨_, rfl⟩
  rw [← hs] at m1 s12 C1 CC hR ⊢
  have HR := Lib.hid hR
  clear h gs hR hs hP e1
  have HLR : Hid (LstO P (bitsA s) R) := by
    have h1 := bstF_lst (P := P) (bitsA s) [] (o := none) (fun U hU => by cases hU)
    unfold Hid; rw [HR.out]; simpa using h1
  go_enter Try.func23, Try.ntmps23
  go_wp2_with (first | (go_at_call 39; refine C1.out.mono ?_; rintro e w2 ⟨rfl, hx⟩) | (go_at_call 56; refine (within_c _ _ _ _).mono ?_; rintro e w' ⟨rfl, rfl⟩))
  go_loopw [8] (fun t wr => ∃ j : Nat, j ≤ s + 1 ∧ t = .int .i64 j ∧ Hid (∀ i, i < j → ∀ U ∈ combs s 0 i, P U = false) ∧ Ext w wr) (fun t _ => s + 1 - (intOf t).toNat)
  case atStart => exact ⟨0, by omega, rfl, (fun i hi => by omega), hx⟩
  case round =>
    clear hx
    obtain ⟨j, hj, rfl, hNo, hx⟩ := hrel
    obtain ⟨wo, hwo⟩ : ∃ W, W = wr := ⟨_, rfl⟩
    subst hwo
    by_cases hjs : j ≤ s
    · have hjsI : (j : Int) ≤ (s : Int) := by omega
      obtain ⟨C, hC⟩ : ∃ C, C = combs s 0 j := ⟨_, rfl⟩
      have h0 := combs_head s 0 j
      rw [if_pos (by omega), ← hC] at h0
      have HC := Lib.hid hC
      have H0 := Lib.hid h0
      clear hC h0
      have C3 : Hid (∀ W, Calls Try.prog 57 #[.int .i64 j] W fun e w' => ∃ r, e = .returned r ∧ w'.ownsRow W.heap.size 3 1 r j ((runI 0 j).flatMap encI) ∧ Ext W w') := fun W => by
        have := c_firstChoice j W (by omega)
        rw [upto_len, upto_run] at this; exact this
      go_wp2_with fail
      refine (C3.out _).mono ?_
      rintro e w3 ⟨v3, rfl, ho3, hx3⟩
      obtain ⟨a3, c3, rfl, _, _, _⟩ := own_form ho3
      have HO3 := Lib.hid ho3
      have X3 := hx.trans hx3
      have HSZ := Lib.hid hx.size
      clear ho3
      go_wp2_with fail
      go_loopg [27] C.length (fun gg _ wr => ∃ (i : Nat) (c : List Int), i + gg = C.length ∧ Hid (∀ U ∈ C.take i, P U = false) ∧ Hid (C[i]? = some c) ∧ wr.ownsRow wo.heap.size 3 1 (.slice a3 j c3) j (c.flatMap encI) ∧ Ext w wr)
      case atStart => exact ⟨0, _, by omega, by simp [Hid], H0.out, HO3.out, X3⟩
      case round =>
        obtain ⟨i, c, hig, hT, hCi, hown, hxr⟩ := hrel
        obtain ⟨wi, hwi⟩ : ∃ W, W = wr := ⟨_, rfl⟩
        subst hwi
        have hmem := List.mem_of_getElem? hCi.out
        rw [HC.out] at hmem
        have HGC := Lib.hid (combs_good s12 hmem)
        have hcl : c.length = j := combs_len _ _ _ c hmem
        have hnx : nxt (s : Int) c = C[i + 1]? := by
          have h1 := hCi.out
          rw [HC.out] at h1 ⊢
          have h2 := combs_nxt s 0 j i c h1
          rw [Int.zero_add] at h2; exact h2
        have hil := (List.getElem?_eq_some_iff.1 hCi.out).1
        obtain ⟨p, hp⟩ : ∃ p, p = P c := ⟨_, rfl⟩
        have hro : Ints wi wo.heap.size wi.heap.size (.slice a3 j c3) c := Row.of_own encI_len (by rw [hcl]; exact hown)
        have CV := Lib.hid (CC.out wi _ _ _ c hxr hro (Nat.le_refl _) HGC.out)
        rw [← hp] at CV
        have HOWN := Lib.hid hown
        have HNX := Lib.hid hnx
        have HP := Lib.hid hp
        have HCLN := Lib.hid hcl
        clear hmem hcl hnx hp hro hown
        have CN : Hid (∀ W, Ext wi W → Calls Try.prog 59 #[.slice a3 j c3, .int .i64 s] W fun e w' => e = .returned (.bool (nxt s c).isSome) ∧ w'.ownsRow wo.heap.size 3 1 (.slice a3 j c3) j (((nxt s c).getD c).flatMap encI) ∧ W.grownBy w' (Value.slice a3 j c3).ownBlock) := fun W hX =>
          c_nextChoiceG wo.heap.size j s _ c W (own_ext HOWN.out hX) s12 HGC.out.mem hjs
        have HOB : Hid (∀ k9, (Value.slice a3 j c3).ownBlock = some k9 → w.heap.size ≤ k9) := fun k9 e9 => by have := (HOWN.out.lt k9 e9).1; have := HSZ.out; omega
        cases p
        · have HTT : Hid (∀ U ∈ C.take (i + 1), P U = false) := fun U hU => by
            rw [take_snoc' hCi.out] at hU
            rcases List.mem_append.1 hU with hU | hU
            · exact hT.out U hU
            · simp at hU; subst hU; exact HP.out.symm
          obtain ⟨o, ho⟩ : ∃ o, o = nxt (s : Int) c := ⟨_, rfl⟩
          rw [← ho] at CN HNX
          clear ho
          cases o with
          | none =>
            have HNO : Hid (∀ i, i < j + 1 → ∀ U ∈ combs s 0 i, P U = false) := fun i2 hi2 U hU => by
              by_cases e : i2 = j
              · subst e
                have h1 := HNX.out
                have h2 : C.length ≤ i + 1 := by
                  rcases Nat.lt_or_ge (i + 1) C.length with h | h
                  · rw [List.getElem?_eq_getElem h] at h1; cases h1
                  · exact h
                refine HTT.out U ?_
                rw [List.take_of_length_le h2, HC.out]; exact hU
              · exact hNo.out i2 (by omega) U hU
            go_wp2_with (first | (go_at_call 58; refine CV.out.mono ?_; rintro e w5 ⟨rfl, hx5⟩) | (go_at_call 59; refine (CN.out _ hx5).mono ?_; rintro e w6 ⟨rfl, ho6, hg6⟩))
            go_roundw
            case rel => exact ⟨j + 1, by omega, by go_num, HNO.out, (hxr.trans hx5).gr hg6 HOB.out⟩
            case measure => simp [intOf]; omega
          | some c2 =>
            go_wp2_with (first | (go_at_call 58; refine CV.out.mono ?_; rintro e w5 ⟨rfl, hx5⟩) | (go_at_call 59; refine (CN.out _ hx5).mono ?_; rintro e w6 ⟨rfl, ho6, hg6⟩))
            go_roundg (C.length - (i + 1))
            case measure => omega
            case rel => exact ⟨i + 1, c2, by omega, HTT.out, HNX.out.symm, ho6, (hxr.trans hx5).gr hg6 HOB.out⟩
        · have HRC : Hid (R = some c) := by
            have h1 : Lst P (bitsA s) c := find_lst hNo.out (by rw [← HC.out]; exact hCi.out) HP.out.symm (by rw [← HC.out]; exact hT.out)
            exact LstO.eq HLR.out (b := some c) h1
          go_wp2_with (go_at_call 58; refine CV.out.mono ?_; rintro e w5 ⟨rfl, hx5⟩)
          go_ret2
          refine ⟨_, by rw [HRC.out]; rfl, ?_, hxr.trans hx5⟩
          rw [HRC.out]
          simp only [Option.getD_some]
          rw [HCLN.out]
          exact own_mono (own_ext HOWN.out hx5) HSZ.out
    · have hge : ¬ ((j : Int) ≤ (s : Int)) := by omega
      have HRC : Hid (R = none) := by
        have h1 : ∀ U ∈ bitsA s, P U = false := find_none fun i hi U hU => hNo.out i (by omega) U hU
        exact LstO.eq HLR.out (b := none) h1
      go_wp2
      go_ret2
      refine ⟨_, by rw [HRC.out]; rfl, ?_, hx⟩
      rw [HRC.out]
      exact World.ownsRow_nil _ _ _ _
end Go.Proofs.Ytiofckbdjifdpaa
