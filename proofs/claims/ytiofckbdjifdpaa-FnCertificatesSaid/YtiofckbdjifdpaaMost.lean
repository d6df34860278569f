
/- MostApart of the program and of the reference: their contracts. -/
import Derived.Test.YtiofckbdjifdpaaMostP
import Derived.Test.YtiofckbdjifdpaaApart
import Derived.Test.YtiofckbdjifdpaaClone
namespace Go.Proofs.Ytiofckbdjifdpaa
open Go.RowKit
/-! ### The reference's search -/
theorem mF_succ (Q : List Int → Bool) (n : Int) (d : Nat) (hv best : List Int) (s : Int) (hs : s = n - ((d : Int) + 1)) :
    mF Q n (d + 1) hv best = mF Q n d hv (if Q (hv ++ [s]) then better best (mF Q n d (hv ++ [s]) (hv ++ [s])) else best) := by
  subst hs; rfl
theorem own_snoc {w : World} {base : Nat} {v : Value} {p : Nat} {hv : List Int} {s : Int} (hp : p = hv.length) (h : w.ownsRow base 3 1 v (p + 1) (hv.flatMap encI ++ [.int .i64 s])) :
    w.ownsRow base 3 1 v (hv ++ [s]).length ((hv ++ [s]).flatMap encI) := by
  subst hp
  exact own_push h
set_option maxRecDepth 100000 in
set_option maxHeartbeats 4000000 in
theorem c_stMost (va : Value) (la ha : Nat) (xss : List (List Int)) (m : Nat) (hm16 : m ≤ 16) : ∀ (d : Nat) (fr : Int) (vh : Value) (hv : List Int) (base : Nat) (w : World), Intss w la ha va xss → ha ≤ w.heap.size →
    w.ownsRow base 3 1 vh hv.length (hv.flatMap encI) → base ≤ w.heap.size → fr + d ≤ m → (m : Int) ≤ fr + d → 0 ≤ fr → hv.length + d ≤ m →
    Calls Try.prog 43 #[va, .int .i64 m, vh, .int .i64 fr] w fun e w' => ∃ r, e = .returned r ∧ w'.ownsRow base 3 1 r (mF (apartB xss) m d hv hv).length ((mF (apartB xss) m d hv hv).flatMap encI) ∧ Ext w w' := by
  intro d
  induction d using Nat.strongRecOn with
  | _ d ih =>
    intro fr vh hv base w h hh hown hbase hf1 hf2 hf0 hlen
    obtain ⟨i0, hi0, hz0, hz1, hz2⟩ := info_parts Try.info_intC
    obtain ⟨Q, hQ⟩ : ∃ Q, Q = apartB xss := ⟨_, rfl⟩
    obtain ⟨Z, hZ⟩ : ∃ Z, Z = mF (apartB xss) m d hv hv := ⟨_, rfl⟩
    rw [← hZ]
    rw [← hQ] at hZ
    have CA : Hid (∀ W v2 lb hb l, Ext w W → Ints W lb hb v2 l → l.length ≤ 1048576 → Calls Try.prog 55 #[va, v2] W fun e w' => e = .returned (.bool (Q l)) ∧ W = w') :=
      fun W v2 lb hb l hX hr hl => by rw [hQ]; exact c_stApart va v2 la ha lb hb xss l W (h.ext hX hh) hr hl
    have CR : Hid (∀ k, k < d → ∀ (fr' : Int) (vh' : Value) (hv' : List Int) (base' : Nat) (W : World), Ext w W → W.ownsRow base' 3 1 vh' hv'.length (hv'.flatMap encI) → base' ≤ W.heap.size → fr' + k ≤ m → (m : Int) ≤ fr' + k → 0 ≤ fr' → hv'.length + k ≤ m →
        Calls Try.prog 43 #[va, .int .i64 m, vh', .int .i64 fr'] W fun e w' => ∃ a9 c9, e = .returned (.slice a9 (mF Q m k hv' hv').length c9) ∧ w'.ownsRow base' 3 1 (.slice a9 (mF Q m k hv' hv').length c9) (mF Q m k hv' hv').length ((mF Q m k hv' hv').flatMap encI) ∧ Ext W w') :=
      fun k hk fr' vh' hv' base' W hX ho hb h1 h2 h3 h4 => by
        rw [hQ]
        exact (ih k hk fr' vh' hv' base' W (h.ext hX hh) (Nat.le_trans hh hX.size) ho hb h1 h2 h3 h4).mono fun e w' ⟨r, he, ho, hx⟩ => by
          obtain ⟨a9, c9, rfl, _⟩ := own_form ho
          exact ⟨a9, c9, he, ho, hx⟩
    obtain ⟨a, cap, rfl, m1, m2⟩ := h.form
    obtain ⟨ah, ch, rfl, _, hc1, hc2⟩ := own_form hown
    have HOWN := Lib.hid hown
    have HML : Hid (∀ c B, (mF Q m c hv B).length ≤ max B.length (hv.length + c)) := fun c B => mF_len Q m c hv B
    have HST : Hid (∀ c B, hv.length + c ≤ B.length → mF Q m c hv B = B) := fun c B => mF_stop Q m c hv B
    obtain ⟨p, hp⟩ : ∃ p, p = hv.length := ⟨_, rfl⟩
    rw [← hp] at hlen HOWN hc1 HML HST ⊢
    have HP := Lib.hid hp
    have CO : Hid (∀ W, Ext w W → Calls Try.prog 74 #[.slice ah p ch] W fun e w' => ∃ a7 c7, e = .returned (.slice a7 p c7) ∧ w'.ownsRow W.heap.size 3 1 (.slice a7 p c7) p (hv.flatMap encI) ∧ Ext W w') := fun W hX => by
      have hr : Ints W base w.heap.size (.slice ah p ch) hv := by
        have h1 := Row.of_own encI_len (xs := hv) (by rw [HP.out] at HOWN; exact HOWN.out)
        rw [← HP.out] at h1
        exact h1.ext hX (Nat.le_refl _)
      refine (c_l1Own _ base w.heap.size hv W hr hX.size (by rw [← HP.out]; omega)).mono fun e w' ⟨v, he, ho, hx⟩ => ?_
      rw [← HP.out] at ho
      obtain ⟨a7, c7, rfl, _⟩ := own_form ho
      exact ⟨a7, c7, he, ho, hx⟩
    have HZ := Lib.hid hZ
    clear h hown hp ih hZ hQ
    go_enter Try.func43, Try.ntmps43
    go_wp2
    go_loopw [9, 10] (fun vb ts wr => ∃ (c : Nat) (B : List Int) (s : Int), c ≤ d ∧ ts = .int .i64 s ∧ s + c ≤ m ∧ (m : Int) ≤ s + c ∧ 0 ≤ s ∧ wr.ownsRow base 3 1 vb B.length (B.flatMap encI) ∧ Hid (Z = mF Q m c hv B) ∧ B.length ≤ m ∧ Ext w wr) (fun _ ts _ => (m - intOf ts).toNat)
    case atStart => exact ⟨d, hv, fr, Nat.le_refl _, rfl, hf1, hf2, hf0, (by rw [← HP.out]; exact HOWN.out), HZ.out, (by rw [← HP.out]; omega), Ext.refl _⟩
    case round =>
      obtain ⟨c, B, s, hc, rfl, hs1, hs2, hs0, hownB, hT, hBm, hx⟩ := hrel
      obtain ⟨a5, c5, rfl, _, q1, q2⟩ := own_form hownB
      have HOB := Lib.hid hownB
      clear hownB
      obtain ⟨bl, hbl⟩ : ∃ n, n = B.length := ⟨_, rfl⟩
      rw [← hbl] at q1 hBm HOB ⊢
      have HBL := Lib.hid hbl
      clear hbl
      cases c with
      | zero =>
        have hge : ¬ (s < (m : Int)) := by omega
        have HS : Hid (Z = B) := hT.out
        go_wp2
        go_ret
        refine ⟨_, rfl, ?_, hx⟩
        rw [HS.out, ← HBL.out]
        exact HOB.out
      | succ k =>
        have hltI : s < (m : Int) := by omega
        by_cases hbr : p + (k + 1) ≤ bl
        · have hbrI : (p : Int) + (m : Int) - s ≤ (bl : Int) := by omega
          have HS : Hid (Z = B) := hT.out.trans (HST.out (k + 1) B (by rw [← HBL.out]; exact hbr))
          go_wp2
          go_ret
          refine ⟨_, rfl, ?_, hx⟩
          rw [HS.out, ← HBL.out]
          exact HOB.out
        · have hbrI : ¬ ((p : Int) + (m : Int) - s ≤ (bl : Int)) := by omega
          have hT2 := hT.out.trans (mF_succ Q m k hv B s (by omega))
          have hsw := hx.size
          go_wp2_with fail
          refine (CO.out _ hx).mono ?_
          rintro e w5 ⟨a7, c7, rfl, ho7, hx7⟩
          have HO7 := Lib.hid ho7
          have hx5 := hx.trans hx7
          have hs7 := hx7.size
          clear ho7
          go_wp2_with (at_builtin; refine wpList_append_own _ rfl _ _ 24 rfl wr.heap.size 3 i0 (.int .i64 0) 1 8 Try.underlying24 hi0 hz0 hz1 hz2 rfl (by decide) _ _ _ rfl (HO7.out.alloc _) ⟨w5.heap.size, 0, none⟩ 1 1 [.int .i64 s] rfl rfl (new_cells1 _ _ _) (by intro u hu; simp at hu; subst hu; rfl) (by unfold maxLen; omega) (by omega) (by simp; omega) ?_; intro v8 w6 hown8 hgrow8 _; have hx6 := hx7.push HO7.out hgrow8 (Nat.le_refl _); obtain ⟨a8, c8, rfl, _, _, _⟩ := own_form hown8; have HO8 := Lib.hid (own_snoc HP.out hown8); clear hown8 hgrow8)
          have hr8 : Ints w6 wr.heap.size w6.heap.size (.slice a8 (p + 1) c8) (hv ++ [s]) := by
            have e1 : (hv ++ [s]).length = p + 1 := by rw [List.length_append, ← HP.out]; rfl
            have e2 := Row.of_own encI_len HO8.out
            exact e2
          have HL8 : Hid ((hv ++ [s]).length = p + 1) := by unfold Hid; rw [List.length_append, ← HP.out]; rfl
          obtain ⟨t, ht⟩ : ∃ t, t = Q (hv ++ [s]) := ⟨_, rfl⟩
          have CZ := Lib.hid (CA.out w6 _ _ _ (hv ++ [s]) (hx.trans hx6) hr8 (by rw [HL8.out]; omega))
          rw [← ht] at CZ hT2
          clear hr8 ht
          refine CZ.out.mono ?_
          rintro e w' ⟨rfl, rfl⟩
          cases t
          · have HS : Hid (Z = mF Q m k hv B) := hT2
            clear hT2
            go_wp2
            go_roundw
            case rel => exact ⟨k, B, s + 1, by omega, rfl, by omega, by omega, by omega, (by rw [← HBL.out]; exact own_ext HOB.out hx6), HS.out, (by rw [← HBL.out]; exact hBm), hx.trans hx6⟩
            case measure => simp [intOf]; omega
          · obtain ⟨R, hR⟩ : ∃ R, R = mF Q m k (hv ++ [s]) (hv ++ [s]) := ⟨_, rfl⟩
            have CC := Lib.hid (CR.out k (by omega) (s + 1) _ (hv ++ [s]) wr.heap.size w6 (hx.trans hx6) HO8.out hx6.size (by omega) (by omega) (by omega) (by rw [HL8.out]; omega))
            have hRl : R.length ≤ m := by
              have h1 := mF_len Q m k (hv ++ [s]) (hv ++ [s])
              rw [← hR, HL8.out] at h1
              omega
            rw [← hR] at CC hT2
            rw [if_pos rfl] at hT2
            obtain ⟨rl, hrl⟩ : ∃ n, n = R.length := ⟨_, rfl⟩
            rw [← hrl] at CC hRl
            have HRL := Lib.hid hrl
            have HT2 := Lib.hid hT2
            clear hR hT2 hrl
            go_wp2_with fail
            refine CC.out.mono ?_
            rintro e w9 ⟨a9, c9, rfl, ho9, hx9⟩
            have HO9 := Lib.hid ho9
            clear ho9
            by_cases hlt : bl < rl
            · have HS : Hid (Z = mF Q m k hv R) := by
                unfold Hid
                rw [HT2.out]
                unfold better
                rw [if_pos (by rw [← HBL.out, ← HRL.out]; exact hlt)]
              have hltI2 : (bl : Int) < (rl : Int) := by omega
              go_wp2
              go_roundw
              case rel => exact ⟨k, R, s + 1, by omega, rfl, by omega, by omega, by omega, (by rw [← HRL.out]; exact own_mono HO9.out (Nat.le_trans hbase hsw)), HS.out, (by rw [← HRL.out]; exact hRl), hx.trans (hx6.trans hx9)⟩
              case measure => simp [intOf]; omega
            · have HS : Hid (Z = mF Q m k hv B) := by
                unfold Hid
                rw [HT2.out]
                unfold better
                rw [if_neg (by rw [← HBL.out, ← HRL.out]; exact hlt)]
              have hltI2 : ¬ ((bl : Int) < (rl : Int)) := by omega
              go_wp2
              go_roundw
              case rel => exact ⟨k, B, s + 1, by omega, rfl, by omega, by omega, by omega, (by rw [← HBL.out]; exact own_ext HOB.out (hx6.trans hx9)), HS.out, (by rw [← HBL.out]; exact hBm), hx.trans (hx6.trans hx9)⟩
              case measure => simp [intOf]; omega
end Go.Proofs.Ytiofckbdjifdpaa
