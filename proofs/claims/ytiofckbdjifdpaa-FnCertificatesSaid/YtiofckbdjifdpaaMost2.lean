
/- MostApart of the program: its closure that calls itself, its contract. -/
import Derived.Test.YtiofckbdjifdpaaMost
namespace Go.Proofs.Ytiofckbdjifdpaa
open Go.RowKit
/-- The boxes that the closure captures: sites, the number of spots, the best list, the closure itself. -/
structure MW (w : World) (bs bn bb be M0 : Nat) (t1 t2 t3 t4 : TypeId) (va : Value) (m : Nat) (la ha : Nat) (xss : List (List Int)) (B : List Int) : Prop where
  s : w.heap[bs]? = some (.cells #[va] t1 (0, 0))
  n : w.heap[bn]? = some (.cells #[.int .i64 m] t2 (0, 0))
  e : w.heap[be]? = some (.cells #[.func (.func 45) #[] #[.pointer (some ⟨bb, 0, none⟩), .pointer (some ⟨bn, 0, none⟩), .pointer (some ⟨bs, 0, none⟩), .pointer (some ⟨be, 0, none⟩)]] t3 (0, 0))
  b : ∃ a c, w.heap[bb]? = some (.cells #[.slice a B.length c] t4 (0, 0)) ∧ w.ownsRow M0 3 1 (.slice a B.length c) B.length (B.flatMap encI)
  i : Intss w la ha va xss
  h : ha ≤ bb
  hm : M0 ≤ w.heap.size
  hb : bb < M0
  d1 : bs ≠ bb
  d2 : bn ≠ bb
  d3 : be ≠ bb
section
variable {w w' : World} {bs bn bb be M0 : Nat} {t1 t2 t3 t4 : TypeId} {va : Value} {m la ha : Nat} {xss : List (List Int)} {B : List Int}
theorem MW.hs (h : MW w bs bn bb be M0 t1 t2 t3 t4 va m la ha xss B) : ha ≤ w.heap.size := Nat.le_trans h.h (Nat.le_trans (Nat.le_of_lt h.hb) h.hm)
theorem MW.ext (h : MW w bs bn bb be M0 t1 t2 t3 t4 va m la ha xss B) (hx : Ext w w') : MW w' bs bn bb be M0 t1 t2 t3 t4 va m la ha xss B := by
  obtain ⟨a, c, h1, h2⟩ := h.b
  exact ⟨hx.blk h.s, hx.blk h.n, hx.blk h.e, ⟨a, c, hx.blk h1, own_ext h2 hx⟩, h.i.ext hx h.hs, h.h, Nat.le_trans h.hm hx.size, h.hb, h.d1, h.d2, h.d3⟩
theorem MW.set {L : List Int} {a : Option Addr} {c : Nat} (h : MW w bs bn bb be M0 t1 t2 t3 t4 va m la ha xss B) (ho : w.ownsRow M0 3 1 (.slice a L.length c) L.length (L.flatMap encI)) :
    MW (w.setCell ⟨bb, 0, none⟩ (.slice a L.length c)) bs bn bb be M0 t1 t2 t3 t4 va m la ha xss L := by
  obtain ⟨a', c', h1, h2⟩ := h.b
  have hsz : (w.setCell ⟨bb, 0, none⟩ (.slice a L.length c)).heap.size = w.heap.size := by simp [World.setCell]
  refine ⟨?_, ?_, ?_, ⟨a, c, ?_, ?_⟩, h.i.keep fun k _ hk => ?_, h.h, by rw [hsz]; exact h.hm, h.hb, h.d1, h.d2, h.d3⟩
  · rw [heap_setCell_other _ _ _ _ h.d1]; exact h.s
  · rw [heap_setCell_other _ _ _ _ h.d2]; exact h.n
  · rw [heap_setCell_other _ _ _ _ h.d3]; exact h.e
  · rw [heap_setCell_same _ _ _ _ _ _ h1]; rfl
  · exact ownsRow_setCell_below ho (by exact h.hb) _
  · have := h.h
    exact heap_setCell_other _ _ _ _ (by show k ≠ bb; omega)
theorem keep_set (w : World) (b : Nat) (v : Value) : Keep b (b + 1) w (w.setCell ⟨b, 0, none⟩ v) :=
  ⟨rfl, rfl, rfl, by simp [World.setCell], fun k _ hk => heap_setCell_other _ _ _ _ (by show k ≠ b; omega)⟩
end
set_option maxRecDepth 100000 in
set_option maxHeartbeats 4000000 in
theorem c_mostFn (bs bn bb be M0 : Nat) (t1 t2 t3 t4 : TypeId) (va : Value) (m la ha : Nat) (xss : List (List Int)) (hm16 : m ≤ 16) : ∀ (d : Nat) (fr : Int) (vl : Value) (hv : List Int) (lo hi : Nat) (B : List Int) (w : World),
    MW w bs bn bb be M0 t1 t2 t3 t4 va m la ha xss B → Ints w lo hi vl hv → M0 ≤ lo → hi ≤ w.heap.size → fr + d ≤ m → (m : Int) ≤ fr + d → 0 ≤ fr → hv.length + d ≤ m → B.length ≤ m →
    Calls Try.prog 45 #[vl, .int .i64 fr, .pointer (some ⟨bb, 0, none⟩), .pointer (some ⟨bn, 0, none⟩), .pointer (some ⟨bs, 0, none⟩), .pointer (some ⟨be, 0, none⟩)] w
      fun e w' => e = .returned (.tuple #[]) ∧ MW w' bs bn bb be M0 t1 t2 t3 t4 va m la ha xss (mF (apartB xss) m d hv (better B hv)) ∧ Keep bb (bb + 1) w w' := by
  intro d
  induction d using Nat.strongRecOn with
  | _ d ih =>
    intro fr vl hv lo hi B0 w hMW hl hlo hhi hf1 hf2 hf0 hlen hBm0
    obtain ⟨i0, hi0, hz0, hz1, hz2⟩ := info_parts Try.info_intC
    obtain ⟨Q, hQ0⟩ : ∃ Q, Q = apartB xss := ⟨_, rfl⟩
    obtain ⟨Z, hZ⟩ : ∃ Z, Z = mF (apartB xss) m d hv (better B0 hv) := ⟨_, rfl⟩
    rw [← hZ]
    rw [← hQ0] at hZ ih
    have CR : Hid (∀ k, k < d → ∀ (fr' : Int) (vl' : Value) (hv' : List Int) (lo' hi' : Nat) (B : List Int) (W : World), MW W bs bn bb be M0 t1 t2 t3 t4 va m la ha xss B → Ints W lo' hi' vl' hv' → M0 ≤ lo' → hi' ≤ W.heap.size → fr' + k ≤ m → (m : Int) ≤ fr' + k → 0 ≤ fr' → hv'.length + k ≤ m → B.length ≤ m →
        Calls Try.prog 45 #[vl', .int .i64 fr', .pointer (some ⟨bb, 0, none⟩), .pointer (some ⟨bn, 0, none⟩), .pointer (some ⟨bs, 0, none⟩), .pointer (some ⟨be, 0, none⟩)] W
          fun e w' => e = .returned (.tuple #[]) ∧ MW w' bs bn bb be M0 t1 t2 t3 t4 va m la ha xss (mF Q m k hv' (better B hv')) ∧ Keep bb (bb + 1) W w') := ih
    have hQ : Q = apartB xss := hQ0
    have HQ := Lib.hid hQ
    obtain ⟨ah, ch, rfl, hc1, hc2⟩ := hl.form
    have HIN := Lib.hid hl
    obtain ⟨p, hp⟩ : ∃ p, p = hv.length := ⟨_, rfl⟩
    rw [← hp] at hlen HIN hc1 ⊢
    have HP := Lib.hid hp
    have hbM := hMW.hb
    have CO : Hid (∀ W, Keep bb (bb + 1) w W → Calls Try.prog 46 #[.slice ah p ch] W fun e w' => ∃ a7 c7, e = .returned (.slice a7 p c7) ∧ w'.ownsRow W.heap.size 3 1 (.slice a7 p c7) p (hv.flatMap encI) ∧ Ext W w') := fun W hX => by
      have hr : Ints W lo hi (.slice ah p ch) hv := HIN.out.keep fun k hk1 hk2 => hX.block k (by omega) (by omega)
      refine (c_Clone _ lo hi hv W hr (Nat.le_trans hhi hX.size) (by rw [← HP.out]; omega)).mono fun e w' ⟨v, he, ho, hx⟩ => ?_
      rw [← HP.out] at ho
      obtain ⟨a7, c7, rfl, _⟩ := own_form ho
      exact ⟨a7, c7, he, ho, hx⟩
    have HZ := Lib.hid hZ
    have HM := Lib.hid hMW
    obtain ⟨aB, cB, kB, _⟩ := hMW.b
    have kb := blk_cell kB (j := 0) rfl
    obtain ⟨bl, hbl⟩ : ∃ n, n = B0.length := ⟨_, rfl⟩
    rw [← hbl] at kb hBm0
    have HBL := Lib.hid hbl
    clear hl hp ih hZ hQ hQ0 hMW kB hbl
    by_cases hgt : bl < p
    · have hgtI : (bl : Int) < (p : Int) := by omega
      have HZ0 : Hid (Z = mF Q m d hv hv) := by
        unfold Hid; rw [HZ.out]; unfold better; rw [if_pos (by rw [← HBL.out, ← HP.out]; exact hgt)]
      go_enter Try.func45, Try.ntmps45
      go_wp2_with fail
      refine (CO.out _ (Keep.refl _ _ _)).mono ?_
      rintro e w4 ⟨a4, c4, rfl, ho4, hx4⟩
      have HM4 := Lib.hid (HM.out.ext hx4)
      obtain ⟨aB4, cB4, kB4, _⟩ := HM4.out.b
      have kb4 := blk_cell kB4 (j := 0) rfl
      have fb4 := blk_free kB4 0
      have ho4b : w4.ownsRow M0 3 1 (.slice a4 hv.length c4) hv.length (hv.flatMap encI) := by rw [← HP.out]; exact own_mono ho4 HM.out.hm
      have HM0 : Hid (MW (w4.setCell ⟨bb, 0, none⟩ (.slice a4 p c4)) bs bn bb be M0 t1 t2 t3 t4 va m la ha xss hv) := by
        have h9 := HM4.out.set ho4b
        rw [← HP.out] at h9
        exact h9
      have HK0 : Hid (Keep bb (bb + 1) w (w4.setCell ⟨bb, 0, none⟩ (.slice a4 p c4))) := (Keep.of_ext hx4).trans (keep_set _ _ _)
      have hB0m : hv.length ≤ m := by rw [← HP.out]; omega
      clear ho4 ho4b kb kB4
      go_wp2
      clear kb4 fb4
      go_loopw [8] (fun ts wr => ∃ (c : Nat) (B : List Int) (s : Int), c ≤ d ∧ ts = .int .i64 s ∧ s + c ≤ m ∧ (m : Int) ≤ s + c ∧ 0 ≤ s ∧ Hid (MW wr bs bn bb be M0 t1 t2 t3 t4 va m la ha xss B) ∧ Hid (Z = mF Q m c hv B) ∧ B.length ≤ m ∧ Keep bb (bb + 1) w wr) (fun ts _ => (m - intOf ts).toNat)
      case atStart => exact ⟨d, hv, fr, Nat.le_refl _, rfl, hf1, hf2, hf0, HM0.out, HZ0.out, hB0m, HK0.out⟩
      case round =>
        clear HM0 HZ0 hB0m
        obtain ⟨c, B, s, hc, rfl, hs1, hs2, hs0, hM, hT, hBm, hx⟩ := hrel
        have kn := blk_cell hM.out.n (j := 0) rfl
        cases c with
        | zero =>
          have hge : ¬ (s < (m : Int)) := by omega
          have HS : Hid (Z = B) := hT.out
          go_wp2
          go_end0
          refine ⟨rfl, ?_, hx⟩
          rw [HS.out]
          exact hM.out
        | succ k =>
          have hltI : s < (m : Int) := by omega
          have hT2 := hT.out.trans (mF_succ Q m k hv B s (by omega))
          have hsw := hx.size
          go_wp2_with fail
          refine (CO.out _ hx).mono ?_
          rintro e w5 ⟨a7, c7, rfl, ho7, hx7⟩
          have HO7 := Lib.hid ho7
          have hs7 := hx7.size
          clear ho7
          go_wp2_with (at_builtin; refine wpList_append_own _ rfl _ _ 24 rfl wr.heap.size 3 i0 (.int .i64 0) 1 8 Try.underlying24 hi0 hz0 hz1 hz2 rfl (by decide) _ _ _ rfl (HO7.out.alloc _) ⟨w5.heap.size, 0, none⟩ 1 1 [.int .i64 s] rfl rfl (new_cells1 _ _ _) (by intro u hu; simp at hu; subst hu; rfl) (by unfold maxLen; omega) (by omega) (by simp; omega) ?_; intro v8 w6 hown8 hgrow8 _; have hx6 := hx7.push HO7.out hgrow8 (Nat.le_refl _); obtain ⟨a8, c8, rfl, _, _, _⟩ := own_form hown8; have HO8 := Lib.hid (own_snoc HP.out hown8); have HM6 := Lib.hid (hM.out.ext hx6); have ks6 := blk_cell HM6.out.s (j := 0) rfl; have ke6 := blk_cell HM6.out.e (j := 0) rfl; clear hown8 hgrow8)
          have HL8 : Hid ((hv ++ [s]).length = p + 1) := by unfold Hid; rw [List.length_append, ← HP.out]; rfl
          have HR8 : Hid (Ints w6 wr.heap.size w6.heap.size (.slice a8 (p + 1) c8) (hv ++ [s])) := Row.of_own encI_len HO8.out
          obtain ⟨t, ht⟩ : ∃ t, t = Q (hv ++ [s]) := ⟨_, rfl⟩
          have CZ : Hid (∀ W, w6 = W → Calls Try.prog 47 #[va, .slice a8 (p + 1) c8] W fun e w' => e = .returned (.bool t) ∧ W = w') := fun W hW => by
            subst hW
            rw [ht, HQ.out]
            exact c_areApart va _ la ha _ _ xss (hv ++ [s]) w6 HM6.out.i HR8.out (by rw [HL8.out]; omega)
          rw [← ht] at hT2
          clear ht
          refine (CZ.out _ rfl).mono ?_
          rintro e w' ⟨rfl, rfl⟩
          cases t
          · have HS : Hid (Z = mF Q m k hv B) := hT2
            clear hT2 ks6 ke6
            go_wp2
            go_roundw
            case rel => exact ⟨k, B, s + 1, by omega, rfl, by omega, by omega, by omega, HM6.out, HS.out, hBm, hx.trans (Keep.of_ext hx6)⟩
            case measure => simp [intOf]; omega
          · rw [if_pos rfl] at hT2
            have HS : Hid (Z = mF Q m k hv (mF Q m k (hv ++ [s]) (better B (hv ++ [s])))) := by
              unfold Hid; rw [hT2, ← mF_better Q m k (hv ++ [s]) B (hv ++ [s])]
            have hRl : (mF Q m k (hv ++ [s]) (better B (hv ++ [s]))).length ≤ m := by
              have h1 := mF_len Q m k (hv ++ [s]) (better B (hv ++ [s]))
              have h2 : (better B (hv ++ [s])).length ≤ m := by
                unfold better
                split
                · rw [HL8.out]; omega
                · exact hBm
              rw [HL8.out] at h1
              omega
            have CC := Lib.hid (CR.out k (by omega) (s + 1) (.slice a8 (p + 1) c8) (hv ++ [s]) wr.heap.size w6.heap.size B w6 HM6.out HR8.out (Nat.le_trans hM.out.hm (Nat.le_refl _)) (Nat.le_refl _) (by omega) (by omega) (by omega) (by rw [HL8.out]; omega) hBm)
            clear hT2
            go_wp2_with (go_at_call 45; refine CC.out.mono ?_; rintro e w9 ⟨rfl, hM9, hk9⟩)
            go_roundw
            case rel => exact ⟨k, _, s + 1, by omega, rfl, by omega, by omega, by omega, hM9, HS.out, hRl, hx.trans ((Keep.of_ext hx6).trans hk9)⟩
            case measure => simp [intOf]; omega
    · have hgtI : ¬ ((bl : Int) < (p : Int)) := by omega
      have HZ0 : Hid (Z = mF Q m d hv B0) := by
        unfold Hid; rw [HZ.out]; unfold better; rw [if_neg (by rw [← HBL.out, ← HP.out]; exact hgt)]
      have HM0 := Lib.hid HM.out
      have hB0m : B0.length ≤ m := by rw [← HBL.out]; exact hBm0
      go_enter Try.func45, Try.ntmps45
      go_wp2
      clear kb
      go_loopw [8] (fun ts wr => ∃ (c : Nat) (B : List Int) (s : Int), c ≤ d ∧ ts = .int .i64 s ∧ s + c ≤ m ∧ (m : Int) ≤ s + c ∧ 0 ≤ s ∧ Hid (MW wr bs bn bb be M0 t1 t2 t3 t4 va m la ha xss B) ∧ Hid (Z = mF Q m c hv B) ∧ B.length ≤ m ∧ Keep bb (bb + 1) w wr) (fun ts _ => (m - intOf ts).toNat)
      case atStart => exact ⟨d, B0, fr, Nat.le_refl _, rfl, hf1, hf2, hf0, HM0.out, HZ0.out, hB0m, Keep.refl _ _ _⟩
      case round =>
        clear HM0 HZ0 hB0m
        obtain ⟨c, B, s, hc, rfl, hs1, hs2, hs0, hM, hT, hBm, hx⟩ := hrel
        have kn := blk_cell hM.out.n (j := 0) rfl
        cases c with
        | zero =>
          have hge : ¬ (s < (m : Int)) := by omega
          have HS : Hid (Z = B) := hT.out
          go_wp2
          go_end0
          refine ⟨rfl, ?_, hx⟩
          rw [HS.out]
          exact hM.out
        | succ k =>
          have hltI : s < (m : Int) := by omega
          have hT2 := hT.out.trans (mF_succ Q m k hv B s (by omega))
          have hsw := hx.size
          go_wp2_with fail
          refine (CO.out _ hx).mono ?_
          rintro e w5 ⟨a7, c7, rfl, ho7, hx7⟩
          have HO7 := Lib.hid ho7
          have hs7 := hx7.size
          clear ho7
          go_wp2_with (at_builtin; refine wpList_append_own _ rfl _ _ 24 rfl wr.heap.size 3 i0 (.int .i64 0) 1 8 Try.underlying24 hi0 hz0 hz1 hz2 rfl (by decide) _ _ _ rfl (HO7.out.alloc _) ⟨w5.heap.size, 0, none⟩ 1 1 [.int .i64 s] rfl rfl (new_cells1 _ _ _) (by intro u hu; simp at hu; subst hu; rfl) (by unfold maxLen; omega) (by omega) (by simp; omega) ?_; intro v8 w6 hown8 hgrow8 _; have hx6 := hx7.push HO7.out hgrow8 (Nat.le_refl _); obtain ⟨a8, c8, rfl, _, _, _⟩ := own_form hown8; have HO8 := Lib.hid (own_snoc HP.out hown8); have HM6 := Lib.hid (hM.out.ext hx6); have ks6 := blk_cell HM6.out.s (j := 0) rfl; have ke6 := blk_cell HM6.out.e (j := 0) rfl; clear hown8 hgrow8)
          have HL8 : Hid ((hv ++ [s]).length = p + 1) := by unfold Hid; rw [List.length_append, ← HP.out]; rfl
          have HR8 : Hid (Ints w6 wr.heap.size w6.heap.size (.slice a8 (p + 1) c8) (hv ++ [s])) := Row.of_own encI_len HO8.out
          obtain ⟨t, ht⟩ : ∃ t, t = Q (hv ++ [s]) := ⟨_, rfl⟩
          have CZ : Hid (∀ W, w6 = W → Calls Try.prog 47 #[va, .slice a8 (p + 1) c8] W fun e w' => e = .returned (.bool t) ∧ W = w') := fun W hW => by
            subst hW
            rw [ht, HQ.out]
            exact c_areApart va _ la ha _ _ xss (hv ++ [s]) w6 HM6.out.i HR8.out (by rw [HL8.out]; omega)
          rw [← ht] at hT2
          clear ht
          refine (CZ.out _ rfl).mono ?_
          rintro e w' ⟨rfl, rfl⟩
          cases t
          · have HS : Hid (Z = mF Q m k hv B) := hT2
            clear hT2 ks6 ke6
            go_wp2
            go_roundw
            case rel => exact ⟨k, B, s + 1, by omega, rfl, by omega, by omega, by omega, HM6.out, HS.out, hBm, hx.trans (Keep.of_ext hx6)⟩
            case measure => simp [intOf]; omega
          · rw [if_pos rfl] at hT2
            have HS : Hid (Z = mF Q m k hv (mF Q m k (hv ++ [s]) (better B (hv ++ [s])))) := by
              unfold Hid; rw [hT2, ← mF_better Q m k (hv ++ [s]) B (hv ++ [s])]
            have hRl : (mF Q m k (hv ++ [s]) (better B (hv ++ [s]))).length ≤ m := by
              have h1 := mF_len Q m k (hv ++ [s]) (better B (hv ++ [s]))
              have h2 : (better B (hv ++ [s])).length ≤ m := by
                unfold better
                split
                · rw [HL8.out]; omega
                · exact hBm
              rw [HL8.out] at h1
              omega
            have CC := Lib.hid (CR.out k (by omega) (s + 1) (.slice a8 (p + 1) c8) (hv ++ [s]) wr.heap.size w6.heap.size B w6 HM6.out HR8.out (Nat.le_trans hM.out.hm (Nat.le_refl _)) (Nat.le_refl _) (by omega) (by omega) (by omega) (by rw [HL8.out]; omega) hBm)
            clear hT2
            go_wp2_with (go_at_call 45; refine CC.out.mono ?_; rintro e w9 ⟨rfl, hM9, hk9⟩)
            go_roundw
            case rel => exact ⟨k, _, s + 1, by omega, rfl, by omega, by omega, by omega, hM9, HS.out, hRl, hx.trans ((Keep.of_ext hx6).trans hk9)⟩
            case measure => simp [intOf]; omega
end Go.Proofs.Ytiofckbdjifdpaa
