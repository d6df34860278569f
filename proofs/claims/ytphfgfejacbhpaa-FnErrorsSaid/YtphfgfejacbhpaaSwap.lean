
/- SeesExchange of the program and of the reference: their contracts. -/
import Derived.Test.YtphfgfejacbhpaaWithPair
import Derived.BigRegion
namespace Go.Proofs.Ytphfgfejacbhpaa
open Go.RowKit

def holdB (xs : List Int) : Bool := decide (lsum xs % 61 = 0) && decide (wsum 0 xs % 61 = 0)
set_option maxRecDepth 100000 in
theorem c_holdsAsPair (v : Value) (la ha : Nat) (xs : List Int) (w : World) (h : Ints w la ha v xs) (h50 : wordB 50 xs = true) :
    Calls Try.prog 61 #[v] w fun e w' => e = .returned (.bool (holdB xs)) ∧ w = w' := by
  obtain ⟨x, hx⟩ : ∃ x, x = holdB xs := ⟨_, rfl⟩
  rw [← hx]
  unfold holdB at hx
  have H := Lib.hid h
  obtain ⟨s, hs⟩ : ∃ s, s = lsum xs % 61 := ⟨_, rfl⟩
  obtain ⟨t, ht⟩ : ∃ t, t = wsum 0 xs % 61 := ⟨_, rfl⟩
  rw [← hs, ← ht] at hx
  have HS := Lib.hid hs
  have HT := Lib.hid ht
  clear h hs ht
  by_cases h1 : s = 0
  · subst h1
    have HX := Lib.hid hx
    clear hx
    go_enter Try.func61, Try.ntmps61
    go_wp2_with ((go_at_call 45; refine (c_syndromes _ _ _ xs _ H.out h50).mono ?_; rw [← HS.out, ← HT.out]; rintro e w' ⟨rfl, rfl⟩))
    go_ret
    exact ⟨by rw [HX.out]; by_cases h2 : t = 0 <;> simp [h2], rfl⟩
  · have HX := Lib.hid hx
    clear hx
    go_enter Try.func61, Try.ntmps61
    go_wp2_with ((go_at_call 45; refine (c_syndromes _ _ _ xs _ H.out h50).mono ?_; rw [← HS.out, ← HT.out]; rintro e w' ⟨rfl, rfl⟩))
    go_ret
    exact ⟨by rw [HX.out]; simp [h1], rfl⟩
set_option maxRecDepth 100000 in
theorem c_ckHolds (v : Value) (la ha : Nat) (xs : List Int) (w : World) (h : Ints w la ha v xs) (h50 : wordB 50 xs = true) :
    Calls Try.prog 62 #[v] w fun e w' => e = .returned (.bool (holdB xs)) ∧ w = w' := by
  obtain ⟨x, hx⟩ : ∃ x, x = holdB xs := ⟨_, rfl⟩
  rw [← hx]
  unfold holdB at hx
  have H := Lib.hid h
  obtain ⟨s, hs⟩ : ∃ s, s = lsum xs % 61 := ⟨_, rfl⟩
  obtain ⟨t, ht⟩ : ∃ t, t = wsum 0 xs % 61 := ⟨_, rfl⟩
  rw [← hs, ← ht] at hx
  have HS := Lib.hid hs
  have HT := Lib.hid ht
  clear h hs ht
  by_cases h1 : s = 0
  · subst h1
    have HX := Lib.hid hx
    clear hx
    go_enter Try.func62, Try.ntmps62
    go_wp2_with ((go_at_call 50; refine (c_ckSum _ _ _ xs _ H.out h50).mono ?_; rw [← HS.out, ← HT.out]; rintro e w' ⟨rfl, rfl⟩))
    go_ret
    exact ⟨by rw [HX.out]; by_cases h2 : t = 0 <;> simp [h2], rfl⟩
  · have HX := Lib.hid hx
    clear hx
    go_enter Try.func62, Try.ntmps62
    go_wp2_with ((go_at_call 50; refine (c_ckSum _ _ _ xs _ H.out h50).mono ?_; rw [← HS.out, ← HT.out]; rintro e w' ⟨rfl, rfl⟩))
    go_ret
    exact ⟨by rw [HX.out]; simp [h1], rfl⟩

def swp (xs : List Int) (i k : Nat) : List Int := (xs.set i (xs.getD k 0)).set k (xs.getD i 0)
def exB (xs : List Int) (i k : Int) : Bool := (wordB 50 xs && inB 0 ((xs.length : Int) - 1) i) && (inB 0 ((xs.length : Int) - 1) k && holdB xs)
def exV (xs : List Int) (i k : Int) : Bool := exB xs i k && !holdB (swp xs i.toNat k.toNat)
theorem swp_word {xs : List Int} {i k : Nat} (h : wordB 50 xs = true) (hi : i < xs.length) (hk : k < xs.length) : wordB 50 (swp xs i k) = true := by
  unfold wordB swp at *
  simp only [Bool.and_eq_true, List.length_set] at *
  refine ⟨h.1, ?_⟩
  have hm : ∀ x ∈ xs, inB 1 61 x = true := by have := h.2; unfold allB at this; exact fun x hx => List.all_eq_true.1 this x hx
  have g : ∀ j, j < xs.length → inB 1 61 (xs.getD j 0) = true := fun j hj => hm _ (by rw [List.getD_eq_getElem?_getD, List.getElem?_eq_getElem hj]; exact List.getElem_mem hj)
  unfold allB
  rw [List.all_eq_true]
  intro x hx
  rcases List.mem_or_eq_of_mem_set hx with hx | rfl
  · rcases List.mem_or_eq_of_mem_set hx with hx | rfl
    · exact hm x hx
    · exact g k hk
  · exact g i hi
theorem flat_set (xs : List Int) (i : Nat) (x : Int) : (xs.set i x).flatMap encI = (xs.flatMap encI).set i (.int .i64 x) := by
  rw [flat_map, flat_map, List.map_set]

theorem own_at0 {w : World} {base sz n : Nat} {e : TypeId} {v : Value} {L : List Value} (h : w.ownsRow base e sz v n L) (hn : 0 < n) :
    ∃ g cap, v = .slice (some ⟨g, 0, none⟩) n cap ∧ base ≤ g ∧ g < w.heap.size := by
  rcases h.2 with ⟨_, h0⟩ | ⟨g, cap, cur, hv, hb, hg, _⟩
  · omega
  · exact ⟨g, cap, hv, hb, (Array.getElem?_eq_some_iff.1 hg).1⟩
theorem swp_frozen {w2 : World} {base g n c : Nat} {L : List Value} (hown : w2.ownsRow base 3 1 (.slice (some ⟨g, 0, none⟩) n c) n L) (p : Nat) (x : Int) (j : Nat) :
    (w2.setCell ⟨g, p, none⟩ (.int .i64 x)).frozen? ⟨g, j, none⟩ = false := (hown.stored p (.int .i64 x)).1.frozenAt j
theorem swp_mem {w2 : World} {base g n c p q : Nat} {xs : List Int} {gp gq : Int} (hown : w2.ownsRow base 3 1 (.slice (some ⟨g, 0, none⟩) n c) n (xs.flatMap encI)) (hn : n = xs.length) (he : swp xs p q = (xs.set p gq).set q gp) :
    Ints ((w2.setCell ⟨g, p, none⟩ (.int .i64 gq)).setCell ⟨g, q, none⟩ (.int .i64 gp)) base ((w2.setCell ⟨g, p, none⟩ (.int .i64 gq)).setCell ⟨g, q, none⟩ (.int .i64 gp)).heap.size (.slice (some ⟨g, 0, none⟩) n c) (swp xs p q) := by
  have S2 := ((hown.stored p (.int .i64 gq)).1.stored q (.int .i64 gp)).1
  generalize ((w2.setCell ⟨g, p, none⟩ (.int .i64 gq)).setCell ⟨g, q, none⟩ (.int .i64 gp)) = W at *
  apply Row.of_own encI_len (e := 3)
  rw [he, flat_set, flat_set, List.length_set, List.length_set, ← hn]
  exact S2
theorem own_cell {w : World} {base g n c : Nat} {e : TypeId} {L : List Value} (h : w.ownsRow base e 1 (.slice (some ⟨g, 0, none⟩) n c) n L) {j : Nat} (hj : j < n) : ∃ z, w.cell? ⟨g, j, none⟩ = some z := by
  have hl : L.length = n := by have := h.1; omega
  exact ⟨L[j], by rw [h.cellAt j (by omega)]; exact List.getElem?_eq_getElem (by omega)⟩
theorem own_cellv {w : World} {base g n c : Nat} {e : TypeId} {xs : List Int} (h : w.ownsRow base e 1 (.slice (some ⟨g, 0, none⟩) n c) n (xs.flatMap encI)) {j : Nat} {x : Int} (hx : xs[j]? = some x) (hj : j < n) :
    w.cell? ⟨g, j, none⟩ = some (.int .i64 x) := by
  rw [h.cellAt j (by omega), flat_map, List.getElem?_map, hx]; rfl
set_option maxRecDepth 100000 in
set_option maxHeartbeats 1000000 in
theorem c_sSeesExchange (v : Value) (la ha : Nat) (xs : List Int) (i k : Int) (w : World) (h : Ints w la ha v xs) (hh : ha ≤ w.heap.size) :
    Calls Try.prog 31 #[v, .int .i64 i, .int .i64 k] w fun e w' => e = .returned (.tuple #[.bool (exV xs i k), .bool (exB xs i k)]) ∧ Ext w w' := by
  obtain ⟨x, hx⟩ : ∃ x, x = exV xs i k := ⟨_, rfl⟩
  obtain ⟨y, hy⟩ : ∃ y, y = exB xs i k := ⟨_, rfl⟩
  rw [← hx, ← hy]
  unfold exV at hx
  rw [← hy] at hx
  unfold exB at hy
  have h0 := h
  obtain ⟨a, cap, rfl, m1, m2, _⟩ := h0
  have H := Lib.hid h
  clear h
  obtain ⟨ei, hei⟩ : ∃ e, e = erB xs i := ⟨_, rfl⟩
  obtain ⟨ek, hek⟩ : ∃ e, e = erB xs k := ⟨_, rfl⟩
  have EI : Hid (erB xs i = ei) := hei.symm
  have EK : Hid (erB xs k = ek) := hek.symm
  unfold erB at hei hek
  cases h50 : wordB 50 xs
  · rw [h50] at hy hei hek
    simp at hy hei hek; subst hy hei hek; simp at hx; subst hx
    go_enter Try.func31, Try.ntmps31
    go_wp2_with (first | (go_at_call 55; refine (c_ckHas _ _ _ xs _ _ H.out).mono ?_; rw [EI.out]; rintro e w' ⟨rfl, rfl⟩) | (go_at_call 55; refine (c_ckHas _ _ _ xs _ _ H.out).mono ?_; rw [EK.out]; rintro e w' ⟨rfl, rfl⟩) | (go_at_call 62; refine (c_ckHolds _ _ _ xs _ H.out h50).mono ?_; rw [HD.out]; rintro e w' ⟨rfl, rfl⟩))
    go_ret2
    exact ⟨rfl, Ext.refl _⟩
  cases hi : inB 0 ((xs.length : Int) - 1) i
  · rw [h50, hi] at hy hei
    rw [h50] at hek
    simp at hy hei; subst hy hei; simp at hx; subst hx
    clear hek
    go_enter Try.func31, Try.ntmps31
    go_wp2_with (first | (go_at_call 55; refine (c_ckHas _ _ _ xs _ _ H.out).mono ?_; rw [EI.out]; rintro e w' ⟨rfl, rfl⟩) | (go_at_call 55; refine (c_ckHas _ _ _ xs _ _ H.out).mono ?_; rw [EK.out]; rintro e w' ⟨rfl, rfl⟩) | (go_at_call 62; refine (c_ckHolds _ _ _ xs _ H.out h50).mono ?_; rw [HD.out]; rintro e w' ⟨rfl, rfl⟩))
    go_ret2
    exact ⟨rfl, Ext.refl _⟩
  cases hk : inB 0 ((xs.length : Int) - 1) k
  · rw [h50, hi, hk] at hy
    rw [h50, hi] at hei
    rw [h50, hk] at hek
    simp at hy hei hek; subst hy hei hek; simp at hx; subst hx
    go_enter Try.func31, Try.ntmps31
    go_wp2_with (first | (go_at_call 55; refine (c_ckHas _ _ _ xs _ _ H.out).mono ?_; rw [EI.out]; rintro e w' ⟨rfl, rfl⟩) | (go_at_call 55; refine (c_ckHas _ _ _ xs _ _ H.out).mono ?_; rw [EK.out]; rintro e w' ⟨rfl, rfl⟩) | (go_at_call 62; refine (c_ckHolds _ _ _ xs _ H.out h50).mono ?_; rw [HD.out]; rintro e w' ⟨rfl, rfl⟩))
    go_ret2
    exact ⟨rfl, Ext.refl _⟩
  cases hd : holdB xs
  · rw [h50, hi, hk, hd] at hy
    rw [h50, hi] at hei
    rw [h50, hk] at hek
    simp at hy hei hek; subst hy hei hek; simp at hx; subst hx
    have HD : Hid (holdB xs = false) := hd
    clear hd
    go_enter Try.func31, Try.ntmps31
    go_wp2_with (first | (go_at_call 55; refine (c_ckHas _ _ _ xs _ _ H.out).mono ?_; rw [EI.out]; rintro e w' ⟨rfl, rfl⟩) | (go_at_call 55; refine (c_ckHas _ _ _ xs _ _ H.out).mono ?_; rw [EK.out]; rintro e w' ⟨rfl, rfl⟩) | (go_at_call 62; refine (c_ckHolds _ _ _ xs _ H.out h50).mono ?_; rw [HD.out]; rintro e w' ⟨rfl, rfl⟩))
    go_ret2
    exact ⟨rfl, Ext.refl _⟩
  · rw [h50, hi, hk, hd] at hy
    rw [h50, hi] at hei
    rw [h50, hk] at hek
    simp at hy hei hek; subst hy hei hek; simp at hx
    have HD : Hid (holdB xs = true) := hd
    obtain ⟨i1, i2⟩ := inB_t hi
    obtain ⟨k1, k2⟩ := inB_t hk
    obtain ⟨p, rfl⟩ := Int.eq_ofNat_of_zero_le i1
    obtain ⟨q, rfl⟩ := Int.eq_ofNat_of_zero_le k1
    have W2 := swp_word (i := p) (k := q) h50 (by omega) (by omega)
    have hlen : (xs.length : Int) ≤ 50 := by have := h50; unfold wordB at this; simp at this; exact this.1
    have hln := hlen
    obtain ⟨n, hn⟩ : ∃ n, n = xs.length := ⟨_, rfl⟩
    have HN := Lib.hid hn
    rw [← hn] at m1 H i2 hi k2 hk hln ⊢
    have hpI : (p : Int) < (n : Int) := by omega
    have hqI : (q : Int) < (n : Int) := by omega
    obtain ⟨b, o, gp, rfl, hgp, c0⟩ := Ints_at H.out (k := p) (by omega)
    obtain ⟨b2, o2, gq, hbb, hgq, c1⟩ := Ints_at H.out (k := q) (by omega)
    simp only [Option.some.injEq, Addr.mk.injEq, and_true] at hbb
    obtain ⟨rfl, rfl⟩ := hbb
    have e1 : xs.getD p 0 = gp := by rw [List.getD_eq_getElem?_getD, hgp.out]; rfl
    have e2 : xs.getD q 0 = gq := by rw [List.getD_eq_getElem?_getD, hgq.out]; rfl
    simp only [Int.toNat_natCast] at hx
    have HX := Lib.hid hx
    have HE : Hid (swp xs p q = (xs.set p gq).set q gp) := by unfold Hid swp; rw [e1, e2]
    have HW2 := Lib.hid W2
    have CC : Hid (Calls Try.prog 44 #[.slice (some ⟨b, o, none⟩) n cap] w fun e w' => ∃ g c, e = .returned (.slice (some ⟨g, 0, none⟩) n c) ∧ w'.ownsRow w.heap.size 3 1 (.slice (some ⟨g, 0, none⟩) n c) n (xs.flatMap encI) ∧ w.heap.size ≤ g ∧ Ext w w') := by
      have hc := c_l1Own _ _ _ xs w H.out hh (by omega)
      rw [← hn] at hc
      refine hc.mono fun e w' hq => ?_
      obtain ⟨v', he, ho, hx'⟩ := hq
      obtain ⟨g, c, rfl, hg1, hg2⟩ := own_at0 ho (by omega)
      exact ⟨g, c, he, ho, hg1, hx'⟩
    have hlb : b < ha := by
      obtain ⟨_, _, hv, _, _, b1, o1, hr, _⟩ := H.out
      simp only [Value.slice.injEq] at hv
      obtain ⟨rfl, rfl, rfl⟩ := hv
      obtain ⟨h1, _, h3⟩ := hr (by omega)
      simp only [Option.some.injEq, Addr.mk.injEq] at h1
      omega
    have HC1 := Lib.hid (c_ckHolds _ _ _ xs _ H.out h50)
    rw [hd] at HC1
    clear hx hd W2 hlen hn e1 e2 i1 k1
    go_enter Try.func31, Try.ntmps31
    go_wp2_with (first | first | (go_at_call 55; refine (c_ckHas _ _ _ xs _ _ H.out).mono ?_; rw [EI.out]; rintro e w' ⟨rfl, rfl⟩) | (go_at_call 55; refine (c_ckHas _ _ _ xs _ _ H.out).mono ?_; rw [EK.out]; rintro e w' ⟨rfl, rfl⟩) | (go_at_call 62; refine HC1.out.mono ?_; rintro e w' ⟨rfl, rfl⟩))
    refine CC.out.mono ?_
    rintro e w2 ⟨g, c, rfl, hown, hg, hx2⟩
    have d0 := hx2.cell c0
    have d1 := hx2.cell c1
    have fz0 := fun j => hown.frozenAt j
    have fz1 := fun j => swp_frozen hown p gq j
    have hz0 := own_cellv hown hgp.out (by omega)
    have hz2 := own_cellv hown hgq.out (by omega)
    obtain ⟨z1, hz1⟩ := own_cell (hown.stored p (.int .i64 gq)).1 (j := q) (by omega)
    have X1 := Ext.st hx2 (p := ⟨g, p, none⟩) hg (.int .i64 gq)
    have d2 := X1.cell c0
    have HX2 := Lib.hid (Ext.st X1 (p := ⟨g, q, none⟩) hg (.int .i64 gp))
    have CH := Lib.hid (c_ckHolds _ _ _ _ _ (swp_mem hown HN.out HE.out) HW2.out)
    have CD := Lib.hid (c_ckHolds _ _ _ _ _ ((swp_mem (p := p) (q := q) hown HN.out HE.out).ext (Ext.drew _) (Nat.le_refl _)) HW2.out)
    have HXD := Lib.hid (HX2.out.trans (Ext.drew _))
    clear hown X1 c0 c1 hx2
    have hbg : b ≠ g := by omega
    have hgb : g ≠ b := by omega
    clear hg hlb hh CC HC1 hgp hgq HE HW2 HN HD EI EK h50 m1 m2
    skip
    go_wp2_with (go_at_call 62; refine CH.out.mono ?_; rintro e w3 ⟨rfl, rfl⟩)
    go_ret2
    exact ⟨by rw [HX.out]; rfl, HX2.out⟩
set_option maxRecDepth 100000 in
set_option maxHeartbeats 1000000 in
theorem c_iSeesExchange (v : Value) (la ha : Nat) (xs : List Int) (i k : Int) (w : World) (h : Ints w la ha v xs) (hh : ha ≤ w.heap.size) :
    Calls Try.prog 30 #[v, .int .i64 i, .int .i64 k] w fun e w' => e = .returned (.tuple #[.bool (exV xs i k), .bool (exB xs i k)]) ∧ Ext w w' := by
  obtain ⟨x, hx⟩ : ∃ x, x = exV xs i k := ⟨_, rfl⟩
  obtain ⟨y, hy⟩ : ∃ y, y = exB xs i k := ⟨_, rfl⟩
  rw [← hx, ← hy]
  unfold exV at hx
  rw [← hy] at hx
  unfold exB at hy
  have h0 := h
  obtain ⟨a, cap, rfl, m1, m2, _⟩ := h0
  have H := Lib.hid h
  clear h
  obtain ⟨ei, hei⟩ : ∃ e, e = erB xs i := ⟨_, rfl⟩
  obtain ⟨ek, hek⟩ : ∃ e, e = erB xs k := ⟨_, rfl⟩
  have EI : Hid (erB xs i = ei) := hei.symm
  have EK : Hid (erB xs k = ek) := hek.symm
  unfold erB at hei hek
  cases h50 : wordB 50 xs
  · rw [h50] at hy hei hek
    simp at hy hei hek; subst hy hei hek; simp at hx; subst hx
    go_enter Try.func30, Try.ntmps30
    go_wp2_with (first | (go_at_call 39; refine (c_isWord _ _ _ xs 0 _ H.out).mono ?_; rintro e w' ⟨rfl, rfl⟩) | (go_at_call 47; refine (within_c _ _ _ _).mono ?_; rintro e w' ⟨rfl, rfl⟩) | (go_at_call 61; refine (c_holdsAsPair _ _ _ xs _ H.out h50).mono ?_; rw [HD.out]; rintro e w' ⟨rfl, rfl⟩))
    go_ret2
    exact ⟨rfl, Ext.refl _⟩
  cases hi : inB 0 ((xs.length : Int) - 1) i
  · rw [h50, hi] at hy hei
    rw [h50] at hek
    simp at hy hei; subst hy hei; simp at hx; subst hx
    clear hek
    go_enter Try.func30, Try.ntmps30
    go_wp2_with (first | (go_at_call 39; refine (c_isWord _ _ _ xs 0 _ H.out).mono ?_; rintro e w' ⟨rfl, rfl⟩) | (go_at_call 47; refine (within_c _ _ _ _).mono ?_; rintro e w' ⟨rfl, rfl⟩) | (go_at_call 61; refine (c_holdsAsPair _ _ _ xs _ H.out h50).mono ?_; rw [HD.out]; rintro e w' ⟨rfl, rfl⟩))
    go_ret2
    exact ⟨rfl, Ext.refl _⟩
  cases hk : inB 0 ((xs.length : Int) - 1) k
  · rw [h50, hi, hk] at hy
    rw [h50, hi] at hei
    rw [h50, hk] at hek
    simp at hy hei hek; subst hy hei hek; simp at hx; subst hx
    go_enter Try.func30, Try.ntmps30
    go_wp2_with (first | (go_at_call 39; refine (c_isWord _ _ _ xs 0 _ H.out).mono ?_; rintro e w' ⟨rfl, rfl⟩) | (go_at_call 47; refine (within_c _ _ _ _).mono ?_; rintro e w' ⟨rfl, rfl⟩) | (go_at_call 61; refine (c_holdsAsPair _ _ _ xs _ H.out h50).mono ?_; rw [HD.out]; rintro e w' ⟨rfl, rfl⟩))
    go_ret2
    exact ⟨rfl, Ext.refl _⟩
  cases hd : holdB xs
  · rw [h50, hi, hk, hd] at hy
    rw [h50, hi] at hei
    rw [h50, hk] at hek
    simp at hy hei hek; subst hy hei hek; simp at hx; subst hx
    have HD : Hid (holdB xs = false) := hd
    clear hd
    go_enter Try.func30, Try.ntmps30
    go_wp2_with (first | (go_at_call 39; refine (c_isWord _ _ _ xs 0 _ H.out).mono ?_; rintro e w' ⟨rfl, rfl⟩) | (go_at_call 47; refine (within_c _ _ _ _).mono ?_; rintro e w' ⟨rfl, rfl⟩) | (go_at_call 61; refine (c_holdsAsPair _ _ _ xs _ H.out h50).mono ?_; rw [HD.out]; rintro e w' ⟨rfl, rfl⟩))
    go_ret2
    exact ⟨rfl, Ext.refl _⟩
  · rw [h50, hi, hk, hd] at hy
    rw [h50, hi] at hei
    rw [h50, hk] at hek
    simp at hy hei hek; subst hy hei hek; simp at hx
    have HD : Hid (holdB xs = true) := hd
    obtain ⟨i1, i2⟩ := inB_t hi
    obtain ⟨k1, k2⟩ := inB_t hk
    obtain ⟨p, rfl⟩ := Int.eq_ofNat_of_zero_le i1
    obtain ⟨q, rfl⟩ := Int.eq_ofNat_of_zero_le k1
    have W2 := swp_word (i := p) (k := q) h50 (by omega) (by omega)
    have hlen : (xs.length : Int) ≤ 50 := by have := h50; unfold wordB at this; simp at this; exact this.1
    have hln := hlen
    obtain ⟨n, hn⟩ : ∃ n, n = xs.length := ⟨_, rfl⟩
    have HN := Lib.hid hn
    rw [← hn] at m1 H i2 hi k2 hk hln ⊢
    have hpI : (p : Int) < (n : Int) := by omega
    have hqI : (q : Int) < (n : Int) := by omega
    obtain ⟨b, o, gp, rfl, hgp, c0⟩ := Ints_at H.out (k := p) (by omega)
    obtain ⟨b2, o2, gq, hbb, hgq, c1⟩ := Ints_at H.out (k := q) (by omega)
    simp only [Option.some.injEq, Addr.mk.injEq, and_true] at hbb
    obtain ⟨rfl, rfl⟩ := hbb
    have e1 : xs.getD p 0 = gp := by rw [List.getD_eq_getElem?_getD, hgp.out]; rfl
    have e2 : xs.getD q 0 = gq := by rw [List.getD_eq_getElem?_getD, hgq.out]; rfl
    simp only [Int.toNat_natCast] at hx
    have HX := Lib.hid hx
    have HE : Hid (swp xs p q = (xs.set p gq).set q gp) := by unfold Hid swp; rw [e1, e2]
    have HW2 := Lib.hid W2
    have CC : Hid (Calls Try.prog 41 #[.slice (some ⟨b, o, none⟩) n cap] w fun e w' => ∃ g c, e = .returned (.slice (some ⟨g, 0, none⟩) n c) ∧ w'.ownsRow w.heap.size 3 1 (.slice (some ⟨g, 0, none⟩) n c) n (xs.flatMap encI) ∧ w.heap.size ≤ g ∧ Ext w w') := by
      have hc := c_Clone _ _ _ xs w H.out hh (by omega)
      rw [← hn] at hc
      refine hc.mono fun e w' hq => ?_
      obtain ⟨v', he, ho, hx'⟩ := hq
      obtain ⟨g, c, rfl, hg1, hg2⟩ := own_at0 ho (by omega)
      exact ⟨g, c, he, ho, hg1, hx'⟩
    have hlb : b < ha := by
      obtain ⟨_, _, hv, _, _, b1, o1, hr, _⟩ := H.out
      simp only [Value.slice.injEq] at hv
      obtain ⟨rfl, rfl, rfl⟩ := hv
      obtain ⟨h1, _, h3⟩ := hr (by omega)
      simp only [Option.some.injEq, Addr.mk.injEq] at h1
      omega
    have HC1 := Lib.hid (c_holdsAsPair _ _ _ xs _ H.out h50)
    rw [hd] at HC1
    clear hx hd W2 hlen hn e1 e2 i1 k1
    go_enter Try.func30, Try.ntmps30
    go_wp2_with (first | first | (go_at_call 39; refine (c_isWord _ _ _ xs 0 _ H.out).mono ?_; rintro e w' ⟨rfl, rfl⟩) | (go_at_call 47; refine (within_c _ _ _ _).mono ?_; rintro e w' ⟨rfl, rfl⟩) | (go_at_call 61; refine HC1.out.mono ?_; rintro e w' ⟨rfl, rfl⟩))
    refine CC.out.mono ?_
    rintro e w2 ⟨g, c, rfl, hown, hg, hx2⟩
    have d0 := hx2.cell c0
    have d1 := hx2.cell c1
    have fz0 := fun j => hown.frozenAt j
    have fz1 := fun j => swp_frozen hown p gq j
    have hz0 := own_cellv hown hgp.out (by omega)
    have hz2 := own_cellv hown hgq.out (by omega)
    obtain ⟨z1, hz1⟩ := own_cell (hown.stored p (.int .i64 gq)).1 (j := q) (by omega)
    have X1 := Ext.st hx2 (p := ⟨g, p, none⟩) hg (.int .i64 gq)
    have d2 := X1.cell c0
    have HX2 := Lib.hid (Ext.st X1 (p := ⟨g, q, none⟩) hg (.int .i64 gp))
    have CH := Lib.hid (c_holdsAsPair _ _ _ _ _ (swp_mem hown HN.out HE.out) HW2.out)
    have CD := Lib.hid (c_holdsAsPair _ _ _ _ _ ((swp_mem (p := p) (q := q) hown HN.out HE.out).ext (Ext.drew _) (Nat.le_refl _)) HW2.out)
    have HXD := Lib.hid (HX2.out.trans (Ext.drew _))
    clear hown X1 c0 c1 hx2
    have hbg : b ≠ g := by omega
    have hgb : g ≠ b := by omega
    clear hg hlb hh CC HC1 hgp hgq HE HW2 HN HD EI EK h50 m1 m2
    (go_wp2_with fail; go_region)
    go_wp2_with (go_at_call 61; refine CD.out.mono ?_; rintro e w3 ⟨rfl, rfl⟩)
    go_ret2
    exact ⟨by rw [HX.out]; rfl, HXD.out⟩
end Go.Proofs.Ytphfgfejacbhpaa
