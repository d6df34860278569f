/- Least, greedy and thin covers, needed sites: plain laws. -/
import Derived.Test.YtiofckbdjifdpaaLeastC
import Derived.Test.YtiofckbdjifdpaaCount
import Derived.Test.YtiofckbdjifdpaaThin2
import Derived.Test.YtiofckbdjifdpaaSeen
import Derived.Test.YtiofckbdjifdpaaNeed2
import Derived.Test.YtiofckbdjifdpaaGreedI
namespace Go.Proofs.Ytiofckbdjifdpaa
open Go.RowKit
theorem risB_inc {lo hi : Int} {xs : List Int} (h : risB lo hi xs = true) : incP none xs = true ∧ ∀ x ∈ xs, lo ≤ x ∧ x ≤ hi := by
  unfold risB at h
  rw [Bool.and_eq_true] at h
  refine ⟨h.2, fun x hx => ?_⟩
  have := List.all_eq_true.1 (by simpa [allB] using h.1 : xs.all (fun x => inB lo hi x) = true) x hx
  exact inB_t this
theorem ris_of {lo hi : Int} {xs : List Int} (h1 : incP none xs = true) (h2 : ∀ x ∈ xs, lo ≤ x ∧ x ≤ hi) : risB lo hi xs = true := by
  unfold risB
  rw [Bool.and_eq_true]
  refine ⟨?_, h1⟩
  unfold allB
  rw [List.all_eq_true]
  intro x hx
  have := h2 x hx
  simp only [inB, Bool.and_eq_true, decide_eq_true_eq]
  omega
theorem lc_lst (xss : List (List Int)) (n t : Int) (h : lcA xss n t = true) : LstO (fun c => coverB xss n.toNat c t) (bitsA xss.length) (lcR xss n t) := by
  unfold lcR
  rw [if_pos h]
  exact bstF_lst (bitsA xss.length) [] (o := none) (fun U hU => by cases hU)
theorem lcA_of {xss : List (List Int)} {n : Int} (h : sitesB xss n = true) : lcA xss n 1 = true := by
  unfold lcA
  rw [h]
  rfl
theorem cover_iff {xss : List (List Int)} {n : Nat} (hs : GoodS xss n) (ch : List Int) (t : Int) : coverB xss n ch t = true ↔ ∀ k, k < n → t ≤ ((cntL xss ch (k : Int) : Nat) : Int) := by
  unfold coverB
  rw [List.all_eq_true]
  constructor
  · intro h k hk
    simpa using h _ (List.mem_of_getElem? (timesL_get hs.pn ch hk))
  · intro h x hx
    obtain ⟨k, hk⟩ := List.getElem?_of_mem hx
    have hkn : k < n := by have := (List.getElem?_eq_some_iff.1 hk).1; rwa [timesL_len] at this
    rw [timesL_get hs.pn ch hkn] at hk
    simp only [Option.some.injEq] at hk
    subst hk
    simpa using h k hkn
theorem cover_sub {xss : List (List Int)} {n : Nat} (hs : GoodS xss n) {l l' : List Int} {t : Int} (h : l.Sublist l') (hc : coverB xss n l t = true) : coverB xss n l' t = true := by
  rw [cover_iff hs] at hc ⊢
  intro k hk
  have h1 := hc k hk
  have h2 : cntL xss l (k : Int) ≤ cntL xss l' (k : Int) := (h.filter _).length_le
  omega
theorem erase_sub : ∀ (O : List Int) (k j : Nat), k ≤ j → ((O.eraseIdx k).eraseIdx j).Sublist (O.eraseIdx (j + 1))
  | [], _, _, _ => by simp
  | x :: r, 0, j, _ => by
    simp only [List.eraseIdx_cons_zero, List.eraseIdx_cons_succ]
    exact List.sublist_cons_self _ _
  | x :: r, k + 1, 0, h => by omega
  | x :: r, k + 1, j + 1, h => by
    simp only [List.eraseIdx_cons_succ]
    exact (erase_sub r k j (by omega)).cons_cons x
theorem thS_sub (f : List Int → Bool) : ∀ (k : Nat) (O : List Int), (thS f k O).Sublist O
  | 0, O => List.Sublist.refl _
  | k + 1, O => by
    unfold thS
    split
    · exact (thS_sub f k _).trans (List.eraseIdx_sublist O k)
    · exact thS_sub f k O
theorem thS_ok (f : List Int → Bool) : ∀ (k : Nat) (O : List Int), f O = true → f (thS f k O) = true
  | 0, O, h => h
  | k + 1, O, h => by
    unfold thS
    split
    · rename_i h1; exact thS_ok f k _ h1
    · exact thS_ok f k O h
theorem thS_min (f : List Int → Bool) (hm : ∀ l l' : List Int, l.Sublist l' → f l = true → f l' = true) : ∀ (k : Nat) (O : List Int), (∀ j, k ≤ j → j < O.length → f (O.eraseIdx j) = false) →
    ∀ j, j < (thS f k O).length → f ((thS f k O).eraseIdx j) = false
  | 0, O, h, j, hj => h j (Nat.zero_le _) hj
  | k + 1, O, h, j, hj => by
    unfold thS at hj ⊢
    split at hj
    · rename_i h1
      rw [if_pos h1]
      refine thS_min f hm k (O.eraseIdx k) (fun i hki hi => ?_) j hj
      cases e : f ((O.eraseIdx k).eraseIdx i) with
      | false => rfl
      | true =>
        have h2 := hm _ _ (erase_sub O k i hki) e
        rw [List.length_eraseIdx] at hi
        rw [h (i + 1) (by omega) (by split at hi <;> omega)] at h2
        cases h2
    · rename_i h1
      rw [if_neg h1]
      refine thS_min f hm k O (fun i hki hi => ?_) j hj
      by_cases e : i = k
      · subst e; simpa using h1
      · exact h i (by omega) hi
theorem incP_iff : ∀ (xs : List Int) (p : Option Int), incP p xs = true ↔ xs.Pairwise (· < ·) ∧ ∀ a, p = some a → ∀ x ∈ xs, a < x
  | [], p => by simp [incP]
  | x :: r, p => by
    have ih := incP_iff r (some x)
    unfold incP
    rw [Bool.and_eq_true, ih, List.pairwise_cons]
    cases p with
    | none =>
      constructor
      · rintro ⟨_, h1, h2⟩; exact ⟨⟨h2 x rfl, h1⟩, by simp⟩
      · rintro ⟨⟨h1, h2⟩, _⟩; exact ⟨rfl, h2, fun a e y hy => by simp at e; subst e; exact h1 y hy⟩
    | some a =>
      simp only [decide_eq_true_eq]
      constructor
      · rintro ⟨h0, h1, h2⟩
        refine ⟨⟨h2 x rfl, h1⟩, fun b e y hy => ?_⟩
        simp at e; subst e
        rcases List.mem_cons.1 hy with rfl | hy
        · exact h0
        · have := h2 x rfl y hy; omega
      · rintro ⟨⟨h1, h2⟩, h3⟩
        exact ⟨h3 a rfl x (by simp), h2, fun b e y hy => by simp at e; subst e; exact h1 y hy⟩
theorem ris_iff {lo hi : Int} {xs : List Int} : risB lo hi xs = true ↔ (∀ x ∈ xs, lo ≤ x ∧ x ≤ hi) ∧ xs.Pairwise (· < ·) := by
  constructor
  · intro h
    obtain ⟨h1, h2⟩ := risB_inc h
    exact ⟨h2, ((incP_iff xs none).1 h1).1⟩
  · rintro ⟨h1, h2⟩
    exact ris_of ((incP_iff xs none).2 ⟨h2, by simp⟩) h1
theorem ris_sub {lo hi : Int} {l l' : List Int} (h : l'.Sublist l) (hr : risB lo hi l = true) : risB lo hi l' = true := by
  rw [ris_iff] at hr ⊢
  exact ⟨fun x hx => hr.1 x (h.subset hx), hr.2.sublist h⟩
theorem bits0 : bitsA 0 = [[]] := by simp [bitsA, bitL, ftoI]
theorem mem_bits : ∀ (s : Nat) (c : List Int), (∀ x ∈ c, 0 ≤ x ∧ x < (s : Int)) → c.Pairwise (· < ·) → c ∈ bitsA s
  | 0, c, h, _ => by
    cases c with
    | nil => rw [bits0]; simp
    | cons x r => have := h x (by simp); omega
  | s + 1, c, h, hp => by
    rw [bitsA_succ, List.mem_append]
    rcases List.eq_nil_or_concat c with rfl | ⟨d, x, rfl⟩
    · exact .inl (mem_bits s [] (by simp) (by simp))
    · rw [List.concat_eq_append] at h hp ⊢
      rw [List.pairwise_append] at hp
      have hx := h x (by simp)
      by_cases e : x = (s : Int)
      · subst e
        refine .inr (List.mem_map.2 ⟨d, mem_bits s d (fun y hy => ?_) hp.1, rfl⟩)
        have h1 := h y (by simp [hy])
        have h2 := hp.2.2 y hy (s : Int) (by simp)
        omega
      · refine .inl (mem_bits s (d ++ [x]) (fun y hy => ?_) (List.pairwise_append.2 hp))
        have h1 := h y hy
        rcases List.mem_append.1 hy with h2 | h2
        · have := hp.2.2 y h2 x (by simp); omega
        · simp at h2; subst h2; omega
theorem bits_ris : ∀ (s : Nat) (c : List Int), c ∈ bitsA s → (∀ x ∈ c, 0 ≤ x ∧ x < (s : Int)) ∧ c.Pairwise (· < ·)
  | 0, c, h => by rw [bits0] at h; simp at h; subst h; simp
  | s + 1, c, h => by
    rw [bitsA_succ, List.mem_append, List.mem_map] at h
    rcases h with h | ⟨d, hd, rfl⟩
    · obtain ⟨h1, h2⟩ := bits_ris s c h
      exact ⟨fun x hx => by have := h1 x hx; omega, h2⟩
    · obtain ⟨h1, h2⟩ := bits_ris s d hd
      refine ⟨fun x hx => ?_, List.pairwise_append.2 ⟨h2, by simp, fun a ha b hb => ?_⟩⟩
      · rcases List.mem_append.1 hx with h3 | h3
        · have := h1 x h3; omega
        · simp at h3; subst h3; omega
      · simp at hb; subst hb; exact (h1 a ha).2
theorem least_facts {xss : List (List Int)} {n t : Int} (h : lcOk xss n t = true) : lcA xss n t = true ∧ lcV xss n t ∈ bitsA xss.length ∧ coverB xss n.toNat (lcV xss n t) t = true ∧
    ∀ U ∈ bitsA xss.length, coverB xss n.toNat U t = true → (lcV xss n t).length ≤ U.length := by
  have ha : lcA xss n t = true := by
    cases e : lcA xss n t with
    | true => rfl
    | false => unfold lcOk lcR at h; rw [e] at h; simp at h
  have hl := lc_lst xss n t ha
  unfold lcOk at h
  unfold lcV
  cases e : lcR xss n t with
  | none => rw [e] at h; simp at h
  | some V =>
    rw [e] at hl
    simp only [Option.getD_some]
    refine ⟨ha, hl.mem, hl.ok, fun U hU hc => ?_⟩
    rcases hl.min U hU hc with h3 | h3
    · subst h3; exact Nat.le_refl _
    · rw [betB_iff] at h3; omega
theorem least_ok {xss : List (List Int)} {n t : Int} (h : lcA xss n t = true) {U : List Int} (hU : U ∈ bitsA xss.length) (hc : coverB xss n.toNat U t = true) : lcOk xss n t = true := by
  have hl := lc_lst xss n t h
  unfold lcOk
  cases e : lcR xss n t with
  | some V => rfl
  | none =>
    rw [e] at hl
    have h9 : coverB xss n.toNat U t = false := hl U hU
    rw [hc] at h9; cases h9
theorem ic_of {xss : List (List Int)} {n t : Int} {ch : List Int} (hs : sitesB xss n = true) (ht : inB 1 2 t = true) (hr : risB 0 ((xss.length : Int) - 1) ch = true) : icOk xss n ch t = true := by
  unfold icOk chosenB
  rw [hs, ht, hr]; rfl
theorem bits_risB {xss : List (List Int)} {c : List Int} (h : c ∈ bitsA xss.length) : risB 0 ((xss.length : Int) - 1) c = true := by
  obtain ⟨h1, h2⟩ := bits_ris _ _ h
  exact ris_iff.2 ⟨fun x hx => by have := h1 x hx; omega, h2⟩
theorem least_law {xss : List (List Int)} {n t : Int} (h : lcOk xss n t = true) : icOk xss n (lcV xss n t) t = true ∧ icV xss n (lcV xss n t) t = true ∧ 0 < (lcV xss n t).length ∧
    ∀ j, j < (lcV xss n t).length → icOk xss n ((lcV xss n t).eraseIdx j) t = true ∧ icV xss n ((lcV xss n t).eraseIdx j) t = false := by
  obtain ⟨ha, hm, hc, hmin⟩ := least_facts h
  have ha0 := ha
  unfold lcA at ha0
  rw [Bool.and_eq_true] at ha0
  obtain ⟨m, e, hg⟩ := GoodS.of ha0.1
  have hr := bits_risB hm
  have h1 := ic_of ha0.1 ha0.2 hr
  refine ⟨h1, by unfold icV; rw [h1, hc]; rfl, ?_, fun j hj => ?_⟩
  · cases e1 : lcV xss n t with
    | cons x r => simp
    | nil =>
      rw [e1, show n.toNat = m by omega] at hc
      rw [cover_nil hg.n1 (inB_t ha0.2).1 (fun k hk => timesL_get hg.pn [] hk)] at hc
      cases hc
  · have hsub := List.eraseIdx_sublist (lcV xss n t) j
    have hr2 := ris_sub hsub hr
    have h2 := ic_of ha0.1 ha0.2 hr2
    refine ⟨h2, ?_⟩
    unfold icV
    rw [h2, Bool.true_and]
    cases e1 : coverB xss n.toNat ((lcV xss n t).eraseIdx j) t with
    | false => rfl
    | true =>
      obtain ⟨g1, g2⟩ := ris_iff.1 hr2
      have h3 := hmin _ (mem_bits _ _ (fun x hx => by have := g1 x hx; omega) g2) e1
      rw [List.length_eraseIdx, if_pos hj] at h3
      omega
theorem posL_all : ∀ (T : List Int) (i : Nat), (∀ x ∈ T, 1 ≤ x) → (posL i T).length = T.length
  | [], i, _ => rfl
  | x :: r, i, h => by
    unfold posL
    rw [if_pos (by have := h x (by simp); omega), List.length_append, posL_all r (i + 1) (fun y hy => h y (by simp [hy]))]
    simp
    omega
theorem thin_law {xss : List (List Int)} {n : Int} {ch : List Int} (h : tcOk xss n ch = true) : icOk xss n (tcV xss n ch) 1 = true ∧ icV xss n (tcV xss n ch) 1 = true ∧ ((sfV xss n ch).length : Int) = n ∧ (tcV xss n ch).length ≤ ch.length ∧
    (∀ i ∈ tcV xss n ch, i ∈ ch) ∧ ∀ j, j < (tcV xss n ch).length → icOk xss n ((tcV xss n ch).eraseIdx j) 1 = true ∧ icV xss n ((tcV xss n ch).eraseIdx j) 1 = false := by
  have h0 := h
  unfold tcOk at h0
  rw [Bool.and_eq_true] at h0
  obtain ⟨hc, hcov⟩ := h0
  have hc0 := hc
  unfold chosenB at hc0
  rw [Bool.and_eq_true] at hc0
  obtain ⟨hs, hr⟩ := hc0
  obtain ⟨m, e, hg⟩ := GoodS.of hs
  have hnm : n.toNat = m := by omega
  have hm : ∀ l l' : List Int, l.Sublist l' → coverB xss n.toNat l 1 = true → coverB xss n.toNat l' 1 = true := fun l l' h1 h2 => by
    rw [hnm] at h2 ⊢; exact cover_sub hg h1 h2
  have he : tcV xss n ch = thS (fun l => coverB xss n.toNat l 1) ch.length ch := by unfold tcV; rw [if_pos h]
  have hsub : (tcV xss n ch).Sublist ch := by rw [he]; exact thS_sub _ _ _
  have hr2 := ris_sub hsub hr
  have h1 := ic_of hs (t := 1) rfl hr2
  have hcv : coverB xss n.toNat (tcV xss n ch) 1 = true := by rw [he]; exact thS_ok (fun l => coverB xss n.toNat l 1) _ _ hcov
  refine ⟨h1, by unfold icV; rw [h1, hcv]; rfl, ?_, hsub.length_le, fun i hi => hsub.subset hi, fun j hj => ?_⟩
  · unfold sfV
    rw [if_pos hc, posL_all, timesL_len]
    · omega
    · unfold coverB at hcov
      rw [List.all_eq_true] at hcov
      intro x hx
      simpa using hcov x hx
  · have h2 := ic_of hs (t := 1) rfl (ris_sub (List.eraseIdx_sublist (tcV xss n ch) j) hr2)
    refine ⟨h2, ?_⟩
    unfold icV
    rw [h2, Bool.true_and]
    rw [he] at hj ⊢
    exact thS_min (fun l => coverB xss n.toNat l 1) hm ch.length ch (fun i hi hi2 => by omega) j hj
theorem greedF_ok {xss : List (List Int)} {n : Nat} : ∀ (f : Nat) (out Z : List Int), Picked xss out → greedF xss n f out = some Z → lfN xss n Z = 0 ∧ Picked xss Z
  | 0, out, Z, hp, h => by
    unfold greedF at h
    split at h
    · rename_i h1
      simp at h; subst h; exact ⟨h1, hp⟩
    · cases h
  | f + 1, out, Z, hp, h => by
    unfold greedF at h
    split at h
    · rename_i h1
      simp at h; subst h; exact ⟨h1, hp⟩
    · split at h
      · cases h
      · rename_i h1 h2
        rcases gB_site (unB xss out) xss 0 0 0 with h3 | ⟨j, l, h3, h4, h5⟩
        · rw [h3] at h2; exact absurd rfl h2
        · rw [h4] at h
          have := Picked.add hp h3 (by omega)
          rw [Nat.zero_add] at h
          exact greedF_ok f _ Z this h
theorem mem_ndL (T : List Int) : ∀ (xs : List (List Int)) (k : Nat) (i : Int), i ∈ ndL T k xs → ∃ j l, xs[j]? = some l ∧ i = ((k + j : Nat) : Int) ∧ l.any (ndB T) = true
  | [], k, i, h => by simp [ndL] at h
  | x :: r, k, i, h => by
    unfold ndL at h
    rcases List.mem_append.1 h with h1 | h1
    · split at h1
      · rename_i h2
        simp at h1
        exact ⟨0, x, by simp, by simp [h1], h2⟩
      · simp at h1
    · obtain ⟨j, l, h2, h3, h4⟩ := mem_ndL T r (k + 1) i h1
      exact ⟨j + 1, l, by simpa using h2, by rw [h3]; omega, h4⟩
theorem len1_eq {l : List Int} (h : l.length = 1) {a b : Int} (ha : a ∈ l) (hb : b ∈ l) : a = b := by
  match l, h with
  | [x], _ => simp at ha hb; rw [ha, hb]
theorem needed_in {xss : List (List Int)} {n : Int} {C : List Int} (hs : sitesB xss n = true) (hC : ∀ i ∈ C, 0 ≤ i ∧ i < (xss.length : Int)) (hc : coverB xss n.toNat C 1 = true) : ∀ i ∈ neV xss n, i ∈ C := by
  intro i hi
  unfold neV at hi
  rw [if_pos hs] at hi
  obtain ⟨m, e, hg⟩ := GoodS.of hs
  have hnm : n.toNat = m := by omega
  rw [hnm] at hi hc
  obtain ⟨j, l, h1, h2, h3⟩ := mem_ndL _ _ _ _ hi
  rw [Nat.zero_add] at h2
  subst h2
  obtain ⟨s, hsl, hnd⟩ := List.any_eq_true.1 h3
  obtain ⟨s0, s1⟩ := hg.mem l (List.mem_of_getElem? h1) s hsl
  obtain ⟨q, rfl⟩ := Int.eq_ofNat_of_zero_le s0
  have hq : q < m := by omega
  unfold ndB at hnd
  rw [beq_iff_eq, List.getD_eq_getElem?_getD, Int.toNat_natCast, timesL_get hg.pn _ hq] at hnd
  simp only [Option.getD_some] at hnd
  have h4 := (cover_iff hg C 1).1 hc q hq
  have h5 : ∃ a, a ∈ C.filter fun i => (xss.getD i.toNat []).contains (q : Int) := by
    cases e1 : C.filter fun i => (xss.getD i.toNat []).contains (q : Int) with
    | nil => unfold cntL at h4; rw [e1] at h4; simp at h4
    | cons a r => exact ⟨a, by simp⟩
  obtain ⟨a, ha⟩ := h5
  rw [List.mem_filter] at ha
  have hab := hC a ha.1
  have hjl := (List.getElem?_eq_some_iff.1 h1).1
  have h6 : cntL xss (upto xss.length) (q : Int) = 1 := by omega
  unfold cntL at h6
  have h7 : (j : Int) ∈ (upto xss.length).filter fun i => (xss.getD i.toNat []).contains (q : Int) := by
    rw [List.mem_filter]
    refine ⟨List.mem_map.2 ⟨j, List.mem_range.2 hjl, rfl⟩, ?_⟩
    rw [Int.toNat_natCast, List.getD_eq_getElem?_getD, h1]
    simpa using hsl
  have h8 : a ∈ (upto xss.length).filter fun i => (xss.getD i.toNat []).contains (q : Int) := by
    rw [List.mem_filter]
    exact ⟨List.mem_map.2 ⟨a.toNat, List.mem_range.2 (by omega), by omega⟩, ha.2⟩
  rw [len1_eq h6 h7 h8]
  exact ha.1
theorem nodup_le : ∀ (U G : List Int), U.Nodup → (∀ x ∈ U, x ∈ G) → U.length ≤ G.length
  | [], G, _, _ => by simp
  | x :: r, G, hn, h => by
    rw [List.nodup_cons] at hn
    have hx := h x (by simp)
    have h1 := nodup_le r (G.erase x) hn.2 (fun y hy => by
      have hne : y ≠ x := fun e => hn.1 (by rw [← e]; exact hy)
      exact (List.mem_erase_of_ne hne).2 (h y (by simp [hy])))
    rw [List.length_erase_of_mem hx] at h1
    have : 0 < G.length := List.length_pos_of_mem hx
    simp
    omega
theorem greedy_law {xss : List (List Int)} {n : Int} (h : gcOk xss n = true) : sitesB xss n = true ∧ lcOk xss n 1 = true ∧ (lcV xss n 1).length ≤ (gcV xss n).length ∧ ∀ i ∈ neV xss n, i ∈ lcV xss n 1 ∧ i ∈ gcV xss n := by
  have h0 := h
  unfold gcOk at h0
  rw [Bool.and_eq_true] at h0
  obtain ⟨hs, hcu⟩ := h0
  obtain ⟨m, e, hg⟩ := GoodS.of hs
  have hnm : n.toNat = m := by omega
  rw [hnm] at hcu
  have hup : upto xss.length ∈ bitsA xss.length := mem_bits _ _ (fun x hx => by
    obtain ⟨i, hi, rfl⟩ := List.mem_map.1 hx
    have := List.mem_range.1 hi
    omega) (by unfold upto; rw [List.pairwise_map]; exact List.pairwise_lt_range.imp (fun h => by omega))
  have hlo := least_ok (lcA_of hs) hup (by rw [hnm]; exact hcu)
  obtain ⟨_, hm, hc, hmin⟩ := least_facts hlo
  have hl0 : lfN xss m (upto xss.length) = 0 := by rw [cover_left hg] at hcu; simpa using hcu
  obtain ⟨Z, hZ⟩ := greed_some hg hl0 m [] (by
    unfold lfN
    exact Nat.le_trans (List.length_filter_le _ _) (by rw [upto_len]; exact Nat.le_refl _))
  have hgv : gcV xss n = Z := by unfold gcV; rw [if_pos h, hnm, hZ]; rfl
  obtain ⟨hz0, hzp⟩ := greedF_ok m [] Z ⟨List.nodup_nil, by simp⟩ hZ
  have hzc : coverB xss m Z 1 = true := by rw [cover_left hg, hz0]; rfl
  refine ⟨hs, hlo, ?_, fun i hi => ⟨needed_in hs (fun x hx => (bits_ris _ _ hm).1 x hx) hc i hi, ?_⟩⟩
  · have hU : (upto xss.length).filter (fun i => Z.contains i) ∈ bitsA xss.length := by
      obtain ⟨u1, u2⟩ := bits_ris _ _ hup
      exact mem_bits _ _ (fun x hx => u1 x (List.mem_filter.1 hx).1) (u2.sublist List.filter_sublist)
    have hUc : coverB xss n.toNat ((upto xss.length).filter (fun i => Z.contains i)) 1 = true := by
      rw [hnm, cover_iff hg]
      intro k hk
      have h4 := (cover_iff hg Z 1).1 hzc k hk
      have h5 : ∃ a, a ∈ Z.filter fun i => (xss.getD i.toNat []).contains (k : Int) := by
        cases e1 : Z.filter fun i => (xss.getD i.toNat []).contains (k : Int) with
        | nil => unfold cntL at h4; rw [e1] at h4; simp at h4
        | cons a r => exact ⟨a, by simp⟩
      obtain ⟨a, ha⟩ := h5
      rw [List.mem_filter] at ha
      have hb := hzp.bd a ha.1
      have h6 : a ∈ ((upto xss.length).filter (fun i => Z.contains i)).filter fun i => (xss.getD i.toNat []).contains (k : Int) := by
        rw [List.mem_filter, List.mem_filter]
        exact ⟨⟨List.mem_map.2 ⟨a.toNat, List.mem_range.2 (by omega), by omega⟩, by simpa using ha.1⟩, ha.2⟩
      have := List.length_pos_of_mem h6
      unfold cntL
      omega
    have h1 := hmin _ hU hUc
    have h2 := nodup_le ((upto xss.length).filter (fun i => Z.contains i)) Z ((upto_nodup _).filter _) (fun x hx => by have := (List.mem_filter.1 hx).2; simpa using this)
    rw [hgv]
    omega
  · rw [hgv]
    exact needed_in hs hzp.bd (by rw [hnm]; exact hzc) i hi
end Go.Proofs.Ytiofckbdjifdpaa
