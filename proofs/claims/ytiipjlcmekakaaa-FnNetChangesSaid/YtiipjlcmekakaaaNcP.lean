/- What holds of nets that are changed: plain laws. -/
import Derived.Test.YtiipjlcmekakaaaAddS
import Derived.Test.YtiipjlcmekakaaaDrop2
import Derived.Test.YtiipjlcmekakaaaLong
import Derived.Test.YtiipjlcmekakaaaNext
namespace Go.Proofs.Ytiipjlcmekakaaa
open Go.RowKit
theorem idxG_get (p : LinkT → Bool) : ∀ (L : List LinkT) (k : Nat), 0 ≤ idxG p k L → ∃ (i : Nat) (z : LinkT), idxG p k L = ((k + i : Nat) : Int) ∧ L[i]? = some z ∧ p z = true
  | [], k, h => by simp [idxG] at h
  | y :: r, k, h => by
    unfold idxG at h ⊢
    split
    · rename_i hp
      exact ⟨0, y, by simp, by simp, hp⟩
    · rename_i hp
      rw [if_neg hp] at h
      obtain ⟨i, z, h1, h2, h3⟩ := idxG_get p r (k + 1) h
      exact ⟨i + 1, z, by rw [h1]; congr 1; omega, by simpa using h2, h3⟩
theorem idxG_any9 (p : LinkT → Bool) : ∀ (L : List LinkT) (k : Nat), decide (0 ≤ idxG p k L) = L.any p
  | [], k => by simp [idxG]
  | y :: r, k => by
    unfold idxG
    rw [List.any_cons]
    split
    · rename_i hp
      simp [hp]
    · rename_i hp
      rw [idxG_any9 p r (k + 1)]
      simp [hp]
theorem bef_same {a b : LinkT} (h : a.1 = b.1 ∧ a.2.1 = b.2.1) : befL a b = false := by
  unfold befL
  simp [h.1, h.2]
theorem pair_ends {L : List LinkT} (hP : L.Pairwise (fun a b => befL a b = true)) {i j : Nat} {a b : LinkT} (hi : L[i]? = some a) (hj : L[j]? = some b) (he : a.1 = b.1 ∧ a.2.1 = b.2.1) : i = j := by
  rw [List.pairwise_iff_getElem] at hP
  obtain ⟨hi1, hi2⟩ := List.getElem?_eq_some_iff.1 hi
  obtain ⟨hj1, hj2⟩ := List.getElem?_eq_some_iff.1 hj
  rcases Nat.lt_trichotomy i j with h | h | h
  · have := hP i j hi1 hj1 h
    rw [hi2, hj2, bef_same he] at this
    cases this
  · exact h
  · have := hP j i hj1 hi1 h
    rw [hi2, hj2, bef_same ⟨he.1.symm, he.2.symm⟩] at this
    cases this
theorem net_parts {x : NetT} (h : netB x = true) : (1 ≤ x.1.length ∧ x.1.length ≤ 16) ∧ x.2.length ≤ 40 ∧ (∀ t ∈ x.1, towB t = true) ∧ (∀ y ∈ x.2, lkB x.1.length y = true) ∧ x.2.Pairwise (fun a b => befL a b = true) := by
  simp only [netB, Bool.and_eq_true, decide_eq_true_eq, List.all_eq_true] at h
  obtain ⟨h1, h2, h3, h4⟩ := h
  have := inB_t h1
  rw [lnkP_iff] at h4
  exact ⟨by omega, by omega, h3, h4.1, h4.2.1⟩
theorem net_of {x : NetT} (h1 : 1 ≤ x.1.length ∧ x.1.length ≤ 16) (h2 : x.2.length ≤ 40) (h3 : ∀ t ∈ x.1, towB t = true) (h4 : ∀ y ∈ x.2, lkB x.1.length y = true) (h5 : x.2.Pairwise (fun a b => befL a b = true)) : netB x = true := by
  simp only [netB, Bool.and_eq_true, decide_eq_true_eq, List.all_eq_true]
  refine ⟨?_, by omega, h3, lnkP_iff.2 ⟨h4, h5, fun a ha => by cases ha⟩⟩
  unfold inB
  simp
  omega
theorem lk_parts {m : Int} {y : LinkT} (h : lkB m y = true) : 0 ≤ y.1 ∧ y.1 < y.2.1 ∧ y.2.1 < m ∧ inB 1 60 y.2.2 = true := by
  simpa [lkB, Bool.and_eq_true, decide_eq_true_eq] using h
theorem has_of {x : NetT} {i : Int} (h : netB x = true) (h0 : 0 ≤ i) (h1 : i < x.1.length) : hasT x i = true := by
  unfold hasT inB
  simp [h]
  omega
/-- A link that has been added is there. -/
theorem add_law {x : NetT} {y : LinkT} (h : adOk x y = true) : netB (adV x y) = true ∧ lbOk (adV x y) y.1 y.2.1 = true ∧ (∃ k : Nat, lbV (adV x y) y.1 y.2.1 = k ∧ (adV x y).2[k]? = some y) ∧ (adV x y).2.length = x.2.length + 1 := by
  have e : adV x y = adN x y := by unfold adV; rw [if_pos h]
  rw [e]
  simp only [adOk, Bool.and_eq_true] at h
  have hn := h.2
  obtain ⟨N, hN⟩ : ∃ N, N = adN x y := ⟨_, rfl⟩
  have hk := adK_le y x.2
  have hlen : (adN x y).2.length = x.2.length + 1 := by
    unfold adN
    simp only [List.length_append, List.length_take, List.length_drop, List.length_cons, List.length_nil]
    omega
  have hget : (adN x y).2[adK y x.2]? = some y := by
    unfold adN
    simp only
    rw [List.append_assoc, List.getElem?_append_right (by rw [List.length_take]; omega)]
    rw [show adK y x.2 - (x.2.take (adK y x.2)).length = 0 by rw [List.length_take]; omega]
    simp
  obtain ⟨p1, p2, p3, p4, p5⟩ := net_parts hn
  rw [← hN] at hn hlen hget p1 p2 p3 p4 p5 ⊢
  have hy := List.mem_of_getElem? hget
  obtain ⟨l1, l2, l3, _⟩ := lk_parts (p4 y hy)
  have hy1 : hasT N y.1 = true := has_of hn l1 (by omega)
  have hy2 : hasT N y.2.1 = true := has_of hn (by omega) l3
  have hself : lkEq2 y.1 y.2.1 y = true := by simp [lkEq2]
  have h0 : 0 ≤ idxG (lkEq2 y.1 y.2.1) 0 N.2 := by
    have := idxG_any9 (lkEq2 y.1 y.2.1) N.2 0
    rw [List.any_eq_true.2 ⟨y, hy, hself⟩] at this
    exact of_decide_eq_true this
  have hok : lbOk N y.1 y.2.1 = true := by
    unfold lbOk has2
    rw [hy1, hy2, decide_eq_true h0]; rfl
  refine ⟨hn, hok, ?_, hlen⟩
  obtain ⟨i, z, e1, e2, e3⟩ := idxG_get _ _ _ h0
  refine ⟨i, ?_, ?_⟩
  · unfold lbV
    rw [if_pos hok, e1]; simp
  · obtain ⟨z1, z2, z3, _⟩ := lk_parts (p4 z (List.mem_of_getElem? e2))
    have he : z.1 = y.1 ∧ z.2.1 = y.2.1 := by
      simp [lkEq2] at e3
      omega
    rw [pair_ends p5 e2 hget he]
    exact hget
/-! ### A tower is left out -/
def tchB (j : Int) (y : LinkT) : Bool := (y.1 == j) || (y.2.1 == j)
theorem dl_tch {j : Int} {y : LinkT} : dl j y = if tchB j y then [] else [(if j < y.1 then y.1 - 1 else y.1, if j < y.2.1 then y.2.1 - 1 else y.2.1, y.2.2)] := by
  unfold dl tchB
  by_cases h1 : y.1 = j
  · simp [h1]
  · by_cases h2 : y.2.1 = j
    · simp [h2]
    · simp [h1, h2]
theorem dl_mem {j : Int} {y z : LinkT} (h : z ∈ dl j y) : y.1 ≠ j ∧ y.2.1 ≠ j ∧ z = (if j < y.1 then y.1 - 1 else y.1, if j < y.2.1 then y.2.1 - 1 else y.2.1, y.2.2) := by
  unfold dl at h
  split at h
  · cases h
  · rename_i hn
    exact ⟨fun e => hn (Or.inl e), fun e => hn (Or.inr e), List.mem_singleton.1 h⟩
theorem dl_cnt (j : Int) : ∀ L : List LinkT, (L.flatMap (dl j)).length + L.countP (tchB j) = L.length
  | [] => by simp
  | y :: r => by
    have := dl_cnt j r
    rw [List.flatMap_cons, List.length_append, List.countP_cons, dl_tch]
    cases h : tchB j y
    · simp only [Bool.false_eq_true, if_false, List.length_cons, List.length_nil]; omega
    · simp only [if_true, List.length_cons, List.length_nil]; omega
theorem dl_lk {j : Int} {m : Nat} {y z : LinkT} (hm : 1 ≤ m) (hj0 : 0 ≤ j) (hj1 : j < m) (hy : lkB m y = true) (h : z ∈ dl j y) : lkB ((m - 1 : Nat) : Int) z = true := by
  obtain ⟨h1, h2, rfl⟩ := dl_mem h
  obtain ⟨l1, l2, l3, l4⟩ := lk_parts hy
  unfold lkB
  simp only [Bool.and_eq_true, decide_eq_true_eq]
  refine ⟨?_, ?_, ?_, l4⟩
  · split <;> omega
  · split <;> split <;> omega
  · split <;> omega
theorem dl_bef {j : Int} {a b a' b' : LinkT} (h : befL a b = true) (ha : a' ∈ dl j a) (hb : b' ∈ dl j b) : befL a' b' = true := by
  obtain ⟨a1, a2, rfl⟩ := dl_mem ha
  obtain ⟨b1, b2, rfl⟩ := dl_mem hb
  unfold befL at h ⊢
  simp only [Bool.or_eq_true, Bool.and_eq_true, decide_eq_true_eq] at h ⊢
  split <;> split <;> split <;> split <;> omega
theorem cnt_one (j k : Int) {m : Int} : ∀ {L : List LinkT}, (∀ y ∈ L, lkB m y = true) → L.Pairwise (fun a b => befL a b = true) → L.countP (lkEq2 j k) = if L.any (lkEq2 j k) then 1 else 0
  | [], _, _ => by simp
  | y :: r, hl, hp => by
    rw [List.pairwise_cons] at hp
    have ih := cnt_one j k (fun z hz => hl z (by simp [hz])) hp.2
    rw [List.countP_cons, List.any_cons]
    cases hy : lkEq2 j k y
    · simp only [Bool.false_or, ih]; simp
    · have hz : r.any (lkEq2 j k) = false := by
        rw [List.any_eq_false]
        intro z hz hpz
        obtain ⟨y1, y2, _⟩ := lk_parts (hl y (by simp))
        obtain ⟨z1, z2, _⟩ := lk_parts (hl z (by simp [hz]))
        have hb := hp.1 z hz
        simp only [lkEq2, Bool.or_eq_true, Bool.and_eq_true, beq_iff_eq] at hy hpz
        rw [bef_same (by omega)] at hb
        cases hb
      rw [ih, hz]
      simp
def qB (j : Int) (n : Nat) (y : LinkT) : Bool := ((y.1 == j) && decide (y.2.1 < n)) || ((y.2.1 == j) && decide (y.1 < n))
theorem cnt_step (j : Int) (n : Nat) {m : Int} : ∀ {L : List LinkT}, (∀ y ∈ L, lkB m y = true) → L.countP (qB j (n + 1)) = L.countP (qB j n) + L.countP (lkEq2 j n)
  | [], _ => by simp
  | y :: r, hl => by
    have ih := cnt_step j n (L := r) (fun z hz => hl z (by simp [hz]))
    obtain ⟨y1, y2, _⟩ := lk_parts (hl y (by simp))
    have e : (if qB j (n + 1) y = true then 1 else 0) = (if qB j n y = true then 1 else 0) + (if lkEq2 j n y = true then 1 else 0) := by
      simp only [qB, lkEq2, Bool.or_eq_true, Bool.and_eq_true, beq_iff_eq, decide_eq_true_eq]
      split <;> split <;> split <;> omega
    rw [List.countP_cons, List.countP_cons, List.countP_cons, ih, e]
    omega
theorem cnt_upto {x : NetT} (h : netB x = true) (j : Int) : ∀ n : Nat, x.2.countP (qB j n) = (fupto (nbF x j) n).length
  | 0 => by
    obtain ⟨_, _, _, p4, _⟩ := net_parts h
    simp only [fupto, List.length_nil]
    rw [List.countP_eq_zero]
    intro y hy
    obtain ⟨y1, y2, _⟩ := lk_parts (p4 y hy)
    simp [qB]
    omega
  | n + 1 => by
    obtain ⟨_, _, _, p4, p5⟩ := net_parts h
    rw [cnt_step j n p4, cnt_upto h j n, cnt_one j n p4 p5]
    have e : nbF x j n = x.2.any (lkEq2 j n) := idxG_any9 _ _ _
    rw [show fupto (nbF x j) (n + 1) = fupto (nbF x j) n ++ (if nbF x j n then [(n : Int)] else []) from rfl, List.length_append, e]
    split <;> simp
theorem cnt_tch {x : NetT} (h : netB x = true) (j : Int) : x.2.countP (tchB j) = (fupto (nbF x j) x.1.length).length := by
  rw [← cnt_upto h j]
  obtain ⟨_, _, _, p4, _⟩ := net_parts h
  refine List.countP_congr fun y hy => ?_
  obtain ⟨y1, y2, y3, _⟩ := lk_parts (p4 y hy)
  simp [tchB, qB]
  omega
/-- A tower that is left out takes its links with it. -/
theorem drop_law {x : NetT} {j : Int} (h : dtOk x j = true) : netB (dtV x j) = true ∧ hasT x j = true ∧ (dtV x j).2.length + (nbV x j).length = x.2.length := by
  have e : dtV x j = (butT x.1 j.toNat, x.2.flatMap (dl j)) := by
    unfold dtV dlL
    rw [if_pos h, List.take_length]
  rw [e]
  simp only [dtOk, Bool.and_eq_true, decide_eq_true_eq] at h
  obtain ⟨hh, h1⟩ := h
  have hh' := hh
  simp only [hasT, Bool.and_eq_true] at hh'
  obtain ⟨hn, hj⟩ := hh'
  have hj := inB_t hj
  obtain ⟨p1, p2, p3, p4, p5⟩ := net_parts hn
  have hc := dl_cnt j x.2
  have hb := butT_len (T := x.1) (i := j.toNat) (by omega)
  refine ⟨net_of ?_ ?_ ?_ ?_ ?_, hh, ?_⟩
  · simp only; omega
  · simp only; omega
  · intro t ht
    simp only [butT, List.mem_append] at ht
    rcases ht with ht | ht
    · exact p3 t (List.mem_of_mem_take ht)
    · exact p3 t (List.mem_of_mem_drop ht)
  · intro z hz
    simp only at hz ⊢
    obtain ⟨y, hy, hz⟩ := List.mem_flatMap.1 hz
    rw [hb]
    exact dl_lk p1.1 hj.1 (by omega) (p4 y hy) hz
  · simp only
    rw [List.pairwise_flatMap]
    refine ⟨fun y _ => ?_, p5.imp fun hab a' ha b' hb' => dl_bef hab ha hb'⟩
    unfold dl
    split <;> simp
  · unfold nbV
    rw [if_pos hh, ← cnt_tch hn j]
    simp only
    omega
/-! ### The longest link -/
theorem sqV_comm (p q : TowerT) : sqV p q = sqV q p := by
  unfold sqV
  have e1 : p.1 - q.1 = -(q.1 - p.1) := by omega
  have e2 : p.2.1 - q.2.1 = -(q.2.1 - p.2.1) := by omega
  rw [e1, e2, Int.neg_mul_neg, Int.neg_mul_neg]
def BestL (T : List TowerT) (L : List LinkT) (n : Nat) (b ms : Int) : Prop :=
  (n = 0 ∧ b = 0 ∧ ms = -1) ∨ ∃ (k : Nat) (y : LinkT), b = k ∧ k < n ∧ L[k]? = some y ∧ ms = lgD T y ∧ ∀ (i : Nat) (z : LinkT), i < n → L[i]? = some z → lgD T z ≤ ms ∧ (lgD T z = ms → k ≤ i)
theorem best_step {T : List TowerT} {L : List LinkT} (h0 : ∀ y ∈ L, 0 ≤ lgD T y) : ∀ (d n : Nat) (b ms : Int), L.length = n + d → BestL T L n b ms → ∃ ms', BestL T L L.length (lgS T n b ms (L.drop n)) ms'
  | 0, n, b, ms, hl, h => by
    rw [List.drop_of_length_le (by omega)]
    exact ⟨ms, by rw [show L.length = n by omega]; exact h⟩
  | d + 1, n, b, ms, hl, h => by
    have hn : n < L.length := by omega
    have hg := List.getElem?_eq_getElem hn
    rw [lgS_drop hg]
    split
    · rename_i hlt
      refine best_step h0 d (n + 1) _ _ (by omega) (Or.inr ⟨n, _, rfl, by omega, hg, rfl, fun i z hi hz => ?_⟩)
      rcases Nat.lt_or_ge i n with h1 | h1
      · rcases h with ⟨rfl, _, _⟩ | ⟨k, y, _, _, _, _, hall⟩
        · omega
        · have := (hall i z h1 hz).1
          exact ⟨by omega, fun e => by omega⟩
      · have : i = n := by omega
        subst this
        rw [hg] at hz
        simp only [Option.some.injEq] at hz
        subst hz
        exact ⟨Int.le_refl _, fun _ => Nat.le_refl _⟩
    · rename_i hlt
      refine best_step h0 d (n + 1) _ _ (by omega) ?_
      have hnn := h0 _ (List.getElem_mem hn)
      rcases h with ⟨rfl, _, rfl⟩ | ⟨k, y, rfl, hk, hy, hms, hall⟩
      · omega
      · refine Or.inr ⟨k, y, rfl, by omega, hy, hms, fun i z hi hz => ?_⟩
        rcases Nat.lt_or_ge i n with h1 | h1
        · exact hall i z h1 hz
        · have : i = n := by omega
          subst this
          rw [hg] at hz
          simp only [Option.some.injEq] at hz
          subst hz
          exact ⟨by omega, fun _ => by omega⟩
theorem lg_has {x : NetT} (h : netB x = true) {y : LinkT} (hy : y ∈ x.2) : has2 x y.1 y.2.1 = true ∧ sqbV x y.1 y.2.1 = lgD x.1 y ∧ has2 x y.2.1 y.1 = true ∧ sqbV x y.2.1 y.1 = lgD x.1 y := by
  obtain ⟨l1, l2, l3, _⟩ := lk_parts (netB_links h y hy)
  have a := has_of h l1 (by omega)
  have b := has_of h (show 0 ≤ y.2.1 by omega) l3
  have c : has2 x y.1 y.2.1 = true := by unfold has2; rw [a, b]; rfl
  have d : has2 x y.2.1 y.1 = true := by unfold has2; rw [a, b]; rfl
  refine ⟨c, ?_, d, ?_⟩
  · unfold sqbV lgD
    rw [if_pos c]
  · unfold sqbV lgD
    rw [if_pos d, sqV_comm]
/-- The longest link is longest, and the first that is so. -/
theorem long_law {x : NetT} (h : lgOk x = true) : ∃ (l : Nat) (y : LinkT), lgV x = l ∧ x.2[l]? = some y ∧ netB x = true ∧ ∀ (i : Nat) (z : LinkT), x.2[i]? = some z → lgD x.1 z ≤ lgD x.1 y ∧ (lgD x.1 z = lgD x.1 y → l ≤ i) := by
  have hv : lgV x = lgS x.1 0 0 (-1) (x.2.drop 0) := by unfold lgV; rw [if_pos h]; rfl
  simp only [lgOk, Bool.and_eq_true, decide_eq_true_eq] at h
  obtain ⟨hn, hl⟩ := h
  have h0 : ∀ y ∈ x.2, 0 ≤ lgD x.1 y := fun y hy => by
    obtain ⟨_, _, p, q, _, _, _, _, t1, t2, e⟩ := netB_ends hn hy
    rw [e]; exact (sqV_bd t1 t2).1
  obtain ⟨ms, hb⟩ := best_step h0 x.2.length 0 0 (-1) (by omega) (Or.inl ⟨rfl, rfl, rfl⟩)
  rw [← hv] at hb
  rcases hb with ⟨h1, _⟩ | ⟨k, y, e, hk, hy, hms, hall⟩
  · omega
  · refine ⟨k, y, e, hy, hn, fun i z hz => ?_⟩
    have := hall i z (List.getElem?_eq_some_iff.1 hz).1 hz
    rw [hms] at this
    exact this
theorem lb_has {x : NetT} {p q : Int} (h : lbOk x p q = true) : has2 x p q = true := by
  unfold lbOk at h
  rw [Bool.and_eq_true] at h
  exact h.1
end Go.Proofs.Ytiipjlcmekakaaa
