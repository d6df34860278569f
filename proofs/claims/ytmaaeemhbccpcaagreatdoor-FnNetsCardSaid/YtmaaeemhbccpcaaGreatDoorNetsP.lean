/- Plain laws on nets: a joined net of as few links as can be falls apart without any of them; who is reached reaches back; a link is found by its ends. -/
import Derived.Test.YtmaaeemhbccpcaaGreatDoorBridge
import Derived.Test.YtmaaeemhbccpcaaGreatDoorLinkB
import Derived.Test.YtmaaeemhbccpcaaGreatDoorReachJ
namespace Go.Proofs.YtmaaeemhbccpcaaGreatDoor
theorem countP_strict {α : Type} {p q : α → Bool} : ∀ {L : List α} {y : α}, (∀ x ∈ L, p x = true → q x = true) → y ∈ L → q y = true → p y = false → L.countP p + 1 ≤ L.countP q
  | [], y, _, hy, _, _ => by cases hy
  | x :: r, y, h, hy, hq, hp => by
    have hle : ∀ (R : List α), (∀ x ∈ R, p x = true → q x = true) → R.countP p ≤ R.countP q := by
      intro R hR
      induction R with
      | nil => simp
      | cons a s ih =>
        rw [List.countP_cons, List.countP_cons]
        have i := ih fun x hx => hR x (by simp [hx])
        have a1 := hR a (by simp)
        cases hpa : p a
        · simp; omega
        · rw [a1 hpa]; simp; omega
    rw [List.countP_cons, List.countP_cons]
    rcases List.mem_cons.1 hy with e | hy
    · subst e
      rw [hq, hp]
      have := hle r fun x hx => h x (by simp [hx])
      simp; omega
    · have i := countP_strict (fun x hx => h x (by simp [hx])) hy hq hp
      have a1 := h x (by simp)
      cases hpx : p x
      · simp; omega
      · rw [a1 hpx]; simp; omega
theorem nodup_sub_len : ∀ {V S : List Int}, V.Nodup → (∀ x ∈ V, x ∈ S) → V.length ≤ S.length
  | [], S, _, _ => by simp
  | x :: r, S, hn, hs => by
    have hx := hs x (by simp)
    have hn2 := List.nodup_cons.1 hn
    have i := nodup_sub_len (S := S.erase x) hn2.2 fun y hy => by
      have hne : y ≠ x := fun e => hn2.1 (e ▸ hy)
      exact (List.mem_erase_of_ne hne).2 (hs y (by simp [hy]))
    rw [List.length_erase_of_mem hx] at i
    have : 0 < S.length := List.length_pos_of_mem hx
    simp; omega
def insideC (L : List LinkT) (S : List Int) : Nat := L.countP fun y => S.contains y.1 && S.contains y.2.1
theorem reach_count {L : List LinkT} {i : Int} {V : List Int} (hn : V.Nodup) (hv : ∀ j ∈ V, ReachL L i j) : V.length ≤ L.length + 1 := by
  have grow : ∀ k, k + 1 ≤ V.length → ∃ S : List Int, S.length = k + 1 ∧ i ∈ S ∧ (∀ j ∈ S, ReachL L i j) ∧ k ≤ insideC L S := by
    intro k
    induction k with
    | zero => intro _; exact ⟨[i], rfl, by simp, fun j hj => by simp at hj; subst hj; exact ReachL.self L j, by omega⟩
    | succ k ih =>
      intro hk
      obtain ⟨S, hl, hi, hr, hc⟩ := ih (by omega)
      by_cases hcl : ClosedL L (· ∈ S)
      · have := nodup_sub_len hn fun j hj => hv j hj (· ∈ S) hcl hi
        omega
      · have : ∃ y ∈ L, ¬ (y.1 ∈ S ↔ y.2.1 ∈ S) := by
          refine Classical.byContradiction fun hno => hcl fun y hy => ?_
          exact Classical.byContradiction fun h => hno ⟨y, hy, h⟩
        obtain ⟨y, hy, hne⟩ := this
        have st := ReachL.step (i := i) hy
        have fin : ∀ z, z ∉ S → ReachL L i z → (z :: S).contains y.1 = true → (z :: S).contains y.2.1 = true → (S.contains y.1 && S.contains y.2.1) = false →
            ∃ S : List Int, S.length = k + 1 + 1 ∧ i ∈ S ∧ (∀ j ∈ S, ReachL L i j) ∧ k + 1 ≤ insideC L S := by
          intro z hz hrz h1 h2 h3
          refine ⟨z :: S, by simp [hl], by simp [hi], ?_, ?_⟩
          · intro j hj
            rcases List.mem_cons.1 hj with rfl | hj
            · exact hrz
            · exact hr j hj
          · have := countP_strict (p := fun y => S.contains y.1 && S.contains y.2.1) (q := fun y => (z :: S).contains y.1 && (z :: S).contains y.2.1) (L := L) (y := y) (fun x _ hx => by
              simp only [Bool.and_eq_true, List.contains_iff_mem, List.mem_cons] at hx ⊢
              exact ⟨Or.inr hx.1, Or.inr hx.2⟩) hy (by rw [h1, h2]; rfl) h3
            unfold insideC at hc ⊢
            omega
        by_cases h1 : y.1 ∈ S
        · have h2 : y.2.1 ∉ S := fun h => hne ⟨fun _ => h, fun _ => h1⟩
          exact fin y.2.1 h2 (st.1 (hr _ h1)) (by simp [h1]) (by simp) (by simp [h2])
        · have h2 : y.2.1 ∈ S := Classical.byContradiction fun h => hne ⟨fun e => absurd e h1, fun e => absurd e h⟩
          exact fin y.1 h1 (st.2 (hr _ h2)) (by simp) (by simp [h2]) (by simp [h1])
  rcases Nat.eq_zero_or_pos V.length with h | h
  · omega
  · obtain ⟨S, _, _, _, hc⟩ := grow (V.length - 1) (by omega)
    have : insideC L S ≤ L.length := List.countP_le_length
    omega
theorem reach_sym {L : List LinkT} {i k : Int} (h : ReachL L i k) : ReachL L k i := by
  intro C hc hk
  refine Classical.byContradiction fun hi => ?_
  exact h (fun j => ¬ C j) (fun y hy => not_congr (hc y hy)) hi hk
theorem reach_trans {L : List LinkT} {i j k : Int} (h : ReachL L i j) (h2 : ReachL L j k) : ReachL L i k := fun C hc hi => h2 C hc (h C hc hi)
/-- Who is reached reaches the same. -/
theorem reach_same {m : Nat} {L : List LinkT} {i k : Int} {V : List Int} (hv : IsReach m L i V) (hk : ReachL L i k) : IsReach m L k V := by
  obtain ⟨f, e, hf⟩ := hv
  refine ⟨f, e, fun j hj => (hf j hj).trans ⟨fun h => reach_trans (reach_sym hk) h, fun h => reach_trans hk h⟩⟩
theorem reach_mem {m : Nat} {L : List LinkT} {i : Int} {V : List Int} (hv : IsReach m L i V) {k : Int} (hk : k ∈ V) : ReachL L i k ∧ 0 ≤ k ∧ k < (m : Int) := by
  obtain ⟨f, rfl, hf⟩ := hv
  obtain ⟨j, h1, h2, rfl⟩ := fupto_mem.1 hk
  exact ⟨(hf j h1).1 h2, by omega, by omega⟩
theorem rs_same {x : NetT} {i k : Int} {V : List Int} (hV : RsV x i V) (hi : hasT x i = true) (hk : k ∈ V) : RsV x k V ∧ hasT x k = true := by
  have hr := hV.t hi
  obtain ⟨h1, h2, h3⟩ := reach_mem hr hk
  have hk2 : hasT x k = true := by
    unfold hasT at hi ⊢
    simp only [Bool.and_eq_true] at hi ⊢
    refine ⟨hi.1, ?_⟩
    unfold inB; simp; omega
  exact ⟨⟨fun _ => reach_same hr h1, fun h => absurd (hk2.symm.trans h) (by simp)⟩, hk2⟩
theorem sorted_nodup : ∀ {L : List Int}, SortedI L → L.Nodup
  | [], _ => List.nodup_nil
  | x :: r, h => List.nodup_cons.2 ⟨fun hx => by have := h.1 x hx; omega, sorted_nodup h.2⟩
theorem fupto_all : ∀ {f : Nat → Bool} {m : Nat}, (fupto f m).length = m → ∀ k, k < m → f k = true
  | f, 0, _, k, hk => by omega
  | f, m + 1, h, k, hk => by
    have hl := fupto_len f m
    unfold fupto at h
    rw [List.length_append] at h
    by_cases hf : f m = true
    · rw [if_pos hf] at h
      by_cases e : k = m
      · rw [e]; exact hf
      · exact fupto_all (m := m) (by simpa using h) k (by omega)
    · rw [if_neg hf] at h
      simp at h; omega
theorem fupto_full : ∀ {f : Nat → Bool} {m : Nat}, (∀ k, k < m → f k = true) → (fupto f m).length = m
  | f, 0, _ => rfl
  | f, m + 1, h => by
    unfold fupto
    rw [List.length_append, fupto_full (m := m) fun k hk => h k (by omega), if_pos (h m (by omega))]
    rfl
/-- A joined net with one link less than towers: each link is one without which it falls apart. -/
theorem tree_bridges {x : NetT} {f : Nat → Bool} {V : List Int} (hx : netB x = true) (hf : BrF x f) (hV : RsV x 0 V) (hj : V.length = x.1.length) (hl : (x.2.length : Int) = (x.1.length : Int) - 1) : (brV x f).length = x.2.length := by
  unfold brV
  rw [if_pos hx]
  refine fupto_full fun k hk => ?_
  obtain ⟨y, hy⟩ : ∃ y, x.2[k]? = some y := ⟨_, List.getElem?_eq_getElem hk⟩
  obtain ⟨V', hV', e⟩ := hf k y hy
  rw [e]
  cases hc : V'.contains y.2.1
  · rfl
  · exfalso
    have hr := hV.t (net_has0 hx)
    obtain ⟨g, hg, hgr⟩ := hr
    have hall : ∀ j, j < x.1.length → g j = true := fupto_all (by rw [← hg]; exact hj)
    have hlk := netB_links hx y (List.mem_of_getElem? hy)
    simp only [lkB, Bool.and_eq_true, decide_eq_true_eq] at hlk
    obtain ⟨l1, l2, l3, _⟩ := hlk
    have h2 := (reach_mem hV' (List.contains_iff_mem.1 hc)).1
    have hcl : ClosedL x.2 (ReachL (butL x.2 k) y.1) := by
      intro z hz
      obtain ⟨j, hjz⟩ := List.mem_iff_getElem?.1 hz
      by_cases ej : j = k
      · subst ej
        obtain rfl := Option.some.inj (hy.symm.trans hjz)
        exact ⟨fun _ => h2, fun _ => ReachL.self _ _⟩
      · exact ReachL.step (dropOne_mem.2 ⟨j, hjz, by simp [ej]⟩)
    have hy0 : ReachL x.2 0 y.1 := by
      have := (hgr y.1.toNat (by omega)).1 (hall _ (by omega))
      rwa [show ((y.1.toNat : Nat) : Int) = y.1 by omega] at this
    have h0 : ReachL (butL x.2 k) y.1 0 := reach_sym hy0 _ hcl (ReachL.self _ _)
    have hlen := reach_count (L := butL x.2 k) (i := y.1) (V := V) (by rw [hg]; exact sorted_nodup (fupto_sorted _ _)) (fun j hj2 => by
      rw [hg] at hj2
      obtain ⟨q, hq, hq2, rfl⟩ := fupto_mem.1 hj2
      exact (hgr q hq).1 hq2 _ hcl h0)
    have hbl : (butL x.2 k).length + 1 = x.2.length := by
      unfold butL
      simp only [List.length_append, List.length_take, List.length_drop]
      omega
    omega
/-- The links are strictly ordered: the one with these ends is found. -/
theorem idx_at {p : LinkT → Bool} : ∀ {L : List LinkT} {q i : Nat} {y : LinkT}, L[i]? = some y → p y = true → (∀ j z, j < i → L[j]? = some z → p z = false) → idxG p q L = ((q + i : Nat) : Int)
  | [], q, i, y, h, _, _ => by simp at h
  | z :: r, q, 0, y, h, hp, _ => by
    simp at h; subst h
    unfold idxG
    rw [if_pos hp]; rfl
  | z :: r, q, i + 1, y, h, hp, hn => by
    unfold idxG
    have hz := hn 0 z (by omega) rfl
    rw [if_neg (by simp [hz]), idx_at (q := q + 1) (by simpa using h) hp fun j w hj hw => hn (j + 1) w (by omega) (by simpa using hw)]
    omega
theorem link_at {x : NetT} {i : Nat} {y : LinkT} (hx : netB x = true) (hy : x.2[i]? = some y) : lbOk x y.2.1 y.1 = true ∧ lbV x y.2.1 y.1 = (i : Int) := by
  have hlk := netB_links hx y (List.mem_of_getElem? hy)
  simp only [lkB, Bool.and_eq_true, decide_eq_true_eq] at hlk
  obtain ⟨l1, l2, l3, _⟩ := hlk
  have hx2 := hx
  simp only [netB, Bool.and_eq_true] at hx2
  have hp := (lnkP_iff.1 hx2.2.2.2).2.1
  have hall := (lnkP_iff.1 hx2.2.2.2).1
  have hidx : idxG (lkEq2 y.2.1 y.1) 0 x.2 = (i : Int) := by
    have := idx_at (p := lkEq2 y.2.1 y.1) (q := 0) hy (by simp [lkEq2]) (fun j z hj hz => by
      have hi : i < x.2.length := (List.getElem?_eq_some_iff.1 hy).1
      have hb : befL z y = true := by
        have := List.pairwise_iff_getElem.1 hp j i (by omega) hi hj
        rw [(List.getElem?_eq_some_iff.1 hz).2, (List.getElem?_eq_some_iff.1 hy).2] at this
        exact this
      have hlz := hall z (List.mem_of_getElem? hz)
      simp only [lkB, Bool.and_eq_true, decide_eq_true_eq] at hlz
      obtain ⟨z1, z2, z3, _⟩ := hlz
      unfold befL at hb
      simp only [Bool.or_eq_true, Bool.and_eq_true, decide_eq_true_eq] at hb
      unfold lkEq2
      rw [Bool.eq_false_iff]
      simp only [ne_eq, Bool.or_eq_true, Bool.and_eq_true, beq_iff_eq]
      omega)
    simpa using this
  have hok : lbOk x y.2.1 y.1 = true := by
    unfold lbOk has2 hasT
    rw [hidx, hx]
    unfold inB
    simp; omega
  refine ⟨hok, ?_⟩
  unfold lbV
  rw [if_pos hok, hidx]
theorem near_has {x : NetT} {i : Nat} {y : LinkT} (hx : netB x = true) (hy : x.2[i]? = some y) : hasT x y.1 = true ∧ y.2.1 ∈ nbV x y.1 := by
  have hlk := netB_links hx y (List.mem_of_getElem? hy)
  simp only [lkB, Bool.and_eq_true, decide_eq_true_eq] at hlk
  obtain ⟨l1, l2, l3, _⟩ := hlk
  have hh : hasT x y.1 = true := by
    unfold hasT
    rw [hx]
    unfold inB
    simp; omega
  refine ⟨hh, ?_⟩
  unfold nbV
  rw [if_pos hh]
  refine fupto_mem.2 ⟨y.2.1.toNat, by omega, ?_, by omega⟩
  refine nbF_iff.2 ⟨y, List.mem_of_getElem? hy, Or.inl ⟨rfl, by omega⟩⟩
end Go.Proofs.YtmaaeemhbccpcaaGreatDoor
