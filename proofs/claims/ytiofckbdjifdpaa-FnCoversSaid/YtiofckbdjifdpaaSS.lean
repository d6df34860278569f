
/- Slices of slices of ints: how they read, and the laws' own helpers on them: sizes, copies, equality, marks. -/
import Derived.Test.YtiofckbdjifdpaaKeep
import Derived.Deep.RegionHeld3
namespace Go.Proofs.Ytiofckbdjifdpaa
open Go.RowKit

/-! ### Reading -/
def encV (v : Value) : List Value := [v]
theorem encV_len (g : Value) : (encV g).length = 1 := rfl
theorem flat_encV (vs : List Value) : vs.flatMap encV = vs := by
  induction vs with
  | nil => rfl
  | cons x r ih => rw [List.flatMap_cons, ih]; rfl
/-- v is a slice of slices that reads as xss. -/
def Intss (w : World) (lo hi : Nat) (v : Value) (xss : List (List Int)) : Prop :=
  ∃ vs : List Value, vs.length = xss.length ∧ Row encV 1 w lo hi v vs ∧ ∀ (i : Nat) u xs, vs[i]? = some u → xss[i]? = some xs → Ints w lo hi u xs
theorem Intss.keep {w w' : World} {lo hi : Nat} {v : Value} {xss : List (List Int)} (h : Intss w lo hi v xss) (hk : ∀ k, lo ≤ k → k < hi → w'.heap[k]? = w.heap[k]?) : Intss w' lo hi v xss := by
  obtain ⟨vs, h1, h2, h3⟩ := h
  exact ⟨vs, h1, h2.keep hk, fun i u xs hu hx => (h3 i u xs hu hx).keep hk⟩
theorem Intss.ext {w w' : World} {lo hi : Nat} {v : Value} {xss : List (List Int)} (h : Intss w lo hi v xss) (hx : Ext w w') (hh : hi ≤ w.heap.size) : Intss w' lo hi v xss :=
  h.keep fun k _ hk => hx.block k (by omega)
theorem Intss.form {w : World} {lo hi : Nat} {v : Value} {xss : List (List Int)} (h : Intss w lo hi v xss) : ∃ a cap, v = .slice a xss.length cap ∧ xss.length ≤ cap ∧ cap ≤ 9223372036854775807 := by
  obtain ⟨vs, h1, ⟨a, cap, rfl, h2, h3, _⟩, _⟩ := h
  exact ⟨a, cap, by rw [h1], by omega, h3⟩
theorem Intss_at {w : World} {lo hi n : Nat} {a : Option Addr} {cap : Nat} {xss : List (List Int)} (h : Intss w lo hi (.slice a n cap) xss) {k : Nat} (hk : k < n) :
    ∃ b off a2 c2 g, a = some ⟨b, off, none⟩ ∧ Hid (xss[k]? = some g) ∧ w.cell? ⟨b, off + k, none⟩ = some (.slice a2 g.length c2) ∧ Hid (Ints w lo hi (.slice a2 g.length c2) g) ∧ g.length ≤ c2 ∧ c2 ≤ 9223372036854775807 := by
  obtain ⟨vs, h1, ⟨a', cap', hv, r1, r2, b, off, r3, r4⟩, h3⟩ := h
  simp only [Value.slice.injEq] at hv
  obtain ⟨rfl, rfl, rfl⟩ := hv
  obtain ⟨ha, _, _⟩ := r3 (by omega)
  have hu : vs[k]? = some vs[k] := List.getElem?_eq_getElem hk
  have hg : xss[k]? = some (xss[k]'(by omega)) := List.getElem?_eq_getElem (by omega)
  have hi := h3 k _ _ hu hg
  obtain ⟨a2, c2, e, q1, q2⟩ := hi.form
  refine ⟨b, off, a2, c2, _, ha, hg, ?_, by rw [e] at hi; exact Lib.hid hi, q1, q2⟩
  have := r4 k _ 0 _ hu rfl
  rw [e] at this
  simpa using this

/-- Rows of ints, each in a block of the call's own. -/
def OwnL (w : World) (lo : Nat) (vs : List Value) (xss : List (List Int)) : Prop :=
  vs.length = xss.length ∧ (∀ (i : Nat) u xs, vs[i]? = some u → xss[i]? = some xs → w.ownsRow lo 3 1 u xs.length (xs.flatMap encI)) ∧
    ∀ (i j : Nat) u u' k, i < j → vs[i]? = some u → vs[j]? = some u' → u.ownBlock = some k → u'.ownBlock ≠ some k
theorem OwnL.nil (w : World) (lo : Nat) : OwnL w lo [] [] := ⟨rfl, by simp, by simp⟩
theorem OwnL.grown {w w' : World} {lo : Nat} {vs : List Value} {xss : List (List Int)} {row : Option Nat} (h : OwnL w lo vs xss) (hg : w.grownBy w' row) (hr : ∀ k, row = some k → k < lo) : OwnL w' lo vs xss := by
  refine ⟨h.1, fun i u xs hu hx => ?_, h.2.2⟩
  have ho := h.2.1 i u xs hu hx
  refine ho.kept hg ?_
  cases hb : u.ownBlock with
  | none => exact .inl rfl
  | some k => exact .inr (fun e => by have := hr k e.symm; have := (ho.lt k hb).1; omega)
theorem OwnL.snoc {w w2 : World} {lo : Nat} {vs : List Value} {xss : List (List Int)} {u : Value} {xs : List Int} (h : OwnL w lo vs xss) (hx : Ext w w2) (hl : lo ≤ w.heap.size)
    (ho : w2.ownsRow w.heap.size 3 1 u xs.length (xs.flatMap encI)) : OwnL w2 lo (vs ++ [u]) (xss ++ [xs]) := by
  obtain ⟨h1, h2, h3⟩ := h
  have key : ∀ (i : Nat) v k, i < vs.length → vs[i]? = some v → v.ownBlock = some k → k < w.heap.size := by
    intro i v k hi hv hk
    exact ((h2 i v _ hv (List.getElem?_eq_getElem (by omega))).lt k hk).2
  refine ⟨by simp [h1], ?_, ?_⟩
  · intro i v ys hv hy
    by_cases hi : i < vs.length
    · rw [List.getElem?_append_left hi] at hv
      rw [List.getElem?_append_left (by omega)] at hy
      exact own_ext (h2 i v ys hv hy) hx
    · rw [List.getElem?_append_right (by omega)] at hv
      rw [List.getElem?_append_right (by omega)] at hy
      have hi2 := (List.getElem?_eq_some_iff.1 hv).1
      simp at hi2
      rw [show i - vs.length = 0 by omega] at hv
      rw [show i - xss.length = 0 by omega] at hy
      simp at hv hy
      subst hv hy
      exact own_mono ho hl
  · intro i j v v' k hij hv hv' hk hk'
    by_cases hj : j < vs.length
    · rw [List.getElem?_append_left hj] at hv'
      rw [List.getElem?_append_left (by omega)] at hv
      exact h3 i j v v' k hij hv hv' hk hk'
    · rw [List.getElem?_append_right (by omega)] at hv'
      have hj2 := (List.getElem?_eq_some_iff.1 hv').1
      simp at hj2
      rw [show j - vs.length = 0 by omega] at hv'
      simp at hv'
      subst hv'
      rw [List.getElem?_append_left (by omega)] at hv
      have := key i v k (by omega) hv hk
      have := (ho.lt k hk').1
      omega
/-- A slice of slices that the call owns. -/
def OwnSS (w : World) (lo hi : Nat) (v : Value) (xss : List (List Int)) : Prop :=
  ∃ vs : List Value, (w.ownsRow lo 24 1 v vs.length vs ∧ ∀ k, v.ownBlock = some k → k < hi) ∧ OwnL w lo vs xss ∧ ∀ (i : Nat) u k, vs[i]? = some u → u.ownBlock = some k → k < hi ∧ v.ownBlock ≠ some k
theorem OwnSS.read {w : World} {lo hi : Nat} {v : Value} {xss : List (List Int)} (h : OwnSS w lo hi v xss) : Intss w lo hi v xss := by
  obtain ⟨vs, ⟨h1, h1b⟩, h2, h3⟩ := h
  refine ⟨vs, h2.1, ?_, fun i u xs hu hx => OwnI.read ⟨h2.2.1 i u xs hu hx, fun k hk => (h3 i u k hu hk).1⟩⟩
  obtain ⟨a, cap, e, g1, g2, b, off, g3, g4⟩ := Row.of_own encV_len (xs := vs) (by rw [flat_encV]; exact h1)
  refine ⟨a, cap, e, g1, g2, b, off, fun hp => ?_, g4⟩
  obtain ⟨e1, e2, _⟩ := g3 hp
  exact ⟨e1, e2, h1b b (by rw [e, e1]; rfl)⟩
theorem OwnSS.form {w : World} {lo hi : Nat} {v : Value} {xss : List (List Int)} (h : OwnSS w lo hi v xss) : ∃ a cap, v = .slice a xss.length cap ∧ xss.length ≤ cap ∧ cap ≤ 9223372036854775807 := h.read.form
theorem OwnSS.ext {w w' : World} {lo hi : Nat} {v : Value} {xss : List (List Int)} (h : OwnSS w lo hi v xss) (hx : Ext w w') : OwnSS w' lo hi v xss := by
  obtain ⟨vs, ⟨h1, h1b⟩, ⟨g1, g2, g3⟩, h3⟩ := h
  exact ⟨vs, ⟨own_ext h1 hx, h1b⟩, ⟨g1, fun i u xs hu hy => own_ext (g2 i u xs hu hy) hx, g3⟩, h3⟩
theorem OwnSS.keepd {w w' : World} {lo hi lo2 hi2 : Nat} {v : Value} {xss : List (List Int)} (h : OwnSS w lo hi v xss) (hk : Keep lo2 hi2 w w') (hd : hi ≤ lo2 ∨ hi2 ≤ lo) : OwnSS w' lo hi v xss := by
  obtain ⟨vs, ⟨h1, h1b⟩, ⟨g1, g2, g3⟩, h3⟩ := h
  refine ⟨vs, ⟨own_keep h1 hk (fun k e => by have := (h1.lt k e).1; have := h1b k e; omega), h1b⟩, ⟨g1, fun i u xs hu hy => ?_, g3⟩, h3⟩
  have ho := g2 i u xs hu hy
  exact own_keep ho hk (fun k e => by have := (ho.lt k e).1; have := (h3 i u k hu e).1; omega)

/-! ### The helpers -/
def tot : List (List Int) → Nat
  | [] => 0
  | x :: r => x.length + tot r
theorem tot_snoc (l : List (List Int)) (x : List Int) : tot (l ++ [x]) = tot l + x.length := by
  induction l with
  | nil => simp [tot]
  | cons y r ih => simp only [List.cons_append, tot, ih]; omega
theorem tot_succ {l : List (List Int)} {k : Nat} {x : List Int} (h : l[k]? = some x) : tot (l.take (k + 1)) = tot (l.take k) + x.length := by
  rw [take_snoc' h, tot_snoc]
theorem tot_append (l m : List (List Int)) : tot (l ++ m) = tot l + tot m := by
  induction l with
  | nil => simp [tot]
  | cons y r ih => simp only [List.cons_append, tot, ih]; omega
theorem tot_take (l : List (List Int)) (k : Nat) : tot (l.take k) ≤ tot l := by
  have h := tot_append (l.take k) (l.drop k)
  rw [List.take_append_drop] at h
  omega
theorem tot_get {l : List (List Int)} {k : Nat} {x : List Int} (h : l[k]? = some x) : x.length ≤ tot l := by
  have h1 := tot_succ h; have h2 := tot_take l (k + 1); omega
def szL (left n : Int) : Int := if n ≤ left then left - n else -1
set_option maxRecDepth 100000 in
theorem c_szIntS (a : Option Addr) (n cap : Nat) (left : Int) (w : World) (h0 : 0 ≤ left) (h1 : left ≤ 1048576) (hn : n ≤ 9223372036854775807) :
    Calls Try.prog 41 #[.slice a n cap, .int .i64 left] w fun e w' => e = .returned (.int .i64 (szL left n)) ∧ w = w' := by
  obtain ⟨r, hr⟩ : ∃ r, r = szL left n := ⟨_, rfl⟩
  rw [← hr]
  unfold szL at hr
  have HR := Lib.hid hr
  clear hr
  by_cases h : (n : Int) ≤ left
  all_goals
    go_enter Try.func41, Try.ntmps41
    go_wp2
    go_ret
    refine ⟨?_, rfl⟩
    rw [HR.out]
    first | (rw [if_pos h]; rfl) | (rw [if_neg (by omega)]; rfl)
theorem szL_pos {left n : Int} (h : n ≤ left) : szL left n = left - n := if_pos h
theorem szL_neg {left n : Int} (h : left < n) : szL left n = -1 := if_neg (by omega)
set_option maxRecDepth 100000 in
theorem c_szIntSS (v : Value) (la ha : Nat) (xss : List (List Int)) (left : Int) (w : World) (h : Intss w la ha v xss) (h0 : 0 ≤ left) (h1 : left ≤ 1048576) :
    Calls Try.prog 6 #[v, .int .i64 left] w fun e w' => e = .returned (.int .i64 (szL left ((xss.length + tot xss : Nat) : Int))) ∧ w = w' := by
  obtain ⟨r, hr⟩ : ∃ r, r = szL left ((xss.length + tot xss : Nat) : Int) := ⟨_, rfl⟩
  rw [← hr]
  have HR := Lib.hid hr
  obtain ⟨a, cap, rfl, m1, m2⟩ := h.form
  have H := Lib.hid h
  obtain ⟨n, hn⟩ : ∃ n, n = xss.length := ⟨_, rfl⟩
  rw [← hn] at m1 H HR ⊢
  have HN := Lib.hid hn
  clear hr h hn
  by_cases hb : (n : Int) ≤ left
  · go_enter Try.func6, Try.ntmps6
    go_wp2
    go_loop [1, 5] (fun q t => ∃ k : Nat, k ≤ n ∧ t = .int .i64 k ∧ q = .int .i64 (left - n - tot (xss.take k)) ∧ (0 : Int) ≤ left - n - tot (xss.take k)) (fun _ t => n - (intOf t).toNat)
    case atStart => exact ⟨0, by omega, rfl, by simp [tot], by simp [tot]; omega⟩
    case round =>
      obtain ⟨k, hk, rfl, rfl, hq⟩ := hrel
      by_cases hlt : k < n
      · obtain ⟨b, o, a2, c2, g, rfl, hg, c0, HG, q1, q2⟩ := Intss_at H.out hlt
        have hltI : (k : Int) < (n : Int) := by omega
        have hT := tot_succ hg.out
        have hT2 := tot_take xss (k + 1)
        have HT := Lib.hid hT
        have HT2 := Lib.hid hT2
        obtain ⟨z, hz⟩ : ∃ z, z = tot (xss.take k) := ⟨_, rfl⟩
        rw [← hz] at hq HT ⊢
        obtain ⟨q, hqq⟩ : ∃ q : Int, q = left - n - z := ⟨_, rfl⟩
        rw [← hqq] at hq ⊢
        have HQ := Lib.hid hqq
        clear hT hT2 hz hqq
        by_cases hgo : (g.length : Int) ≤ q
        · have hs := szL_pos hgo
          have CZ : Hid (∀ W, Calls Try.prog 41 #[.slice a2 g.length c2, .int .i64 q] W fun e w' => e = .returned (.int .i64 (q - g.length)) ∧ W = w') := fun W => by
            rw [← hs]; exact c_szIntS a2 g.length c2 q W hq (by have := HQ.out; omega) (by omega)
          clear hs
          have hge : ¬ (q - (g.length : Int) < 0) := by omega
          go_wp2_with (go_at_call 41; refine (CZ.out _).mono ?_; rintro e w' ⟨rfl, rfl⟩)
          go_round
          case rel =>
            refine ⟨k + 1, by omega, by go_num, ?_, ?_⟩
            · have e : q - (g.length : Int) = left - n - tot (xss.take (k + 1)) := by rw [HT.out, HQ.out]; omega
              rw [e]
            · rw [HT.out]; have := HQ.out; omega
          case measure => simp [intOf]; omega
        · have hs := szL_neg (left := q) (n := (g.length : Int)) (by omega)
          have CZ : Hid (∀ W, Calls Try.prog 41 #[.slice a2 g.length c2, .int .i64 q] W fun e w' => e = .returned (.int .i64 (-1)) ∧ W = w') := fun W => by
            rw [← hs]; exact c_szIntS a2 g.length c2 q W hq (by have := HQ.out; omega) (by omega)
          clear hs
          go_wp2_with (go_at_call 41; refine (CZ.out _).mono ?_; rintro e w' ⟨rfl, rfl⟩)
          go_ret
          refine ⟨?_, rfl⟩
          have h3 := HT.out
          have h4 := HT2.out
          have h5 := HQ.out
          rw [HR.out, szL_neg (by omega)]; rfl
      · have e1 : k = n := by omega
        have HE : Hid (r = left - n - tot (xss.take k)) := by
          unfold Hid
          rw [List.take_of_length_le (by rw [← HN.out]; omega)] at hq ⊢
          rw [HR.out, szL_pos (by omega)]; omega
        clear e1
        go_wp2
        go_ret
        exact ⟨by rw [HE.out]; rfl, rfl⟩
  · have hs : Hid (r = -1) := by unfold Hid; rw [HR.out, szL_neg (by omega)]
    go_enter Try.func6, Try.ntmps6
    go_wp2
    go_ret
    exact ⟨by rw [hs.out]; rfl, rfl⟩
theorem Try.info_intSS : (Try.prog.info? 24).map (fun i => (i.zero, i.size, i.bytes)) = some (some (.slice none 0 0), 1, 24) := by kernel_rfl
set_option maxRecDepth 100000 in
set_option maxHeartbeats 1000000 in
theorem c_toIntSS (va : Value) (la ha : Nat) (xss : List (List Int)) (w : World) (h : Intss w la ha va xss) (hh : ha ≤ w.heap.size) (hn20 : xss.length + tot xss ≤ 1048576) :
    Calls Try.prog 8 #[va] w fun e w' => ∃ v, e = .returned v ∧ OwnSS w' w.heap.size w'.heap.size v xss ∧ Ext w w' := by
  obtain ⟨i0, hi, hz0, hz1, hz2⟩ := info_parts Try.info_intSS
  obtain ⟨a, cap, rfl, m1, m2⟩ := h.form
  have H := Lib.hid h
  obtain ⟨n, hn⟩ : ∃ n, n = xss.length := ⟨_, rfl⟩
  rw [← hn] at m1 H hn20 ⊢
  have HN := Lib.hid hn
  have HB : Hid (∀ g, g ∈ xss → g.length ≤ 1048576) := fun g hg => by
    obtain ⟨i, hi2⟩ := List.getElem?_of_mem hg
    have := tot_get hi2; omega
  have hn21 : n ≤ 1048576 := by omega
  clear h hn hn20
  go_enter Try.func8, Try.ntmps8
  go_wp2_with (at_make; refine wpList_make_full _ rfl _ _ 22 rfl w.heap.size 24 i0 (.slice none 0 0) 1 Try.underlying22 hi hz0 hz1 _ _ _ _ n rfl rfl rfl rfl (by rw [hz2]; omega) (by unfold maxLen; omega) (Nat.le_refl _) ?_; intro w1 hown hgrow)
  have hx1 : Ext w w1 := (Ext.refl w).gr hgrow (by simp)
  have hlt0 : w.heap.size < w1.heap.size := (hown.lt _ rfl).2
  clear hgrow
  go_loopw [4] (fun t wr => ∃ (k : Nat) (L vs : List Value), k ≤ n ∧ t = .int .i64 k ∧ wr.ownsRow w.heap.size 24 1 (.slice (some ⟨w.heap.size, 0, none⟩) n n) n L ∧ Hid (L.take k = vs) ∧ Hid (OwnL wr (w.heap.size + 1) vs (xss.take k)) ∧ Ext w wr) (fun t _ => n - (intOf t).toNat)
  case atStart => exact ⟨0, _, [], by omega, rfl, hown, by simp [Hid], OwnL.nil _ _, hx1⟩
  case round =>
    clear hown
    obtain ⟨k, L, vs, hk, rfl, hown, hT, hO, hx⟩ := hrel
    have hL : L.length = n * 1 := hown.1
    by_cases hlt : k < n
    · obtain ⟨b, o, a2, c2, g, rfl, hg, c0, HG, q1, q2⟩ := Intss_at H.out hlt
      have d0 := hx.cell c0
      obtain ⟨y0, hy0⟩ : ∃ y, L[k]? = some y := ⟨_, List.getElem?_eq_getElem (by omega)⟩
      have Y0 := Lib.hid hy0
      have HL := Lib.hid hL
      have hltI : (k : Int) < (n : Int) := by omega
      have hgl := HB.out g (List.mem_of_getElem? hg.out)
      have hlt1 : w.heap.size < wr.heap.size := (hown.lt _ rfl).2
      clear hy0 hL c0 q1 q2
      go_wp2_with (go_at_call 44; refine (c_toIntS _ la ha g wr (HG.out.ext hx hh) hgl).mono ?_; rintro e w2 ⟨v2, rfl, ho2, hx2⟩; obtain ⟨a5, c5, rfl, _, _, _⟩ := own_form ho2; have o2 := own_ext hown hx2; have e0 := (o2.cellAt (k) (by omega)).trans Y0.out; have z0 := o2.frozenAt (k))
      obtain ⟨O0, gr0⟩ := o2.stored k (.slice a5 g.length c5)
      go_roundw
      case rel =>
        refine ⟨k + 1, _, vs ++ [.slice a5 g.length c5], by omega, by go_num, O0, ?_, ?_, (hx.trans hx2).st (Nat.le_refl _) _⟩
        · unfold Hid
          have hLL := HL.out
          rw [List.take_add_one, List.getElem?_set_self (by omega), List.take_set_of_le (Nat.le_refl _), hT.out]; rfl
        · unfold Hid
          rw [take_snoc' hg.out]
          exact (hO.out.snoc hx2 (by omega) ho2).grown gr0 (fun k hk => by cases hk; omega)
      case measure => simp [intOf]; omega
    · have e1 : k = n := by omega
      have hT2 : L = vs := by
        have e3 := hT.out
        rw [List.take_of_length_le (by omega)] at e3
        exact e3
      have hO2 : OwnL wr (w.heap.size + 1) vs xss := by
        have e3 := hO.out
        rw [List.take_of_length_le (by rw [← HN.out]; omega)] at e3
        exact e3
      have HO2 := Lib.hid hO2
      have HT2 := Lib.hid hT2
      have HOWN := Lib.hid hown
      have HL := Lib.hid hL
      clear e1 hT2 hO2 hT hO hown hL
      go_wp2
      go_ret
      refine ⟨_, rfl, ⟨vs, ⟨?_, fun k hk2 => (HOWN.out.lt k hk2).2⟩, ⟨HO2.out.1, fun i u xs hu hx2 => own_mono (HO2.out.2.1 i u xs hu hx2) (by omega), HO2.out.2.2⟩, ?_⟩, hx⟩
      · have e := HOWN.out
        rw [HT2.out] at e
        have e5 := HL.out
        rw [HT2.out] at e5
        rw [show vs.length = n by omega]
        exact e
      · intro i u k2 hu hk2
        have hi2 : i < xss.length := by rw [← HO2.out.1]; exact (List.getElem?_eq_some_iff.1 hu).1
        have hlt2 := (HO2.out.2.1 i u _ hu (List.getElem?_eq_getElem hi2)).lt k2 hk2
        refine ⟨hlt2.2, fun he => ?_⟩
        have he2 : w.heap.size = k2 := by simpa [Value.ownBlock] using he
        omega
set_option maxRecDepth 100000 in
set_option maxHeartbeats 1000000 in
theorem c_eqIntSS (va vb : Value) (la ha lb hb : Nat) (xss yss : List (List Int)) (w : World) (h1 : Intss w la ha va xss) (h2 : Intss w lb hb vb yss) (hh1 : ha ≤ w.heap.size) (hh2 : hb ≤ w.heap.size) :
    Calls Try.prog 11 #[va, vb] w fun e w' => e = .returned (.bool (decide (xss = yss))) ∧ Ext w w' := by
  obtain ⟨a, ca, rfl, m1, m2⟩ := h1.form
  obtain ⟨b, cb, rfl, m3, m4⟩ := h2.form
  have H1 := Lib.hid h1
  have H2 := Lib.hid h2
  clear h1 h2
  obtain ⟨r, hr⟩ : ∃ r, r = decide (xss = yss) := ⟨_, rfl⟩
  rw [← hr]
  have HR := Lib.hid hr
  clear hr
  by_cases hlen : xss.length = yss.length
  · have hl : ((xss.length : Int) != (yss.length : Int)) = false := by simp [hlen]
    obtain ⟨n, hn⟩ : ∃ n, n = xss.length := ⟨_, rfl⟩
    rw [← hlen] at m3 hl H2 ⊢
    rw [← hn] at m1 m3 hl H1 H2 ⊢
    have HN := Lib.hid hn
    have HL := Lib.hid hlen
    clear hn hlen
    go_enter Try.func11, Try.ntmps11
    go_wp2
    go_loopw [5] (fun t wr => ∃ k : Nat, k ≤ n ∧ t = .int .i64 k ∧ Ext w wr ∧ Hid (xss.take k = yss.take k)) (fun t _ => n - (intOf t).toNat)
    case atStart => exact ⟨0, by omega, rfl, Ext.refl _, by simp [Hid]⟩
    case round =>
      obtain ⟨k, hk, rfl, hx, hT⟩ := hrel
      by_cases hlt : k < n
      · obtain ⟨b1, o1, a1, c1, g1, rfl, hg1, d1, HG1, _, _⟩ := Intss_at H1.out hlt
        obtain ⟨b2, o2, a2, c2, g2, rfl, hg2, d2, HG2, _, _⟩ := Intss_at H2.out hlt
        have C1 := XT.cell (hx.cell d1)
        have C2 := XT.cell (hx.cell d2)
        clear d1 d2
        have hltI : (k : Int) < (n : Int) := by omega
        by_cases hgg : g1 = g2
        · have hgg2 := Lib.hid hgg
          have CE : Hid (∀ W, Ext w W → Calls Try.prog 10 #[.slice a1 g1.length c1, .slice a2 g2.length c2] W fun e w' => e = .returned (.bool true) ∧ Ext W w') := fun W hX => by
            have hd : decide (g1 = g2) = true := by simp [hgg]
            rw [← hd]; exact c_eqIntS _ _ la ha lb hb g1 g2 W (HG1.out.ext hX hh1) (HG2.out.ext hX hh2)
          clear hgg
          go_wp2
          refine region_ext (by kernel_rfl) (by kernel_rfl) ?_
          repeat (go_big_quiet_step ((go_at_call 10; refine Calls.ext_of (CE.out _ (hx.trans (XT.prop _))))))
          refine wpQuiet_nil ?_
          intro wq hxq
          go_wp2
          go_roundw
          case rel => exact ⟨k + 1, by omega, by go_num, hx.trans hxq, take_eq_succ hT.out hg1.out hg2.out hgg2.out⟩
          case measure => simp [intOf]; omega
        · have hgg2 := Lib.hid hgg
          have CE : Hid (∀ W, Ext w W → Calls Try.prog 10 #[.slice a1 g1.length c1, .slice a2 g2.length c2] W fun e w' => e = .returned (.bool false) ∧ Ext W w') := fun W hX => by
            have hd : decide (g1 = g2) = false := by simp [hgg]
            rw [← hd]; exact c_eqIntS _ _ la ha lb hb g1 g2 W (HG1.out.ext hX hh1) (HG2.out.ext hX hh2)
          clear hgg
          go_wp2
          refine region_ext (by kernel_rfl) (by kernel_rfl) ?_
          repeat (go_big_quiet_step ((go_at_call 10; refine Calls.ext_of (CE.out _ (hx.trans (XT.prop _))))))
          refine wpQuiet_nil ?_
          intro wq hxq
          go_wp2
          go_ret
          refine ⟨?_, hx.trans hxq⟩
          rw [HR.out, decide_eq_false (fun e => hgg2.out (by have := hg1.out; rw [e, hg2.out] at this; exact (Option.some.inj this).symm))]
          rfl
      · go_wp2
        go_ret
        refine ⟨?_, hx⟩
        have e := hT.out
        rw [List.take_of_length_le (by rw [← HN.out]; omega), List.take_of_length_le (by rw [← HL.out, ← HN.out]; omega)] at e
        rw [HR.out, decide_eq_true e]
        rfl
  · have hl : ((xss.length : Int) != (yss.length : Int)) = true := by rw [bne_iff_ne]; omega
    have HL := Lib.hid hlen
    clear hlen
    go_enter Try.func11, Try.ntmps11
    go_wp2
    go_ret
    refine ⟨?_, Ext.refl _⟩
    rw [HR.out, decide_eq_false (fun e => HL.out (by rw [e]))]
    rfl
set_option maxRecDepth 100000 in
set_option maxHeartbeats 1000000 in
theorem c_markIntSS (v : Value) (lo hi : Nat) (xss : List (List Int)) (c : Int) (w : World) (h : OwnSS w lo hi v xss) (hc0 : 0 ≤ c) (hc1 : c ≤ 1048576) (hn20 : xss.length + tot xss ≤ 1048576) :
    Calls Try.prog 12 #[v, .int .i64 c] w fun e w' => e = .returned (.int .i64 (c + (tot xss : Nat))) ∧ Keep lo hi w w' := by
  obtain ⟨vs, ⟨h1, _⟩, h2, h3⟩ := h
  obtain ⟨a, cap, rfl, ha, _, _⟩ := own_form h1
  have H2 := Lib.hid h2
  have H3 := Lib.hid h3
  obtain ⟨n, hn⟩ : ∃ n, n = vs.length := ⟨_, rfl⟩
  have hn2 : n = xss.length := by rw [hn]; exact h2.1
  rw [← hn] at h1 ha H3 ⊢
  rw [← hn2] at hn20
  have HN := Lib.hid hn
  have HN2 := Lib.hid hn2
  have H1 := Lib.hid h1
  clear h1 h2 h3 hn hn2
  go_enter Try.func12, Try.ntmps12
  go_wp2
  go_loopw [1, 5] (fun q t wr => ∃ (k : Nat), k ≤ n ∧ t = .int .i64 k ∧ q = .int .i64 (c + (tot (xss.take k) : Nat)) ∧ wr.ownsRow lo 24 1 (.slice a n cap) n vs ∧ Keep lo hi w wr ∧
      Hid (∀ (i : Nat) u xs, k ≤ i → vs[i]? = some u → xss[i]? = some xs → wr.ownsRow lo 3 1 u xs.length (xs.flatMap encI))) (fun _ t _ => n - (intOf t).toNat)
  case atStart => exact ⟨0, by omega, rfl, by simp [tot], H1.out, Keep.refl _ _ _, fun i u xs _ hu hx => H2.out.2.1 i u xs hu hx⟩
  case round =>
    obtain ⟨k, hk, rfl, rfl, hown, hkeep, hR⟩ := hrel
    have hT2 := tot_take xss k
    obtain ⟨z, hz⟩ : ∃ z, z = tot (xss.take k) := ⟨_, rfl⟩
    rw [← hz] at hT2 ⊢
    have HZ := Lib.hid hz
    clear hz
    by_cases hlt : k < n
    · obtain ⟨b, rfl⟩ := ha (by omega)
      obtain ⟨u, hu⟩ : ∃ u, vs[k]? = some u := ⟨_, List.getElem?_eq_getElem (by have := HN.out; omega)⟩
      obtain ⟨g, hg⟩ : ∃ g, xss[k]? = some g := ⟨_, List.getElem?_eq_getElem (by have := HN2.out; omega)⟩
      have ho := hR.out k u g (Nat.le_refl _) hu hg
      have hgl := tot_get hg
      have hT3 := tot_succ hg
      rw [← HZ.out] at hT3
      have e0 := (hown.cellAt k (by omega)).trans hu
      obtain ⟨a2, c2, hv2, _, _, _⟩ := own_form ho
      have HU := Lib.hid hu
      have HG := Lib.hid hg
      have HO := Lib.hid ho
      have HV := Lib.hid hv2
      have HT3 := Lib.hid hT3
      rw [hv2] at e0
      have hltI : (k : Int) < (n : Int) := by omega
      have CM := Lib.hid (c_markIntS u g.length lo _ (c + (z : Nat)) wr ho (by omega) (by omega) (by omega))
      rw [hv2] at CM
      have HOWN := Lib.hid hown
      clear hu hg ho hv2 hT3 hown
      go_wp2_with (go_at_call 13; refine CM.out.mono ?_; rintro e w2 ⟨rfl, ho2, gr2⟩)
      rw [← HV.out] at gr2 ho2
      have HGR := Lib.hid gr2
      clear gr2
      go_roundw
      case rel =>
        refine ⟨k + 1, by omega, by go_num, ?_, ?_, ?_, ?_⟩
        · rw [HT3.out]; go_num
        · refine HOWN.out.kept HGR.out ?_
          refine .inr fun e => ?_
          exact (H3.out k u b HU.out e.symm).2 rfl
        · exact hkeep.trans (Keep.of_grown HGR.out fun k2 hk2 => by
            have hlt2 := H2.out.2.1 k u g HU.out HG.out
            exact ⟨(hlt2.lt k2 hk2).1, (H3.out k u k2 HU.out hk2).1⟩)
        · intro i u' xs hi hu' hx'
          refine (hR.out i u' xs (by omega) hu' hx').kept HGR.out ?_
          cases hb : u'.ownBlock with
          | none => exact .inl rfl
          | some k2 => exact .inr (fun e => H2.out.2.2 k i u u' k2 (by omega) HU.out hu' e.symm hb)
      case measure => simp [intOf]; omega
    · have e1 : z = tot xss := by
        have e3 := HZ.out
        rw [List.take_of_length_le (by rw [← HN2.out]; omega)] at e3
        exact e3
      have E1 := Lib.hid e1
      clear e1
      go_wp2
      go_ret
      refine ⟨?_, hkeep⟩
      rw [E1.out]; rfl
end Go.Proofs.Ytiofckbdjifdpaa
