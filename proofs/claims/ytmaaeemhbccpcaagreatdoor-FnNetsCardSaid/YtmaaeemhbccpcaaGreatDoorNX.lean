
/- A net under way: its box, its towers, its links, the box of the result, the cursor. Lists that are written out. Two operations that may come up. -/
import Derived.Test.YtmaaeemhbccpcaaGreatDoorNet
import Derived.Test.YtmaaeemhbccpcaaGreatDoorGC
import Derived.Test.YtmaaeemhbccpcaaGreatDoorGG
import Derived.Test.YtmaaeemhbccpcaaGreatDoorAnyE
namespace Go.Proofs.YtmaaeemhbccpcaaGreatDoor
open Go.RowKit
set_option linter.unusedVariables false
section
variable {P : Program} {ops : Array Oper} {Q : Exit → Act → World → Prop} {md : Region.Mode} {S : World → Prop}
/-- Two may come up. -/
theorem wpAnyE_two {i j : Nat} {oi oj : Oper} {k : Nat} {listed : Array Bool} {a : Act} {w : World} (hr : Region.ready md ops listed = [i, j]) (hoi : ops[i]? = some oi) (hoj : ops[j]? = some oj)
    (hi : ∀ K : Act → World → Prop, (∀ a w, (¬ waitsAll md ops i → S w) → wpAnyE P md ops Q S k (listed.setIfInBounds i true) a w → K a w) → if Region.wanted oi (yielded ops a.tmps) = true then Oper.wp P oi a w K Q else K (a.put oi.dst undef) w)
    (hj : ∀ K : Act → World → Prop, (∀ a w, (¬ waitsAll md ops j → S w) → wpAnyE P md ops Q S k (listed.setIfInBounds j true) a w → K a w) → if Region.wanted oj (yielded ops a.tmps) = true then Oper.wp P oj a w K Q else K (a.put oj.dst undef) w) :
    wpAnyE P md ops Q S (k + 1) listed a w := by
  refine ⟨fun h0 => (by rw [h0] at hr; cases hr), fun q hq => ?_⟩
  rw [hr] at hq
  rcases List.mem_cons.1 hq with rfl | hq
  · exact wpOp_step hoi (fun K hK => hi K (fun a w h1 h2 => hK a w ⟨h1, h2⟩))
  · rcases List.mem_singleton.1 hq with rfl
    exact wpOp_step hoj (fun K hK => hj K (fun a w h1 h2 => hK a w ⟨h1, h2⟩))
end
/-- A list of ints that is written out, in a block of its own behind the cursor. -/
def LitI (w : World) (b p : Nat) (xs : List Int) : Prop := b < p ∧ p + 1 ≤ w.heap.size ∧ Ints w p (p + 1) (.slice (some ⟨p, 0, none⟩) xs.length xs.length) xs
theorem LitI.new (w : World) (b : Nat) (xs : List Int) (hb : b < w.heap.size) (hl : xs.length ≤ 1000) : LitI (w.alloc (.cells (xs.map (Value.int .i64)).toArray 3)) b w.heap.size xs :=
  ⟨hb, by simp, _, _, rfl, Nat.le_refl _, by omega, w.heap.size, 0, fun _ => ⟨rfl, Nat.le_refl _, by omega⟩, fun i x j c hx hc => by
    have e1 : j = 0 ∧ c = .int .i64 x := by
      cases j with
      | zero => simp [encI] at hc; exact ⟨rfl, hc.symm⟩
      | succ j => simp [encI] at hc
    obtain ⟨rfl, rfl⟩ := e1
    refine blk_cell (blk_alloc _ _) ?_
    simp [hx]⟩
theorem LitI.ext {w w' : World} {b p : Nat} {xs : List Int} (h : LitI w b p xs) (hx : Ext w w') : LitI w' b p xs :=
  ⟨h.1, Nat.le_trans h.2.1 hx.size, h.2.2.ext hx h.2.1⟩
theorem LitI.draw {w w' : World} {b p : Nat} {xs : List Int} (h : LitI w b p xs) (hk : Keep b (b + 1) w w') : LitI w' b p xs :=
  ⟨h.1, Nat.le_trans h.2.1 hk.size, h.2.2.keep fun j h1 h2 => hk.block j (by have := h.2.1; omega) (by have := h.1; omega)⟩
theorem c_amongP (b k p : Nat) (xs : List Int) (lo hi : Int) (w : World) (h : Cur w b k) (hk : k ≤ 999000) (hp : LitI w b p xs) (h0 : 0 < xs.length) (hl : xs.length ≤ 1000) (hb : ∀ x ∈ xs, lo ≤ x ∧ x ≤ hi) :
    Calls Tryz.prog 74 #[.pointer (some ⟨b, 0, none⟩), .slice (some ⟨p, 0, none⟩) xs.length xs.length] w (DrawI b (k + 2) lo hi w) :=
  c_among b k _ p (p + 1) xs lo hi w h hk hp.2.2 hp.1 hp.2.1 h0 hl hb
/-- One cell of a list of triples is set: a list of triples again, of the same length. -/
theorem flat_set3 : ∀ (T : List (Int × Int × Int)) (i j : Nat) (x : Int), i < T.length → j < 3 →
    ∃ T' : List (Int × Int × Int), T'.length = T.length ∧ (T.flatMap fun g => [Value.int .i64 g.1, .int .i64 g.2.1, .int .i64 g.2.2]).set (i * 3 + j) (.int .i64 x) = T'.flatMap fun g => [Value.int .i64 g.1, .int .i64 g.2.1, .int .i64 g.2.2]
  | [], i, j, x, h, _ => by simp at h
  | y :: r, 0, j, x, _, hj => by
    match j, hj with
    | 0, _ => exact ⟨(x, y.2.1, y.2.2) :: r, rfl, by simp⟩
    | 1, _ => exact ⟨(y.1, x, y.2.2) :: r, rfl, by simp⟩
    | 2, _ => exact ⟨(y.1, y.2.1, x) :: r, rfl, by simp⟩
  | y :: r, i + 1, j, x, h, hj => by
    obtain ⟨T', h1, h2⟩ := flat_set3 r i j x (by simpa using h) hj
    refine ⟨y :: T', by simp [h1], ?_⟩
    rw [show (i + 1) * 3 + j = (i * 3 + j) + 1 + 1 + 1 by omega]
    simp only [List.flatMap_cons, List.set_cons_succ, List.cons_append, List.nil_append]
    rw [h2]
theorem flat_setT (T : List TowerT) (i j : Nat) (x : Int) (hi : i < T.length) (hj : j < 3) : ∃ T' : List TowerT, T'.length = T.length ∧ (T.flatMap encTower).set (i * 3 + j) (.int .i64 x) = T'.flatMap encTower := flat_set3 T i j x hi hj
theorem flat_setL (T : List LinkT) (i j : Nat) (x : Int) (hi : i < T.length) (hj : j < 3) : ∃ T' : List LinkT, T'.length = T.length ∧ (T.flatMap encLink).set (i * 3 + j) (.int .i64 x) = T'.flatMap encLink := flat_set3 T i j x hi hj
theorem own_nbox {w : World} {base sz n b : Nat} {e t : TypeId} {v : Value} {xs : List Value} {C : Array Value} (hown : w.ownsRow base e sz v n xs) (hb : w.heap[b]? = some (.cells C t (0, 0))) (hne : e ≠ t) : v.ownBlock ≠ some b := by
  intro hk
  rcases hown.2 with ⟨rfl, h0⟩ | ⟨g, cap, cur, rfl, hb2, hg, _⟩
  · simp [Value.ownBlock] at hk
  · simp only [Value.ownBlock, Option.some.injEq] at hk
    subst hk
    rw [hb] at hg
    simp only [Option.some.injEq, Obj.cells.injEq] at hg
    exact hne hg.2.1.symm
theorem own_ntype {w : World} {b1 b2 s1 s2 n1 n2 : Nat} {e1 e2 : TypeId} {v1 v2 : Value} {xs ys : List Value} (h1 : w.ownsRow b1 e1 s1 v1 n1 xs) (h2 : w.ownsRow b2 e2 s2 v2 n2 ys) (he : e1 ≠ e2) : ∀ k, v1.ownBlock = some k → v2.ownBlock ≠ some k := by
  intro k hk1 hk2
  rcases h1.2 with ⟨rfl, _⟩ | ⟨g, cap, cur, rfl, _, hg, _⟩
  · simp [Value.ownBlock] at hk1
  rcases h2.2 with ⟨rfl, _⟩ | ⟨g', cap', cur', rfl, _, hg', _⟩
  · simp [Value.ownBlock] at hk2
  simp only [Value.ownBlock, Option.some.injEq] at hk1 hk2
  subst hk1 hk2
  rw [hg] at hg'
  simp only [Option.some.injEq, Obj.cells.injEq] at hg'
  exact he hg'.2.1
theorem own_setn {w : World} {base sz n b j : Nat} {e : TypeId} {v z : Value} {xs : List Value} (h : w.ownsRow base e sz v n xs) (hb : v.ownBlock ≠ some b) : (w.setCell ⟨b, j, none⟩ z).ownsRow base e sz v n xs := by
  refine ⟨h.1, h.2.elim Or.inl ?_⟩
  rintro ⟨g, cap, cur, rfl, hg, hh, r⟩
  have hne : g ≠ b := fun e => hb (by rw [e]; rfl)
  exact Or.inr ⟨g, cap, cur, rfl, hg, by rw [heap_setCell_other _ _ _ _ (by show g ≠ b; exact hne)]; exact hh, r⟩
theorem grown_blk {W w7 : World} {row : Option Nat} (hg : W.grownBy w7 row) {b : Nat} {o : Obj} (hb : W.heap[b]? = some o) (hr : row ≠ some b) : w7.heap[b]? = some o := by
  rw [hg.block b (Array.getElem?_eq_some_iff.1 hb).1 (fun e => hr e.symm)]; exact hb
structure NX (b rs lb bo : Nat) (w0 : World) (ta : Option Addr) (tc : Nat) (T : List TowerT) (la : Option Addr) (lc : Nat) (L : List LinkT) (k : Nat) (w : World) : Prop where
  lo : b < rs
  lbs : rs < lb
  hi : rs < bo
  sz : w0.heap.size ≤ rs
  lbw : lb ≤ w.heap.size
  box : w.heap[bo]? = some (.cells #[.slice ta T.length tc, .slice la L.length lc] 27)
  ownT : w.ownsRow lb 54 3 (.slice ta T.length tc) T.length (T.flatMap encTower)
  ownL : w.ownsRow lb 42 3 (.slice la L.length lc) L.length (L.flatMap encLink)
  res : w.heap[rs]? = some (.cells #[.slice none 0 0, .slice none 0 0] 27)
  cur : Cur w b k
  keep : Keep b (b + 1) w0 w
section
variable {b rs lb bo : Nat} {w0 : World} {ta : Option Addr} {tc : Nat} {T : List TowerT} {la : Option Addr} {lc : Nat} {L : List LinkT} {k : Nat} {w : World}
theorem NX.mono {k' : Nat} (h : NX b rs lb bo w0 ta tc T la lc L k w) (hk : k ≤ k') : NX b rs lb bo w0 ta tc T la lc L k' w := ⟨h.lo, h.lbs, h.hi, h.sz, h.lbw, h.box, h.ownT, h.ownL, h.res, h.cur.mono hk, h.keep⟩
theorem NX.blt (h : NX b rs lb bo w0 ta tc T la lc L k w) : b < w.heap.size := h.cur.lt
theorem NX.bol (h : NX b rs lb bo w0 ta tc T la lc L k w) : bo < w.heap.size := (Array.getElem?_eq_some_iff.1 h.box).1
theorem NX.ext {w' : World} (h : NX b rs lb bo w0 ta tc T la lc L k w) (hx : Ext w w') : NX b rs lb bo w0 ta tc T la lc L k w' :=
  ⟨h.lo, h.lbs, h.hi, h.sz, Nat.le_trans h.lbw hx.size, hx.blk h.box, own_ext h.ownT hx, own_ext h.ownL hx, hx.blk h.res, h.cur.ext hx, h.keep.trans (Keep.of_ext hx)⟩
theorem NX.draw {k' : Nat} {w' : World} (h : NX b rs lb bo w0 ta tc T la lc L k w) (hc : Cur w' b k') (hk : Keep b (b + 1) w w') : NX b rs lb bo w0 ta tc T la lc L k' w' := by
  have h1 := h.lo
  have h2 := h.hi
  have h3 := h.lbs
  exact ⟨h1, h3, h2, h.sz, Nat.le_trans h.lbw hk.size, hk.blk h.box (Or.inr (by omega)), own_kc h.ownT hk (by omega), own_kc h.ownL hk (by omega), hk.blk h.res (Or.inr (by omega)), hc, h.keep.trans hk⟩
theorem keep_grow {w6 : World} {row : Option Nat} (h : NX b rs lb bo w0 ta tc T la lc L k w) (hg : w.grownBy w6 row) (hr : ∀ q, row = some q → rs < q) : Cur w6 b k ∧ Keep b (b + 1) w0 w6 := by
  have h1 := h.lo
  have h3 := h.sz
  refine ⟨h.cur.keep fun i hi => ?_, by rw [hg.os]; exact h.keep.os, by rw [hg.tape]; exact h.keep.tape, by rw [hg.output]; exact h.keep.output, Nat.le_trans h.keep.size hg.size, fun i hi ho => ?_⟩
  · have := h.cur.lt
    exact hg.block i (by omega) (fun e => by have := hr i e.symm; omega)
  · have h4 := h.keep.size
    rw [hg.block i (by omega) (fun e => by have := hr i e.symm; omega)]
    exact h.keep.block i hi ho
/-- The towers have been given anew (an append, or another list), and are stored into the net. -/
theorem NX.pushT {w6 : World} {ta' : Option Addr} {tc' : Nat} {T' : List TowerT} (h : NX b rs lb bo w0 ta tc T la lc L k w)
    (ho : w6.ownsRow lb 54 3 (.slice ta' T'.length tc') T'.length (T'.flatMap encTower)) (hg : w.grownBy w6 (Value.slice ta T.length tc).ownBlock) :
    NX b rs lb bo w0 ta' tc' T' la lc L k (w6.setCell ⟨bo, 0, none⟩ (.slice ta' T'.length tc')) := by
  have h1 := h.lo
  have h2 := h.hi
  have h3 := h.sz
  have h5 := h.lbs
  have hr : ∀ q, (Value.slice ta T.length tc).ownBlock = some q → lb ≤ q := fun q hq => (h.ownT.lt q hq).1
  have hb6 := grown_blk hg h.box (own_nbox h.ownT h.box (by decide))
  have hr6 := grown_blk hg h.res (own_nbox h.ownT h.res (by decide))
  obtain ⟨hc6, hk6⟩ := keep_grow h hg (fun q hq => by have := hr q hq; omega)
  have hL6 : w6.ownsRow lb 42 3 (.slice la L.length lc) L.length (L.flatMap encLink) := by
    refine h.ownL.kept hg ?_
    rcases hq9 : (Value.slice la L.length lc).ownBlock with _ | q9
    · exact Or.inl rfl
    · exact Or.inr (fun e => own_ntype h.ownL h.ownT (by decide) q9 hq9 e.symm)
  refine ⟨h1, h5, h2, h3, ?_, ?_, own_setn ho (own_nbox ho hb6 (by decide)), own_setn hL6 (own_nbox hL6 hb6 (by decide)), ?_, hc6.set 0 _ (by omega), keep_own (base := rs) 0 _ (by omega) hk6 (by omega)⟩
  · have := hg.size; have := h.lbw; simp [World.setCell]; omega
  · rw [heap_setCell_same _ _ _ _ _ _ hb6]; rfl
  · rw [heap_setCell_other _ _ _ _ (by show rs ≠ bo; omega)]; exact hr6
/-- The links have been given anew, and are stored into the net. -/
theorem NX.pushL {w6 : World} {la' : Option Addr} {lc' : Nat} {L' : List LinkT} (h : NX b rs lb bo w0 ta tc T la lc L k w)
    (ho : w6.ownsRow lb 42 3 (.slice la' L'.length lc') L'.length (L'.flatMap encLink)) (hg : w.grownBy w6 (Value.slice la L.length lc).ownBlock) :
    NX b rs lb bo w0 ta tc T la' lc' L' k (w6.setCell ⟨bo, 1, none⟩ (.slice la' L'.length lc')) := by
  have h1 := h.lo
  have h2 := h.hi
  have h3 := h.sz
  have h5 := h.lbs
  have hr : ∀ q, (Value.slice la L.length lc).ownBlock = some q → lb ≤ q := fun q hq => (h.ownL.lt q hq).1
  have hb6 := grown_blk hg h.box (own_nbox h.ownL h.box (by decide))
  have hr6 := grown_blk hg h.res (own_nbox h.ownL h.res (by decide))
  obtain ⟨hc6, hk6⟩ := keep_grow h hg (fun q hq => by have := hr q hq; omega)
  have hT6 : w6.ownsRow lb 54 3 (.slice ta T.length tc) T.length (T.flatMap encTower) := by
    refine h.ownT.kept hg ?_
    rcases hq9 : (Value.slice ta T.length tc).ownBlock with _ | q9
    · exact Or.inl rfl
    · exact Or.inr (fun e => own_ntype h.ownT h.ownL (by decide) q9 hq9 e.symm)
  refine ⟨h1, h5, h2, h3, ?_, ?_, own_setn hT6 (own_nbox hT6 hb6 (by decide)), own_setn ho (own_nbox ho hb6 (by decide)), ?_, hc6.set 1 _ (by omega), keep_own (base := rs) 1 _ (by omega) hk6 (by omega)⟩
  · have := hg.size; have := h.lbw; simp [World.setCell]; omega
  · rw [heap_setCell_same _ _ _ _ _ _ hb6]; rfl
  · rw [heap_setCell_other _ _ _ _ (by show rs ≠ bo; omega)]; exact hr6
/-- One cell of a tower is set. -/
theorem NX.setT {g j : Nat} {v : Value} {T' : List TowerT} (h : NX b rs lb bo w0 (some ⟨g, 0, none⟩) tc T la lc L k w) (hl : T'.length = T.length) (hf : (T.flatMap encTower).set j v = T'.flatMap encTower) :
    NX b rs lb bo w0 (some ⟨g, 0, none⟩) tc T' la lc L k (w.setCell ⟨g, j, none⟩ v) := by
  have h1 := h.lo
  have h2 := h.hi
  have h3 := h.sz
  have h5 := h.lbs
  have hg1 := (h.ownT.lt g rfl).1
  have hgb : bo ≠ g := fun e => own_nbox h.ownT h.box (by decide) (by rw [e]; rfl)
  have h4 := (h.ownT.stored j v).1
  rw [hf] at h4
  exact ⟨h1, h5, h2, h3, by have := h.lbw; simp [World.setCell]; omega, by rw [heap_setCell_other _ _ _ _ (by show bo ≠ g; exact hgb), hl]; exact h.box, by rw [hl]; exact h4,
    own_setn h.ownL (fun e => own_ntype h.ownL h.ownT (by decide) g e rfl), by rw [heap_setCell_other _ _ _ _ (by show rs ≠ g; omega)]; exact h.res, h.cur.set j _ (by omega), keep_own (base := rs) j _ (by omega) h.keep (by omega)⟩
/-- One cell of a link is set. -/
theorem NX.setL {g j : Nat} {v : Value} {L' : List LinkT} (h : NX b rs lb bo w0 ta tc T (some ⟨g, 0, none⟩) lc L k w) (hl : L'.length = L.length) (hf : (L.flatMap encLink).set j v = L'.flatMap encLink) :
    NX b rs lb bo w0 ta tc T (some ⟨g, 0, none⟩) lc L' k (w.setCell ⟨g, j, none⟩ v) := by
  have h1 := h.lo
  have h2 := h.hi
  have h3 := h.sz
  have h5 := h.lbs
  have hg1 := (h.ownL.lt g rfl).1
  have hgb : bo ≠ g := fun e => own_nbox h.ownL h.box (by decide) (by rw [e]; rfl)
  have h4 := (h.ownL.stored j v).1
  rw [hf] at h4
  exact ⟨h1, h5, h2, h3, by have := h.lbw; simp [World.setCell]; omega, by rw [heap_setCell_other _ _ _ _ (by show bo ≠ g; exact hgb), hl]; exact h.box,
    own_setn h.ownT (fun e => own_ntype h.ownT h.ownL (by decide) g e rfl), by rw [hl]; exact h4, by rw [heap_setCell_other _ _ _ _ (by show rs ≠ g; omega)]; exact h.res, h.cur.set j _ (by omega), keep_own (base := rs) j _ (by omega) h.keep (by omega)⟩
/-- The net is stored into the result. -/
theorem NX.fin {w9 : World} (h : NX b rs lb bo w0 ta tc T la lc L k w) (hw : w9 = (w.setCell ⟨rs, 0, none⟩ (.slice ta T.length tc)).setCell ⟨rs, 1, none⟩ (.slice la L.length lc)) :
    w9.heap[rs]? = some (.cells #[.slice ta T.length tc, .slice la L.length lc] 27) ∧ OwnNet w9 w0.heap.size w9.heap.size (.agg #[.slice ta T.length tc, .slice la L.length lc]) (T, L) ∧ Cur w9 b k ∧ Keep b (b + 1) w0 w9 := by
  have h1 := h.lo
  have h2 := h.hi
  have h3 := h.sz
  have h5 := h.lbs
  have g1 : (w.setCell ⟨rs, 0, none⟩ (.slice ta T.length tc)).heap[rs]? = some (.cells #[.slice ta T.length tc, .slice none 0 0] 27) := by rw [heap_setCell_same _ _ _ _ _ _ h.res]; rfl
  subst hw
  have o1 : ((w.setCell ⟨rs, 0, none⟩ (.slice ta T.length tc)).setCell ⟨rs, 1, none⟩ (.slice la L.length lc)).ownsRow w0.heap.size 54 3 (.slice ta T.length tc) T.length (T.flatMap encTower) :=
    own_mono (ownsRow_setCell_below (ownsRow_setCell_below h.ownT (by dsimp only; omega) _) (by dsimp only; omega) _) (by omega)
  have o2 : ((w.setCell ⟨rs, 0, none⟩ (.slice ta T.length tc)).setCell ⟨rs, 1, none⟩ (.slice la L.length lc)).ownsRow w0.heap.size 42 3 (.slice la L.length lc) L.length (L.flatMap encLink) :=
    own_mono (ownsRow_setCell_below (ownsRow_setCell_below h.ownL (by dsimp only; omega) _) (by dsimp only; omega) _) (by omega)
  exact ⟨by rw [heap_setCell_same _ _ _ _ _ _ g1]; rfl, ⟨_, _, rfl, ⟨o1, fun q hq => (o1.lt q hq).2⟩, ⟨o2, fun q hq => (o2.lt q hq).2⟩, own_ntype o1 o2 (by decide)⟩,
    (h.cur.set 0 _ (by omega)).set 1 _ (by omega), keep_own (base := rs) 1 _ (Nat.le_refl _) (keep_own (base := rs) 0 _ (Nat.le_refl _) h.keep (by omega)) (by omega)⟩
theorem NX.atT (h : NX b rs lb bo w0 ta tc T la lc L k w) (hn : 0 < T.length) : ∃ g, ta = some ⟨g, 0, none⟩ ∧ lb ≤ g ∧ g < w.heap.size := by
  rcases h.ownT.2 with ⟨_, h0⟩ | ⟨g, cap, cur, hv, hb, hg, _⟩
  · omega
  · simp only [Value.slice.injEq] at hv
    exact ⟨g, hv.1, hb, (Array.getElem?_eq_some_iff.1 hg).1⟩
theorem NX.atL (h : NX b rs lb bo w0 ta tc T la lc L k w) (hn : 0 < L.length) : ∃ g, la = some ⟨g, 0, none⟩ ∧ lb ≤ g ∧ g < w.heap.size := by
  rcases h.ownL.2 with ⟨_, h0⟩ | ⟨g, cap, cur, hv, hb, hg, _⟩
  · omega
  · simp only [Value.slice.injEq] at hv
    exact ⟨g, hv.1, hb, (Array.getElem?_eq_some_iff.1 hg).1⟩
end
end Go.Proofs.YtmaaeemhbccpcaaGreatDoor
