
/- A net under way, without a cursor: its box, its towers, its links. -/
import Derived.Test.YtmaaeemhbccpcaaGreatDoorNet
import Derived.Test.YtmaaeemhbccpcaaGreatDoorGG
import Derived.Test.YtmaaeemhbccpcaaGreatDoorAnyE
namespace Go.Proofs.YtmaaeemhbccpcaaGreatDoor
open Go.RowKit
set_option linter.unusedVariables false
theorem ownY_nbox {w : World} {base sz n b : Nat} {e t : TypeId} {v : Value} {xs : List Value} {C : Array Value} (hown : w.ownsRow base e sz v n xs) (hb : w.heap[b]? = some (.cells C t (0, 0))) (hne : e ≠ t) : v.ownBlock ≠ some b := by
  intro hk
  rcases hown.2 with ⟨rfl, h0⟩ | ⟨g, cap, cur, rfl, hb2, hg, _⟩
  · simp [Value.ownBlock] at hk
  · simp only [Value.ownBlock, Option.some.injEq] at hk
    subst hk
    rw [hb] at hg
    simp only [Option.some.injEq, Obj.cells.injEq] at hg
    exact hne hg.2.1.symm
theorem ownY_ntype {w : World} {b1 b2 s1 s2 n1 n2 : Nat} {e1 e2 : TypeId} {v1 v2 : Value} {xs ys : List Value} (h1 : w.ownsRow b1 e1 s1 v1 n1 xs) (h2 : w.ownsRow b2 e2 s2 v2 n2 ys) (he : e1 ≠ e2) : ∀ k, v1.ownBlock = some k → v2.ownBlock ≠ some k := by
  intro k hk1 hk2
  rcases h1.2 with ⟨rfl, _⟩ | ⟨g, cap, cur, rfl, _, hg, _⟩
  · simp [Value.ownBlock] at hk1
  rcases h2.2 with ⟨rfl, _⟩ | ⟨g', cap', cur', rfl, _, hg', _⟩
  · simp [Value.ownBlock] at hk2
  simp only [Value.ownBlock, Option.some.injEq] at hk1 hk2
  subst hk1 hk2
  rw [hg] at hg'
  simp only [Option.some.injEq, Obj.cells.injEq] at hg'
  exact he hg'.2.1
theorem ownY_setn {w : World} {base sz n b j : Nat} {e : TypeId} {v z : Value} {xs : List Value} (h : w.ownsRow base e sz v n xs) (hb : v.ownBlock ≠ some b) : (w.setCell ⟨b, j, none⟩ z).ownsRow base e sz v n xs := by
  refine ⟨h.1, h.2.elim Or.inl ?_⟩
  rintro ⟨g, cap, cur, rfl, hg, hh, r⟩
  have hne : g ≠ b := fun e => hb (by rw [e]; rfl)
  exact Or.inr ⟨g, cap, cur, rfl, hg, by rw [heap_setCell_other _ _ _ _ (by show g ≠ b; exact hne)]; exact hh, r⟩
theorem grownY_blk {W w7 : World} {row : Option Nat} (hg : W.grownBy w7 row) {b : Nat} {o : Obj} (hb : W.heap[b]? = some o) (hr : row ≠ some b) : w7.heap[b]? = some o := by
  rw [hg.block b (Array.getElem?_eq_some_iff.1 hb).1 (fun e => hr e.symm)]; exact hb
theorem keepY_cell {lo hi : Nat} {w w' : World} (hk : Keep lo hi w w') {p : Addr} {v : Value} (h : w.cell? p = some v) (hd : p.block < lo ∨ hi ≤ p.block) : w'.cell? p = some v := by
  rw [World.cell?_of_block (w := w) (hk.block p.block (World.block_lt_of_cell? w p h) hd)]
  exact h
theorem keepY_set {b j : Nat} {v : Value} {w0 w : World} (h : Keep b (b + 1) w0 w) : Keep b (b + 1) w0 (w.setCell ⟨b, j, none⟩ v) :=
  ⟨h.os, h.tape, h.output, by simpa [World.setCell] using h.size, fun i hi ho => by
    rw [heap_setCell_other _ _ _ _ (by show i ≠ b; omega)]; exact h.block i hi ho⟩
theorem flatY_T (T : List TowerT) (x : TowerT) : (T ++ [x]).flatMap encTower = T.flatMap encTower ++ [.int .i64 x.1, .int .i64 x.2.1, .int .i64 x.2.2] := by simp [encTower]
theorem flatY_L (T : List LinkT) (x : LinkT) : (T ++ [x]).flatMap encLink = T.flatMap encLink ++ [.int .i64 x.1, .int .i64 x.2.1, .int .i64 x.2.2] := by simp [encLink]
theorem newY_cells3 (w : World) (x y z : Value) (t : TypeId) : ∀ j u, ([x, y, z] : List Value)[j]? = some u → (w.alloc (.cells #[x, y, z] t)).cell? ((⟨w.heap.size, 0, none⟩ : Addr).add j) = some u := by
  intro j u hj
  match j, hj with
  | 0, hj => exact blk_cell (blk_alloc _ _) (by simpa using hj)
  | 1, hj => exact blk_cell (blk_alloc _ _) (by simpa using hj)
  | 2, hj => exact blk_cell (blk_alloc _ _) (by simpa using hj)
  | j + 3, hj => simp at hj
structure NY (lb bo : Nat) (w0 : World) (ta : Option Addr) (tc : Nat) (T : List TowerT) (la : Option Addr) (lc : Nat) (L : List LinkT) (w : World) : Prop where
  bol : bo < lb
  sz : w0.heap.size ≤ lb
  lbw : lb ≤ w.heap.size
  box : w.heap[bo]? = some (.cells #[.slice ta T.length tc, .slice la L.length lc] 27)
  ownT : w.ownsRow lb 54 3 (.slice ta T.length tc) T.length (T.flatMap encTower)
  ownL : w.ownsRow lb 42 3 (.slice la L.length lc) L.length (L.flatMap encLink)
  keep : Keep bo (bo + 1) w0 w
section
variable {lb bo : Nat} {w0 : World} {ta : Option Addr} {tc : Nat} {T : List TowerT} {la : Option Addr} {lc : Nat} {L : List LinkT} {w : World}
theorem NY.bolw (h : NY lb bo w0 ta tc T la lc L w) : bo < w.heap.size := (Array.getElem?_eq_some_iff.1 h.box).1
theorem NY.ext {w' : World} (h : NY lb bo w0 ta tc T la lc L w) (hx : Ext w w') : NY lb bo w0 ta tc T la lc L w' :=
  ⟨h.bol, h.sz, Nat.le_trans h.lbw hx.size, hx.blk h.box, own_ext h.ownT hx, own_ext h.ownL hx, h.keep.trans (Keep.of_ext hx)⟩
theorem NY.grow {w6 : World} {row : Option Nat} (h : NY lb bo w0 ta tc T la lc L w) (hg : w.grownBy w6 row) (hr : ∀ q, row = some q → lb ≤ q) : Keep bo (bo + 1) w0 w6 := by
  have h1 := h.bol
  have h3 := h.sz
  have h4 := h.keep.size
  exact ⟨by rw [hg.os]; exact h.keep.os, by rw [hg.tape]; exact h.keep.tape, by rw [hg.output]; exact h.keep.output, Nat.le_trans h.keep.size hg.size, fun i hi ho => by
    rw [hg.block i (by omega) (fun e => by have := hr i e.symm; omega)]
    exact h.keep.block i hi ho⟩
/-- The towers have been given anew, and are stored into the net. -/
theorem NY.pushT {w6 : World} {ta' : Option Addr} {tc' : Nat} {T' : List TowerT} (h : NY lb bo w0 ta tc T la lc L w)
    (ho : w6.ownsRow lb 54 3 (.slice ta' T'.length tc') T'.length (T'.flatMap encTower)) (hg : w.grownBy w6 (Value.slice ta T.length tc).ownBlock) :
    NY lb bo w0 ta' tc' T' la lc L (w6.setCell ⟨bo, 0, none⟩ (.slice ta' T'.length tc')) := by
  have hr : ∀ q, (Value.slice ta T.length tc).ownBlock = some q → lb ≤ q := fun q hq => (h.ownT.lt q hq).1
  have hb6 := grownY_blk hg h.box (ownY_nbox h.ownT h.box (by decide))
  have hk6 := h.grow hg hr
  have hL6 : w6.ownsRow lb 42 3 (.slice la L.length lc) L.length (L.flatMap encLink) := by
    refine h.ownL.kept hg ?_
    rcases hq9 : (Value.slice la L.length lc).ownBlock with _ | q9
    · exact Or.inl rfl
    · exact Or.inr (fun e => ownY_ntype h.ownL h.ownT (by decide) q9 hq9 e.symm)
  refine ⟨h.bol, h.sz, ?_, ?_, ownY_setn ho (ownY_nbox ho hb6 (by decide)), ownY_setn hL6 (ownY_nbox hL6 hb6 (by decide)), keepY_set hk6⟩
  · have := hg.size; have := h.lbw; simp [World.setCell]; omega
  · rw [heap_setCell_same _ _ _ _ _ _ hb6]; rfl
/-- The links have been given anew, and are stored into the net. -/
theorem NY.pushL {w6 : World} {la' : Option Addr} {lc' : Nat} {L' : List LinkT} (h : NY lb bo w0 ta tc T la lc L w)
    (ho : w6.ownsRow lb 42 3 (.slice la' L'.length lc') L'.length (L'.flatMap encLink)) (hg : w.grownBy w6 (Value.slice la L.length lc).ownBlock) :
    NY lb bo w0 ta tc T la' lc' L' (w6.setCell ⟨bo, 1, none⟩ (.slice la' L'.length lc')) := by
  have hr : ∀ q, (Value.slice la L.length lc).ownBlock = some q → lb ≤ q := fun q hq => (h.ownL.lt q hq).1
  have hb6 := grownY_blk hg h.box (ownY_nbox h.ownL h.box (by decide))
  have hk6 := h.grow hg hr
  have hT6 : w6.ownsRow lb 54 3 (.slice ta T.length tc) T.length (T.flatMap encTower) := by
    refine h.ownT.kept hg ?_
    rcases hq9 : (Value.slice ta T.length tc).ownBlock with _ | q9
    · exact Or.inl rfl
    · exact Or.inr (fun e => ownY_ntype h.ownT h.ownL (by decide) q9 hq9 e.symm)
  refine ⟨h.bol, h.sz, ?_, ?_, ownY_setn hT6 (ownY_nbox hT6 hb6 (by decide)), ownY_setn ho (ownY_nbox ho hb6 (by decide)), keepY_set hk6⟩
  · have := hg.size; have := h.lbw; simp [World.setCell]; omega
  · rw [heap_setCell_same _ _ _ _ _ _ hb6]; rfl
theorem NY.own (h : NY lb bo w0 ta tc T la lc L w) : OwnNet w lb w.heap.size (.agg #[.slice ta T.length tc, .slice la L.length lc]) (T, L) :=
  ⟨_, _, rfl, ⟨h.ownT, fun q hq => (h.ownT.lt q hq).2⟩, ⟨h.ownL, fun q hq => (h.ownL.lt q hq).2⟩, ownY_ntype h.ownT h.ownL (by decide)⟩
/-- The cells of a box in w0, other than the net's, are as they were. -/
theorem NY.old {p : Addr} {v : Value} (h : NY lb bo w0 ta tc T la lc L w) (hp : w0.cell? p = some v) (hd : p.block < bo) : w.cell? p = some v := keepY_cell h.keep hp (Or.inl hd)
end
end Go.Proofs.YtmaaeemhbccpcaaGreatDoor
