
/- A sight under way: its box, its grounds, the box of the result, the cursor. Lists that are written out. Two operations that may come up. -/
import Derived.Test.YtnoagmjajhlmjaaRev
namespace Go.Proofs.Ytnoagmjajhlmjaa
open Go.RowKit
section
variable {P : Program} {ops : Array Oper} {Q : Exit → Act → World → Prop} {md : Region.Mode} {S : World → Prop}
/-- Two may come up. -/
theorem wpAnyE_two {i j : Nat} {oi oj : Oper} {k : Nat} {listed : Array Bool} {a : Act} {w : World} (hr : Region.ready md ops listed = [i, j]) (hoi : ops[i]? = some oi) (hoj : ops[j]? = some oj)
    (hi : ∀ K : Act → World → Prop, (∀ a w, (¬ waitsAll md ops i → S w) → wpAnyE P md ops Q S k (listed.setIfInBounds i true) a w → K a w) → if Region.wanted oi (yielded ops a.tmps) = true then Oper.wp P oi a w K Q else K (a.put oi.dst undef) w)
    (hj : ∀ K : Act → World → Prop, (∀ a w, (¬ waitsAll md ops j → S w) → wpAnyE P md ops Q S k (listed.setIfInBounds j true) a w → K a w) → if Region.wanted oj (yielded ops a.tmps) = true then Oper.wp P oj a w K Q else K (a.put oj.dst undef) w) :
    wpAnyE P md ops Q S (k + 1) listed a w := by
  refine ⟨fun h0 => (by rw [h0] at hr; cases hr), fun q hq => ?_⟩
  rw [hr] at hq
  rcases List.mem_cons.1 hq with rfl | hq
  · exact wpOp_step hoi (fun K hK => hi K (fun a w h1 h2 => hK a w ⟨h1, h2⟩))
  · rcases List.mem_singleton.1 hq with rfl
    exact wpOp_step hoj (fun K hK => hj K (fun a w h1 h2 => hK a w ⟨h1, h2⟩))
end
/-- A list of ints that is written out, in a block of its own behind the cursor. -/
def LitI (w : World) (b p : Nat) (xs : List Int) : Prop := b < p ∧ p + 1 ≤ w.heap.size ∧ Ints w p (p + 1) (.slice (some ⟨p, 0, none⟩) xs.length xs.length) xs
theorem LitI.new (w : World) (b : Nat) (xs : List Int) (hb : b < w.heap.size) (hl : xs.length ≤ 1000) : LitI (w.alloc (.cells (xs.map (Value.int .i64)).toArray 3)) b w.heap.size xs :=
  ⟨hb, by simp, _, _, rfl, Nat.le_refl _, by omega, w.heap.size, 0, fun _ => ⟨rfl, Nat.le_refl _, by omega⟩, fun i x j c hx hc => by
    have e1 : j = 0 ∧ c = .int .i64 x := by
      cases j with
      | zero => simp [encI] at hc; exact ⟨rfl, hc.symm⟩
      | succ j => simp [encI] at hc
    obtain ⟨rfl, rfl⟩ := e1
    refine blk_cell (blk_alloc _ _) ?_
    simp [hx]⟩
theorem LitI.ext {w w' : World} {b p : Nat} {xs : List Int} (h : LitI w b p xs) (hx : Ext w w') : LitI w' b p xs :=
  ⟨h.1, Nat.le_trans h.2.1 hx.size, h.2.2.ext hx h.2.1⟩
theorem LitI.draw {w w' : World} {b p : Nat} {xs : List Int} (h : LitI w b p xs) (hk : Keep b (b + 1) w w') : LitI w' b p xs :=
  ⟨h.1, Nat.le_trans h.2.1 hk.size, h.2.2.keep fun j h1 h2 => hk.block j (by have := h.2.1; omega) (by have := h.1; omega)⟩
theorem c_amongP (b k p : Nat) (xs : List Int) (lo hi : Int) (w : World) (h : Cur w b k) (hk : k ≤ 999000) (hp : LitI w b p xs) (h0 : 0 < xs.length) (hl : xs.length ≤ 1000) (hb : ∀ x ∈ xs, lo ≤ x ∧ x ≤ hi) :
    Calls Try.prog 49 #[.pointer (some ⟨b, 0, none⟩), .slice (some ⟨p, 0, none⟩) xs.length xs.length] w (DrawI b (k + 2) lo hi w) :=
  c_among b k _ p (p + 1) xs lo hi w h hk hp.2.2 hp.1 hp.2.1 h0 hl hb
theorem flat_setG1 : ∀ (gs : List GroundT) (i : Nat) (g : GroundT) (x : Int), gs[i]? = some g → (gs.flatMap encGround).set (i * 2) (.int .i64 x) = (gs.set i (x, g.2)).flatMap encGround
  | [], i, g, x, h => by simp at h
  | y :: r, 0, g, x, h => by simp at h; subst h; simp [encGround]
  | y :: r, i + 1, g, x, h => by
    have := flat_setG1 r i g x (by simpa using h)
    rw [show (i + 1) * 2 = i * 2 + 1 + 1 by omega]
    simp only [List.flatMap_cons, encGround, List.set_cons_succ, List.cons_append, List.nil_append]
    rw [this]
theorem flat_setG2 : ∀ (gs : List GroundT) (i : Nat) (g : GroundT) (x : Int), gs[i]? = some g → (gs.flatMap encGround).set (i * 2 + 1) (.int .i64 x) = (gs.set i (g.1, x)).flatMap encGround
  | [], i, g, x, h => by simp at h
  | y :: r, 0, g, x, h => by simp at h; subst h; simp [encGround]
  | y :: r, i + 1, g, x, h => by
    have := flat_setG2 r i g x (by simpa using h)
    rw [show (i + 1) * 2 + 1 = i * 2 + 1 + 1 + 1 by omega]
    simp only [List.flatMap_cons, encGround, List.set_cons_succ, List.cons_append, List.nil_append]
    rw [this]
structure SX (b rs bo : Nat) (w0 : World) (D A B : Int) (a : Option Addr) (c : Nat) (gs : List GroundT) (k : Nat) (w : World) : Prop where
  lo : b < rs
  hi : rs < bo
  sz : w0.heap.size ≤ rs
  box : w.heap[bo]? = some (.cells #[.int .i64 D, .int .i64 A, .int .i64 B, .slice a gs.length c] 28)
  own : w.ownsRow (bo + 1) 61 2 (.slice a gs.length c) gs.length (gs.flatMap encGround)
  res : w.heap[rs]? = some (.cells #[.int .i64 0, .int .i64 0, .int .i64 0, .slice none 0 0] 28)
  cur : Cur w b k
  keep : Keep b (b + 1) w0 w
section
variable {b rs bo : Nat} {w0 : World} {D A B : Int} {a : Option Addr} {c : Nat} {gs : List GroundT} {k : Nat} {w : World}
theorem SX.mono {k' : Nat} (h : SX b rs bo w0 D A B a c gs k w) (hk : k ≤ k') : SX b rs bo w0 D A B a c gs k' w := ⟨h.lo, h.hi, h.sz, h.box, h.own, h.res, h.cur.mono hk, h.keep⟩
theorem SX.blt (h : SX b rs bo w0 D A B a c gs k w) : b < w.heap.size := h.cur.lt
theorem SX.bol (h : SX b rs bo w0 D A B a c gs k w) : bo < w.heap.size := (Array.getElem?_eq_some_iff.1 h.box).1
theorem SX.ext {w' : World} (h : SX b rs bo w0 D A B a c gs k w) (hx : Ext w w') : SX b rs bo w0 D A B a c gs k w' :=
  ⟨h.lo, h.hi, h.sz, hx.blk h.box, own_ext h.own hx, hx.blk h.res, h.cur.ext hx, h.keep.trans (Keep.of_ext hx)⟩
theorem SX.draw {k' : Nat} {w' : World} (h : SX b rs bo w0 D A B a c gs k w) (hc : Cur w' b k') (hk : Keep b (b + 1) w w') : SX b rs bo w0 D A B a c gs k' w' := by
  have h1 := h.lo
  have h2 := h.hi
  exact ⟨h1, h2, h.sz, hk.blk h.box (Or.inr (by omega)), own_kc h.own hk (by omega), hk.blk h.res (Or.inr (by omega)), hc, h.keep.trans hk⟩
theorem SX.set0 (h : SX b rs bo w0 D A B a c gs k w) (x : Int) : SX b rs bo w0 x A B a c gs k (w.setCell ⟨bo, 0, none⟩ (.int .i64 x)) := by
  have h1 := h.lo
  have h2 := h.hi
  have h3 := h.sz
  exact ⟨h1, h2, h3, by rw [heap_setCell_same _ _ _ _ _ _ h.box]; rfl, ownsRow_setCell_below h.own (by exact Nat.lt_succ_self bo) _, by rw [heap_setCell_other _ _ _ _ (by show rs ≠ bo; omega)]; exact h.res, h.cur.set 0 _ (by omega), keep_own (base := bo) 0 _ (Nat.le_refl _) h.keep (by omega)⟩
theorem SX.set1 (h : SX b rs bo w0 D A B a c gs k w) (x : Int) : SX b rs bo w0 D x B a c gs k (w.setCell ⟨bo, 1, none⟩ (.int .i64 x)) := by
  have h1 := h.lo
  have h2 := h.hi
  have h3 := h.sz
  exact ⟨h1, h2, h3, by rw [heap_setCell_same _ _ _ _ _ _ h.box]; rfl, ownsRow_setCell_below h.own (by exact Nat.lt_succ_self bo) _, by rw [heap_setCell_other _ _ _ _ (by show rs ≠ bo; omega)]; exact h.res, h.cur.set 1 _ (by omega), keep_own (base := bo) 1 _ (Nat.le_refl _) h.keep (by omega)⟩
theorem SX.set2 (h : SX b rs bo w0 D A B a c gs k w) (x : Int) : SX b rs bo w0 D A x a c gs k (w.setCell ⟨bo, 2, none⟩ (.int .i64 x)) := by
  have h1 := h.lo
  have h2 := h.hi
  have h3 := h.sz
  exact ⟨h1, h2, h3, by rw [heap_setCell_same _ _ _ _ _ _ h.box]; rfl, ownsRow_setCell_below h.own (by exact Nat.lt_succ_self bo) _, by rw [heap_setCell_other _ _ _ _ (by show rs ≠ bo; omega)]; exact h.res, h.cur.set 2 _ (by omega), keep_own (base := bo) 2 _ (Nat.le_refl _) h.keep (by omega)⟩
theorem SX.setG {g j : Nat} {v : Value} {gs' : List GroundT} (h : SX b rs bo w0 D A B (some ⟨g, 0, none⟩) c gs k w) (hg : bo + 1 ≤ g) (hl : gs'.length = gs.length) (hf : (gs.flatMap encGround).set j v = gs'.flatMap encGround) :
    SX b rs bo w0 D A B (some ⟨g, 0, none⟩) c gs' k (w.setCell ⟨g, j, none⟩ v) := by
  have h1 := h.lo
  have h2 := h.hi
  have h3 := h.sz
  have h4 := (h.own.stored j v).1
  rw [hf] at h4
  exact ⟨h1, h2, h3, by rw [heap_setCell_other _ _ _ _ (by show bo ≠ g; omega), hl]; exact h.box, by rw [hl]; exact h4, by rw [heap_setCell_other _ _ _ _ (by show rs ≠ g; omega)]; exact h.res, h.cur.set j _ (by omega), keep_own (base := bo) j _ (by omega) h.keep (by omega)⟩
theorem SX.push {w6 : World} {a8 : Option Addr} {c8 : Nat} {x y : Int} (h : SX b rs bo w0 D A B a c gs k w)
    (ho : w6.ownsRow (bo + 1) 61 2 (.slice a8 (gs.length + 1) c8) (gs.length + 1) (gs.flatMap encGround ++ [.int .i64 x, .int .i64 y])) (hg : w.grownBy w6 (Value.slice a gs.length c).ownBlock) :
    SX b rs bo w0 D A B a8 c8 (gs ++ [(x, y)]) k (w6.setCell ⟨bo, 3, none⟩ (.slice a8 (gs.length + 1) c8)) := by
  have h1 := h.lo
  have h2 := h.hi
  have h3 := h.sz
  have hr : ∀ q, (Value.slice a gs.length c).ownBlock = some q → bo < q := fun q hq => (h.own.lt q hq).1
  have hb6 := grown_old hg h.box (fun e => by have := hr bo e; omega)
  have hl : (gs ++ [(x, y)]).length = gs.length + 1 := by simp
  rw [ground_snoc gs (x, y)] at ho
  have hk6 : Keep b (b + 1) w0 w6 := ⟨by rw [hg.os]; exact h.keep.os, by rw [hg.tape]; exact h.keep.tape, by rw [hg.output]; exact h.keep.output, Nat.le_trans h.keep.size hg.size, fun i hi ho => by
    have h4 := h.keep.size
    rw [hg.block i (by omega) (fun e => by have := hr i e.symm; omega)]
    exact h.keep.block i hi ho⟩
  have hc6 : Cur w6 b k := h.cur.keep fun i hi => by
    have := h.cur.lt
    exact hg.block i (by omega) (fun e => by have := hr i e.symm; omega)
  refine ⟨h1, h2, h3, ?_, ?_, ?_, hc6.set 3 _ (by omega), keep_own (base := bo) 3 _ (Nat.le_refl _) hk6 (by omega)⟩
  · rw [heap_setCell_same _ _ _ _ _ _ hb6, hl]; rfl
  · rw [hl]; exact ownsRow_setCell_below ho (by exact Nat.lt_succ_self bo) _
  · rw [heap_setCell_other _ _ _ _ (by show rs ≠ bo; omega)]
    exact grown_old hg h.res (fun e => by have := hr rs e; omega)
theorem SX.fin {w9 : World} (h : SX b rs bo w0 D A B a c gs k w) (hrs : rs = w0.heap.size)
    (hw : w9 = (((w.setCell ⟨rs, 0, none⟩ (.int .i64 D)).setCell ⟨rs, 1, none⟩ (.int .i64 A)).setCell ⟨rs, 2, none⟩ (.int .i64 B)).setCell ⟨rs, 3, none⟩ (.slice a gs.length c)) :
    w9.heap[rs]? = some (.cells #[.int .i64 D, .int .i64 A, .int .i64 B, .slice a gs.length c] 28) ∧
    w9.ownsRow w0.heap.size 61 2 (.slice a gs.length c) gs.length (gs.flatMap encGround) ∧ Cur w9 b k ∧ Keep b (b + 1) w0 w9 := by
  have h1 := h.lo
  have h2 := h.hi
  have h3 := h.sz
  have g1 : (w.setCell ⟨rs, 0, none⟩ (.int .i64 D)).heap[rs]? = some (.cells #[.int .i64 D, .int .i64 0, .int .i64 0, .slice none 0 0] 28) := by rw [heap_setCell_same _ _ _ _ _ _ h.res]; rfl
  have g2 : ((w.setCell ⟨rs, 0, none⟩ (.int .i64 D)).setCell ⟨rs, 1, none⟩ (.int .i64 A)).heap[rs]? = some (.cells #[.int .i64 D, .int .i64 A, .int .i64 0, .slice none 0 0] 28) := by rw [heap_setCell_same _ _ _ _ _ _ g1]; rfl
  have g3 : (((w.setCell ⟨rs, 0, none⟩ (.int .i64 D)).setCell ⟨rs, 1, none⟩ (.int .i64 A)).setCell ⟨rs, 2, none⟩ (.int .i64 B)).heap[rs]? = some (.cells #[.int .i64 D, .int .i64 A, .int .i64 B, .slice none 0 0] 28) := by rw [heap_setCell_same _ _ _ _ _ _ g2]; rfl
  subst hw
  refine ⟨by rw [heap_setCell_same _ _ _ _ _ _ g3]; rfl, ?_, (((h.cur.set 0 _ (by omega)).set 1 _ (by omega)).set 2 _ (by omega)).set 3 _ (by omega), ?_⟩
  · refine own_mono (base := bo + 1) ?_ (by omega)
    exact ownsRow_setCell_below (ownsRow_setCell_below (ownsRow_setCell_below (ownsRow_setCell_below h.own (by dsimp only; omega) _) (by dsimp only; omega) _) (by dsimp only; omega) _) (by dsimp only; omega) _
  · exact keep_own (base := rs) 3 _ (Nat.le_refl _) (keep_own (base := rs) 2 _ (Nat.le_refl _) (keep_own (base := rs) 1 _ (Nat.le_refl _) (keep_own (base := rs) 0 _ (Nat.le_refl _) h.keep (by omega)) (by omega)) (by omega)) (by omega)
theorem SX.at0 (h : SX b rs bo w0 D A B a c gs k w) (hn : 0 < gs.length) : ∃ g, a = some ⟨g, 0, none⟩ ∧ bo + 1 ≤ g ∧ g < w.heap.size := by
  rcases h.own.2 with ⟨_, h0⟩ | ⟨g, cap, cur, hv, hb, hg, _⟩
  · omega
  · simp only [Value.slice.injEq] at hv
    exact ⟨g, hv.1, hb, (Array.getElem?_eq_some_iff.1 hg).1⟩
end
end Go.Proofs.Ytnoagmjajhlmjaa
