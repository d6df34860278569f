/- Slices in memory: what it means that a slice value reads as a list, and how that is kept; a region that draws its order and whose callees make blocks at most. -/
import Derived.Test.YtmaaeemhbccpcaaDoorLib
namespace Go.Proofs.YtmaaeemhbccpcaaDoor
open Go.RowKit

/-! ### A region that draws its order: reads, and calls that turn nothing that was there -/
/-- The worlds in which all that lay in w lies unturned. -/
def XT (w : World) : Type := { w' : World // Ext w w' }
instance (w : World) : Nonempty (XT w) := ⟨⟨w, Ext.refl w⟩⟩
instance (w : World) : Inhabited (XT w) := ⟨⟨w, Ext.refl w⟩⟩
theorem region_ext {P : Program} {id : Nat} {Q : Exit → Act → World → Prop} {a : Act} {w : World} {l : List Oper} (hm : P.follows .mixedOrders = true) (hB : Region.lexB .any l.toArray = true)
    (h : wpQuiet P l.toArray (fun w' => ∃ u : XT w, w' = u.val) (fun a' => ∀ w', Ext w w' → Q .normal a' w') l a) : (Code.region id l.toArray true).wp P Q a w :=
  wp_region_quiet (C := fun w' => ∃ u : XT w, w' = u.val) hm hB ⟨⟨w.drew, (Below.refl _ _).drew⟩, rfl⟩
    (by
      have h2 : wpQuiet P l.toArray (fun w' => ∃ u : XT w, w' = u.val) (fun a' => ∀ w', (∃ u : XT w, w' = u.val) → Q .normal a' w') l a := by
        have e : (fun a' => ∀ w', Ext w w' → Q .normal a' w') = (fun a' => ∀ w', (∃ u : XT w, w' = u.val) → Q .normal a' w') := by
          funext a'
          apply propext
          constructor
          · intro h w' ⟨u, hu⟩; subst hu; exact h _ u.2
          · intro h w' hw; exact h w' ⟨⟨w', hw⟩, rfl⟩
        rw [← e]; exact h
      simpa using h2)
theorem Calls.ext_of {P : Program} {f : FuncId} {args : Array Value} {w : World} {u : XT w} {v : Value}
    (h : Calls P f args u.val fun e w' => e = .returned v ∧ Ext u.val w') : Calls P f args u.val fun e w'' => e = .returned v ∧ ∃ u' : XT w, w'' = u'.val :=
  h.mono fun _ _ ⟨he, hx⟩ => ⟨he, ⟨⟨_, Ext.trans u.2 hx⟩, rfl⟩⟩
theorem Calls.ext_same {P : Program} {f : FuncId} {args : Array Value} {w : World} {u : XT w} {v : Value}
    (h : Calls P f args u.val fun e w' => e = .returned v ∧ u.val = w') : Calls P f args u.val fun e w'' => e = .returned v ∧ ∃ u' : XT w, w'' = u'.val :=
  h.mono fun _ _ ⟨he, hx⟩ => ⟨he, ⟨u, hx.symm⟩⟩
/-- A cell that was there, in every such world. -/
theorem XT.cell {w : World} {p : Addr} {v : Value} (h : w.cell? p = some v) (u : XT w) : u.val.cell? p = some v :=
  (u.2.cell (World.block_lt_of_cell? w p h)).trans h
theorem Ext.cell {w w' : World} (hx : Ext w w') {p : Addr} {v : Value} (h : w.cell? p = some v) : w'.cell? p = some v :=
  (Below.cell hx (World.block_lt_of_cell? w p h)).trans h
theorem Ext.alloc (w : World) (o : Obj) : Ext w (w.alloc o) := (Below.refl _ _).alloc (Nat.le_refl _) o
theorem Ext.drew (w : World) : Ext w w.drew := (Below.refl _ _).drew
theorem Ext.blk {w w' : World} (hx : Ext w w') {b : Nat} {o : Obj} (h : w.heap[b]? = some o) : w'.heap[b]? = some o :=
  (hx.block b (Array.getElem?_eq_some_iff.1 h).1).trans h

theorem Ext.al {w w' : World} (h : Ext w w') (o : Obj) : Ext w (w'.alloc o) := Below.alloc h h.size o
theorem Ext.dr {w w' : World} (h : Ext w w') : Ext w w'.drew := Below.drew h
theorem Ext.drN {w w' : World} (h : Ext w w') (n : Nat) : Ext w (w'.drewN n) := ⟨h.os, h.tape, h.output, h.size, h.block⟩
theorem Ext.st {w w' : World} (h : Ext w w') {p : Addr} (hp : w.heap.size ≤ p.block) (v : Value) : Ext w (w'.setCell p v) := Below.setCell h hp v
theorem Ext.gr {w w' w'' : World} {row : Option Nat} (h : Ext w w') (hg : w'.grownBy w'' row) (hr : ∀ k, row = some k → w.heap.size ≤ k) : Ext w w'' := Below.grown h hg h.size hr

/-! ### A slice that reads as a list -/
/-- v is a slice that reads as xs: an element x lies in sz cells, enc x; where it is not empty its cells lie in a block from lo on and below hi. -/
def Row {α : Type} (enc : α → List Value) (sz : Nat) (w : World) (lo hi : Nat) (v : Value) (xs : List α) : Prop :=
  ∃ a cap, v = .slice a xs.length cap ∧ xs.length ≤ cap ∧ cap ≤ 9223372036854775807 ∧
    ∃ b off, (0 < xs.length → a = some ⟨b, off, none⟩ ∧ lo ≤ b ∧ b < hi) ∧ ∀ i x j c, xs[i]? = some x → (enc x)[j]? = some c → w.cell? ⟨b, off + i * sz + j, none⟩ = some c
/-- .. whose blocks are kept. -/
theorem Row.keep {α : Type} {enc : α → List Value} {sz : Nat} {w w' : World} {lo hi : Nat} {v : Value} {xs : List α} (h : Row enc sz w lo hi v xs)
    (hk : ∀ k, lo ≤ k → k < hi → w'.heap[k]? = w.heap[k]?) : Row enc sz w' lo hi v xs := by
  obtain ⟨a, cap, rfl, h1, h2, b, off, h3, h4⟩ := h
  refine ⟨a, cap, rfl, h1, h2, b, off, h3, fun i x j c hx hc => ?_⟩
  have hl : i < xs.length := (List.getElem?_eq_some_iff.1 hx).1
  obtain ⟨_, h5, h6⟩ := h3 (by omega)
  rw [World.cell?_of_block (w := w) (hk b h5 h6)]
  exact h4 i x j c hx hc
theorem Row.ext {α : Type} {enc : α → List Value} {sz : Nat} {w w' : World} {lo hi : Nat} {v : Value} {xs : List α} (h : Row enc sz w lo hi v xs) (hx : Ext w w') (hh : hi ≤ w.heap.size) :
    Row enc sz w' lo hi v xs := h.keep fun k _ hk => hx.block k (by omega)
theorem Row.mono {α : Type} {enc : α → List Value} {sz : Nat} {w : World} {lo hi lo' hi' : Nat} {v : Value} {xs : List α} (h : Row enc sz w lo hi v xs) (h1 : lo' ≤ lo) (h2 : hi ≤ hi') :
    Row enc sz w lo' hi' v xs := by
  obtain ⟨a, cap, rfl, r1, r2, b, off, h3, h4⟩ := h
  exact ⟨a, cap, rfl, r1, r2, b, off, fun hp => let ⟨x, y, z⟩ := h3 hp; ⟨x, by omega, by omega⟩, h4⟩
theorem Row.nil {α : Type} (enc : α → List Value) (sz : Nat) (w : World) (lo hi : Nat) : Row enc sz w lo hi (.slice none 0 0) ([] : List α) :=
  ⟨none, 0, rfl, Nat.le_refl _, by omega, 0, 0, fun h => absurd h (by simp), fun i x j c hx => by simp at hx⟩

/-- An int's cell. -/
def encI (n : Int) : List Value := [.int .i64 n]
abbrev Ints (w : World) (lo hi : Nat) (v : Value) (xs : List Int) : Prop := Row encI 1 w lo hi v xs
theorem add_lit1 {b off j : Nat} : (⟨b, off, none⟩ : Addr).add j = ⟨b, off + j, none⟩ := by
  unfold Addr.add; split
  · subst_vars; rfl
  · rfl
theorem flatMap_idx {α : Type} {enc : α → List Value} {sz : Nat} (hen : ∀ x, (enc x).length = sz) : ∀ (xs : List α) (i : Nat) (x : α) (j : Nat) (c : Value),
    xs[i]? = some x → (enc x)[j]? = some c → (xs.flatMap enc)[i * sz + j]? = some c
  | [], i, x, j, c, hx, _ => by simp at hx
  | y :: ys, 0, x, j, c, hx, hc => by
    have hj : j < sz := by rw [← hen x]; exact (List.getElem?_eq_some_iff.1 hc).1
    simp only [List.getElem?_cons_zero, Option.some.injEq] at hx
    subst hx
    rw [List.flatMap_cons, Nat.zero_mul, Nat.zero_add, List.getElem?_append_left (by rw [hen]; exact hj)]
    exact hc
  | y :: ys, i + 1, x, j, c, hx, hc => by
    have hm : (i + 1) * sz = i * sz + sz := Nat.succ_mul i sz
    rw [List.flatMap_cons, List.getElem?_append_right (by rw [hen, hm]; omega), hen, show (i + 1) * sz + j - sz = i * sz + j by rw [hm]; omega]
    exact flatMap_idx hen ys i x j c (by simpa using hx) hc
/-- A row of the call's own reads as the list of its elements. -/
theorem Row.of_own {α : Type} {enc : α → List Value} {sz : Nat} {w : World} {base : Nat} {e : TypeId} {v : Value} {xs : List α} (hen : ∀ x, (enc x).length = sz)
    (h : w.ownsRow base e sz v xs.length (xs.flatMap enc)) : Row enc sz w base w.heap.size v xs := by
  rcases h.2 with ⟨rfl, h0⟩ | ⟨g, cap, cur, rfl, hb, hg, hnc, hcm, hcs, htake⟩
  · have : xs = [] := List.eq_nil_of_length_eq_zero h0
    subst this
    exact Row.nil _ _ _ _ _
  · have hlt : g < w.heap.size := (Array.getElem?_eq_some_iff.1 hg).1
    refine ⟨_, cap, rfl, hnc, by unfold maxLen at hcm; omega, g, 0, fun _ => ⟨rfl, hb, hlt⟩, fun i x j c hx hc => ?_⟩
    have hfl := flatMap_idx hen xs i x j c hx hc
    rw [cell_of_row w g _ cur e (0, 0) hg]
    rw [← htake, List.getElem?_take] at hfl
    split at hfl
    · simpa using hfl
    · cases hfl
/-! ### Lists: one element more -/
theorem take_eq_succ {α : Type} {xs ys : List α} {k : Nat} {x y : α} (h : xs.take k = ys.take k) (hx : xs[k]? = some x) (hy : ys[k]? = some y) (e : x = y) : xs.take (k + 1) = ys.take (k + 1) := by
  rw [List.take_add_one, List.take_add_one, h, hx, hy, e]
theorem take_snoc' {α : Type} {xs : List α} {k : Nat} {x : α} (hx : xs[k]? = some x) : xs.take (k + 1) = xs.take k ++ [x] := by
  rw [List.take_add_one, hx]; rfl
theorem flatMap_snoc {α : Type} {xs : List α} {enc : α → List Value} {k : Nat} {x : α} (hx : xs[k]? = some x) : (xs.take (k + 1)).flatMap enc = (xs.take k).flatMap enc ++ enc x := by
  rw [take_snoc' hx, List.flatMap_append]; simp
theorem take_set1 {L A : List Value} {k : Nat} {a : Value} (h : L.take k = A) (hl : k + 1 ≤ L.length) : (L.set k a).take (k + 1) = A ++ [a] := by
  rw [List.take_add_one, List.getElem?_set_self (by omega), ← h, List.take_set_of_le (Nat.le_refl _)]
  rfl
theorem take_set2 {L A : List Value} {k : Nat} {a b : Value} (h : L.take (k * 2) = A) (hl : k * 2 + 2 ≤ L.length) : ((L.set (k * 2) a).set (k * 2 + 1) b).take ((k + 1) * 2) = A ++ [a, b] := by
  rw [show (k + 1) * 2 = k * 2 + 1 + 1 by omega, take_set1 (take_set1 h (by omega)) (by simp; omega)]
  simp
theorem take_set3 {L A : List Value} {k : Nat} {a b c : Value} (h : L.take (k * 3) = A) (hl : k * 3 + 3 ≤ L.length) :
    (((L.set (k * 3) a).set (k * 3 + 1) b).set (k * 3 + 2) c).take ((k + 1) * 3) = A ++ [a, b, c] := by
  rw [show (k + 1) * 3 = k * 3 + 1 + 1 + 1 by omega, show k * 3 + 2 = k * 3 + 1 + 1 by omega, take_set1 (take_set1 (take_set1 h (by omega)) (by simp; omega)) (by simp; omega)]
  simp
theorem own_mono {w : World} {base base' size n : Nat} {e : TypeId} {v : Value} {xs : List Value} (h : w.ownsRow base e size v n xs) (hb : base' ≤ base) : w.ownsRow base' e size v n xs :=
  ⟨h.1, h.2.elim Or.inl (fun ⟨g, cap, cur, hv, hg, r⟩ => Or.inr ⟨g, cap, cur, hv, Nat.le_trans hb hg, r⟩)⟩
theorem own_ext {w w' : World} {base size n : Nat} {e : TypeId} {v : Value} {xs : List Value} (h : w.ownsRow base e size v n xs) (hx : Ext w w') : w'.ownsRow base e size v n xs := by
  refine ⟨h.1, h.2.elim Or.inl ?_⟩
  rintro ⟨g, cap, cur, hv, hg, hh, r⟩
  exact Or.inr ⟨g, cap, cur, hv, hg, hx.blk hh, r⟩
/-! ### Marks: the numbers from c on -/
def marks (c : Int) (n : Nat) : List Value := (List.range n).map fun i : Nat => .int .i64 (c + (i : Int))
theorem marks_len (c : Int) (n : Nat) : (marks c n).length = n := by simp [marks]
theorem marks_get (c : Int) (n i : Nat) (h : i < n) : (marks c n)[i]? = some (.int .i64 (c + i)) := by simp [marks, h]
theorem marks_add (c : Int) (n m : Nat) : marks c (n + m) = marks c n ++ marks (c + n) m := by
  simp only [marks, List.range_add, List.map_append, List.map_map]
  congr 1
  apply List.map_congr_left
  intro i _
  simp [Int.add_assoc]
theorem marks1 (c : Int) : marks c 1 = [.int .i64 c] := by simp [marks]
theorem marks2 (c : Int) : marks c 2 = [.int .i64 c, .int .i64 (c + 1)] := by simp [marks, List.range_succ]
theorem marks3 (c : Int) : marks c 3 = [.int .i64 c, .int .i64 (c + 1), .int .i64 (c + 2)] := by simp [marks, List.range_succ]
theorem own_form {w : World} {base sz n : Nat} {e : TypeId} {v : Value} {L : List Value} (h : w.ownsRow base e sz v n L) :
    ∃ a cap, v = .slice a n cap ∧ (0 < n → ∃ g, a = some ⟨g, 0, none⟩) ∧ n ≤ cap ∧ cap ≤ 9223372036854775807 := by
  rcases h.2 with ⟨rfl, h0⟩ | ⟨g, cap, cur, rfl, hb, hg, hnc, hcm, _⟩
  · exact ⟨none, 0, by rw [h0], by omega, by omega, by omega⟩
  · exact ⟨some ⟨g, 0, none⟩, cap, rfl, fun _ => ⟨g, rfl⟩, hnc, by unfold maxLen at hcm; omega⟩
theorem grown_trans {a b c : World} {row : Option Nat} (h : a.grownBy b row) (k : b.grownBy c row) : a.grownBy c row :=
  ⟨k.os.trans h.os, k.tape.trans h.tape, k.output.trans h.output, Nat.le_trans h.size k.size, fun i hi hr => (k.block i (Nat.lt_of_lt_of_le hi h.size) hr).trans (h.block i hi hr)⟩
/-! ### A box: the cells of a struct that has been laid -/
theorem box_cell (w : World) (C : Array Value) (t : TypeId) (j : Nat) (v : Value) (h : C[j]? = some v) : (w.alloc (.cells C t)).cell? ⟨w.heap.size, j, none⟩ = some v := by
  rw [World.cell?_alloc_at _ _ _ _ rfl]; exact h
theorem blk_cell {w : World} {b : Nat} {C : Array Value} {t : TypeId} {f : Nat × Nat} (h : w.heap[b]? = some (.cells C t f)) {j : Nat} {v : Value} (hc : C[j]? = some v) : w.cell? ⟨b, j, none⟩ = some v := by
  simp [World.cell?, h, hc]
theorem blk_free {w : World} {b : Nat} {C : Array Value} {t : TypeId} (h : w.heap[b]? = some (.cells C t (0, 0))) (j : Nat) : w.frozen? ⟨b, j, none⟩ = false := by
  simp [World.frozen?, h]
theorem blk_alloc (w : World) (o : Obj) : (w.alloc o).heap[w.heap.size]? = some o := heap_alloc_new w o
theorem blk_old {w : World} {o o' : Obj} {b : Nat} (h : w.heap[b]? = some o) : (w.alloc o').heap[b]? = some o := (Ext.alloc w o').blk h
theorem size_alloc (w : World) (o : Obj) : (w.alloc o).heap.size = w.heap.size + 1 := by simp
theorem blk_alloc2 (w : World) (o o' : Obj) : ((w.alloc o).alloc o').heap[w.heap.size + 1]? = some o' := by
  have h := blk_alloc (w.alloc o) o'
  rwa [size_alloc] at h
theorem blk_alloc3 (w : World) (o o' o'' : Obj) : (((w.alloc o).alloc o').alloc o'').heap[w.heap.size + 2]? = some o'' := by
  have h := blk_alloc ((w.alloc o).alloc o') o''
  rwa [size_alloc, size_alloc] at h
end Go.Proofs.YtmaaeemhbccpcaaDoor
