/- Small notions, memory, slices of ints, what marks turn. -/
import Derived.Test.YtmaaeemhbccpcaaGreatDoorRows
import Derived.WalkKit
import Derived.WalkSpells
import Derived.WalkLawsBesides
import Derived.Deep.LoopGhost
import Derived.Deep.DeepMust
import Derived.Deep.DeepCutAuto
import Derived.BigQuiet
import Derived.Lib.Hide
/- Small notions that all proofs of this seat use: bounds of an int, the test of a range, what is kept of a world. -/
namespace Go.Proofs.YtmaaeemhbccpcaaGreatDoor
open Go.RowKit

/-- An int as Go has it. -/
def I64 (n : Int) : Prop := -9223372036854775808 ≤ n ∧ n ≤ 9223372036854775807
theorem I64.of_wf {n : Int} (h : (Lit.int .i64 n).wf = true) : I64 n := by
  simpa [Lit.wf, IntKind.min, IntKind.max, IntKind.signed, IntKind.bits, I64] using h

/-- n lies in lo..hi. -/
def inB (lo hi n : Int) : Bool := decide (lo ≤ n) && decide (n ≤ hi)
theorem inB_iff {lo hi n : Int} : inB lo hi n = true ↔ lo ≤ n ∧ n ≤ hi := by simp [inB]
theorem inB_t {lo hi n : Int} (h : inB lo hi n = true) : lo ≤ n ∧ n ≤ hi := inB_iff.1 h
theorem inB_f {lo hi n : Int} (h : inB lo hi n = false) : n < lo ∨ hi < n := by
  rcases Int.lt_or_le n lo with a | a
  · exact .inl a
  · rcases Int.lt_or_le hi n with b | b
    · exact .inr b
    · rw [inB_iff.2 ⟨a, b⟩] at h; cases h

/-- What was there is as it was. -/
abbrev Ext (w w' : World) : Prop := Below w.heap.size w w'
theorem Ext.refl (w : World) : Ext w w := Below.refl _ _
theorem Ext.trans {a b c : World} (h : Ext a b) (k : Ext b c) : Ext a c := Below.trans h (k.mono h.size)

theorem mulBd {a b A B : Int} (h1 : 0 ≤ a) (h2 : a ≤ A) (h3 : 0 ≤ b) (h4 : b ≤ B) : 0 ≤ a * b ∧ a * b ≤ A * B :=
  ⟨Int.mul_nonneg h1 h3, Int.mul_le_mul h2 h4 h3 (Int.le_trans h1 h2)⟩

theorem l1In_c (n lo hi : Int) (w : World) :
    Calls Tryz.prog 59 #[.int .i64 n, .int .i64 lo, .int .i64 hi] w fun e w' => e = .returned (.bool (inB lo hi n)) ∧ w = w' := by
  by_cases h1 : lo ≤ n
  all_goals
    go_enter Tryz.func59, Tryz.ntmps59
    go_wp2
    go_ret
    exact ⟨by simp [inB]; omega, rfl⟩
theorem within_c (n lo hi : Int) (w : World) :
    Calls Tryz.prog 39 #[.int .i64 n, .int .i64 lo, .int .i64 hi] w fun e w' => e = .returned (.bool (inB lo hi n)) ∧ w = w' := by
  by_cases h1 : lo ≤ n
  all_goals
    go_enter Tryz.func39, Tryz.ntmps39
    go_wp2
    go_ret
    exact ⟨by simp [inB]; omega, rfl⟩
end Go.Proofs.YtmaaeemhbccpcaaGreatDoor
/- Slices in memory: what it means that a slice value reads as a list, and how that is kept; a region that draws its order and whose callees make blocks at most. -/
namespace Go.Proofs.YtmaaeemhbccpcaaGreatDoor
open Go.RowKit

/-! ### A region that draws its order: reads, and calls that turn nothing that was there -/
/-- The worlds in which all that lay in w lies unturned. -/
def XT (w : World) : Type := { w' : World // Ext w w' }
instance (w : World) : Nonempty (XT w) := ⟨⟨w, Ext.refl w⟩⟩
instance (w : World) : Inhabited (XT w) := ⟨⟨w, Ext.refl w⟩⟩
theorem region_ext {P : Program} {id : Nat} {Q : Exit → Act → World → Prop} {a : Act} {w : World} {l : List Oper} (hm : P.follows .mixedOrders = true) (hB : Region.lexB .any l.toArray = true)
    (h : wpQuiet P l.toArray (fun w' => ∃ u : XT w, w' = u.val) (fun a' => ∀ w', Ext w w' → Q .normal a' w') l a) : (Code.region id l.toArray true).wp P Q a w :=
  wp_region_quiet (C := fun w' => ∃ u : XT w, w' = u.val) hm hB ⟨⟨w.drew, (Below.refl _ _).drew⟩, rfl⟩
    (by
      have h2 : wpQuiet P l.toArray (fun w' => ∃ u : XT w, w' = u.val) (fun a' => ∀ w', (∃ u : XT w, w' = u.val) → Q .normal a' w') l a := by
        have e : (fun a' => ∀ w', Ext w w' → Q .normal a' w') = (fun a' => ∀ w', (∃ u : XT w, w' = u.val) → Q .normal a' w') := by
          funext a'
          apply propext
          constructor
          · intro h w' ⟨u, hu⟩; subst hu; exact h _ u.2
          · intro h w' hw; exact h w' ⟨⟨w', hw⟩, rfl⟩
        rw [← e]; exact h
      simpa using h2)
theorem Calls.ext_of {P : Program} {f : FuncId} {args : Array Value} {w : World} {u : XT w} {v : Value}
    (h : Calls P f args u.val fun e w' => e = .returned v ∧ Ext u.val w') : Calls P f args u.val fun e w'' => e = .returned v ∧ ∃ u' : XT w, w'' = u'.val :=
  h.mono fun _ _ ⟨he, hx⟩ => ⟨he, ⟨⟨_, Ext.trans u.2 hx⟩, rfl⟩⟩
theorem Calls.ext_same {P : Program} {f : FuncId} {args : Array Value} {w : World} {u : XT w} {v : Value}
    (h : Calls P f args u.val fun e w' => e = .returned v ∧ u.val = w') : Calls P f args u.val fun e w'' => e = .returned v ∧ ∃ u' : XT w, w'' = u'.val :=
  h.mono fun _ _ ⟨he, hx⟩ => ⟨he, ⟨u, hx.symm⟩⟩
/-- A cell that was there, in every such world. -/
theorem XT.cell {w : World} {p : Addr} {v : Value} (h : w.cell? p = some v) (u : XT w) : u.val.cell? p = some v :=
  (u.2.cell (World.block_lt_of_cell? w p h)).trans h
theorem Ext.cell {w w' : World} (hx : Ext w w') {p : Addr} {v : Value} (h : w.cell? p = some v) : w'.cell? p = some v :=
  (Below.cell hx (World.block_lt_of_cell? w p h)).trans h
theorem Ext.alloc (w : World) (o : Obj) : Ext w (w.alloc o) := (Below.refl _ _).alloc (Nat.le_refl _) o
theorem Ext.drew (w : World) : Ext w w.drew := (Below.refl _ _).drew
theorem Ext.blk {w w' : World} (hx : Ext w w') {b : Nat} {o : Obj} (h : w.heap[b]? = some o) : w'.heap[b]? = some o :=
  (hx.block b (Array.getElem?_eq_some_iff.1 h).1).trans h

theorem Ext.al {w w' : World} (h : Ext w w') (o : Obj) : Ext w (w'.alloc o) := Below.alloc h h.size o
theorem Ext.dr {w w' : World} (h : Ext w w') : Ext w w'.drew := Below.drew h
theorem Ext.drN {w w' : World} (h : Ext w w') (n : Nat) : Ext w (w'.drewN n) := ⟨h.os, h.tape, h.output, h.size, h.block⟩
theorem Ext.st {w w' : World} (h : Ext w w') {p : Addr} (hp : w.heap.size ≤ p.block) (v : Value) : Ext w (w'.setCell p v) := Below.setCell h hp v
theorem Ext.gr {w w' w'' : World} {row : Option Nat} (h : Ext w w') (hg : w'.grownBy w'' row) (hr : ∀ k, row = some k → w.heap.size ≤ k) : Ext w w'' := Below.grown h hg h.size hr

/-! ### A slice that reads as a list -/
/-- v is a slice that reads as xs: an element x lies in sz cells, enc x; where it is not empty its cells lie in a block from lo on and below hi. -/
def Row {α : Type} (enc : α → List Value) (sz : Nat) (w : World) (lo hi : Nat) (v : Value) (xs : List α) : Prop :=
  ∃ a cap, v = .slice a xs.length cap ∧ xs.length ≤ cap ∧ cap ≤ 9223372036854775807 ∧
    ∃ b off, (0 < xs.length → a = some ⟨b, off, none⟩ ∧ lo ≤ b ∧ b < hi) ∧ ∀ i x j c, xs[i]? = some x → (enc x)[j]? = some c → w.cell? ⟨b, off + i * sz + j, none⟩ = some c
/-- .. whose blocks are kept. -/
theorem Row.keep {α : Type} {enc : α → List Value} {sz : Nat} {w w' : World} {lo hi : Nat} {v : Value} {xs : List α} (h : Row enc sz w lo hi v xs)
    (hk : ∀ k, lo ≤ k → k < hi → w'.heap[k]? = w.heap[k]?) : Row enc sz w' lo hi v xs := by
  obtain ⟨a, cap, rfl, h1, h2, b, off, h3, h4⟩ := h
  refine ⟨a, cap, rfl, h1, h2, b, off, h3, fun i x j c hx hc => ?_⟩
  have hl : i < xs.length := (List.getElem?_eq_some_iff.1 hx).1
  obtain ⟨_, h5, h6⟩ := h3 (by omega)
  rw [World.cell?_of_block (w := w) (hk b h5 h6)]
  exact h4 i x j c hx hc
theorem Row.ext {α : Type} {enc : α → List Value} {sz : Nat} {w w' : World} {lo hi : Nat} {v : Value} {xs : List α} (h : Row enc sz w lo hi v xs) (hx : Ext w w') (hh : hi ≤ w.heap.size) :
    Row enc sz w' lo hi v xs := h.keep fun k _ hk => hx.block k (by omega)
theorem Row.mono {α : Type} {enc : α → List Value} {sz : Nat} {w : World} {lo hi lo' hi' : Nat} {v : Value} {xs : List α} (h : Row enc sz w lo hi v xs) (h1 : lo' ≤ lo) (h2 : hi ≤ hi') :
    Row enc sz w lo' hi' v xs := by
  obtain ⟨a, cap, rfl, r1, r2, b, off, h3, h4⟩ := h
  exact ⟨a, cap, rfl, r1, r2, b, off, fun hp => let ⟨x, y, z⟩ := h3 hp; ⟨x, by omega, by omega⟩, h4⟩
theorem Row.nil {α : Type} (enc : α → List Value) (sz : Nat) (w : World) (lo hi : Nat) : Row enc sz w lo hi (.slice none 0 0) ([] : List α) :=
  ⟨none, 0, rfl, Nat.le_refl _, by omega, 0, 0, fun h => absurd h (by simp), fun i x j c hx => by simp at hx⟩

/-- An int's cell. -/
def encI (n : Int) : List Value := [.int .i64 n]
abbrev Ints (w : World) (lo hi : Nat) (v : Value) (xs : List Int) : Prop := Row encI 1 w lo hi v xs
theorem add_lit1 {b off j : Nat} : (⟨b, off, none⟩ : Addr).add j = ⟨b, off + j, none⟩ := by
  unfold Addr.add; split
  · subst_vars; rfl
  · rfl
theorem flatMap_idx {α : Type} {enc : α → List Value} {sz : Nat} (hen : ∀ x, (enc x).length = sz) : ∀ (xs : List α) (i : Nat) (x : α) (j : Nat) (c : Value),
    xs[i]? = some x → (enc x)[j]? = some c → (xs.flatMap enc)[i * sz + j]? = some c
  | [], i, x, j, c, hx, _ => by simp at hx
  | y :: ys, 0, x, j, c, hx, hc => by
    have hj : j < sz := by rw [← hen x]; exact (List.getElem?_eq_some_iff.1 hc).1
    simp only [List.getElem?_cons_zero, Option.some.injEq] at hx
    subst hx
    rw [List.flatMap_cons, Nat.zero_mul, Nat.zero_add, List.getElem?_append_left (by rw [hen]; exact hj)]
    exact hc
  | y :: ys, i + 1, x, j, c, hx, hc => by
    have hm : (i + 1) * sz = i * sz + sz := Nat.succ_mul i sz
    rw [List.flatMap_cons, List.getElem?_append_right (by rw [hen, hm]; omega), hen, show (i + 1) * sz + j - sz = i * sz + j by rw [hm]; omega]
    exact flatMap_idx hen ys i x j c (by simpa using hx) hc
/-- A row of the call's own reads as the list of its elements. -/
theorem Row.of_own {α : Type} {enc : α → List Value} {sz : Nat} {w : World} {base : Nat} {e : TypeId} {v : Value} {xs : List α} (hen : ∀ x, (enc x).length = sz)
    (h : w.ownsRow base e sz v xs.length (xs.flatMap enc)) : Row enc sz w base w.heap.size v xs := by
  rcases h.2 with ⟨rfl, h0⟩ | ⟨g, cap, cur, rfl, hb, hg, hnc, hcm, hcs, htake⟩
  · have : xs = [] := List.eq_nil_of_length_eq_zero h0
    subst this
    exact Row.nil _ _ _ _ _
  · have hlt : g < w.heap.size := (Array.getElem?_eq_some_iff.1 hg).1
    refine ⟨_, cap, rfl, hnc, by unfold maxLen at hcm; omega, g, 0, fun _ => ⟨rfl, hb, hlt⟩, fun i x j c hx hc => ?_⟩
    have hfl := flatMap_idx hen xs i x j c hx hc
    rw [cell_of_row w g _ cur e (0, 0) hg]
    rw [← htake, List.getElem?_take] at hfl
    split at hfl
    · simpa using hfl
    · cases hfl
/-! ### Lists: one element more -/
theorem take_eq_succ {α : Type} {xs ys : List α} {k : Nat} {x y : α} (h : xs.take k = ys.take k) (hx : xs[k]? = some x) (hy : ys[k]? = some y) (e : x = y) : xs.take (k + 1) = ys.take (k + 1) := by
  rw [List.take_add_one, List.take_add_one, h, hx, hy, e]
theorem take_snoc' {α : Type} {xs : List α} {k : Nat} {x : α} (hx : xs[k]? = some x) : xs.take (k + 1) = xs.take k ++ [x] := by
  rw [List.take_add_one, hx]; rfl
theorem flatMap_snoc {α : Type} {xs : List α} {enc : α → List Value} {k : Nat} {x : α} (hx : xs[k]? = some x) : (xs.take (k + 1)).flatMap enc = (xs.take k).flatMap enc ++ enc x := by
  rw [take_snoc' hx, List.flatMap_append]; simp
theorem take_set1 {L A : List Value} {k : Nat} {a : Value} (h : L.take k = A) (hl : k + 1 ≤ L.length) : (L.set k a).take (k + 1) = A ++ [a] := by
  rw [List.take_add_one, List.getElem?_set_self (by omega), ← h, List.take_set_of_le (Nat.le_refl _)]
  rfl
theorem take_set2 {L A : List Value} {k : Nat} {a b : Value} (h : L.take (k * 2) = A) (hl : k * 2 + 2 ≤ L.length) : ((L.set (k * 2) a).set (k * 2 + 1) b).take ((k + 1) * 2) = A ++ [a, b] := by
  rw [show (k + 1) * 2 = k * 2 + 1 + 1 by omega, take_set1 (take_set1 h (by omega)) (by simp; omega)]
  simp
theorem take_set3 {L A : List Value} {k : Nat} {a b c : Value} (h : L.take (k * 3) = A) (hl : k * 3 + 3 ≤ L.length) :
    (((L.set (k * 3) a).set (k * 3 + 1) b).set (k * 3 + 2) c).take ((k + 1) * 3) = A ++ [a, b, c] := by
  rw [show (k + 1) * 3 = k * 3 + 1 + 1 + 1 by omega, show k * 3 + 2 = k * 3 + 1 + 1 by omega, take_set1 (take_set1 (take_set1 h (by omega)) (by simp; omega)) (by simp; omega)]
  simp
theorem own_mono {w : World} {base base' size n : Nat} {e : TypeId} {v : Value} {xs : List Value} (h : w.ownsRow base e size v n xs) (hb : base' ≤ base) : w.ownsRow base' e size v n xs :=
  ⟨h.1, h.2.elim Or.inl (fun ⟨g, cap, cur, hv, hg, r⟩ => Or.inr ⟨g, cap, cur, hv, Nat.le_trans hb hg, r⟩)⟩
theorem own_ext {w w' : World} {base size n : Nat} {e : TypeId} {v : Value} {xs : List Value} (h : w.ownsRow base e size v n xs) (hx : Ext w w') : w'.ownsRow base e size v n xs := by
  refine ⟨h.1, h.2.elim Or.inl ?_⟩
  rintro ⟨g, cap, cur, hv, hg, hh, r⟩
  exact Or.inr ⟨g, cap, cur, hv, hg, hx.blk hh, r⟩
/-! ### Marks: the numbers from c on -/
def marks (c : Int) (n : Nat) : List Value := (List.range n).map fun i : Nat => .int .i64 (c + (i : Int))
theorem marks_len (c : Int) (n : Nat) : (marks c n).length = n := by simp [marks]
theorem marks_get (c : Int) (n i : Nat) (h : i < n) : (marks c n)[i]? = some (.int .i64 (c + i)) := by simp [marks, h]
theorem marks_add (c : Int) (n m : Nat) : marks c (n + m) = marks c n ++ marks (c + n) m := by
  simp only [marks, List.range_add, List.map_append, List.map_map]
  congr 1
  apply List.map_congr_left
  intro i _
  simp [Int.add_assoc]
theorem marks1 (c : Int) : marks c 1 = [.int .i64 c] := by simp [marks]
theorem marks2 (c : Int) : marks c 2 = [.int .i64 c, .int .i64 (c + 1)] := by simp [marks, List.range_succ]
theorem marks3 (c : Int) : marks c 3 = [.int .i64 c, .int .i64 (c + 1), .int .i64 (c + 2)] := by simp [marks, List.range_succ]
theorem own_form {w : World} {base sz n : Nat} {e : TypeId} {v : Value} {L : List Value} (h : w.ownsRow base e sz v n L) :
    ∃ a cap, v = .slice a n cap ∧ (0 < n → ∃ g, a = some ⟨g, 0, none⟩) ∧ n ≤ cap ∧ cap ≤ 9223372036854775807 := by
  rcases h.2 with ⟨rfl, h0⟩ | ⟨g, cap, cur, rfl, hb, hg, hnc, hcm, _⟩
  · exact ⟨none, 0, by rw [h0], by omega, by omega, by omega⟩
  · exact ⟨some ⟨g, 0, none⟩, cap, rfl, fun _ => ⟨g, rfl⟩, hnc, by unfold maxLen at hcm; omega⟩
theorem grown_trans {a b c : World} {row : Option Nat} (h : a.grownBy b row) (k : b.grownBy c row) : a.grownBy c row :=
  ⟨k.os.trans h.os, k.tape.trans h.tape, k.output.trans h.output, Nat.le_trans h.size k.size, fun i hi hr => (k.block i (Nat.lt_of_lt_of_le hi h.size) hr).trans (h.block i hi hr)⟩
/-! ### A box: the cells of a struct that has been laid -/
theorem box_cell (w : World) (C : Array Value) (t : TypeId) (j : Nat) (v : Value) (h : C[j]? = some v) : (w.alloc (.cells C t)).cell? ⟨w.heap.size, j, none⟩ = some v := by
  rw [World.cell?_alloc_at _ _ _ _ rfl]; exact h
theorem blk_cell {w : World} {b : Nat} {C : Array Value} {t : TypeId} {f : Nat × Nat} (h : w.heap[b]? = some (.cells C t f)) {j : Nat} {v : Value} (hc : C[j]? = some v) : w.cell? ⟨b, j, none⟩ = some v := by
  simp [World.cell?, h, hc]
theorem blk_free {w : World} {b : Nat} {C : Array Value} {t : TypeId} (h : w.heap[b]? = some (.cells C t (0, 0))) (j : Nat) : w.frozen? ⟨b, j, none⟩ = false := by
  simp [World.frozen?, h]
theorem blk_alloc (w : World) (o : Obj) : (w.alloc o).heap[w.heap.size]? = some o := heap_alloc_new w o
theorem blk_old {w : World} {o o' : Obj} {b : Nat} (h : w.heap[b]? = some o) : (w.alloc o').heap[b]? = some o := (Ext.alloc w o').blk h
theorem size_alloc (w : World) (o : Obj) : (w.alloc o).heap.size = w.heap.size + 1 := by simp
theorem blk_alloc2 (w : World) (o o' : Obj) : ((w.alloc o).alloc o').heap[w.heap.size + 1]? = some o' := by
  have h := blk_alloc (w.alloc o) o'
  rwa [size_alloc] at h
theorem blk_alloc3 (w : World) (o o' o'' : Obj) : (((w.alloc o).alloc o').alloc o'').heap[w.heap.size + 2]? = some o'' := by
  have h := blk_alloc ((w.alloc o).alloc o') o''
  rwa [size_alloc, size_alloc] at h
end Go.Proofs.YtmaaeemhbccpcaaGreatDoor
/- The laws' own helpers on slices of ints: copies, equality, marks. -/
namespace Go.Proofs.YtmaaeemhbccpcaaGreatDoor
open Go.RowKit
theorem encI_len (g : Int) : (encI g).length = 1 := rfl
theorem Ints_at {w : World} {lo hi n : Nat} {a : Option Addr} {cap : Nat} {xs : List Int} (h : Ints w lo hi (.slice a n cap) xs) {k : Nat} (hk : k < n) :
    ∃ b off g, a = some ⟨b, off, none⟩ ∧ Hid (xs[k]? = some g) ∧ w.cell? ⟨b, off + k, none⟩ = some (.int .i64 g) := by
  obtain ⟨a', cap', hv, h1, h2, b, off, h3, h4⟩ := h
  simp only [Value.slice.injEq] at hv
  obtain ⟨rfl, rfl, rfl⟩ := hv
  obtain ⟨ha, _, _⟩ := h3 (by omega)
  have hg : xs[k]? = some xs[k] := List.getElem?_eq_getElem hk
  exact ⟨b, off, xs[k], ha, hg, by simpa using h4 k _ 0 _ hg rfl⟩
theorem Tryz.info_Int : (Tryz.prog.info? 3).map (fun i => (i.zero, i.size, i.bytes)) = some (some (.int .i64 0), 1, 8) := by kernel_rfl
end Go.Proofs.YtmaaeemhbccpcaaGreatDoor
/- More small laws on slices of the call's own. -/
namespace Go.Proofs.YtmaaeemhbccpcaaGreatDoor
open Go.RowKit
theorem own_push {w : World} {base : Nat} {e : TypeId} {v : Value} {L : List Int} {k : Int} (h : w.ownsRow base e 1 v (L.length + 1) (L.flatMap encI ++ [.int .i64 k])) :
    w.ownsRow base e 1 v (L ++ [k]).length ((L ++ [k]).flatMap encI) := by
  rw [List.length_append, List.flatMap_append]; exact h
theorem own_pushN {α : Type} {enc : α → List Value} {w : World} {base sz : Nat} {e : TypeId} {v : Value} {L : List α} {k : α} (h : w.ownsRow base e sz v (L.length + 1) (L.flatMap enc ++ enc k)) :
    w.ownsRow base e sz v (L ++ [k]).length ((L ++ [k]).flatMap enc) := by
  rw [List.length_append, List.flatMap_append]
  simpa using h
/-- Behind an append: what was there before the call is as it was. -/
theorem Ext.push {w w2 w3 : World} {base sz n : Nat} {e : TypeId} {v : Value} {xs : List Value} {o : Obj} (hx : Ext w w2) (hown : w2.ownsRow base e sz v n xs) (hg : (w2.alloc o).grownBy w3 v.ownBlock) (hb : w.heap.size ≤ base) : Ext w w3 :=
  (hx.al o).gr hg fun k hk => Nat.le_trans hb (hown.lt k hk).1
theorem new_cells1 (w : World) (x : Value) (t : TypeId) : ∀ j u, ([x] : List Value)[j]? = some u → (w.alloc (.cells #[x] t)).cell? ((⟨w.heap.size, 0, none⟩ : Addr).add j) = some u := by
  intro j u hj
  match j, hj with
  | 0, hj =>
    simp at hj; subst hj
    exact blk_cell (blk_alloc _ _) rfl
end Go.Proofs.YtmaaeemhbccpcaaGreatDoor
/- What a mark turns; slices of ints of the call's own, in a range of blocks. -/
namespace Go.Proofs.YtmaaeemhbccpcaaGreatDoor
open Go.RowKit

/-! ### What a mark turns: blocks of one range alone -/
structure Keep (lo hi : Nat) (w w' : World) : Prop where
  os : w'.os = w.os
  tape : w'.tape = w.tape
  output : w'.output = w.output
  size : w.heap.size ≤ w'.heap.size
  block : ∀ k, k < w.heap.size → (k < lo ∨ hi ≤ k) → w'.heap[k]? = w.heap[k]?
theorem Keep.refl (lo hi : Nat) (w : World) : Keep lo hi w w := ⟨rfl, rfl, rfl, Nat.le_refl _, fun _ _ _ => rfl⟩
theorem Keep.trans {lo hi : Nat} {a b c : World} (h : Keep lo hi a b) (k : Keep lo hi b c) : Keep lo hi a c :=
  ⟨k.os.trans h.os, k.tape.trans h.tape, k.output.trans h.output, Nat.le_trans h.size k.size, fun i hi2 ho => (k.block i (Nat.lt_of_lt_of_le hi2 h.size) ho).trans (h.block i hi2 ho)⟩
theorem Keep.of_ext {lo hi : Nat} {a b : World} (h : Ext a b) : Keep lo hi a b := ⟨h.os, h.tape, h.output, h.size, fun i hi2 _ => h.block i hi2⟩
theorem Keep.of_grown {lo hi : Nat} {a b : World} {row : Option Nat} (h : a.grownBy b row) (hr : ∀ k, row = some k → lo ≤ k ∧ k < hi) : Keep lo hi a b :=
  ⟨h.os, h.tape, h.output, h.size, fun i hi2 ho => h.block i hi2 (fun e => by have := hr i e.symm; omega)⟩
theorem Keep.mono {lo hi lo' hi' : Nat} {a b : World} (h : Keep lo hi a b) (h1 : lo' ≤ lo) (h2 : hi ≤ hi') : Keep lo' hi' a b :=
  ⟨h.os, h.tape, h.output, h.size, fun i hi2 ho => h.block i hi2 (by omega)⟩
theorem Ext.keep {lo hi : Nat} {a b c : World} (h : Ext a b) (k : Keep lo hi b c) (hl : a.heap.size ≤ lo) : Ext a c :=
  ⟨k.os.trans h.os, k.tape.trans h.tape, k.output.trans h.output, Nat.le_trans h.size k.size, fun i hi2 => (k.block i (Nat.lt_of_lt_of_le hi2 h.size) (by omega)).trans (h.block i hi2)⟩
theorem own_keep {lo hi base sz n : Nat} {w w' : World} {e : TypeId} {v : Value} {xs : List Value} (h : w.ownsRow base e sz v n xs) (hk : Keep lo hi w w') (hd : ∀ k, v.ownBlock = some k → k < lo ∨ hi ≤ k) : w'.ownsRow base e sz v n xs := by
  refine ⟨h.1, h.2.elim Or.inl ?_⟩
  rintro ⟨g, cap, cur, hv, hg, hh, r⟩
  refine Or.inr ⟨g, cap, cur, hv, hg, ?_, r⟩
  rw [hk.block g (Array.getElem?_eq_some_iff.1 hh).1 (hd g (by rw [hv]; rfl))]
  exact hh
theorem Keep.blk {lo hi : Nat} {w w' : World} (hk : Keep lo hi w w') {b : Nat} {o : Obj} (h : w.heap[b]? = some o) (hd : b < lo ∨ hi ≤ b) : w'.heap[b]? = some o :=
  (hk.block b (Array.getElem?_eq_some_iff.1 h).1 hd).trans h
theorem XT.prop {w : World} (u : XT w) : Ext w u.val := u.2

/-- A slice of ints of the call's own, in a block from lo on and below hi. -/
structure OwnI (w : World) (lo hi : Nat) (v : Value) (xs : List Int) : Prop where
  own : w.ownsRow lo 3 1 v xs.length (xs.flatMap encI)
  lt : ∀ k, v.ownBlock = some k → k < hi
theorem OwnI.of {w : World} {lo : Nat} {v : Value} {xs : List Int} (h : w.ownsRow lo 3 1 v xs.length (xs.flatMap encI)) : OwnI w lo w.heap.size v xs := ⟨h, fun k hk => (h.lt k hk).2⟩
theorem OwnI.ext {w w' : World} {lo hi : Nat} {v : Value} {xs : List Int} (h : OwnI w lo hi v xs) (hx : Ext w w') : OwnI w' lo hi v xs := ⟨own_ext h.own hx, h.lt⟩
theorem OwnI.keepd {w w' : World} {lo hi lo2 hi2 : Nat} {v : Value} {xs : List Int} (h : OwnI w lo hi v xs) (hk : Keep lo2 hi2 w w') (hd : hi ≤ lo2 ∨ hi2 ≤ lo) : OwnI w' lo hi v xs :=
  ⟨own_keep h.own hk (fun k e => by have := (h.own.lt k e).1; have := h.lt k e; omega), h.lt⟩
theorem OwnI.read {w : World} {lo hi : Nat} {v : Value} {xs : List Int} (h : OwnI w lo hi v xs) : Ints w lo hi v xs := by
  obtain ⟨a, cap, e, h1, h2, b, off, h3, h4⟩ := Row.of_own encI_len h.own
  refine ⟨a, cap, e, h1, h2, b, off, fun hp => ?_, h4⟩
  obtain ⟨e1, e2, _⟩ := h3 hp
  exact ⟨e1, e2, h.lt b (by rw [e, e1]; rfl)⟩
theorem OwnI.form {w : World} {lo hi : Nat} {v : Value} {xs : List Int} (h : OwnI w lo hi v xs) : ∃ a cap, v = .slice a xs.length cap ∧ xs.length ≤ cap ∧ cap ≤ 9223372036854775807 := by
  obtain ⟨a, cap, e, h1, h2, _⟩ := h.read
  exact ⟨a, cap, e, h1, h2⟩
theorem Ints.form {w : World} {lo hi : Nat} {v : Value} {xs : List Int} (h : Ints w lo hi v xs) : ∃ a cap, v = .slice a xs.length cap ∧ xs.length ≤ cap ∧ cap ≤ 9223372036854775807 := by
  obtain ⟨a, cap, rfl, h2, h3, _⟩ := h
  exact ⟨a, cap, rfl, h2, h3⟩
/-- .. that has been marked. -/
structure MarkI (w : World) (lo hi : Nat) (v : Value) (n : Nat) : Prop where
  own : w.ownsRow lo 3 1 v n (marks 1 (n * 1))
  lt : ∀ k, v.ownBlock = some k → k < hi
theorem MarkI.ext {w w' : World} {lo hi : Nat} {v : Value} {n : Nat} (h : MarkI w lo hi v n) (hx : Ext w w') : MarkI w' lo hi v n := ⟨own_ext h.own hx, h.lt⟩

end Go.Proofs.YtmaaeemhbccpcaaGreatDoor
