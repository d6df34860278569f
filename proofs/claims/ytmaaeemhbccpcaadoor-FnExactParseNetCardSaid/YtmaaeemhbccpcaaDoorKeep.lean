
/- What a mark turns; slices of ints of the call's own, in a range of blocks. -/
import Derived.Test.YtmaaeemhbccpcaaDoorMem2
namespace Go.Proofs.YtmaaeemhbccpcaaDoor
open Go.RowKit

/-! ### What a mark turns: blocks of one range alone -/
structure Keep (lo hi : Nat) (w w' : World) : Prop where
  os : w'.os = w.os
  tape : w'.tape = w.tape
  output : w'.output = w.output
  size : w.heap.size ≤ w'.heap.size
  block : ∀ k, k < w.heap.size → (k < lo ∨ hi ≤ k) → w'.heap[k]? = w.heap[k]?
theorem Keep.refl (lo hi : Nat) (w : World) : Keep lo hi w w := ⟨rfl, rfl, rfl, Nat.le_refl _, fun _ _ _ => rfl⟩
theorem Keep.trans {lo hi : Nat} {a b c : World} (h : Keep lo hi a b) (k : Keep lo hi b c) : Keep lo hi a c :=
  ⟨k.os.trans h.os, k.tape.trans h.tape, k.output.trans h.output, Nat.le_trans h.size k.size, fun i hi2 ho => (k.block i (Nat.lt_of_lt_of_le hi2 h.size) ho).trans (h.block i hi2 ho)⟩
theorem Keep.of_ext {lo hi : Nat} {a b : World} (h : Ext a b) : Keep lo hi a b := ⟨h.os, h.tape, h.output, h.size, fun i hi2 _ => h.block i hi2⟩
theorem Keep.of_grown {lo hi : Nat} {a b : World} {row : Option Nat} (h : a.grownBy b row) (hr : ∀ k, row = some k → lo ≤ k ∧ k < hi) : Keep lo hi a b :=
  ⟨h.os, h.tape, h.output, h.size, fun i hi2 ho => h.block i hi2 (fun e => by have := hr i e.symm; omega)⟩
theorem Keep.mono {lo hi lo' hi' : Nat} {a b : World} (h : Keep lo hi a b) (h1 : lo' ≤ lo) (h2 : hi ≤ hi') : Keep lo' hi' a b :=
  ⟨h.os, h.tape, h.output, h.size, fun i hi2 ho => h.block i hi2 (by omega)⟩
theorem Ext.keep {lo hi : Nat} {a b c : World} (h : Ext a b) (k : Keep lo hi b c) (hl : a.heap.size ≤ lo) : Ext a c :=
  ⟨k.os.trans h.os, k.tape.trans h.tape, k.output.trans h.output, Nat.le_trans h.size k.size, fun i hi2 => (k.block i (Nat.lt_of_lt_of_le hi2 h.size) (by omega)).trans (h.block i hi2)⟩
theorem own_keep {lo hi base sz n : Nat} {w w' : World} {e : TypeId} {v : Value} {xs : List Value} (h : w.ownsRow base e sz v n xs) (hk : Keep lo hi w w') (hd : ∀ k, v.ownBlock = some k → k < lo ∨ hi ≤ k) : w'.ownsRow base e sz v n xs := by
  refine ⟨h.1, h.2.elim Or.inl ?_⟩
  rintro ⟨g, cap, cur, hv, hg, hh, r⟩
  refine Or.inr ⟨g, cap, cur, hv, hg, ?_, r⟩
  rw [hk.block g (Array.getElem?_eq_some_iff.1 hh).1 (hd g (by rw [hv]; rfl))]
  exact hh
theorem Keep.blk {lo hi : Nat} {w w' : World} (hk : Keep lo hi w w') {b : Nat} {o : Obj} (h : w.heap[b]? = some o) (hd : b < lo ∨ hi ≤ b) : w'.heap[b]? = some o :=
  (hk.block b (Array.getElem?_eq_some_iff.1 h).1 hd).trans h
theorem XT.prop {w : World} (u : XT w) : Ext w u.val := u.2

/-- A slice of ints of the call's own, in a block from lo on and below hi. -/
structure OwnI (w : World) (lo hi : Nat) (v : Value) (xs : List Int) : Prop where
  own : w.ownsRow lo 3 1 v xs.length (xs.flatMap encI)
  lt : ∀ k, v.ownBlock = some k → k < hi
theorem OwnI.of {w : World} {lo : Nat} {v : Value} {xs : List Int} (h : w.ownsRow lo 3 1 v xs.length (xs.flatMap encI)) : OwnI w lo w.heap.size v xs := ⟨h, fun k hk => (h.lt k hk).2⟩
theorem OwnI.ext {w w' : World} {lo hi : Nat} {v : Value} {xs : List Int} (h : OwnI w lo hi v xs) (hx : Ext w w') : OwnI w' lo hi v xs := ⟨own_ext h.own hx, h.lt⟩
theorem OwnI.keepd {w w' : World} {lo hi lo2 hi2 : Nat} {v : Value} {xs : List Int} (h : OwnI w lo hi v xs) (hk : Keep lo2 hi2 w w') (hd : hi ≤ lo2 ∨ hi2 ≤ lo) : OwnI w' lo hi v xs :=
  ⟨own_keep h.own hk (fun k e => by have := (h.own.lt k e).1; have := h.lt k e; omega), h.lt⟩
theorem OwnI.read {w : World} {lo hi : Nat} {v : Value} {xs : List Int} (h : OwnI w lo hi v xs) : Ints w lo hi v xs := by
  obtain ⟨a, cap, e, h1, h2, b, off, h3, h4⟩ := Row.of_own encI_len h.own
  refine ⟨a, cap, e, h1, h2, b, off, fun hp => ?_, h4⟩
  obtain ⟨e1, e2, _⟩ := h3 hp
  exact ⟨e1, e2, h.lt b (by rw [e, e1]; rfl)⟩
theorem OwnI.form {w : World} {lo hi : Nat} {v : Value} {xs : List Int} (h : OwnI w lo hi v xs) : ∃ a cap, v = .slice a xs.length cap ∧ xs.length ≤ cap ∧ cap ≤ 9223372036854775807 := by
  obtain ⟨a, cap, e, h1, h2, _⟩ := h.read
  exact ⟨a, cap, e, h1, h2⟩
theorem Ints.form {w : World} {lo hi : Nat} {v : Value} {xs : List Int} (h : Ints w lo hi v xs) : ∃ a cap, v = .slice a xs.length cap ∧ xs.length ≤ cap ∧ cap ≤ 9223372036854775807 := by
  obtain ⟨a, cap, rfl, h2, h3, _⟩ := h
  exact ⟨a, cap, rfl, h2, h3⟩
/-- .. that has been marked. -/
structure MarkI (w : World) (lo hi : Nat) (v : Value) (n : Nat) : Prop where
  own : w.ownsRow lo 3 1 v n (marks 1 (n * 1))
  lt : ∀ k, v.ownBlock = some k → k < hi
theorem MarkI.ext {w w' : World} {lo hi : Nat} {v : Value} {n : Nat} (h : MarkI w lo hi v n) (hx : Ext w w') : MarkI w' lo hi v n := ⟨own_ext h.own hx, h.lt⟩

end Go.Proofs.YtmaaeemhbccpcaaDoor
