
/- Towers, links and nets: how they read; the laws' own helpers on them: sizes, copies, equality, marks. -/
import Derived.Test.YtmaaeemhbccpcaaGreatDoorGA
import Derived.Deep.RegionHeld3
namespace Go.Proofs.YtmaaeemhbccpcaaGreatDoor
open Go.RowKit
/-- Tower: its cells are its fields. -/
abbrev TowerT := Int × Int × Int
def encTower (g : TowerT) : List Value := [.int .i64 g.1, .int .i64 g.2.1, .int .i64 g.2.2]
theorem encTower_len (g : TowerT) : (encTower g).length = 3 := rfl
abbrev Towers (w : World) (lo hi : Nat) (v : Value) (xs : List TowerT) : Prop := Row encTower 3 w lo hi v xs
theorem Towers_at {w : World} {lo hi n : Nat} {a : Option Addr} {cap : Nat} {xs : List TowerT} (h : Towers w lo hi (.slice a n cap) xs) {k : Nat} (hk : k < n) :
    ∃ b off g, a = some ⟨b, off, none⟩ ∧ Hid (xs[k]? = some g) ∧ w.cell? ⟨b, off + k * 3, none⟩ = some (.int .i64 g.1) ∧ w.cell? ⟨b, off + k * 3 + 1, none⟩ = some (.int .i64 g.2.1) ∧ w.cell? ⟨b, off + k * 3 + 2, none⟩ = some (.int .i64 g.2.2) := by
  obtain ⟨a', cap', hv, h1, h2, b, off, h3, h4⟩ := h
  simp only [Value.slice.injEq] at hv
  obtain ⟨rfl, rfl, rfl⟩ := hv
  obtain ⟨ha, _, _⟩ := h3 (by omega)
  have hg : xs[k]? = some xs[k] := List.getElem?_eq_getElem hk
  exact ⟨b, off, xs[k], ha, hg, h4 k _ 0 _ hg rfl, h4 k _ 1 _ hg rfl, h4 k _ 2 _ hg rfl⟩
theorem Tryz.info_Tower : (Tryz.prog.info? 54).map (fun i => (i.zero, i.size, i.bytes)) = some (some (.agg #[.int .i64 0, .int .i64 0, .int .i64 0]), 3, 24) := by kernel_rfl
/-- Link: its cells are its fields. -/
abbrev LinkT := Int × Int × Int
def encLink (g : LinkT) : List Value := [.int .i64 g.1, .int .i64 g.2.1, .int .i64 g.2.2]
theorem encLink_len (g : LinkT) : (encLink g).length = 3 := rfl
abbrev Links (w : World) (lo hi : Nat) (v : Value) (xs : List LinkT) : Prop := Row encLink 3 w lo hi v xs
theorem Links_at {w : World} {lo hi n : Nat} {a : Option Addr} {cap : Nat} {xs : List LinkT} (h : Links w lo hi (.slice a n cap) xs) {k : Nat} (hk : k < n) :
    ∃ b off g, a = some ⟨b, off, none⟩ ∧ Hid (xs[k]? = some g) ∧ w.cell? ⟨b, off + k * 3, none⟩ = some (.int .i64 g.1) ∧ w.cell? ⟨b, off + k * 3 + 1, none⟩ = some (.int .i64 g.2.1) ∧ w.cell? ⟨b, off + k * 3 + 2, none⟩ = some (.int .i64 g.2.2) := by
  obtain ⟨a', cap', hv, h1, h2, b, off, h3, h4⟩ := h
  simp only [Value.slice.injEq] at hv
  obtain ⟨rfl, rfl, rfl⟩ := hv
  obtain ⟨ha, _, _⟩ := h3 (by omega)
  have hg : xs[k]? = some xs[k] := List.getElem?_eq_getElem hk
  exact ⟨b, off, xs[k], ha, hg, h4 k _ 0 _ hg rfl, h4 k _ 1 _ hg rfl, h4 k _ 2 _ hg rfl⟩
theorem Tryz.info_Link : (Tryz.prog.info? 42).map (fun i => (i.zero, i.size, i.bytes)) = some (some (.agg #[.int .i64 0, .int .i64 0, .int .i64 0]), 3, 24) := by kernel_rfl

/-- A slice of the call's own, in a block from lo on and below hi. -/
structure OwnG {α : Type} (enc : α → List Value) (sz : Nat) (e : TypeId) (w : World) (lo hi : Nat) (v : Value) (xs : List α) : Prop where
  own : w.ownsRow lo e sz v xs.length (xs.flatMap enc)
  lt : ∀ k, v.ownBlock = some k → k < hi
theorem OwnG.of {α : Type} {enc : α → List Value} {sz : Nat} {e : TypeId} {w : World} {lo : Nat} {v : Value} {xs : List α} (h : w.ownsRow lo e sz v xs.length (xs.flatMap enc)) : OwnG enc sz e w lo w.heap.size v xs := ⟨h, fun k hk => (h.lt k hk).2⟩
theorem OwnG.ext {α : Type} {enc : α → List Value} {sz : Nat} {e : TypeId} {w w' : World} {lo hi : Nat} {v : Value} {xs : List α} (h : OwnG enc sz e w lo hi v xs) (hx : Ext w w') : OwnG enc sz e w' lo hi v xs := ⟨own_ext h.own hx, h.lt⟩
theorem OwnG.mono {α : Type} {enc : α → List Value} {sz : Nat} {e : TypeId} {w : World} {lo hi lo' hi' : Nat} {v : Value} {xs : List α} (h : OwnG enc sz e w lo hi v xs) (h1 : lo' ≤ lo) (h2 : hi ≤ hi') : OwnG enc sz e w lo' hi' v xs := ⟨own_mono h.own h1, fun k hk => Nat.lt_of_lt_of_le (h.lt k hk) h2⟩
theorem OwnG.keepd {α : Type} {enc : α → List Value} {sz : Nat} {e : TypeId} {w w' : World} {lo hi lo2 hi2 : Nat} {v : Value} {xs : List α} (h : OwnG enc sz e w lo hi v xs) (hk : Keep lo2 hi2 w w') (hd : hi ≤ lo2 ∨ hi2 ≤ lo) : OwnG enc sz e w' lo hi v xs :=
  ⟨own_keep h.own hk (fun k e => by have := (h.own.lt k e).1; have := h.lt k e; omega), h.lt⟩
theorem OwnG.read {α : Type} {enc : α → List Value} {sz : Nat} {e : TypeId} {w : World} {lo hi : Nat} {v : Value} {xs : List α} (hen : ∀ x, (enc x).length = sz) (h : OwnG enc sz e w lo hi v xs) : Row enc sz w lo hi v xs := by
  obtain ⟨a, cap, e, h1, h2, b, off, h3, h4⟩ := Row.of_own hen h.own
  refine ⟨a, cap, e, h1, h2, b, off, fun hp => ?_, h4⟩
  obtain ⟨e1, e2, _⟩ := h3 hp
  exact ⟨e1, e2, h.lt b (by rw [e, e1]; rfl)⟩
theorem Row.form {α : Type} {enc : α → List Value} {sz : Nat} {w : World} {lo hi : Nat} {v : Value} {xs : List α} (h : Row enc sz w lo hi v xs) : ∃ a cap, v = .slice a xs.length cap ∧ xs.length ≤ cap ∧ cap ≤ 9223372036854775807 := by
  obtain ⟨a, cap, rfl, h2, h3, _⟩ := h
  exact ⟨a, cap, rfl, h2, h3⟩

abbrev NetT := List TowerT × List LinkT
/-- v is a net (by value) that reads as x. -/
def Nets (w : World) (lo hi : Nat) (v : Value) (x : NetT) : Prop := ∃ vt vl, v = .agg #[vt, vl] ∧ Towers w lo hi vt x.1 ∧ Links w lo hi vl x.2
theorem Nets.keep {w w' : World} {lo hi : Nat} {v : Value} {x : NetT} (h : Nets w lo hi v x) (hk : ∀ k, lo ≤ k → k < hi → w'.heap[k]? = w.heap[k]?) : Nets w' lo hi v x := by
  obtain ⟨vt, vl, e, h1, h2⟩ := h
  exact ⟨vt, vl, e, h1.keep hk, h2.keep hk⟩
theorem Nets.ext {w w' : World} {lo hi : Nat} {v : Value} {x : NetT} (h : Nets w lo hi v x) (hx : Ext w w') (hh : hi ≤ w.heap.size) : Nets w' lo hi v x := h.keep fun k _ hk => hx.block k (by omega)
theorem Nets.form {w : World} {lo hi : Nat} {v : Value} {x : NetT} (h : Nets w lo hi v x) : ∃ a ca b cb, v = .agg #[.slice a x.1.length ca, .slice b x.2.length cb] ∧ (x.1.length ≤ ca ∧ ca ≤ 9223372036854775807) ∧ x.2.length ≤ cb ∧ cb ≤ 9223372036854775807 := by
  obtain ⟨vt, vl, rfl, h1, h2⟩ := h
  obtain ⟨a, ca, rfl, m1, m2⟩ := h1.form
  obtain ⟨b, cb, rfl, m3, m4⟩ := h2.form
  exact ⟨a, ca, b, cb, rfl, ⟨m1, m2⟩, m3, m4⟩
theorem Nets.parts {w : World} {lo hi : Nat} {vt vl : Value} {x : NetT} (h : Nets w lo hi (.agg #[vt, vl]) x) : Towers w lo hi vt x.1 ∧ Links w lo hi vl x.2 := by
  obtain ⟨vt', vl', e, h1, h2⟩ := h
  simp only [Value.agg.injEq, Array.mk.injEq, List.cons.injEq, and_true] at e
  obtain ⟨rfl, rfl⟩ := e
  exact ⟨h1, h2⟩
/-- .. whose memory is the call's own. -/
def OwnNet (w : World) (lo hi : Nat) (v : Value) (x : NetT) : Prop := ∃ vt vl, v = .agg #[vt, vl] ∧ OwnG encTower 3 54 w lo hi vt x.1 ∧ OwnG encLink 3 42 w lo hi vl x.2 ∧ ∀ k, vt.ownBlock = some k → vl.ownBlock ≠ some k
theorem OwnNet.ext {w w' : World} {lo hi : Nat} {v : Value} {x : NetT} (h : OwnNet w lo hi v x) (hx : Ext w w') : OwnNet w' lo hi v x := by
  obtain ⟨vt, vl, e, h1, h2, h3⟩ := h
  exact ⟨vt, vl, e, h1.ext hx, h2.ext hx, h3⟩
theorem OwnNet.keepd {w w' : World} {lo hi lo2 hi2 : Nat} {v : Value} {x : NetT} (h : OwnNet w lo hi v x) (hk : Keep lo2 hi2 w w') (hd : hi ≤ lo2 ∨ hi2 ≤ lo) : OwnNet w' lo hi v x := by
  obtain ⟨vt, vl, e, h1, h2, h3⟩ := h
  exact ⟨vt, vl, e, h1.keepd hk hd, h2.keepd hk hd, h3⟩
theorem OwnNet.read {w : World} {lo hi : Nat} {v : Value} {x : NetT} (h : OwnNet w lo hi v x) : Nets w lo hi v x := by
  obtain ⟨vt, vl, e, h1, h2, _⟩ := h
  exact ⟨vt, vl, e, h1.read encTower_len, h2.read encLink_len⟩
theorem OwnNet.form {w : World} {lo hi : Nat} {v : Value} {x : NetT} (h : OwnNet w lo hi v x) : ∃ a ca b cb, v = .agg #[.slice a x.1.length ca, .slice b x.2.length cb] ∧ (x.1.length ≤ ca ∧ ca ≤ 9223372036854775807) ∧ x.2.length ≤ cb ∧ cb ≤ 9223372036854775807 := h.read.form

/-! ### Sizes -/
def szL (left n : Int) : Int := if n ≤ left then left - n else -1
theorem szL_pos {left n : Int} (h : n ≤ left) : szL left n = left - n := if_pos h
theorem szL_neg {left n : Int} (h : left < n) : szL left n = -1 := if_neg (by omega)
/-! ### Equality -/
/-! ### Marks -/
/-! ### Copies -/
end Go.Proofs.YtmaaeemhbccpcaaGreatDoor
