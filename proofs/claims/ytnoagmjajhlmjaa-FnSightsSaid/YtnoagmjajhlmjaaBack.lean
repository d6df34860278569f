/- slices.Backward over grounds: the contract of its iterator. The blocks below n₀ but for one (bo: what the body appends to) are as they were behind each round. -/
import Derived.RangeFuncNested
import Derived.RangeFuncBound
import Derived.RangeFuncCalls
import Derived.RangeFuncLeaves
import Derived.RangeFuncBox
import Derived.Shelf.Abstract
import Derived.WalkKit
import Derived.OwnWalkIn
import Derived.TacticsInMore
import Derived.LoopNIn
import Derived.LoopIn
import Derived.Test.YtnoagmjajhlmjaaSight
namespace Go.Proofs.Ytnoagmjajhlmjaa
open Go.RowKit Go.Shelf
attribute [local go_sem] Oper.semAt_some
set_option linter.unusedVariables false
def KB (bo n₀ : Nat) (W W' : World) : Prop := ∀ k, k < n₀ → k ≠ bo → W'.heap[k]? = W.heap[k]?
theorem KB.refl (bo n₀ : Nat) (W : World) : KB bo n₀ W W := fun _ _ _ => rfl
theorem KB.trans {bo n₀ : Nat} {A B C : World} (h : KB bo n₀ A B) (k : KB bo n₀ B C) : KB bo n₀ A C := fun i h1 h2 => (k i h1 h2).trans (h i h1 h2)
theorem KB.of_below {bo n₀ : Nat} {A B : World} (h : Below n₀ A B) : KB bo n₀ A B := fun k hk _ => h.block k hk
theorem KB.cell {bo n₀ : Nat} {A B : World} (h : KB bo n₀ A B) {p : Addr} {v : Value} (hp : p.block < n₀) (hb : p.block ≠ bo) (hc : A.cell? p = some v) : B.cell? p = some v := by
  rw [← hc]
  unfold World.cell?
  rw [h _ hp hb]
theorem KB.b {bo n₀ : Nat} {w : World} (hn : n₀ ≤ w.heap.size) (W : World) (l : Nat) (o o' : Obj) (hl : w.heap.size ≤ l) (h : W.heap[l]? = some o) (h1 : o.isCells = false) (h2 : o.isWalk = false) : KB bo n₀ W (W.putObj l o') :=
  KB.of_below (belowK_b hn W l o o' hl h h1 h2)
/-- What has come when k rounds are over. -/
def bk (gs : List GroundT) (k : Nat) : List (Int × GroundT) := (List.range k).map fun j => (((gs.length - 1 - j : Nat) : Int), gs[gs.length - 1 - j]?.getD (0, 0))
theorem bk_succ (gs : List GroundT) (k : Nat) : bk gs (k + 1) = bk gs k ++ [(((gs.length - 1 - k : Nat) : Int), gs[gs.length - 1 - k]?.getD (0, 0))] := by simp [bk, List.range_succ]
theorem bk_len (gs : List GroundT) (k : Nat) : (bk gs k).length = k := by simp [bk]
set_option maxRecDepth 100000 in
set_option maxHeartbeats 2000000 in
theorem back1_in (F : Fence) (n : Nat) (hf : F.fn 65) (hro : F.round = none) (hn : 1 ≤ n) (l Bs bo n₀ len cap : Nat) (a : Option Addr) (gs : List GroundT) (hlen : len = gs.length) (hlen2 : len ≤ 1048576) (J Jx : List (Int × GroundT) → World → Prop)
    (hY : ∀ pre x W, J pre W → pre.length < len → YieldAt F (n - 1) Try.prog l #[.int .i64 x.1, .agg #[.int .i64 x.2.1, .int .i64 x.2.2]] W fun e W' =>
      (e = .returned (.bool true) ∧ J (pre ++ [x]) W' ∧ KB bo n₀ W W') ∨ (e = .returned (.bool false) ∧ Jx (pre ++ [x]) W'))
    (W : World) (hBs : W.cell? ⟨Bs, 0, none⟩ = some (.slice a len cap)) (hB2 : Bs < n₀) (hB3 : Bs ≠ bo)
    (hc : ∀ j g, gs[j]? = some g → ∃ b off, a = some ⟨b, off, none⟩ ∧ b < n₀ ∧ b ≠ bo ∧ W.cell? ⟨b, off + j * 2, none⟩ = some (.int .i64 g.1) ∧ W.cell? ⟨b, off + j * 2 + 1, none⟩ = some (.int .i64 g.2)) (h0 : J [] W) :
    CallsIn F n Try.prog 65 #[.func (.yield l) #[] #[], .pointer (some ⟨Bs, 0, none⟩)] W fun e W' => (∃ v, e = .returned v) ∧
      ((∃ ys, ys = bk gs len ∧ J ys W') ∨ (∃ pre, (∃ k, k ≤ len ∧ pre = bk gs k) ∧ Jx pre W')) := by
  refine callsIn_of_wp Try.func65 rfl hf ?_ hro
  simp only [Try.ntmps65, List.size_toArray, List.length_cons, List.length_nil, Nat.reduceAdd, Nat.reduceSub, Array.replicate_succ, Array.replicate_zero, List.push_toArray, List.append_toArray, List.nil_append, List.cons_append]
  have HC := Lib.hid hc
  have HLN := Lib.hid hlen
  clear hc hlen
  gi_wp2
  gi_loopw [3] (fun i wr => ∃ m : Nat, m ≤ len ∧ i = .int .i64 ((m : Int) - 1) ∧ J (bk gs (len - m)) wr ∧ KB bo n₀ W wr)
    (fun i _ => (intOf i + 1).toNat)
  case atStart => exact ⟨len, Nat.le_refl _, rfl, by rw [Nat.sub_self]; exact h0, KB.refl _ _ _⟩
  case round =>
    obtain ⟨m, hm, rfl, hJs, hnx⟩ := hrel
    have hs1 := hnx.cell (p := ⟨Bs, 0, none⟩) hB2 hB3 hBs
    cases m with
    | zero =>
      gi_wp2
      go_end0
      exact ⟨⟨_, rfl⟩, .inl ⟨_, rfl, hJs⟩⟩
    | succ j =>
      rw [show (((j + 1 : Nat) : Int) - 1) = (j : Int) by omega]
      have hjn : j < gs.length := by have := HLN.out; omega
      have hg : gs[j]? = some gs[j] := List.getElem?_eq_getElem hjn
      obtain ⟨b, off, ha, hb1, hb2, c0, c1⟩ := HC.out j _ hg
      subst ha
      have d0 := hnx.cell (p := ⟨b, off + j * 2, none⟩) hb1 hb2 c0
      have d1 := hnx.cell (p := ⟨b, off + j * 2 + 1, none⟩) hb1 hb2 c1
      obtain ⟨g, hg2⟩ : ∃ g, g = gs[j] := ⟨_, rfl⟩
      rw [← hg2] at d0 d1 hg
      have hjl : j < len := by omega
      have hbs : Hid (bk gs (len - (j + 1)) ++ [((j : Int), g)] = bk gs (len - j)) := by
        unfold Hid
        rw [show len - j = (len - (j + 1)) + 1 by omega, bk_succ, show gs.length - 1 - (len - (j + 1)) = j by have := HLN.out; omega, hg]; rfl
      clear hg2 c0 c1
      obtain ⟨fn, tmps, assign, body, hy, hR⟩ := hY _ ((j : Int), g) wr hJs (by rw [bk_len]; omega)
      dsimp only at hy
      gi_wp2
      refine hR.mono ?_
      rintro e W3 (⟨rfl, hJ3, hk3⟩ | ⟨rfl, hJx3⟩)
      · gi_wp2
        go_roundw
        case rel => exact ⟨j, by omega, rfl, by rw [← hbs.out]; exact hJ3, hnx.trans hk3⟩
        case measure => simp [intOf]
      · gi_wp2
        refine bodyPost_ret (results_none rfl _ _ _) rfl ?_
        exact ⟨⟨_, rfl⟩, .inr ⟨_, ⟨len - j, by omega, hbs.out⟩, hJx3⟩⟩
end Go.Proofs.Ytnoagmjajhlmjaa
