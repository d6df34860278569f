
/- A sight as an argument and as a result of an exact law: read, copied, compared, marked. -/
import Derived.Test.YtnoagmjajhlmjaaRev
import Derived.Test.YtnoagmjajhlmjaaSightH
namespace Go.Proofs.Ytnoagmjajhlmjaa
open Go.RowKit
set_option linter.unusedVariables false
def SightR (w : World) (lo hi : Nat) (v : Value) (x : SiT) : Prop := ∃ vg, v = .agg #[.int .i64 x.1, .int .i64 x.2.1, .int .i64 x.2.2.1, vg] ∧ Grounds w lo hi vg x.2.2.2
theorem SightR.ext {w w' : World} {lo hi : Nat} {v : Value} {x : SiT} (h : SightR w lo hi v x) (hx : Ext w w') (hh : hi ≤ w.heap.size) : SightR w' lo hi v x := by
  obtain ⟨vg, e, h1⟩ := h
  exact ⟨vg, e, h1.ext hx hh⟩
theorem SightR.form {w : World} {lo hi : Nat} {v : Value} {x : SiT} (h : SightR w lo hi v x) : ∃ a c, v = .agg #[.int .i64 x.1, .int .i64 x.2.1, .int .i64 x.2.2.1, .slice a x.2.2.2.length c] ∧ x.2.2.2.length ≤ c ∧ c ≤ 9223372036854775807 := by
  obtain ⟨vg, rfl, h1⟩ := h
  obtain ⟨a, c, rfl, m1, m2, _⟩ := h1
  exact ⟨a, c, rfl, m1, m2⟩
def ArgSightX (w : World) (v : Value) (x : SiT) : Prop := SightR w 0 w.heap.size v x ∧ True
theorem OwnSight.ext {w w' : World} {lo hi : Nat} {v : Value} {x : SiT} (h : OwnSight w lo hi v x) (hx : Ext w w') : OwnSight w' lo hi v x := by
  obtain ⟨a, c, e, h1, h2⟩ := h
  exact ⟨a, c, e, own_ext h1 hx, h2⟩
theorem OwnSight.keepd {w w' : World} {lo hi lo2 hi2 : Nat} {v : Value} {x : SiT} (h : OwnSight w lo hi v x) (hk : Keep lo2 hi2 w w') (hd : hi ≤ lo2 ∨ hi2 ≤ lo) : OwnSight w' lo hi v x := by
  obtain ⟨a, c, e, h1, h2⟩ := h
  exact ⟨a, c, e, own_keep h1 hk (fun k e => by have := (h1.lt k e).1; have := h2 k e; omega), h2⟩
theorem OwnSight.read {w : World} {lo hi : Nat} {v : Value} {x : SiT} (h : OwnSight w lo hi v x) : SightR w lo hi v x := by
  obtain ⟨a, c, e, h1, h2⟩ := h
  refine ⟨_, e, ?_⟩
  obtain ⟨a', c', e', m1, m2, b, o, hb, hc⟩ := Row.of_own encGround_len h1
  refine ⟨a', c', e', m1, m2, b, o, fun h0 => ?_, hc⟩
  obtain ⟨q1, q2, q3⟩ := hb h0
  simp only [Value.slice.injEq] at e'
  obtain ⟨e1, _, _⟩ := e'
  exact ⟨q1, q2, h2 b (by rw [e1, q1]; rfl)⟩
theorem OwnSight.form {w : World} {lo hi : Nat} {v : Value} {x : SiT} (h : OwnSight w lo hi v x) : ∃ a c, v = .agg #[.int .i64 x.1, .int .i64 x.2.1, .int .i64 x.2.2.1, .slice a x.2.2.2.length c] ∧ x.2.2.2.length ≤ c ∧ c ≤ 9223372036854775807 := h.read.form
def szL (left n : Int) : Int := if n ≤ left then left - n else -1
theorem szL_pos {left n : Int} (h : n ≤ left) : szL left n = left - n := if_pos h
theorem szL_neg {left n : Int} (h : left < n) : szL left n = -1 := if_neg (by omega)
theorem c_szSightO (v : Value) (la ha : Nat) (x : SiT) (left : Int) (w : World) (h : SightR w la ha v x) (h0 : 0 ≤ left) (h1 : left ≤ 1048576) :
    Calls Try.prog 6 #[v, .int .i64 left] w fun e w' => e = .returned (.int .i64 (szL left ((x.2.2.2.length : Nat) : Int))) ∧ Ext w w' := by
  obtain ⟨a, c, rfl, m1, m2⟩ := h.form
  exact c_szSight _ _ _ a _ c left w h0 h1 (by omega)
theorem c_toSightO (v : Value) (la ha : Nat) (x : SiT) (w : World) (h : SightR w la ha v x) (hh : ha ≤ w.heap.size) (hn : x.2.2.2.length ≤ 1048576) :
    Calls Try.prog 8 #[v] w fun e w' => ∃ v', e = .returned v' ∧ OwnSight w' w.heap.size w'.heap.size v' x ∧ Ext w w' := by
  obtain ⟨vg, rfl, h1⟩ := h
  refine (c_toSight _ _ _ vg la ha _ w h1 hh hn).mono fun e w' ⟨v', he, ho, hx⟩ => ?_
  obtain ⟨a, c, rfl, _⟩ := own_form ho
  exact ⟨_, he, ⟨a, c, rfl, ho, fun k hk => (ho.lt k hk).2⟩, hx⟩
theorem c_eqSightO (va vb : Value) (la ha lb hb : Nat) (x y : SiT) (w : World) (h1 : SightR w la ha va x) (h2 : SightR w lb hb vb y) (hh1 : ha ≤ w.heap.size) (hh2 : hb ≤ w.heap.size) :
    Calls Try.prog 10 #[va, vb] w fun e w' => e = .returned (.bool (decide (x = y))) ∧ Ext w w' := by
  obtain ⟨g, rfl, h1⟩ := h1
  obtain ⟨g', rfl, h2⟩ := h2
  refine (c_eqSight _ _ _ _ _ _ g g' la ha lb hb _ _ w h1 h2 hh1 hh2).mono fun e w' ⟨he, hx⟩ => ⟨?_, hx⟩
  rw [he]
  congr 2
  exact decide_eq_decide.2 (by simp [Prod.ext_iff])
set_option maxRecDepth 100000 in
theorem c_markSightO (v : Value) (lo hi : Nat) (x : SiT) (c : Int) (w : World) (h : OwnSight w lo hi v x) (hh : hi ≤ w.heap.size) (hc0 : 0 ≤ c) (hc1 : c ≤ 1048576) (hn20 : x.2.2.2.length ≤ 1048576) :
    Calls Try.prog 11 #[v, .int .i64 c] w fun e w' => e = .returned (.int .i64 (c + x.2.2.2.length * 2)) ∧ Keep lo hi w w' := by
  obtain ⟨a, cap, rfl, h1, h2⟩ := h
  obtain ⟨D, A, B, gs⟩ := x
  simp only at h1 h2 hn20 ⊢
  obtain ⟨n, hn⟩ : ∃ n, n = gs.length := ⟨_, rfl⟩
  rw [← hn] at h1 h2 hn20 ⊢
  have CM := Lib.hid (c_markGroundS _ n lo _ c _ (own_ext h1 (Ext.alloc w (.cells #[.int .i64 D, .int .i64 A, .int .i64 B, .slice a n cap] 28))) hc0 (by omega) (by omega))
  have HL := Lib.hid (fun q hq => (⟨(h1.lt q hq).1, h2 q hq⟩ : lo ≤ q ∧ q < hi))
  clear h1 h2 hn
  go_enter Try.func11, Try.ntmps11
  go_wp2_with (go_at_call 43; refine CM.out.mono ?_; rintro e w2 ⟨rfl, ho, hg⟩)
  go_ret
  exact ⟨rfl, (Keep.of_ext (Ext.alloc _ _)).trans (Keep.of_grown hg HL.out)⟩
/-- A sight that has been marked. -/
def MarkSight (w : World) (lo hi : Nat) (v : Value) (x : SiT) : Prop := ∃ a c, v = .agg #[.int .i64 x.1, .int .i64 x.2.1, .int .i64 x.2.2.1, .slice a x.2.2.2.length c] ∧
  w.ownsRow lo 61 2 (.slice a x.2.2.2.length c) x.2.2.2.length (marks 1 (x.2.2.2.length * 2)) ∧ ∀ k, (Value.slice a x.2.2.2.length c).ownBlock = some k → k < hi
theorem MarkSight.ext {w w' : World} {lo hi : Nat} {v : Value} {x : SiT} (h : MarkSight w lo hi v x) (hx : Ext w w') : MarkSight w' lo hi v x := by
  obtain ⟨a, c, e, h1, h2⟩ := h
  exact ⟨a, c, e, own_ext h1 hx, h2⟩
theorem MarkSight.keepd {w w' : World} {lo hi lo2 hi2 : Nat} {v : Value} {x : SiT} (h : MarkSight w lo hi v x) (hk : Keep lo2 hi2 w w') (hd : hi ≤ lo2 ∨ hi2 ≤ lo) : MarkSight w' lo hi v x := by
  obtain ⟨a, c, e, h1, h2⟩ := h
  exact ⟨a, c, e, own_keep h1 hk (fun k e => by have := (h1.lt k e).1; have := h2 k e; omega), h2⟩
set_option maxRecDepth 100000 in
theorem c_markSightM (v : Value) (lo hi : Nat) (x : SiT) (w : World) (h : OwnSight w lo hi v x) (hh : hi ≤ w.heap.size) (hn20 : x.2.2.2.length ≤ 1048576) :
    Calls Try.prog 11 #[v, .int .i64 1] w fun e w' => e = .returned (.int .i64 (1 + x.2.2.2.length * 2)) ∧ Keep lo hi w w' ∧ MarkSight w' lo hi v x := by
  obtain ⟨a, cap, rfl, h1, h2⟩ := h
  obtain ⟨D, A, B, gs⟩ := x
  simp only at h1 h2 hn20 ⊢
  have HL := Lib.hid (fun q hq => (⟨(h1.lt q hq).1, h2 q hq⟩ : lo ≤ q ∧ q < hi))
  obtain ⟨n, hn⟩ : ∃ n, n = gs.length := ⟨_, rfl⟩
  have HN := Lib.hid hn
  rw [← hn] at h1 h2 HL hn20 ⊢
  have CM := Lib.hid (c_markGroundS _ n lo _ 1 _ (own_ext h1 (Ext.alloc w (.cells #[.int .i64 D, .int .i64 A, .int .i64 B, .slice a n cap] 28))) (by omega) (by omega) (by omega))
  clear h1 h2 hn
  go_enter Try.func11, Try.ntmps11
  go_wp2_with (go_at_call 43; refine CM.out.mono ?_; rintro e w2 ⟨rfl, ho, hg⟩)
  go_ret
  exact ⟨rfl, (Keep.of_ext (Ext.alloc _ _)).trans (Keep.of_grown hg HL.out), a, cap, by rw [HN.out], by rw [← HN.out]; exact ho, by rw [← HN.out]; exact fun q hq => (HL.out q hq).2⟩
set_option maxRecDepth 100000 in
theorem c_heldSight (v : Value) (lo hi : Nat) (x : SiT) (w : World) (h : MarkSight w lo hi v x) (hh : hi ≤ w.heap.size) (hn20 : x.2.2.2.length ≤ 1048576) :
    Calls Try.prog 12 #[v, .int .i64 1] w fun e w' => e = .returned (.int .i64 (1 + x.2.2.2.length * 2)) ∧ Ext w w' := by
  obtain ⟨a, cap, rfl, h1, h2⟩ := h
  obtain ⟨D, A, B, gs⟩ := x
  simp only at h1 h2 hn20 ⊢
  obtain ⟨n, hn⟩ : ∃ n, n = gs.length := ⟨_, rfl⟩
  rw [← hn] at h1 h2 hn20 ⊢
  have CM := Lib.hid (c_heldGroundS _ n lo 1 _ (own_ext h1 (Ext.alloc w (.cells #[.int .i64 D, .int .i64 A, .int .i64 B, .slice a n cap] 28))) (by omega) (by omega) (by omega))
  clear h1 h2 hn
  go_enter Try.func12, Try.ntmps12
  go_wp2_with (go_at_call 44; refine CM.out.mono ?_; rintro e w2 ⟨rfl, rfl⟩)
  go_ret
  exact ⟨rfl, Ext.alloc _ _⟩
end Go.Proofs.Ytnoagmjajhlmjaa
