/- Small notions that all proofs of this seat use: bounds of an int, the test of a range, what is kept of a world. -/
import Derived.Test.YtmaaeemhbccpcaaDoorRows
import Derived.WalkKit
import Derived.WalkSpells
import Derived.WalkLawsBesides
import Derived.Deep.LoopGhost
import Derived.Deep.DeepMust
import Derived.Deep.DeepCutAuto
import Derived.BigQuiet
import Derived.Lib.Hide
namespace Go.Proofs.YtmaaeemhbccpcaaDoor
open Go.RowKit

/-- An int as Go has it. -/
def I64 (n : Int) : Prop := -9223372036854775808 ≤ n ∧ n ≤ 9223372036854775807
theorem I64.of_wf {n : Int} (h : (Lit.int .i64 n).wf = true) : I64 n := by
  simpa [Lit.wf, IntKind.min, IntKind.max, IntKind.signed, IntKind.bits, I64] using h

/-- n lies in lo..hi. -/
def inB (lo hi n : Int) : Bool := decide (lo ≤ n) && decide (n ≤ hi)
theorem inB_iff {lo hi n : Int} : inB lo hi n = true ↔ lo ≤ n ∧ n ≤ hi := by simp [inB]
theorem inB_t {lo hi n : Int} (h : inB lo hi n = true) : lo ≤ n ∧ n ≤ hi := inB_iff.1 h
theorem inB_f {lo hi n : Int} (h : inB lo hi n = false) : n < lo ∨ hi < n := by
  rcases Int.lt_or_le n lo with a | a
  · exact .inl a
  · rcases Int.lt_or_le hi n with b | b
    · exact .inr b
    · rw [inB_iff.2 ⟨a, b⟩] at h; cases h

/-- What was there is as it was. -/
abbrev Ext (w w' : World) : Prop := Below w.heap.size w w'
theorem Ext.refl (w : World) : Ext w w := Below.refl _ _
theorem Ext.trans {a b c : World} (h : Ext a b) (k : Ext b c) : Ext a c := Below.trans h (k.mono h.size)

theorem mulBd {a b A B : Int} (h1 : 0 ≤ a) (h2 : a ≤ A) (h3 : 0 ≤ b) (h4 : b ≤ B) : 0 ≤ a * b ∧ a * b ≤ A * B :=
  ⟨Int.mul_nonneg h1 h3, Int.mul_le_mul h2 h4 h3 (Int.le_trans h1 h2)⟩

theorem l1In_c (n lo hi : Int) (w : World) :
    Calls Tryd.prog 35 #[.int .i64 n, .int .i64 lo, .int .i64 hi] w fun e w' => e = .returned (.bool (inB lo hi n)) ∧ w = w' := by
  by_cases h1 : lo ≤ n
  all_goals
    go_enter Tryd.func35, Tryd.ntmps35
    go_wp2
    go_ret
    exact ⟨by simp [inB]; omega, rfl⟩
theorem within_c (n lo hi : Int) (w : World) :
    Calls Tryd.prog 40 #[.int .i64 n, .int .i64 lo, .int .i64 hi] w fun e w' => e = .returned (.bool (inB lo hi n)) ∧ w = w' := by
  by_cases h1 : lo ≤ n
  all_goals
    go_enter Tryd.func40, Tryd.ntmps40
    go_wp2
    go_ret
    exact ⟨by simp [inB]; omega, rfl⟩
end Go.Proofs.YtmaaeemhbccpcaaDoor
