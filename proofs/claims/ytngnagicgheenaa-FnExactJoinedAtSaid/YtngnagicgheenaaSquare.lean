

/- SquareBetween of the program and of the reference: their contracts. -/
import Derived.Test.YtngnagicgheenaaHasT
namespace Go.Proofs.Ytngnagicgheenaa
open Go.RowKit
def has2 (x : NetT) (i j : Int) : Bool := hasT x i && hasT x j
def sqbV (x : NetT) (i j : Int) : Int := if has2 x i j then sqV (x.1.getD i.toNat (0, 0, 0)) (x.1.getD j.toNat (0, 0, 0)) else 0
theorem hasT_get {x : NetT} {i : Int} (h : hasT x i = true) : ∃ (k : Nat) (t : TowerT), i = k ∧ x.1[k]? = some t ∧ towB t = true := by
  simp only [hasT, Bool.and_eq_true] at h
  obtain ⟨h1, h2⟩ := h
  obtain ⟨i1, i2⟩ := inB_t h2
  have hk : i.toNat < x.1.length := by omega
  refine ⟨i.toNat, x.1[i.toNat], by omega, List.getElem?_eq_getElem hk, ?_⟩
  simp only [netB, Bool.and_eq_true, List.all_eq_true] at h1
  exact h1.2.2.1 _ (List.getElem_mem hk)
end Go.Proofs.Ytngnagicgheenaa
