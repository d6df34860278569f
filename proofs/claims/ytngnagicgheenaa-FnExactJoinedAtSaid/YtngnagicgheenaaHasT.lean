

/- Is there such a tower; the squares of distances: the program's and the reference's. -/
import Derived.Test.YtngnagicgheenaaNeGood
namespace Go.Proofs.Ytngnagicgheenaa
open Go.RowKit
def hasT (x : NetT) (i : Int) : Bool := netB x && inB 0 ((x.1.length : Int) - 1) i
def sqV (p q : TowerT) : Int := (p.1 - q.1) * (p.1 - q.1) + (p.2.1 - q.2.1) * (p.2.1 - q.2.1)
theorem sq_bd {d : Int} (h1 : -999 ≤ d) (h2 : d ≤ 999) : 0 ≤ d * d ∧ d * d ≤ 998001 := by
  rcases Int.le_total 0 d with h | h
  · exact mulBd h h2 h h2
  · have := mulBd (a := -d) (A := 999) (b := -d) (B := 999) (by omega) (by omega) (by omega) (by omega)
    rw [Int.neg_mul_neg] at this
    exact this
theorem tow_bd {t : TowerT} (h : towB t = true) : (0 ≤ t.1 ∧ t.1 ≤ 999) ∧ 0 ≤ t.2.1 ∧ t.2.1 ≤ 999 := by
  simp only [towB, Bool.and_eq_true] at h
  exact ⟨inB_t h.1, inB_t h.2.1⟩
theorem sqV_bd {p q : TowerT} (hp : towB p = true) (hq : towB q = true) : 0 ≤ sqV p q ∧ sqV p q ≤ 1996002 := by
  obtain ⟨⟨a1, a2⟩, a3, a4⟩ := tow_bd hp
  obtain ⟨⟨b1, b2⟩, b3, b4⟩ := tow_bd hq
  have h1 := sq_bd (d := p.1 - q.1) (by omega) (by omega)
  have h2 := sq_bd (d := p.2.1 - q.2.1) (by omega) (by omega)
  unfold sqV; omega
end Go.Proofs.Ytngnagicgheenaa
