

/- Tests of fogs: one fog, all fogs: the program's and the reference's. -/
import Derived.Test.YtngnagicgheenaaFog
import Derived.Test.YtngnagicgheenaaNeGood
import Derived.StillTailTactics
namespace Go.Proofs.Ytngnagicgheenaa
open Go.RowKit
set_option maxRecDepth 100000 in
theorem c_fgFog (v : Value) (la ha : Nat) (x : NetT) (g : FogT) (w : World) (h : Nets w la ha v x) :
    Calls Try.prog 70 #[v, .agg #[.int .i64 g.1, .int .i64 g.2.1, .int .i64 g.2.2]] w fun e w' => e = .returned (.bool (fgB x.2.length g)) ∧ Ext w w' := by
  obtain ⟨g1, g2, g3⟩ := g
  obtain ⟨r, hr⟩ : ∃ r, r = fgB x.2.length (g1, g2, g3) := ⟨_, rfl⟩
  rw [← hr]
  obtain ⟨a, ca, b, cb, rfl, ⟨m1, m2⟩, m3, m4⟩ := h.form
  obtain ⟨T, L⟩ := x
  simp only at m1 m3 hr ⊢
  obtain ⟨m, hm⟩ : ∃ n, n = T.length := ⟨_, rfl⟩
  obtain ⟨l, hl⟩ : ∃ n, n = L.length := ⟨_, rfl⟩
  rw [← hm] at m1 ⊢
  rw [← hl] at m3 hr ⊢
  clear h hm hl
  unfold fgB at hr
  simp only at hr
  cases t1 : inB 0 ((l : Int) - 1) g1
  · have HR : Hid (r = false) := by unfold Hid; rw [hr]; (rw [t1]; rfl)
    clear hr
    go_enter Try.func70, Try.ntmps70
    go_wp2_with ((go_at_call 52; refine (l1In_c _ _ _ _).mono ?_; rintro e w' ⟨rfl, rfl⟩))
    go_ret
    exact ⟨by rw [HR.out]; rfl, ((Ext.refl w).al _).al _⟩
  cases t2 : inB 0 9999 g2
  · have HR : Hid (r = false) := by unfold Hid; rw [hr]; (rw [t1, t2]; rfl)
    clear hr
    go_enter Try.func70, Try.ntmps70
    go_wp2_with ((go_at_call 52; refine (l1In_c _ _ _ _).mono ?_; rintro e w' ⟨rfl, rfl⟩))
    go_ret
    exact ⟨by rw [HR.out]; rfl, ((Ext.refl w).al _).al _⟩
  · obtain ⟨q1, q2⟩ := inB_t t2
    have HR : Hid (r = inB (g2 + 1) 10000 g3) := by unfold Hid; rw [hr]; (rw [t1, t2]; rfl)
    clear hr
    go_enter Try.func70, Try.ntmps70
    go_wp2_with ((go_at_call 52; refine (l1In_c _ _ _ _).mono ?_; rintro e w' ⟨rfl, rfl⟩))
    go_ret
    exact ⟨by rw [HR.out]; rfl, ((Ext.refl w).al _).al _⟩
theorem fgB_alt (l : Int) (x : FogT) : fgB l x = (inB 0 (l - 1) x.1 && (decide (0 ≤ x.2.1) && (decide (x.2.1 < x.2.2) && decide (x.2.2 ≤ 10000)))) := by
  unfold fgB inB
  rw [Bool.eq_iff_iff]
  simp only [Bool.and_eq_true, decide_eq_true_eq]
  omega
set_option maxRecDepth 100000 in
theorem c_isFog (v : Value) (la ha : Nat) (x : NetT) (g : FogT) (w : World) (h : Nets w la ha v x) :
    Calls Try.prog 74 #[v, .agg #[.int .i64 g.1, .int .i64 g.2.1, .int .i64 g.2.2]] w fun e w' => e = .returned (.bool (fgB x.2.length g)) ∧ Ext w w' := by
  obtain ⟨g1, g2, g3⟩ := g
  obtain ⟨r, hr⟩ : ∃ r, r = fgB x.2.length (g1, g2, g3) := ⟨_, rfl⟩
  rw [← hr]
  obtain ⟨a, ca, b, cb, rfl, ⟨m1, m2⟩, m3, m4⟩ := h.form
  obtain ⟨T, L⟩ := x
  simp only at m1 m3 hr ⊢
  obtain ⟨m, hm⟩ : ∃ n, n = T.length := ⟨_, rfl⟩
  obtain ⟨l, hl⟩ : ∃ n, n = L.length := ⟨_, rfl⟩
  rw [← hm] at m1 ⊢
  rw [← hl] at m3 hr ⊢
  clear h hm hl
  rw [fgB_alt] at hr
  simp only at hr
  cases t1 : inB 0 ((l : Int) - 1) g1
  · have HR : Hid (r = false) := by unfold Hid; rw [hr]; (rw [t1]; rfl)
    clear hr
    go_enter Try.func74, Try.ntmps74
    go_wp2_with ((go_at_call 55; refine (within_c _ _ _ _).mono ?_; rintro e w' ⟨rfl, rfl⟩))
    go_ret
    exact ⟨by rw [HR.out]; rfl, ((Ext.refl w).al _).al _⟩
  by_cases t2 : 0 ≤ g2
  · have t2b : ¬ g2 < 0 := by omega
    by_cases t3 : g2 < g3
    · have t3b : ¬ g3 ≤ g2 := by omega
      have HR : Hid (r = decide (g3 ≤ 10000)) := by unfold Hid; rw [hr]; (rw [t1, decide_eq_true t2, decide_eq_true t3]; rfl)
      clear hr
      go_enter Try.func74, Try.ntmps74
      go_wp2_with ((go_at_call 55; refine (within_c _ _ _ _).mono ?_; rintro e w' ⟨rfl, rfl⟩))
      go_ret
      exact ⟨by rw [HR.out]; rfl, ((Ext.refl w).al _).al _⟩
    · have t3b : g3 ≤ g2 := by omega
      have HR : Hid (r = false) := by unfold Hid; rw [hr]; (rw [t1, decide_eq_true t2, decide_eq_false t3]; rfl)
      clear hr
      go_enter Try.func74, Try.ntmps74
      go_wp2_with ((go_at_call 55; refine (within_c _ _ _ _).mono ?_; rintro e w' ⟨rfl, rfl⟩))
      go_ret
      exact ⟨by rw [HR.out]; rfl, ((Ext.refl w).al _).al _⟩
  · have t2b : g2 < 0 := by omega
    have HR : Hid (r = false) := by unfold Hid; rw [hr]; (rw [t1, decide_eq_false t2]; rfl)
    clear hr
    go_enter Try.func74, Try.ntmps74
    go_wp2_with ((go_at_call 55; refine (within_c _ _ _ _).mono ?_; rintro e w' ⟨rfl, rfl⟩))
    go_ret
    exact ⟨by rw [HR.out]; rfl, ((Ext.refl w).al _).al _⟩
end Go.Proofs.Ytngnagicgheenaa
