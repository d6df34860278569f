
/- nextChoice: its contract. -/
import Derived.Test.YtiofckbdjifdpaaLeastP
import Derived.Test.YtiofckbdjifdpaaSet
import Derived.Test.YtiofckbdjifdpaaNeed
namespace Go.Proofs.Ytiofckbdjifdpaa
open Go.RowKit
theorem runI_snoc : ∀ (q : Nat) (y : Int), runI y (q + 1) = runI y q ++ [y + q]
  | 0, y => by simp [runI]
  | q + 1, y => by
    show y :: runI (y + 1) (q + 1) = (y :: runI (y + 1) q) ++ [_]
    rw [runI_snoc q (y + 1), List.cons_append]
    congr 3; omega
def fillD (c : List Int) (i : Nat) (y : Int) (m : Nat) : List Int := c.take i ++ (runI y (m - i) ++ c.drop m)
theorem fillD_len {c : List Int} {i m : Nat} {y : Int} (h1 : i ≤ m) (h2 : m ≤ c.length) : (fillD c i y m).length = c.length := by
  unfold fillD
  simp [runI_len]; omega
theorem fillD_set {c : List Int} {i m : Nat} {y : Int} (h1 : i ≤ m) (h2 : m < c.length) : (fillD c i y m).set m (y + ((m - i : Nat) : Int)) = fillD c i y (m + 1) := by
  unfold fillD
  rw [List.set_append_right _ _ (by simp; omega), List.set_append_right _ _ (by simp [runI_len]; omega), List.drop_eq_getElem_cons h2, show m - (c.take i).length - (runI y (m - i)).length = 0 by simp [runI_len]; omega,
    List.set_cons_zero, show m + 1 - i = (m - i) + 1 by omega, runI_snoc]
  simp
theorem fillD_get {c : List Int} {i m : Nat} {y : Int} (h1 : i < m) (h2 : m ≤ c.length) : (fillD c i y m)[m - 1]? = some (y + ((m - 1 - i : Nat) : Int)) := by
  unfold fillD
  rw [List.getElem?_append_right (by simp; omega), List.getElem?_append_left (by simp [runI_len]; omega), runI_get _ _ _ (by simp; omega)]
  congr 3; simp; omega
theorem fillD_start {c : List Int} {i : Nat} {y : Int} (h : i < c.length) : c.set i y = fillD c i y (i + 1) := by
  have := fillD_set (c := c) (i := i) (m := i) (y := y) (Nat.le_refl _) h
  rw [← this]
  unfold fillD
  simp [runI]
set_option maxRecDepth 100000 in
set_option maxHeartbeats 2000000 in
theorem c_nextChoice (base g k cap n : Nat) (c : List Int) (w : World) (hown : w.ownsRow base 3 1 (.slice (some ⟨g, 0, none⟩) k cap) k (c.flatMap encI)) (hn : n ≤ 12) (hb : ∀ x ∈ c, 0 ≤ x ∧ x < (n : Int)) (hkn : k ≤ n) :
    Calls Try.prog 59 #[.slice (some ⟨g, 0, none⟩) k cap, .int .i64 n] w fun e w' => e = .returned (.bool (nxt n c).isSome) ∧ w'.ownsRow base 3 1 (.slice (some ⟨g, 0, none⟩) k cap) k (((nxt n c).getD c).flatMap encI) ∧ w.grownBy w' (some g) := by
  have hcl : c.length = k := by have := hown.1; rw [flat_map, List.length_map] at this; omega
  obtain ⟨Z, hZ⟩ : ∃ Z, Z = nxt n c := ⟨_, rfl⟩
  rw [← hZ]
  have HZ := Lib.hid hZ
  have HOWN := Lib.hid hown
  have HCL := Lib.hid hcl
  have HB := Lib.hid hb
  clear hZ hown hcl hb
  go_enter Try.func59, Try.ntmps59
  go_wp2
  go_loopw [6] (fun t wr => ∃ j : Nat, j ≤ k ∧ t = .int .i64 ((j : Int) - 1) ∧ w = wr ∧ Hid (nxt n (c.drop j) = none)) (fun t _ => (intOf t + 1).toNat)
  case atStart => exact ⟨k, Nat.le_refl _, rfl, rfl, by unfold Hid; rw [List.drop_eq_nil_of_le (by rw [HCL.out]; exact Nat.le_refl _)]; rfl⟩
  case round =>
    obtain ⟨j, hj, rfl, rfl, hT⟩ := hrel
    by_cases hj0 : j = 0
    · subst hj0
      have HN : Hid (Z = none) := by
        have e := hT.out
        rw [List.drop_zero] at e
        exact HZ.out.trans e
      go_wp2
      go_ret
      refine ⟨by rw [HN.out]; rfl, ?_, World.grownBy.refl _ _⟩
      rw [HN.out]; exact HOWN.out
    · obtain ⟨i, rfl⟩ : ∃ i, j = i + 1 := ⟨j - 1, by omega⟩
      have hij : ((i + 1 : Nat) : Int) - 1 = (i : Int) := by omega
      rw [hij]
      obtain ⟨x, hx⟩ : ∃ x, c[i]? = some x := ⟨_, List.getElem?_eq_getElem (by rw [HCL.out]; omega)⟩
      obtain ⟨x0, x1⟩ := HB.out x (List.mem_of_getElem? hx)
      have e0 := own_cellv HOWN.out hx (by omega)
      have z0 := HOWN.out.frozenAt i
      have HX := Lib.hid hx
      have hik : (i : Int) < (k : Int) := by omega
      by_cases hlt : x < (n : Int) - (k : Int) + (i : Int)
      · have HN : Hid (Z = some (fillD c i (x + 1) k)) := by
          unfold Hid
          rw [HZ.out, nxt_at i c HX.out hT.out (by rw [HCL.out]; omega), HCL.out]
          unfold fillD
          rw [List.drop_eq_nil_of_le (by rw [HCL.out]; exact Nat.le_refl _), List.append_nil]
        clear hx
        go_wp2
        have o1 := own_set HOWN.out i (x + 1)
        have gr1 := (HOWN.out.stored i (.int .i64 (x + 1))).2
        have HO1 := Lib.hid o1
        rw [fillD_start (by rw [HCL.out]; omega)] at HO1
        have HG1 := Lib.hid gr1
        clear o1 gr1 e0 z0
        go_loopw [7] (fun t wr => ∃ m : Nat, i + 1 ≤ m ∧ m ≤ k ∧ t = .int .i64 m ∧ wr.ownsRow base 3 1 (.slice (some ⟨g, 0, none⟩) k cap) k ((fillD c i (x + 1) m).flatMap encI) ∧ w.grownBy wr (some g)) (fun t _ => k - (intOf t).toNat)
        case atStart => exact ⟨i + 1, Nat.le_refl _, by omega, by go_num, HO1.out, HG1.out⟩
        case round =>
          obtain ⟨m, hm1, hm2, rfl, hown2, hg2⟩ := hrel
          have HO2 := Lib.hid hown2
          have HG2 := Lib.hid hg2
          clear hown2 hg2
          by_cases hlt2 : m < k
          · have hp := fillD_get (c := c) (i := i) (m := m) (y := x + 1) (by omega) (by rw [HCL.out]; omega)
            have hs := fillD_set (c := c) (i := i) (m := m) (y := x + 1) (by omega) (by rw [HCL.out]; omega)
            obtain ⟨q, hq⟩ : ∃ q : Nat, q = m - 1 - i := ⟨_, rfl⟩
            rw [← hq] at hp
            have e1 := own_cellv HO2.out hp (by omega)
            obtain ⟨y, hy⟩ : ∃ y, (fillD c i (x + 1) m)[m]? = some y := ⟨_, List.getElem?_eq_getElem (by rw [fillD_len (by omega) (by rw [HCL.out]; omega), HCL.out]; omega)⟩
            have e2 := own_cellv HO2.out hy hlt2
            have z2 := HO2.out.frozenAt m
            have hval : x + 1 + (q : Int) + 1 = x + 1 + ((m - i : Nat) : Int) := by omega
            have HS := Lib.hid hs
            have o3 := own_set HO2.out m (x + 1 + (q : Int) + 1)
            have gr3 := (HO2.out.stored m (.int .i64 (x + 1 + (q : Int) + 1))).2
            have HG3 := Lib.hid (grown_trans HG2.out gr3)
            rw [hval, hs, ← hval] at o3
            have HO3 := Lib.hid o3
            have hmk : (m : Int) < (k : Int) := by omega
            have hm0 : ((m : Int) - 1).toNat = m - 1 := by omega
            have hm3 : (1 : Int) ≤ (m : Int) := by omega
            have hq12 : q ≤ 12 := by omega
            clear hp hs hy o3 gr3 hval hq
            go_wp2
            go_roundw
            case rel => exact ⟨m + 1, by omega, by omega, by go_num, HO3.out, HG3.out⟩
            case measure => simp [intOf]; omega
          · have hge : ¬ ((m : Int) < (k : Int)) := by omega
            have hmk : m = k := by omega
            subst hmk
            go_wp2
            go_ret
            refine ⟨by rw [HN.out]; rfl, ?_, HG2.out⟩
            rw [HN.out]; exact HO2.out
      · have HT2 : Hid (nxt n (c.drop i) = none) := nxt_no HX.out hT.out (by rw [HCL.out]; omega)
        clear hx
        go_wp2
        go_roundw
        case rel => exact ⟨i, by omega, by go_num, trivial, HT2.out⟩
        case measure => simp [intOf]
end Go.Proofs.Ytiofckbdjifdpaa
