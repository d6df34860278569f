
/- The numbers for the bits of a set: the reference's function. -/
import Derived.Test.YtiofckbdjifdpaaCombP
import Derived.Test.YtiofckbdjifdpaaSet
import Derived.Test.YtiofckbdjifdpaaNeed
namespace Go.Proofs.Ytiofckbdjifdpaa
open Go.RowKit
theorem and1 (n : Int) : bits .and .i64 n 1 = n % 2 := by
  have h1 : (BitVec.ofInt 64 1).toNat = 2 ^ 1 - 1 := by decide
  have key : (BitVec.ofInt 64 n &&& BitVec.ofInt 64 1).toNat = (n % ((2 ^ 64 : Nat) : Int)).toNat % 2 ^ 1 := by
    rw [BitVec.toNat_and, BitVec.toNat_ofInt, h1, Nat.and_two_pow_sub_one_eq_mod]
  show IntKind.i64.wrap ((BitVec.ofInt 64 n &&& BitVec.ofInt 64 1).toNat : Nat) = n % 2
  rw [key, IntKind.wrap_i64]
  omega
theorem shr_nat (z k : Nat) : ((z : Int) / 2 ^ k) = ((z / 2 ^ k : Nat) : Int) := by
  rw [Int.natCast_ediv, Int.natCast_pow]; rfl
theorem shr_bit (z k : Nat) : (bits .and .i64 ((z : Int) / 2 ^ k) 1 == 1) = z.testBit k := by
  rw [and1, shr_nat, Nat.testBit_eq_decide_div_mod_eq, Bool.eq_iff_iff, beq_iff_eq, decide_eq_true_eq]
  omega
set_option maxRecDepth 100000 in
set_option maxHeartbeats 1000000 in
theorem c_stSet (z s : Nat) (w : World) (hz : z < 2 ^ s) (hs : s ≤ 12) :
    Calls Try.prog 61 #[.int .i64 z] w fun e w' => ∃ r, e = .returned r ∧ w'.ownsRow w.heap.size 3 1 r (bitL s z).length ((bitL s z).flatMap encI) ∧ Ext w w' := by
  obtain ⟨i0, hi0, hz0, hz1, hz2⟩ := info_parts Try.info_intC
  obtain ⟨Z, hZ⟩ : ∃ Z, Z = bitL s z := ⟨_, rfl⟩
  rw [← hZ]
  have HZ := Lib.hid hZ
  have HZZ := Lib.hid hz
  clear hZ hz
  go_enter Try.func61, Try.ntmps61
  go_wp2
  go_loopw [3, 4] (fun v t wr => ∃ (k : Nat) (L : List Int), k ≤ s ∧ t = .int .i64 k ∧ wr.ownsRow w.heap.size 3 1 v L.length (L.flatMap encI) ∧ Hid (L = ftoI (fun i => z.testBit i) k) ∧ Ext w wr) (fun _ t _ => s - (intOf t).toNat)
  case atStart => exact ⟨0, [], by omega, rfl, World.ownsRow_nil _ _ _ _, rfl, Ext.refl _⟩
  case round =>
    obtain ⟨k, L, hk, rfl, hown, hL, hx⟩ := hrel
    have HOWN := Lib.hid hown
    by_cases hy : z / 2 ^ k = 0
    · have hyI : ¬ (0 < (z : Int) / 2 ^ k) := by rw [shr_nat, hy]; simp
      have HZL : Hid (Z = L) := by
        have h1 : z < 2 ^ k := (Nat.div_eq_zero_iff_lt (Nat.two_pow_pos k)).1 hy
        have h2 := ftoI_stop (f := fun i => z.testBit i) (m := k) (fun j hj => Nat.testBit_lt_two_pow (Nat.lt_of_lt_of_le h1 (Nat.pow_le_pow_right (by decide) hj))) (s - k)
        rw [show k + (s - k) = s by omega] at h2
        unfold Hid; rw [HZ.out, hL.out]; exact h2
      obtain ⟨a5, c5, rfl, _, _, _⟩ := own_form hown
      clear hown hy
      go_wp2
      go_ret
      refine ⟨_, rfl, ?_, hx⟩
      rw [HZL.out]; exact HOWN.out
    · have hyI : 0 < (z : Int) / 2 ^ k := by rw [shr_nat]; exact Int.natCast_pos.2 (Nat.pos_of_ne_zero hy)
      have hks : k < s := by
        rcases Nat.lt_or_ge k s with h | h
        · exact h
        · exact absurd (Nat.div_eq_of_lt (Nat.lt_of_lt_of_le HZZ.out (Nat.pow_le_pow_right (by decide) h))) hy
      have hLl := ftoI_len (fun i => z.testBit i) k
      rw [← hL.out] at hLl
      have hsn : Hid (ftoI (fun i => z.testBit i) (k + 1) = L ++ (if z.testBit k then [(k : Int)] else [])) := by
        unfold Hid; rw [ftoI_succ, ← hL.out]
      have hb := shr_bit z k
      clear hown hy
      cases e : z.testBit k
      · rw [e] at hb hsn
        clear e
        go_wp2
        go_roundw
        case rel => exact ⟨k + 1, L, by omega, by go_num, HOWN.out, (by unfold Hid; rw [hsn.out]; simp), hx⟩
        case measure => simp [intOf]; omega
      · rw [e] at hb hsn
        clear e
        go_wp2_with (at_builtin; refine wpList_append_own _ rfl _ _ 24 rfl w.heap.size 3 i0 (.int .i64 0) 1 8 Try.underlying24 hi0 hz0 hz1 hz2 rfl (by decide) _ _ _ rfl (HOWN.out.alloc _) ⟨wr.heap.size, 0, none⟩ 1 1 [.int .i64 (k : Int)] rfl rfl (new_cells1 _ _ _) (by intro u hu; simp at hu; subst hu; rfl) (by unfold maxLen; omega) (by omega) (by have := hx.size; simp; omega) ?_; intro v3 w6 hown4 hgrow4 _)
        go_roundw
        case rel => exact ⟨k + 1, _, by omega, by go_num, own_push hown4, (by unfold Hid; rw [hsn.out]; rfl), hx.push HOWN.out hgrow4 (Nat.le_refl _)⟩
        case measure => simp [intOf]; omega
end Go.Proofs.Ytiofckbdjifdpaa
