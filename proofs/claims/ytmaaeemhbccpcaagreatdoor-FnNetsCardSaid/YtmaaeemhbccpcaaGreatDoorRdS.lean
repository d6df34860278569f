
/- The reference's reading of a number: l1Read. -/
import Derived.Test.YtmaaeemhbccpcaaGreatDoorSplS
namespace Go.Proofs.YtmaaeemhbccpcaaGreatDoor
open Go.RowKit
set_option linter.unusedSimpArgs false
set_option linter.unusedVariables false
theorem digB_iff (c : UInt8) : digB c = true ↔ 48 ≤ c.toNat ∧ c.toNat ≤ 57 := by simp [digB]
theorem val_take {l : List UInt8} {i : Nat} {c : UInt8} (h : l[i]? = some c) : valL (l.take (i + 1)) = 10 * valL (l.take i) + ((c.toNat : Int) - 48) := by
  rw [List.take_add_one, h]
  exact val_app _ _
theorem val_bd : ∀ (k : Nat) (l : List UInt8), l.length = k → k ≤ 6 → (∀ c ∈ l, digB c = true) → 0 ≤ valL l ∧ valL l < 10 ^ k
  | 0, l, h, _, _ => by
    have : l = [] := by simpa using h
    subst this
    simp [valL]
  | k + 1, l, h, hk, hd => by
    have hne : l ≠ [] := by intro e; rw [e] at h; simp at h
    obtain ⟨p, c, rfl⟩ : ∃ p c, l = p ++ [c] := ⟨_, _, (List.dropLast_concat_getLast hne).symm⟩
    have hp : p.length = k := by simpa using h
    have ih := val_bd k p hp (by omega) (fun c hc => hd c (by simp [hc]))
    have hc := (digB_iff c).1 (hd c (by simp))
    rw [val_app, Int.pow_succ]
    omega
set_option maxRecDepth 100000 in
set_option maxHeartbeats 1000000 in
theorem c_l1Read (l : List UInt8) (w : World) (hl : l.length ≤ 1048576) :
    Calls Tryz.prog 53 #[.string ⟨l.toArray⟩] w fun e w' => e = .returned (.int .i64 (rdL l)) ∧ Ext w w' := by
  obtain ⟨n, hn⟩ : ∃ n, n = l.length := ⟨_, rfl⟩
  have hsz : (⟨l.toArray⟩ : ByteArray).size = n := by rw [hn]; simp [ByteArray.size]
  have HN := Lib.hid hn
  rw [← hn] at hl
  obtain ⟨r, hr⟩ : ∃ r, r = rdL l := ⟨_, rfl⟩
  rw [← hr]
  have HR := Lib.hid hr
  clear hn hr
  have hidx : ∀ (i : Nat) (c : UInt8), l[i]? = some c → ∀ (h : i < (⟨l.toArray⟩ : ByteArray).size), (⟨l.toArray⟩ : ByteArray)[i] = c := fun i c hc h => by
    show (l.toArray)[i] = c
    have := (List.getElem?_eq_some_iff.1 hc).2
    simpa using this
  have HX := Lib.hid hidx
  clear hidx
  by_cases hin : 1 ≤ n ∧ n ≤ 6
  · have hB : inB 1 6 n = true := by unfold inB; simp; omega
    obtain ⟨c0, hc0⟩ : ∃ c, l[0]? = some c := ⟨_, List.getElem?_eq_getElem (by rw [← HN.out]; omega)⟩
    have hx0 := HX.out 0 c0 hc0
    have h0I : (0 : Int) < (n : Int) := by omega
    have hhead : l.head? = some c0 := by rw [List.head?_eq_getElem?]; exact hc0
    by_cases hz : c0 = 48 ∧ 1 < n
    · have HF : Hid (r = -1) := by
        unfold Hid
        rw [HR.out]
        unfold rdL
        rw [hhead, ← HN.out, hz.1, decide_eq_true hz.2]
        simp
      have heq : ((c0.toNat : Int) == 48) = true := by rw [hz.1]; rfl
      have h1I : (1 : Int) < (n : Int) := by omega
      have hin1 : (1 : Int) ≤ (n : Int) := by omega
      have hin2 : (n : Int) ≤ 6 := by omega
      clear hhead hc0
      go_enter Tryz.func53, Tryz.ntmps53
      go_wp2
      go_ret
      exact ⟨by rw [HF.out]; rfl, ((Ext.refl _))⟩
    · have hgd : ((c0.toNat : Int) == 48) = false ∨ (((c0.toNat : Int) == 48) = true ∧ ¬ (1 : Int) < (n : Int)) := by
        by_cases h48 : c0 = 48
        · refine Or.inr ⟨by rw [h48]; rfl, ?_⟩
          intro h; exact hz ⟨h48, by omega⟩
        · refine Or.inl ?_
          simp only [beq_eq_false_iff_ne, ne_eq]
          intro e
          exact h48 (UInt8.toNat_inj.1 (by have : (48 : UInt8).toNat = 48 := rfl; omega))
      have HG : Hid (rdL l = if l.all digB then valL l else -1) := by
        unfold Hid rdL
        rw [hhead, ← HN.out, decide_eq_true hin.1, decide_eq_true hin.2]
        have : (decide (some c0 = some 48) && decide (1 < n)) = false := by
          by_cases h48 : c0 = 48
          · simp [h48]
            rcases Nat.lt_or_ge 1 n with h | h
            · exact absurd ⟨h48, h⟩ hz
            · exact h
          · simp [h48]
        rw [this]
        simp
      have hin1 : (1 : Int) ≤ (n : Int) := by omega
      have hin2 : (n : Int) ≤ 6 := by omega
      clear hhead hc0 hz hB
      have main : ∀ (dummy : True), Calls Tryz.prog 53 #[.string ⟨l.toArray⟩] w fun e w' => e = .returned (.int .i64 r) ∧ Ext w w' := by
        intro _
        rcases hgd with heq | ⟨heq, hle⟩
        all_goals
          go_enter Tryz.func53, Tryz.ntmps53
          go_wp2
          go_loopw [4, 3] (fun i v wr => ∃ (k : Nat), k ≤ n ∧ i = .int .i64 k ∧ v = .int .i64 (valL (l.take k)) ∧ Hid (∀ c ∈ l.take k, digB c = true) ∧ Ext w wr) (fun i _ _ => n - (intOf i).toNat)
          case atStart => exact ⟨0, by omega, rfl, by simp [valL], by simp [Hid], Ext.refl _⟩
          case round =>
            obtain ⟨k, hk, rfl, rfl, hD, hx⟩ := hrel
            obtain ⟨V, hV⟩ : ∃ V, V = valL (l.take k) := ⟨_, rfl⟩
            rw [← hV]
            have hbd := val_bd k (l.take k) (by rw [List.length_take, ← HN.out]; omega) (by omega) hD.out
            rw [← hV] at hbd
            have hbd2 : (10 : Int) ^ k ≤ 10 ^ 6 := by
              exact_mod_cast Nat.pow_le_pow_right (by decide : 0 < 10) (show k ≤ 6 by omega)
            have hb0 := hbd.1
            have hb1 : V < 1000000 := by have := hbd.2; omega
            have HV := Lib.hid hV
            clear hV hbd hbd2
            by_cases hlt : k < n
            · obtain ⟨c, hc⟩ : ∃ c, l[k]? = some c := ⟨_, List.getElem?_eq_getElem (by rw [← HN.out]; exact hlt)⟩
              have hltI : (k : Int) < (n : Int) := by omega
              have hk0 : (0 : Int) ≤ (k : Int) := by omega
              have hxc := HX.out k c hc
              have HC := Lib.hid hc
              clear hc
              by_cases hlo : (c.toNat : Int) < 48
              · have HF : Hid (r = -1) := by
                  unfold Hid
                  rw [HR.out, HG.out, if_neg]
                  intro ha
                  have := (digB_iff c).1 (List.all_eq_true.1 ha c (List.mem_of_getElem? HC.out))
                  omega
                go_wp2
                go_ret
                exact ⟨by rw [HF.out]; rfl, hx⟩
              · by_cases hhi : (57 : Int) < (c.toNat : Int)
                · have HF : Hid (r = -1) := by
                    unfold Hid
                    rw [HR.out, HG.out, if_neg]
                    intro ha
                    have := (digB_iff c).1 (List.all_eq_true.1 ha c (List.mem_of_getElem? HC.out))
                    omega
                  go_wp2
                  go_ret
                  exact ⟨by rw [HF.out]; rfl, hx⟩
                · have HV2 : Hid (valL (l.take (k + 1)) = 10 * V + ((c.toNat : Int) - 48)) := by
                    unfold Hid
                    rw [val_take HC.out, ← HV.out]
                  have HD2 : Hid (∀ c ∈ l.take (k + 1), digB c = true) := by
                    unfold Hid
                    intro d hd
                    rw [List.take_add_one, HC.out] at hd
                    rcases List.mem_append.1 hd with hd | hd
                    · exact hD.out d hd
                    · simp at hd
                      rw [hd, digB_iff]
                      omega
                  have hw1 : IntKind.i64.wrap (10 * V) = 10 * V := by rw [IntKind.wrap_i64]; omega
                  go_wp2
                  go_roundw
                  case rel => exact ⟨k + 1, by omega, by go_num, by rw [HV2.out], HD2, hx⟩
                  case measure => simp [intOf]; omega
            · have hin : k = n := by omega
              subst hin
              have hge : ¬ ((k : Int) < (k : Int)) := by omega
              have HF : Hid (r = V) := by
                unfold Hid
                have e1 : l.take k = l := List.take_of_length_le (by rw [← HN.out]; exact Nat.le_refl _)
                have hD' := hD.out
                rw [e1] at hD'
                rw [HR.out, HG.out, if_pos (List.all_eq_true.2 hD'), HV.out, e1]
              go_wp2
              go_ret
              exact ⟨by rw [HF.out]; rfl, hx⟩
      exact main trivial
  · have hB : n = 0 ∨ 6 < n := by omega
    have HF : Hid (r = -1) := by
      unfold Hid
      rw [HR.out]
      unfold rdL
      rw [← HN.out]
      have : (decide (1 ≤ n) && decide (n ≤ 6)) = false := by
        rcases hB with h | h
        · simp [h]
        · have : ¬ n ≤ 6 := by omega
          simp [this]
      rw [this]; simp
    rcases hB with h | h
    · have h1 : ¬ (1 : Int) ≤ (n : Int) := by omega
      clear hin h
      go_enter Tryz.func53, Tryz.ntmps53
      go_wp2
      go_ret
      exact ⟨by rw [HF.out]; rfl, Ext.refl _⟩
    · have h1 : (1 : Int) ≤ (n : Int) := by omega
      have h2 : ¬ (n : Int) ≤ 6 := by omega
      clear hin h
      go_enter Tryz.func53, Tryz.ntmps53
      go_wp2
      go_ret
      exact ⟨by rw [HF.out]; rfl, Ext.refl _⟩
end Go.Proofs.YtmaaeemhbccpcaaGreatDoor
