
/- The reference's splitting of strings: l1Split. -/
import Derived.Test.YtmaaeemhbccpcaaGreatDoorGD
import Derived.Test.YtmaaeemhbccpcaaGreatDoorTextI
namespace Go.Proofs.YtmaaeemhbccpcaaGreatDoor
open Go.RowKit
set_option linter.unusedSimpArgs false
set_option linter.unusedVariables false
/-- A string as a cell. -/
def encS (l : List UInt8) : List Value := [.string ⟨l.toArray⟩]
theorem encS_len (l : List UInt8) : (encS l).length = 1 := rfl
theorem ba_ext (l : List UInt8) (f i : Nat) : (⟨l.toArray⟩ : ByteArray).extract f i = ⟨((l.drop f).take (i - f)).toArray⟩ := by
  apply ByteArray.ext
  simp [ByteArray.data_extract, List.extract_toArray, List.extract_eq_take_drop]
theorem new_cellS (w : World) (v : Value) (t : TypeId) : ∀ j u, ([v] : List Value)[j]? = some u → (w.alloc (.cells #[v] t)).cell? ((⟨w.heap.size, 0, none⟩ : Addr).add j) = some u := by
  intro j u hj
  match j, hj with
  | 0, hj => exact blk_cell (blk_alloc _ _) (by simpa using hj)
  | j + 1, hj => simp at hj
theorem flat_snocS (D : List (List UInt8)) (P : List UInt8) : (D ++ [P]).flatMap encS = D.flatMap encS ++ [.string ⟨P.toArray⟩] := by simp [encS]
set_option maxRecDepth 100000 in
set_option maxHeartbeats 1000000 in
theorem c_l1Split (l : List UInt8) (b : UInt8) (w : World) (hl : l.length ≤ 1048576) :
    Calls Tryz.prog 52 #[.string ⟨l.toArray⟩, .int .u8 b.toNat] w fun e w' => ∃ v, e = .returned v ∧ w'.ownsRow w.heap.size 9 1 v (splitB b l).length ((splitB b l).flatMap encS) ∧ Ext w w' := by
  obtain ⟨i0, hi0, hz0, hz1, hz2⟩ := info_parts Tryz.info_strT
  obtain ⟨n, hn⟩ : ∃ n, n = l.length := ⟨_, rfl⟩
  have hsz : (⟨l.toArray⟩ : ByteArray).size = n := by rw [hn]; simp [ByteArray.size]
  have HN := Lib.hid hn
  rw [← hn] at hl
  clear hn
  go_enter Tryz.func52, Tryz.ntmps52
  go_wp2_with fail
  go_loopw [7, 6, 5] (fun t f o wr => ∃ (i from_ : Nat) (D : List (List UInt8)), i ≤ n ∧ from_ ≤ i ∧ t = .int .i64 i ∧ f = .int .i64 from_ ∧ Hid (splitB b l = D ++ splitB b (l.drop from_)) ∧ Hid (b ∉ (l.drop from_).take (i - from_)) ∧ D.length ≤ i ∧ wr.ownsRow w.heap.size 9 1 o D.length (D.flatMap encS) ∧ Ext w wr) (fun t _ _ _ => n - (intOf t).toNat)
  case atStart => exact ⟨0, 0, [], by omega, by omega, rfl, rfl, by simp [Hid], by simp [Hid], by simp, World.ownsRow_nil _ _ _ _, Ext.refl _⟩
  case round =>
    obtain ⟨i, fr, D, hi, hf, rfl, rfl, hD, hb, hDl, hO, hx⟩ := hrel
    by_cases hlt : i < n
    · have hlt' : i < l.length := by rw [← HN.out]; exact hlt
      obtain ⟨c, hc⟩ : ∃ c, l[i]? = some c := ⟨_, List.getElem?_eq_getElem hlt'⟩
      have hltI : (i : Int) < (n : Int) := by omega
      have hi0' : (0 : Int) ≤ (i : Int) := by omega
      have hidx : ∀ (h : i < (⟨l.toArray⟩ : ByteArray).size), (⟨l.toArray⟩ : ByteArray)[i] = c := fun h => by
        show (l.toArray)[i] = c
        have := (List.getElem?_eq_some_iff.1 hc).2
        simpa using this
      obtain ⟨a, cap, rfl, _, _, _⟩ := own_form hO
      obtain ⟨P, hP⟩ : ∃ P, P = (l.drop fr).take (i - fr) := ⟨_, rfl⟩
      have hext : (⟨l.toArray⟩ : ByteArray).extract fr i = ⟨P.toArray⟩ := by rw [hP]; exact ba_ext l fr i
      have HO := Lib.hid hO
      have HP := Lib.hid hP
      have HC := Lib.hid hc
      have hfI : (fr : Int) ≤ (i : Int) := by omega
      have hf0 : (0 : Int) ≤ (fr : Int) := by omega
      clear hO hP hc hlt'
      by_cases hcb : c = b
      · have heq : ((c.toNat : Int) == (b.toNat : Int)) = true := by rw [hcb]; simp
        have hD2 : Hid (splitB b l = (D ++ [P]) ++ splitB b (l.drop (i + 1))) := by
          unfold Hid
          have e1 : l.drop fr = P ++ b :: l.drop (i + 1) := by
            have e2 : (l.drop fr).drop (i - fr) = l.drop i := by rw [List.drop_drop]; congr 1; omega
            have e3 : l.drop i = b :: l.drop (i + 1) := by
              obtain ⟨h1, h2⟩ := List.getElem?_eq_some_iff.1 HC.out
              rw [List.drop_eq_getElem_cons h1, h2, hcb]
            rw [← List.take_append_drop (i - fr) (l.drop fr), e2, e3, HP.out]
          rw [hD.out, e1, splitB_cut _ (by rw [HP.out]; exact hb.out)]
          simp
        clear hcb hD hb
        go_wp2_with (at_builtin; refine wpList_append_own _ rfl _ _ 68 rfl w.heap.size 9 i0 (.string ⟨#[]⟩) 1 16 Tryz.underlying68 hi0 hz0 hz1 hz2 rfl (by decide) _ _ _ rfl (own_ext HO.out (Ext.alloc _ _)) ⟨wr.heap.size, 0, none⟩ 1 1 [.string ⟨P.toArray⟩] rfl rfl (new_cellS _ _ _) (by intro u hu; simp at hu; subst hu; rfl) (by unfold maxLen; omega) (by omega) (by have := hx.size; simp; omega) ?_; intro v6 w6 hown6 hgr6 _; obtain ⟨a8, c8, rfl, _, _, _⟩ := own_form hown6)
        have hl9 : (D ++ [P]).length = D.length + 1 := by simp
        have hX9 := Lib.hid ((hx.trans (Ext.alloc _ _)).gr hgr6 (fun q hq => (HO.out.lt q hq).1))
        have hO9 : Hid (w6.ownsRow w.heap.size 9 1 (.slice a8 (D.length + 1) c8) (D ++ [P]).length ((D ++ [P]).flatMap encS)) := by
          unfold Hid
          rw [hl9, flat_snocS]; exact hown6
        go_roundw
        case rel => exact ⟨i + 1, i + 1, D ++ [P], by omega, by omega, by go_num, by go_num, hD2, by simp [Hid], by rw [hl9]; omega, hO9.out, hX9.out⟩
        case measure => simp [intOf]; omega
      · have heq : ((c.toNat : Int) == (b.toNat : Int)) = false := by
          simp only [beq_eq_false_iff_ne, ne_eq]
          intro e
          exact hcb (UInt8.toNat_inj.1 (by omega))
        have hb2 : Hid (b ∉ (l.drop fr).take (i + 1 - fr)) := by
          unfold Hid
          have e1 : (l.drop fr)[i - fr]? = some c := by rw [List.getElem?_drop]; rw [show fr + (i - fr) = i by omega]; exact HC.out
          rw [show i + 1 - fr = (i - fr) + 1 by omega, List.take_add_one, e1]
          intro hm
          rcases List.mem_append.1 hm with hm | hm
          · exact hb.out hm
          · simp at hm; exact hcb hm.symm
        clear hcb hb
        go_wp2
        go_roundw
        case rel => exact ⟨i + 1, fr, D, by omega, by omega, by go_num, rfl, hD, hb2, by omega, HO.out, hx⟩
        case measure => simp [intOf]; omega
    · have hin : i = n := by omega
      subst hin
      have hge : ¬ ((i : Int) < (i : Int)) := by omega
      obtain ⟨a, cap, rfl, _, _, _⟩ := own_form hO
      obtain ⟨P, hP⟩ : ∃ P, P = (l.drop fr).take (i - fr) := ⟨_, rfl⟩
      have hext : (⟨l.toArray⟩ : ByteArray).extract fr i = ⟨P.toArray⟩ := by rw [hP]; exact ba_ext l fr i
      have hfI : (fr : Int) ≤ (i : Int) := by omega
      have hf0 : (0 : Int) ≤ (fr : Int) := by omega
      have hD2 : Hid (splitB b l = D ++ [P]) := by
        unfold Hid
        have e1 : (l.drop fr).take (i - fr) = l.drop fr := List.take_of_length_le (by rw [List.length_drop, ← HN.out]; omega)
        have hb' := hb.out
        rw [e1] at hb' hP
        rw [hD.out, splitB_none hb', hP]
      have HO := Lib.hid hO
      clear hO hP hD hb
      go_wp2_with (at_builtin; refine wpList_append_own _ rfl _ _ 68 rfl w.heap.size 9 i0 (.string ⟨#[]⟩) 1 16 Tryz.underlying68 hi0 hz0 hz1 hz2 rfl (by decide) _ _ _ rfl (own_ext HO.out (Ext.alloc _ _)) ⟨wr.heap.size, 0, none⟩ 1 1 [.string ⟨P.toArray⟩] rfl rfl (new_cellS _ _ _) (by intro u hu; simp at hu; subst hu; rfl) (by unfold maxLen; omega) (by omega) (by have := hx.size; simp; omega) ?_; intro v6 w6 hown6 hgr6 _; obtain ⟨a8, c8, rfl, _, _, _⟩ := own_form hown6)
      have hl9 : (D ++ [P]).length = D.length + 1 := by simp
      have hX9 := Lib.hid ((hx.trans (Ext.alloc _ _)).gr hgr6 (fun q hq => (HO.out.lt q hq).1))
      go_ret
      refine ⟨_, rfl, ?_, hX9.out⟩
      rw [hD2.out, hl9, flat_snocS]
      exact hown6
end Go.Proofs.YtmaaeemhbccpcaaGreatDoor
