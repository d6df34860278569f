
/- splitNumbers and linesOf of the program: their contracts. -/
import Derived.Test.YtmaaeemhbccpcaaGreatDoorPnI
import Derived.Test.YtmaaeemhbccpcaaGreatDoorGB
namespace Go.Proofs.YtmaaeemhbccpcaaGreatDoor
open Go.RowKit
set_option linter.unusedSimpArgs false
set_option linter.unusedVariables false
def appO (D : List Int) : Option (List Int) → Option (List Int)
  | none => none
  | some q => some (D ++ q)
theorem appO_nil (o : Option (List Int)) : appO [] o = o := by cases o <;> rfl
theorem sn_drop {P : List (List UInt8)} {k : Nat} {p : List UInt8} (h : P[k]? = some p) : snO (P.drop k) = match rnO p with
    | none => none
    | some v => appO [v] (snO (P.drop (k + 1))) := by
  have hk : k < P.length := (List.getElem?_eq_some_iff.1 h).1
  have e : P.drop k = p :: P.drop (k + 1) := by
    rw [List.drop_eq_getElem_cons hk]; congr 1; exact (List.getElem?_eq_some_iff.1 h).2
  rw [e]
  show (match rnO p with
    | none => none
    | some v => match snO (P.drop (k + 1)) with
      | none => none
      | some q => some (v :: q)) = _
  cases rnO p with
  | none => rfl
  | some v => cases snO (P.drop (k + 1)) <;> rfl
theorem appO_app (D : List Int) (v : Int) (o : Option (List Int)) : appO D (appO [v] o) = appO (D ++ [v]) o := by cases o <;> simp [appO]
theorem str_cell {w : World} {base g n cap : Nat} {L : List (List UInt8)} {k : Nat} {p : List UInt8} (h : w.ownsRow base 9 1 (.slice (some ⟨g, 0, none⟩) n cap) n (L.flatMap encS)) (hk : k < n) (hp : L[k]? = some p) : w.cell? ⟨g, k, none⟩ = some (.string ⟨p.toArray⟩) := by
  rw [h.cellAt k (by omega)]
  have := flatMap_idx encS_len L k p 0 (.string ⟨p.toArray⟩) hp rfl
  simpa using this
set_option maxRecDepth 100000 in
set_option maxHeartbeats 1000000 in
theorem c_splitNumbers (l : List UInt8) (w : World) (hl : l.length ≤ 1048576) (h : PnW w) :
    Calls Tryz.prog 43 #[.string ⟨l.toArray⟩, .string ⟨#[32]⟩] w fun e w' => ∃ v, e = .returned (.tuple #[v, .bool (snO (splitB 32 l)).isSome]) ∧ OwnI w' w.heap.size w'.heap.size v ((snO (splitB 32 l)).getD []) ∧ Ext w w' := by
  obtain ⟨i0, hi0, hz0, hz1, hz2⟩ := info_parts Tryz.info_intC
  have CS := Lib.hid (c_Split l 32 w hl h)
  have CN : Hid (∀ p ∈ splitB 32 l, ∀ W, Ext w W → Calls Tryz.prog 69 #[.string ⟨p.toArray⟩] W fun e w' => e = .returned (.tuple #[.int .i64 ((rnO p).getD 0), .bool (rnO p).isSome]) ∧ Ext W w') :=
    fun p hp W hX => c_readNumber p W (Nat.le_trans (splitB_piece 32 l p hp) hl) (h.ext hX)
  have hlen := splitB_len 32 l
  obtain ⟨P, hP⟩ : ∃ P, P = splitB 32 l := ⟨_, rfl⟩
  rw [← hP] at CS CN hlen ⊢
  clear hP h
  obtain ⟨n, hn⟩ : ∃ n, n = P.length := ⟨_, rfl⟩
  rw [← hn] at CS hlen
  obtain ⟨S, hS⟩ : ∃ S, S = snO P := ⟨_, rfl⟩
  rw [← hS]
  have HN := Lib.hid hn
  have HS := Lib.hid hS
  have hn20 : n ≤ 1048577 := by omega
  clear hn hS hlen hl
  go_enter Tryz.func43, Tryz.ntmps43
  go_wp2_with fail
  refine CS.out.mono ?_
  rintro e w1 ⟨rfl, ho, hx⟩
  have HO := Lib.hid ho
  have HX := Lib.hid hx
  have hsz : w.heap.size ≤ w1.heap.size := hx.size
  have hgl : w.heap.size < w1.heap.size := (ho.lt _ rfl).2
  clear ho hx CS
  obtain ⟨g, hg⟩ : ∃ g, g = w.heap.size := ⟨_, rfl⟩
  rw [← hg] at HO ⊢
  have HG := Lib.hid hg
  clear hg
  go_wp2_with fail
  go_loopw [15, 6] (fun t o wr => ∃ (k : Nat) (D : List Int), k ≤ n ∧ t = .int .i64 k ∧ Hid (S = appO D (snO (P.drop k))) ∧ D.length = k ∧ wr.ownsRow w1.heap.size 3 1 o D.length (D.flatMap encI) ∧ Ext w1 wr) (fun t _ _ => n - (intOf t).toNat)
  case atStart => exact ⟨0, [], by omega, rfl, by unfold Hid; rw [HS.out, List.drop_zero, appO_nil], rfl, World.ownsRow_nil _ _ _ _, Ext.refl _⟩
  case round =>
    obtain ⟨k, D, hk, rfl, hD, hDl, hR, hx⟩ := hrel
    obtain ⟨a, cap, rfl, _, _, _⟩ := own_form hR
    have HR := Lib.hid hR
    have HDL := Lib.hid hDl
    clear hR hDl
    by_cases hlt : k < n
    · obtain ⟨p, hp⟩ : ∃ p, P[k]? = some p := ⟨_, List.getElem?_eq_getElem (by rw [← HN.out]; exact hlt)⟩
      have c0 := hx.cell (str_cell HO.out hlt hp)
      have hltI : (k : Int) < (n : Int) := by omega
      have hk0 : (0 : Int) ≤ (k : Int) := by omega
      have hsd := sn_drop hp
      have CR := Lib.hid (CN.out p (List.mem_of_getElem? hp) wr (HX.out.trans hx))
      cases hr : rnO p with
      | none =>
        have HF : Hid (S = none) := by
          unfold Hid
          rw [hD.out, hsd, hr]; rfl
        rw [hr] at CR
        clear hsd hp hr
        go_wp2_with fail
        refine CR.out.mono ?_
        rintro e w2 ⟨rfl, hx2⟩
        clear c0
        go_wp2
        go_ret2
        refine ⟨.slice none 0 0, ?_, ?_, HX.out.trans (hx.trans hx2)⟩
        · rw [HF.out]; rfl
        · rw [HF.out]
          exact OwnI.of (World.ownsRow_nil _ _ _ _)
      | some v =>
        have HD2 : Hid (S = appO (D ++ [v]) (snO (P.drop (k + 1)))) := by
          unfold Hid
          rw [hD.out, hsd, hr]
          exact appO_app _ _ _
        rw [hr] at CR
        clear hsd hp hr hD
        go_wp2_with fail
        refine CR.out.mono ?_
        rintro e w2 ⟨rfl, hx2⟩
        have HR2 := Lib.hid (own_ext HR.out hx2)
        have HX2 := Lib.hid (hx.trans hx2)
        have hD20 : D.length ≤ 1048577 := by rw [HDL.out]; omega
        have hs2 : w1.heap.size ≤ w2.heap.size := HX2.out.size
        clear c0 hx2 hx CR HR
        go_wp2_with (at_builtin; refine wpList_append_own _ rfl _ _ 31 rfl w1.heap.size 3 i0 (.int .i64 0) 1 8 Tryz.underlying31 hi0 hz0 hz1 hz2 rfl (by decide) _ _ _ rfl (own_ext HR2.out (Ext.alloc _ _)) ⟨w2.heap.size, 0, none⟩ 1 1 [.int .i64 v] rfl rfl (new_cells1 _ _ _) (by intro u hu; simp at hu; subst hu; rfl) (by unfold maxLen; omega) (by omega) (by simp; omega) ?_; intro v3 w3 hown3 hgr3 _; obtain ⟨a8, c8, rfl, _, _, _⟩ := own_form hown3)
        have hX9 := Lib.hid (HX2.out.push HR2.out hgr3 (Nat.le_refl _))
        have hO9 := Lib.hid (own_push hown3)
        have hl9 : (D ++ [v]).length = D.length + 1 := by simp
        clear hown3 hgr3
        go_roundw
        case rel => exact ⟨k + 1, D ++ [v], by omega, by go_num, HD2, by rw [hl9, HDL.out], by rw [hl9] at hO9 ⊢; exact hO9.out, hX9.out⟩
        case measure => simp [intOf]; omega
    · have hge : ¬ ((k : Int) < (n : Int)) := by omega
      have HF : Hid (S = some D) := by
        unfold Hid
        rw [hD.out, List.drop_of_length_le (by rw [← HN.out]; omega)]
        simp [snO, appO]
      clear hD
      go_wp2
      go_ret2
      refine ⟨.slice a D.length cap, ?_, ?_, HX.out.trans hx⟩
      · rw [HF.out]; rfl
      · rw [HF.out]
        exact OwnI.of (own_mono HR.out hsz)
set_option maxRecDepth 100000 in
set_option maxHeartbeats 1000000 in
theorem c_linesOf (l : List UInt8) (w : World) (hl : l.length ≤ 1048576) (h : PnW w) :
    Calls Tryz.prog 41 #[.string ⟨l.toArray⟩] w fun e w' => ∃ v, e = .returned (.tuple #[v, .bool (linesO l).isSome]) ∧ w'.ownsRow w.heap.size 9 1 v ((linesO l).getD []).length (((linesO l).getD []).flatMap encS) ∧ Ext w w' := by
  obtain ⟨o, ho⟩ : ∃ o, o = linesO l := ⟨_, rfl⟩
  rw [← ho]
  unfold linesO at ho
  by_cases he : l = []
  · subst he
    rw [if_pos rfl] at ho
    subst ho
    clear h
    go_enter Tryz.func41, Tryz.ntmps41
    go_wp2
    go_ret2
    exact ⟨_, rfl, World.ownsRow_nil _ _ _ _, Ext.refl _⟩
  · rw [if_neg he] at ho
    have hb : (l == []) = false := by simpa using he
    have CC := Lib.hid (c_CutSuffix l w hl)
    have hT : (Lib.trimSuffix l [10]).length ≤ l.length := by
      unfold Lib.trimSuffix
      split
      · simp
      · exact Nat.le_refl _
    cases hs : Lib.hasSuffix l [10] with
    | false =>
      rw [hs] at ho CC
      simp only [Bool.false_eq_true, if_false] at ho
      subst ho
      clear h hs hT
      go_enter Tryz.func41, Tryz.ntmps41
      go_wp2_with fail
      refine CC.out.mono ?_
      rintro e w1 ⟨rfl, rfl⟩
      go_wp2
      go_ret2
      exact ⟨_, rfl, World.ownsRow_nil _ _ _ _, Ext.refl _⟩
    | true =>
      rw [hs] at ho CC
      simp only [if_true] at ho
      obtain ⟨q, hq⟩ : ∃ q, q = Lib.trimSuffix l [10] := ⟨_, rfl⟩
      rw [← hq] at CC ho hT
      have CS := Lib.hid (c_Split q 10 w (by omega) h)
      have HO := Lib.hid ho
      clear h hs hT hq ho
      go_enter Tryz.func41, Tryz.ntmps41
      go_wp2_with fail
      refine CC.out.mono ?_
      rintro e w1 ⟨rfl, rfl⟩
      go_wp2_with fail
      refine CS.out.mono ?_
      rintro e w2 ⟨rfl, ho2, hx2⟩
      go_wp2
      go_ret2
      refine ⟨.slice (some ⟨w1.heap.size, 0, none⟩) (splitB 10 q).length (splitB 10 q).length, ?_, ?_, hx2⟩
      · rw [HO.out]; rfl
      · rw [HO.out]; exact ho2
end Go.Proofs.YtmaaeemhbccpcaaGreatDoor
