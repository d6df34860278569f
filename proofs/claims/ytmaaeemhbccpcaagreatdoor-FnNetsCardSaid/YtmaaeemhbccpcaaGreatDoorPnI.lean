
/- What the program's ParseNet calls: Split, Cut, CutSuffix, Atoi; readNumber, splitNumbers, linesOf. -/
import Derived.Test.YtmaaeemhbccpcaaGreatDoorGD
import Derived.Test.YtmaaeemhbccpcaaGreatDoorShelfP
import Derived.Test.YtmaaeemhbccpcaaGreatDoorTextI
import Derived.Test.YtmaaeemhbccpcaaGreatDoorSplS
namespace Go.Proofs.YtmaaeemhbccpcaaGreatDoor
open Go.RowKit
set_option linter.unusedSimpArgs false
set_option linter.unusedVariables false
/-- What the reading of numbers and the searching in strings ask of a world: the library's tables and variables. -/
structure PnW (w : World) : Prop where
  t10 : Tab10 w
  mx : ∃ m, w.cell? ⟨0, 0, none⟩ = some (.int .i64 m)
  es : ∃ ev, w.cell? ⟨2, 0, none⟩ = some ev ∧ (ev = .nilIface ∨ ∃ te pe, ev = .iface te pe)
  er : ∃ ev, w.cell? ⟨3, 0, none⟩ = some ev ∧ (ev = .nilIface ∨ ∃ te pe, ev = .iface te pe)
theorem PnW.ext {w w' : World} (h : PnW w) (hx : Ext w w') : PnW w' :=
  ⟨h.t10.ext hx, let ⟨m, a⟩ := h.mx; ⟨m, hx.cell a⟩, let ⟨m, a, b⟩ := h.es; ⟨m, hx.cell a, b⟩, let ⟨m, a, b⟩ := h.er; ⟨m, hx.cell a, b⟩⟩
theorem ba_size (l : List UInt8) : (⟨l.toArray⟩ : ByteArray).size = l.length := by simp [ByteArray.size]
theorem strs_flat : ∀ L : List (List UInt8), L.flatMap encS = (L.map fun p => (⟨p.toArray⟩ : ByteArray)).map Value.string
  | [] => rfl
  | a :: r => by rw [List.flatMap_cons, strs_flat r]; rfl
theorem strs_one (L : List (List UInt8)) : ∀ u ∈ (L.map fun p => (⟨p.toArray⟩ : ByteArray)).map Value.string, u.oneCell' = true := by
  intro u hu; obtain ⟨_, _, rfl⟩ := List.mem_map.1 hu; rfl
theorem strs_own (w : World) (L : List (List UInt8)) (hl : L.length ≤ maxLen) :
    (w.alloc (.cells ((L.map fun p => (⟨p.toArray⟩ : ByteArray)).map Value.string).toArray 9)).ownsRow w.heap.size 9 1 (.slice (some ⟨w.heap.size, 0, none⟩) L.length L.length) L.length (L.flatMap encS) := by
  rw [strs_flat]
  exact World.ownsRow_lit (size := 1) (e := 9) w ((L.map fun p => (⟨p.toArray⟩ : ByteArray)).map Value.string).toArray L.length (Nat.le_refl _) hl (by simp)
theorem c_Split (l : List UInt8) (b : UInt8) (w : World) (hl : l.length ≤ 1048576) (h : PnW w) :
    Calls Tryz.prog 67 #[.string ⟨l.toArray⟩, .string ⟨#[b]⟩] w fun e w' => e = .returned (.slice (some ⟨w.heap.size, 0, none⟩) (splitB b l).length (splitB b l).length) ∧ w'.ownsRow w.heap.size 9 1 (.slice (some ⟨w.heap.size, 0, none⟩) (splitB b l).length (splitB b l).length) (splitB b l).length ((splitB b l).flatMap encS) ∧ Ext w w' := by
  obtain ⟨m, hm⟩ := h.mx
  have h9 := Any.strings_Split { sh_laysM146 with } sh_laysM146.i9 ⟨l.toArray⟩ ⟨#[b]⟩ m w (by rw [ba_size]; omega) hm (Nat.le_refl _)
  have e := splitLB b l
  have hlen := Lib.splitB_all ⟨#[b]⟩ (Nat.le_refl _) 0 _ (⟨l.toArray⟩ : ByteArray) rfl
  rw [e, List.length_map] at hlen
  rw [e, ← hlen] at h9
  have hsl := splitB_len b l
  refine h9.mono fun e w' ⟨he, hw⟩ => ⟨he, ?_, ?_⟩
  · rw [hw]; exact strs_own w _ (by unfold maxLen; omega)
  · rw [hw]; exact Ext.alloc _ _
theorem c_Cut (l : List UInt8) (w : World) (hl : l.length ≤ 1048576) (h : PnW w) :
    Calls Tryz.prog 42 #[.string ⟨l.toArray⟩, .string ⟨#[32]⟩] w fun e w' => ∃ x, e = .returned (.tuple #[.string ⟨(cutP 32 l).1.toArray⟩, .string ⟨(cutP 32 l).2.toArray⟩, .bool x]) ∧ Ext w w' := by
  obtain ⟨m, hm⟩ := h.mx
  have h9 := Any.strings_Cut { sh_laysM145 with } ⟨l.toArray⟩ ⟨#[32]⟩ m w (by rw [ba_size]; omega) hm
  have e := cut_one 32 l
  refine h9.mono fun e9 w' ⟨he, n, hw⟩ => ⟨(Lib.cut l [32]).2.2, ?_, ?_⟩
  · rw [he]
    show Ending.returned (Value.tuple #[.string ⟨(Lib.cut l [32]).1.toArray⟩, .string ⟨(Lib.cut l [32]).2.1.toArray⟩, .bool (Lib.cut l [32]).2.2]) = _
    rw [e.1, e.2]
  · rw [hw]; exact (Ext.refl w).drN n
theorem c_CutSuffix (l : List UInt8) (w : World) (hl : l.length ≤ 1048576) :
    Calls Tryz.prog 66 #[.string ⟨l.toArray⟩, .string ⟨#[10]⟩] w fun e w' => e = .returned (.tuple #[.string ⟨(Lib.trimSuffix l [10]).toArray⟩, .bool (Lib.hasSuffix l [10])]) ∧ w' = w :=
  Any.strings_CutSuffix sh_lays104 ⟨l.toArray⟩ ⟨#[10]⟩ w (by rw [ba_size]; omega)
theorem ext_bytes {w w' : World} {t : TypeId} (h : w' = w ∨ ∃ s, w' = Lib.bytesWorld w t s) : Ext w w' := by
  rcases h with rfl | ⟨t', rfl⟩
  · exact Ext.refl _
  · exact Lib.bytesWorld_below _ _ _
theorem c_Itoa64 (n : Int) (w : World) (h0 : 0 ≤ n) (h1 : n ≤ 9223372036854775807) (ht : Tab10 w) : Calls Tryz.prog 57 #[.int .i64 n] w fun e w' => e = .returned (.string ⟨(numL n).toArray⟩) ∧ Ext w w' := by
  have h := Any.strconv_Itoa sh_laysM171 n (by omega) (by omega) w ht
  rw [numL_itoa h0] at h
  refine h.mono fun e w' ⟨he, k, os, hw⟩ => ⟨he, ?_⟩
  rw [hw]
  exact ((Ext.refl w).drN k).trans (Ext.growE _ _)
theorem ba_ne {a b : List UInt8} (h : a ≠ b) : ¬ ((⟨a.toArray⟩ : ByteArray) = ⟨b.toArray⟩) := by
  intro e
  have := congrArg ByteArray.data e
  exact h (by simpa using this)
set_option maxRecDepth 100000 in
set_option maxHeartbeats 1000000 in
theorem c_readNumber (l : List UInt8) (w : World) (hl : l.length ≤ 1048576) (h : PnW w) :
    Calls Tryz.prog 69 #[.string ⟨l.toArray⟩] w fun e w' => e = .returned (.tuple #[.int .i64 ((rnO l).getD 0), .bool (rnO l).isSome]) ∧ Ext w w' := by
  obtain ⟨o, ho⟩ : ∃ o, o = rnO l := ⟨_, rfl⟩
  rw [← ho]
  have HO := Lib.hid ho
  clear ho
  rcases ha : Lib.atoiAll l with v | _ | _
  ·
    have ba := Lib.atoiAll_bounds ha
    have CA : Hid (Calls Tryz.prog 83 #[.string ⟨l.toArray⟩] w fun e w' => e = .returned (.tuple #[.int .i64 v, .nilIface]) ∧ Ext w w') :=
      (Any.strconv_Atoi_ok sh_laysC172 ⟨l.toArray⟩ (by rw [ba_size]; omega) v ha w).mono fun e w' ⟨he, hw⟩ => ⟨he, ext_bytes hw⟩
    have HT := Lib.hid h
    have HA := Lib.hid ha
    clear h ha
    by_cases hv : v < 0
    · have HF : Hid (o = none) := by
        unfold Hid
        rw [HO.out]; unfold rnO; rw [HA.out]
        simp only
        rw [if_neg (by omega)]
      go_enter Tryz.func69, Tryz.ntmps69
      go_wp2_with fail
      refine CA.out.mono ?_
      rintro e w1 ⟨rfl, hx⟩
      go_wp2
      go_ret2
      exact ⟨by rw [HF.out]; rfl, hx⟩
    · have hv0 : 0 ≤ v := by omega
      obtain ⟨A, hA⟩ : ∃ A, A = numL v := ⟨_, rfl⟩
      have CI : Hid (∀ W, Ext w W → Calls Tryz.prog 57 #[.int .i64 v] W fun e w' => e = .returned (.string ⟨A.toArray⟩) ∧ Ext W w') := fun W hX => by rw [hA]; exact c_Itoa64 v W hv0 ba.2 (HT.out.t10.ext hX)
      have HAA := Lib.hid hA
      clear hA
      by_cases he : A = l
      · have HF : Hid (o = some v) := by
          unfold Hid
          rw [HO.out]; unfold rnO; rw [HA.out]
          simp only
          rw [if_pos ⟨hv0, by rw [← HAA.out]; exact he⟩]
        subst he
        go_enter Tryz.func69, Tryz.ntmps69
        go_wp2_with fail
        refine CA.out.mono ?_
        rintro e w1 ⟨rfl, hx⟩
        go_wp2_with fail
        refine (CI.out _ hx).mono ?_
        rintro e w2 ⟨rfl, hx2⟩
        go_wp2
        go_ret2
        exact ⟨by rw [HF.out]; rfl, hx.trans hx2⟩
      · have HF : Hid (o = none) := by
          unfold Hid
          rw [HO.out]; unfold rnO; rw [HA.out]
          simp only
          rw [if_neg]
          rintro ⟨_, e2⟩
          exact he (by rw [HAA.out]; exact e2)
        have hb : (A == l) = false := by simpa using he
        go_enter Tryz.func69, Tryz.ntmps69
        go_wp2_with fail
        refine CA.out.mono ?_
        rintro e w1 ⟨rfl, hx⟩
        go_wp2_with fail
        refine (CI.out _ hx).mono ?_
        rintro e w2 ⟨rfl, hx2⟩
        go_wp2
        go_ret2
        exact ⟨by rw [HF.out]; rfl, hx.trans hx2⟩
  ·
    obtain ⟨ev, hv1, hv2⟩ := h.es
    have CA : Hid (Calls Tryz.prog 83 #[.string ⟨l.toArray⟩] w fun e w' => ∃ z N, e = .returned (.tuple #[.int .i64 z, .iface 130 (.pointer (some ⟨N, 0, none⟩))]) ∧ Ext w w') :=
      (Any.strconv_Atoi_syntax sh_laysC172 ⟨l.toArray⟩ (by rw [ba_size]; omega) ha ev w hv1 hv2).mono fun e w' ⟨N, he, _, _, hx⟩ => ⟨_, N, he, hx⟩
    have HF : Hid (o = none) := by
      unfold Hid
      rw [HO.out]
      unfold rnO
      rw [ha]
    clear h ha
    go_enter Tryz.func69, Tryz.ntmps69
    go_wp2_with fail
    refine CA.out.mono ?_
    rintro e w1 ⟨z, N, rfl, hx⟩
    go_wp2
    go_ret2
    exact ⟨by rw [HF.out]; rfl, hx⟩
  ·
    obtain ⟨ev, hv1, hv2⟩ := h.er
    have CA : Hid (Calls Tryz.prog 83 #[.string ⟨l.toArray⟩] w fun e w' => ∃ z N, e = .returned (.tuple #[.int .i64 z, .iface 130 (.pointer (some ⟨N, 0, none⟩))]) ∧ Ext w w') :=
      (Any.strconv_Atoi_range sh_laysC172 ⟨l.toArray⟩ (by rw [ba_size]; omega) ha ev w hv1 hv2).mono fun e w' ⟨N, he, _, _, hx⟩ => ⟨_, N, he, hx⟩
    have HF : Hid (o = none) := by
      unfold Hid
      rw [HO.out]
      unfold rnO
      rw [ha]
    clear h ha
    go_enter Tryz.func69, Tryz.ntmps69
    go_wp2_with fail
    refine CA.out.mono ?_
    rintro e w1 ⟨z, N, rfl, hx⟩
    go_wp2
    go_ret2
    exact ⟨by rw [HF.out]; rfl, hx⟩
end Go.Proofs.YtmaaeemhbccpcaaGreatDoor
