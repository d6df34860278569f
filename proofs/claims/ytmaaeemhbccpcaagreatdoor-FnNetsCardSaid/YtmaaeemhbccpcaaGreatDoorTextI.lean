
/- The program's text of a net: joinNumbers, NetText. -/
import Derived.Test.YtmaaeemhbccpcaaGreatDoorTextS
import Derived.Test.YtmaaeemhbccpcaaGreatDoorShelfN
import Derived.Test.YtmaaeemhbccpcaaGreatDoorIsNet
import Derived.Lib.SmallJoins
namespace Go.Proofs.YtmaaeemhbccpcaaGreatDoor
open Go.RowKit
set_option linter.unusedSimpArgs false
set_option linter.unusedVariables false
/-- The table of the powers of ten, as the library lays it. -/
abbrev Tab10 (w : World) : Prop := Lib.TabIs Tryz.prog w "internal/strconv.uint64pow10" .u64 Lib.pow10Tab
theorem gTab10 : Tryz.prog.globalNamed "internal/strconv.uint64pow10" = some 1 := by kernel_rfl
theorem Tab10.ext {w w' : World} (h : Tab10 w) (hx : Ext w w') : Tab10 w' := Joins.tab_stays gTab10 h hx (Nat.le_refl _)
theorem Ext.growE (w : World) (os : Array Obj) : Ext w (Go.Sort.grow w os) :=
  ⟨rfl, rfl, rfl, by simp [Go.Sort.grow], fun k hk => by simp [Go.Sort.grow]; rw [Array.getElem?_append_left hk]⟩
theorem c_Itoa (n : Int) (w : World) (h0 : 0 ≤ n) (h1 : n ≤ 999) (ht : Tab10 w) : Calls Tryz.prog 57 #[.int .i64 n] w fun e w' => e = .returned (.string ⟨(numL n).toArray⟩) ∧ Ext w w' := by
  have h := Any.strconv_Itoa sh_laysM171 n (by omega) (by omega) w ht
  rw [numL_itoa h0] at h
  refine h.mono fun e w' ⟨he, k, os, hw⟩ => ⟨he, ?_⟩
  rw [hw]
  exact ((Ext.refl w).drN k).trans (Ext.growE _ _)
theorem Tryz.info_strT : (Tryz.prog.info? 9).map (fun i => (i.zero, i.size, i.bytes)) = some (some (.string ⟨#[]⟩), 1, 16) := by kernel_rfl
theorem c_Join3 (bk : Nat) (A B C : List UInt8) (w : World) (hbk : bk < w.heap.size) (hA : A.length ≤ 3) (hB : B.length ≤ 3) (hC : C.length ≤ 3) (h0 : w.cell? ⟨bk, 0, none⟩ = some (.string ⟨A.toArray⟩)) (h1 : w.cell? ⟨bk, 1, none⟩ = some (.string ⟨B.toArray⟩)) (h2 : w.cell? ⟨bk, 2, none⟩ = some (.string ⟨C.toArray⟩)) :
    Calls Tryz.prog 58 #[.slice (some ⟨bk, 0, none⟩) 3 3, .string ⟨#[32]⟩] w fun e w' => e = .returned (.string ⟨(A ++ [32] ++ B ++ [32] ++ C).toArray⟩) ∧ Ext w w' := by
  have h := Any.strings_Join sh_lays156 sh_Builder_Extra_156 bk 0 3 [⟨A.toArray⟩, ⟨B.toArray⟩, ⟨C.toArray⟩] ⟨#[32]⟩ w (fun j x hx => by
    match j, hx with
    | 0, hx => simp at hx; subst hx; exact h0
    | 1, hx => simp at hx; subst hx; exact h1
    | 2, hx => simp at hx; subst hx; exact h2
    | j + 3, hx => simp at hx) hbk (by simp) (by simp) (by
      show (Lib.join [A, B, C] [32]).length ≤ _
      rw [join3]
      simp only [List.length_append, List.length_cons, List.length_nil]
      omega)
  have e : Lib.join (([⟨A.toArray⟩, ⟨B.toArray⟩, ⟨C.toArray⟩] : List ByteArray).map (·.data.toList)) (⟨#[32]⟩ : ByteArray).data.toList = A ++ [32] ++ B ++ [32] ++ C := by
    show Lib.join [A, B, C] [32] = _
    exact join3 A B C
  rw [e] at h
  exact h
theorem made_str3 : (madeCells (Value.string ⟨#[]⟩).cells (3 * 1)).toList = [.string ⟨#[]⟩, .string ⟨#[]⟩, .string ⟨#[]⟩] := by
  simp only [madeCells, Value.cells]
  kernel_rfl
set_option maxRecDepth 100000 in
set_option maxHeartbeats 1000000 in
theorem c_joinN (v : Value) (la ha : Nat) (a b c : Int) (w : World) (h : Ints w la ha v [a, b, c]) (hh : ha ≤ w.heap.size) (ha0 : 0 ≤ a ∧ a ≤ 999) (hb0 : 0 ≤ b ∧ b ≤ 999) (hc0 : 0 ≤ c ∧ c ≤ 999) (ht : Tab10 w) :
    Calls Tryz.prog 28 #[v, .string ⟨#[32]⟩] w fun e w' => e = .returned (.string ⟨(lineL [a, b, c]).toArray⟩) ∧ Ext w w' := by
  obtain ⟨i0, hi0, hz0, hz1, hz2⟩ := info_parts Tryz.info_strT
  obtain ⟨ad, cap, rfl, m1, m2, _⟩ := id h
  obtain ⟨b1, o1, g1, rfl, hg1, c0⟩ := Ints_at h (show 0 < 3 by omega)
  obtain ⟨b2, o2, g2, e2, hg2, c1⟩ := Ints_at h (show 1 < 3 by omega)
  obtain ⟨b3, o3, g3, e3, hg3, c2⟩ := Ints_at h (show 2 < 3 by omega)
  obtain ⟨rfl, rfl⟩ : b1 = b2 ∧ o1 = o2 := by simpa using e2
  obtain ⟨rfl, rfl⟩ : b1 = b3 ∧ o1 = o3 := by simpa using e3
  obtain rfl : a = g1 := by simpa using hg1.out
  obtain rfl : b = g2 := by simpa using hg2.out
  obtain rfl : c = g3 := by simpa using hg3.out
  rw [Nat.add_zero] at c0
  have la1 := numL_len ha0.1 ha0.2
  have lb1 := numL_len hb0.1 hb0.2
  have lc1 := numL_len hc0.1 hc0.2
  rw [line3]
  obtain ⟨A, hA⟩ : ∃ A, A = numL a := ⟨_, rfl⟩
  obtain ⟨B, hB⟩ : ∃ A, A = numL b := ⟨_, rfl⟩
  obtain ⟨C, hC⟩ : ∃ A, A = numL c := ⟨_, rfl⟩
  have CA : Hid (∀ W, Ext w W → Calls Tryz.prog 57 #[.int .i64 a] W fun e w' => e = .returned (.string ⟨A.toArray⟩) ∧ Ext W w') := fun W hX => by rw [hA]; exact c_Itoa a W ha0.1 ha0.2 (ht.ext hX)
  have CB : Hid (∀ W, Ext w W → Calls Tryz.prog 57 #[.int .i64 b] W fun e w' => e = .returned (.string ⟨B.toArray⟩) ∧ Ext W w') := fun W hX => by rw [hB]; exact c_Itoa b W hb0.1 hb0.2 (ht.ext hX)
  have CC : Hid (∀ W, Ext w W → Calls Tryz.prog 57 #[.int .i64 c] W fun e w' => e = .returned (.string ⟨C.toArray⟩) ∧ Ext W w') := fun W hX => by rw [hC]; exact c_Itoa c W hc0.1 hc0.2 (ht.ext hX)
  rw [← hA] at la1 ⊢
  rw [← hB] at lb1 ⊢
  rw [← hC] at lc1 ⊢
  clear hA hB hC h hg1 hg2 hg3 e2 e3 ht
  simp only [List.length_cons, List.length_nil] at m1 ⊢
  go_enter Tryz.func28, Tryz.ntmps28
  go_wp2_with (at_make; refine wpList_make_full _ rfl _ _ 68 rfl w.heap.size 9 i0 (.string ⟨#[]⟩) 1 Tryz.underlying68 hi0 hz0 hz1 _ _ _ _ 3 rfl rfl rfl rfl (by rw [hz2]; omega) (by unfold maxLen; omega) (Nat.le_refl _) ?_; intro w1 hown hgrow; rw [made_str3] at hown)
  have hx1 : Ext w w1 := (Ext.refl w).gr hgrow (fun q hq => by cases hq)
  go_loopw [13] (fun t wr => Ext w wr ∧ ((t = .int .i64 0 ∧ wr.ownsRow w.heap.size 9 1 (.slice (some ⟨w.heap.size, 0, none⟩) 3 3) 3 [.string ⟨#[]⟩, .string ⟨#[]⟩, .string ⟨#[]⟩]) ∨ (t = .int .i64 1 ∧ wr.ownsRow w.heap.size 9 1 (.slice (some ⟨w.heap.size, 0, none⟩) 3 3) 3 [.string ⟨A.toArray⟩, .string ⟨#[]⟩, .string ⟨#[]⟩]) ∨ (t = .int .i64 2 ∧ wr.ownsRow w.heap.size 9 1 (.slice (some ⟨w.heap.size, 0, none⟩) 3 3) 3 [.string ⟨A.toArray⟩, .string ⟨B.toArray⟩, .string ⟨#[]⟩]) ∨ (t = .int .i64 3 ∧ wr.ownsRow w.heap.size 9 1 (.slice (some ⟨w.heap.size, 0, none⟩) 3 3) 3 [.string ⟨A.toArray⟩, .string ⟨B.toArray⟩, .string ⟨C.toArray⟩]))) (fun t _ => 3 - (intOf t).toNat)
  case atStart => exact ⟨hx1, Or.inl ⟨rfl, hown⟩⟩
  case round =>
    clear hown hgrow hx1
    obtain ⟨hx, hk⟩ := hrel
    have k0 := hx.cell c0
    have k1 := hx.cell c1
    have k2 := hx.cell c2
    rcases hk with ⟨rfl, hR⟩ | ⟨rfl, hR⟩ | ⟨rfl, hR⟩ | ⟨rfl, hR⟩
    · go_wp2_with fail
      refine (CA.out _ hx).mono ?_
      rintro e w5 ⟨rfl, hx5⟩
      have h5 := Lib.hid (own_ext hR hx5)
      have q0 : w5.cell? ⟨w.heap.size, 0, none⟩ = some (.string ⟨#[]⟩) := by rw [h5.out.cellAt 0 (by omega)]; rfl
      have q1 := h5.out.frozenAt 0
      have hx6 := Lib.hid (hx.trans hx5)
      clear k0 k1 k2 hx5 hR hx
      go_wp2
      go_roundw
      case rel => exact ⟨hx6.out.st (p := ⟨w.heap.size, 0, none⟩) (Nat.le_refl _) _, Or.inr (Or.inl ⟨rfl, (h5.out.stored 0 _).1⟩)⟩
      case measure => simp [intOf]
    · go_wp2_with fail
      refine (CB.out _ hx).mono ?_
      rintro e w5 ⟨rfl, hx5⟩
      have h5 := Lib.hid (own_ext hR hx5)
      have q0 : w5.cell? ⟨w.heap.size, 1, none⟩ = some (.string ⟨#[]⟩) := by rw [h5.out.cellAt 1 (by omega)]; rfl
      have q1 := h5.out.frozenAt 1
      have hx6 := Lib.hid (hx.trans hx5)
      clear k0 k1 k2 hx5 hR hx
      go_wp2
      go_roundw
      case rel => exact ⟨hx6.out.st (p := ⟨w.heap.size, 1, none⟩) (Nat.le_refl _) _, Or.inr (Or.inr (Or.inl ⟨rfl, (h5.out.stored 1 _).1⟩))⟩
      case measure => simp [intOf]
    · go_wp2_with fail
      refine (CC.out _ hx).mono ?_
      rintro e w5 ⟨rfl, hx5⟩
      have h5 := Lib.hid (own_ext hR hx5)
      have q0 : w5.cell? ⟨w.heap.size, 2, none⟩ = some (.string ⟨#[]⟩) := by rw [h5.out.cellAt 2 (by omega)]; rfl
      have q1 := h5.out.frozenAt 2
      have hx6 := Lib.hid (hx.trans hx5)
      clear k0 k1 k2 hx5 hR hx
      go_wp2
      go_roundw
      case rel => exact ⟨hx6.out.st (p := ⟨w.heap.size, 2, none⟩) (Nat.le_refl _) _, Or.inr (Or.inr (Or.inr ⟨rfl, (h5.out.stored 2 _).1⟩))⟩
      case measure => simp [intOf]
    · clear k0 k1 k2
      have r0 : wr.cell? ⟨w.heap.size, 0, none⟩ = some (.string ⟨A.toArray⟩) := by rw [hR.cellAt 0 (by omega)]; rfl
      have r1 : wr.cell? ⟨w.heap.size, 1, none⟩ = some (.string ⟨B.toArray⟩) := by rw [hR.cellAt 1 (by omega)]; rfl
      have r2 : wr.cell? ⟨w.heap.size, 2, none⟩ = some (.string ⟨C.toArray⟩) := by rw [hR.cellAt 2 (by omega)]; rfl
      have CJ := Lib.hid (c_Join3 w.heap.size A B C wr (hR.lt _ rfl).2 la1 lb1 lc1 r0 r1 r2)
      clear r0 r1 r2 hR
      go_wp2_with fail
      refine CJ.out.mono ?_
      rintro e w6 ⟨rfl, hx6⟩
      go_wp2
      go_ret
      refine ⟨?_, hx.trans hx6⟩
      show Ending.returned (Value.string ⟨(A ++ 32 :: (B ++ 32 :: C)).toArray⟩) = _
      simp
theorem c_joinNL (a b c : Int) (w : World) (ha0 : 0 ≤ a ∧ a ≤ 999) (hb0 : 0 ≤ b ∧ b ≤ 999) (hc0 : 0 ≤ c ∧ c ≤ 999) (ht : Tab10 w) :
    Calls Tryz.prog 28 #[.slice (some ⟨w.heap.size, 0, none⟩) 3 3, .string ⟨#[32]⟩] (w.alloc (.cells #[.int .i64 a, .int .i64 b, .int .i64 c] 3)) fun e w' => e = .returned (.string ⟨(lineL [a, b, c]).toArray⟩) ∧ Ext w w' :=
  (c_joinN _ w.heap.size (w.heap.size + 1) a b c _ (lit_ints3 a b c w) (by simp) ha0 hb0 hc0 (ht.ext (Ext.alloc _ _))).mono fun e w' ⟨he, hx⟩ => ⟨he, (Ext.alloc _ _).trans hx⟩
/-! ### The builder -/
abbrev Bld (b : Nat) (Z : List UInt8) (w : World) : Prop := Lib.IsBuilder 52 5 b b (Lib.byteCells Z) w
theorem Bld.lt {b : Nat} {Z : List UInt8} {w : World} (h : Bld b Z w) : b < w.heap.size := by
  rcases h with h | h
  · exact h.lt
  · exact h.lt
theorem BldAt.ext {b : Nat} {p : Value} {bs : List Value} {w w' : World} (h : Lib.BuilderAt 52 5 b b p bs w) (hx : Ext w w') : Lib.BuilderAt 52 5 b b p bs w' := by
  obtain ⟨h1, v, hb, ho, hn⟩ := h
  exact ⟨h1, v, hx.blk hb, own_ext ho hx, hn⟩
theorem Bld.ext {b : Nat} {Z : List UInt8} {w w' : World} (h : Bld b Z w) (hx : Ext w w') : Bld b Z w' := h.elim (fun h => .inl (BldAt.ext h hx)) (fun h => .inr (BldAt.ext h hx))
theorem Bld.new (w : World) : Bld w.heap.size [] (w.alloc (.cells #[.pointer none, .slice none 0 0] 52)) :=
  .inl ⟨Nat.le_refl _, _, blk_alloc _ _, World.ownsRow_nil _ _ _ _, by simp [Value.ownBlock]⟩
theorem c_Write (b : Nat) (Z L : List UInt8) (w : World) (h : Bld b Z w) (hl : Z.length + L.length ≤ 100000) :
    Calls Tryz.prog 27 #[.pointer (some ⟨b, 0, none⟩), .string ⟨L.toArray⟩] w fun e w' => e = .returned (.tuple #[.int .i64 L.length, .nilIface]) ∧ Bld b (Z ++ L) w' ∧ Below b w w' := by
  have h9 := Any.Builder_WriteString sh_lays166 sh_Builder_Extra_156 b b (Lib.byteCells Z) ⟨L.toArray⟩ w h (by
    have : (⟨L.toArray⟩ : ByteArray).size = L.length := by simp [ByteArray.size]
    rw [this]
    simp only [Lib.byteCells, List.length_map]
    omega) (Nat.le_of_lt h.lt)
  refine h9.mono fun e w' ⟨he, hb, hx⟩ => ⟨?_, .inr ?_, hx⟩
  · rw [he]
    simp [ByteArray.size]
  · have e9 : Lib.byteCells (Z ++ L) = Lib.byteCells Z ++ Lib.strCells ⟨L.toArray⟩ := by simp [Lib.byteCells, Lib.strCells]
    rw [e9]
    exact hb
theorem c_BString (b : Nat) (Z : List UInt8) (w : World) (h : Bld b Z w) :
    Calls Tryz.prog 29 #[.pointer (some ⟨b, 0, none⟩)] w fun e w' => e = .returned (.string ⟨Z.toArray⟩) ∧ Below b w w' :=
  Any.Builder_String_any sh_lays169 sh_Builder_Extra_169 b b Z w h (Nat.le_of_lt h.lt)
end Go.Proofs.YtmaaeemhbccpcaaGreatDoor
