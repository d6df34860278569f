
/- MostApart of the program and of the reference: their contracts. -/
import Derived.Test.YtiofckbdjifdpaaMost2
import Derived.Test.YtiofckbdjifdpaaAreSites
import Derived.Laws.EntriesVeiled
namespace Go.Proofs.Ytiofckbdjifdpaa
open Go.RowKit
def maV (xss : List (List Int)) (n : Int) : List Int := if sitesB xss n then mF (apartB xss) n n.toNat [] [] else []
theorem maV_len (xss : List (List Int)) (n : Int) : (maV xss n).length ≤ 1099511627776 := by
  unfold maV
  split
  · rename_i h
    obtain ⟨m, rfl, gs⟩ := GoodS.of h
    have h1 := mF_len (apartB xss) m m [] []
    have := gs.n16
    rw [Int.toNat_natCast]
    simp at h1
    omega
  · simp
set_option maxRecDepth 100000 in
set_option maxHeartbeats 2000000 in
theorem c_sMost (va : Value) (la ha : Nat) (xss : List (List Int)) (n : Int) (w : World) (h : Intss w la ha va xss) (hh : ha ≤ w.heap.size) :
    Calls Try.prog 7 #[va, .int .i64 n] w fun e w' => ∃ r, e = .returned (.tuple #[r, .bool (sitesB xss n)]) ∧ w'.ownsRow w.heap.size 3 1 r (maV xss n).length ((maV xss n).flatMap encI) ∧ Ext w w' := by
  obtain ⟨Z, hZ⟩ : ∃ r, r = maV xss n := ⟨_, rfl⟩
  rw [← hZ]
  unfold maV at hZ
  have C1 := Lib.hid (c_stGood va la ha xss n w h hh)
  cases e1 : sitesB xss n
  · rw [e1] at C1 hZ
    simp at hZ; subst hZ
    clear h e1
    go_enter Try.func7, Try.ntmps7
    go_wp2_with (go_at_call 42; refine C1.out.mono ?_; rintro e w2 ⟨rfl, hx⟩)
    go_ret2
    exact ⟨_, rfl, World.ownsRow_nil _ _ _ _, hx⟩
  · obtain ⟨m, rfl, gs⟩ := GoodS.of e1
    rw [e1] at C1 hZ
    have n16 := gs.n16
    have C2 : Hid (∀ W, Ext w W → Calls Try.prog 43 #[va, .int .i64 m, .slice none 0 0, .int .i64 0] W fun e w' => ∃ a9 c9, e = .returned (.slice a9 Z.length c9) ∧ w'.ownsRow W.heap.size 3 1 (.slice a9 Z.length c9) Z.length (Z.flatMap encI) ∧ Ext W w') := fun W hX => by
      have hz : Z = mF (apartB xss) m m [] [] := by rw [hZ]; simp
      rw [hz]
      exact (c_stMost va la ha xss m n16 m 0 _ [] W.heap.size W (h.ext hX hh) (Nat.le_trans hh hX.size) (World.ownsRow_nil _ _ _ _) (Nat.le_refl _) (by omega) (by omega) (by omega) (by simp)).mono fun e w' ⟨r, he, ho, hx⟩ => by
        obtain ⟨a9, c9, rfl, _⟩ := own_form ho
        exact ⟨a9, c9, he, ho, hx⟩
    obtain ⟨a, cap, rfl, m1, m2⟩ := h.form
    obtain ⟨zl, hzl⟩ : ∃ n, n = Z.length := ⟨_, rfl⟩
    rw [← hzl] at C2 ⊢
    clear h e1 gs hZ hzl
    go_enter Try.func7, Try.ntmps7
    go_wp2_with (go_at_call 42; refine C1.out.mono ?_; rintro e w2 ⟨rfl, hx⟩)
    refine (C2.out _ hx).mono ?_
    rintro e w3 ⟨a9, c9, rfl, ho3, hx3⟩
    have HO := Lib.hid ho3
    have HS := Lib.hid hx.size
    clear ho3
    go_wp2
    go_ret2
    exact ⟨_, rfl, own_mono HO.out HS.out, hx.trans hx3⟩
set_option maxRecDepth 100000 in
set_option maxHeartbeats 2000000 in
theorem c_iMost (va : Value) (la ha : Nat) (xss : List (List Int)) (n : Int) (w : World) (h : Intss w la ha va xss) (hh : ha ≤ w.heap.size) :
    Calls Try.prog 9 #[va, .int .i64 n] w fun e w' => ∃ r, e = .returned (.tuple #[r, .bool (sitesB xss n)]) ∧ w'.ownsRow w.heap.size 3 1 r (maV xss n).length ((maV xss n).flatMap encI) ∧ Ext w w' := by
  obtain ⟨Z, hZ⟩ : ∃ r, r = maV xss n := ⟨_, rfl⟩
  rw [← hZ]
  unfold maV at hZ
  have C1 : Hid (∀ W, Ext w W → Calls Try.prog 39 #[va, .int .i64 n] W fun e w' => e = .returned (.bool (sitesB xss n)) ∧ Ext W w') := fun W hX => c_iAreSites va la ha xss n W (h.ext hX hh) (Nat.le_trans hh hX.size)
  obtain ⟨a, cap, rfl, m1, m2⟩ := h.form
  have H := Lib.hid h
  obtain ⟨xl, hxl⟩ : ∃ n, n = xss.length := ⟨_, rfl⟩
  rw [← hxl] at C1 H m1 ⊢
  clear h hxl
  cases e1 : sitesB xss n
  · rw [e1] at C1 hZ
    simp at hZ; subst hZ
    clear e1
    go_enter Try.func9, Try.ntmps9
    go_wp2_with (go_at_call 39; refine (C1.out _ (((Ext.refl w).al _).al _)).mono ?_; rintro e w2 ⟨rfl, hx⟩)
    go_ret2
    exact ⟨_, rfl, World.ownsRow_nil _ _ _ _, (((Ext.refl w).al _).al _).trans hx⟩
  · obtain ⟨m, rfl, gs⟩ := GoodS.of e1
    rw [e1] at C1 hZ
    have n16 := gs.n16
    have HZ : Hid (mF (apartB xss) m m [] (better [] []) = Z) := by unfold Hid; rw [hZ]; simp [better]
    clear e1 gs hZ
    go_enter Try.func9, Try.ntmps9
    go_wp2_with fail
    obtain ⟨W1, hW1⟩ : ∃ W, W = ((w.alloc (.cells #[.slice a xl cap] 22)).alloc (.cells #[.int .i64 m] 3)) := ⟨_, rfl⟩
    rw [← hW1]
    have X1 : Ext w W1 := by rw [hW1]; exact ((Ext.refl w).al _).al _
    have s1 : W1.heap.size = w.heap.size + 2 := by rw [hW1, size_alloc, size_alloc]
    have B1 : W1.heap[w.heap.size]? = some (.cells #[.slice a xl cap] 22) := by rw [hW1]; exact blk_old (blk_alloc _ _)
    have B2 : W1.heap[w.heap.size + 1]? = some (.cells #[.int .i64 m] 3) := by rw [hW1]; exact blk_alloc2 _ _ _
    clear hW1
    refine (C1.out _ X1).mono ?_
    rintro e w2 ⟨rfl, hx2⟩
    have b1 := hx2.blk B1
    have b2 := hx2.blk B2
    have s2 := hx2.size
    have X2 := X1.trans hx2
    have HB1 := Lib.hid b1
    have HB2 := Lib.hid b2
    rw [s1] at s2
    clear B1 B2 b1 b2 X1 hx2 s1
    have b3 := blk_alloc2 w2 (.cells #[.slice none 0 0] 24) (.cells #[.nilFunc] 52)
    have k3 := blk_cell b3 (j := 0) rfl
    have f3 := blk_free b3 0
    clear b3
    go_wp2_with fail
    obtain ⟨W5, hW5⟩ : ∃ W, W = ((w2.alloc (.cells #[.slice none 0 0] 24)).alloc (.cells #[.func (.func 45) #[] #[.pointer (some ⟨w2.heap.size, 0, none⟩), .pointer (some ⟨w.heap.size + 1, 0, none⟩), .pointer (some ⟨w.heap.size, 0, none⟩), .pointer (some ⟨w2.heap.size + 1, 0, none⟩)]] 52)) := ⟨_, rfl⟩
    rw [← hW5]
    have s5 : W5.heap.size = w2.heap.size + 2 := by rw [hW5, size_alloc, size_alloc]
    have X5 : Ext w2 W5 := by rw [hW5]; exact ((Ext.refl w2).al _).al _
    have HM : MW W5 w.heap.size (w.heap.size + 1) w2.heap.size (w2.heap.size + 1) (w2.heap.size + 2) 22 3 52 24 (.slice a xl cap) m la ha xss [] := by
      refine ⟨X5.blk HB1.out, X5.blk HB2.out, ?_, ⟨none, 0, ?_, World.ownsRow_nil _ _ _ _⟩, H.out.ext (X2.trans X5) hh, by omega, by omega, by omega, by omega, by omega, by omega⟩
      · rw [hW5]; exact blk_alloc2 _ _ _
      · rw [hW5]; exact blk_old (blk_alloc _ _)
    have CF := c_mostFn w.heap.size (w.heap.size + 1) w2.heap.size (w2.heap.size + 1) (w2.heap.size + 2) _ _ _ _ (.slice a xl cap) m la ha xss n16 m 0 (.slice none 0 0) [] (w2.heap.size + 2) (w2.heap.size + 2) [] W5 HM (Row.nil _ _ _ _ _) (Nat.le_refl _) (by omega) (by omega) (by omega) (by omega) (by simp) (by simp)
    rw [HZ.out] at CF
    have HCF := Lib.hid CF
    have HS5 := Lib.hid (X2.trans X5)
    clear hW5 HM CF k3 f3 HB1 HB2
    refine HCF.out.mono ?_
    rintro e w9 ⟨rfl, hM9, hk9⟩
    obtain ⟨a9, c9, b9, ho9⟩ := hM9.b
    have k9 := blk_cell b9 (j := 0) rfl
    have HO9 := Lib.hid ho9
    have hX9 : Hid (Ext w w9) := ⟨hk9.os.trans HS5.out.os, hk9.tape.trans HS5.out.tape, hk9.output.trans HS5.out.output, Nat.le_trans HS5.out.size hk9.size, fun i hi => (hk9.block i (Nat.lt_of_lt_of_le hi HS5.out.size) (by omega)).trans (HS5.out.block i hi)⟩
    clear b9 ho9 hM9 hk9
    go_wp2
    go_ret2
    exact ⟨_, rfl, own_mono HO9.out (by omega), hX9.out⟩
end Go.Proofs.Ytiofckbdjifdpaa
