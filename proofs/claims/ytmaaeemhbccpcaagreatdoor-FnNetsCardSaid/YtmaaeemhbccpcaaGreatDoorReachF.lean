

/- ReachFrom of the program and of the reference: their contracts. -/
import Derived.Test.YtmaaeemhbccpcaaGreatDoorReachS
import Derived.Test.YtmaaeemhbccpcaaGreatDoorReachI
namespace Go.Proofs.YtmaaeemhbccpcaaGreatDoor
open Go.RowKit
/-- What ReachFrom gives: the towers that can be reached, or nothing. -/
structure RsV (x : NetT) (i : Int) (V : List Int) : Prop where
  t : hasT x i = true → IsReach x.1.length x.2 i V
  f : hasT x i = false → V = []
theorem exists_rs (x : NetT) (i : Int) : ∃ V, RsV x i V := by
  cases e : hasT x i
  · exact ⟨[], ⟨fun h => absurd (e.symm.trans h) (by simp), fun _ => rfl⟩⟩
  · obtain ⟨V, hV⟩ := exists_reach x.1.length x.2 i
    exact ⟨V, ⟨fun _ => hV, fun h => absurd (e.symm.trans h) (by simp)⟩⟩
theorem RsV.len {x : NetT} {i : Int} {V : List Int} (h : RsV x i V) : V.length ≤ 1099511627776 := by
  cases e : hasT x i
  · rw [h.f e]; simp
  · have h2 := has_netB e
    simp only [netB, Bool.and_eq_true] at h2
    have h3 := (inB_t h2.1).2
    have := (h.t e).len
    omega
theorem has_bd {x : NetT} {i : Int} (h : hasT x i = true) : 0 ≤ i ∧ i < (x.1.length : Int) := by
  unfold hasT at h
  simp only [Bool.and_eq_true] at h
  have := inB_t h.2
  omega
set_option maxRecDepth 100000 in
theorem c_always (k : Int) (w : World) : Calls Tryz.prog 48 #[.int .i64 k] w fun e w' => e = .returned (.bool true) ∧ Ext w w' := by
  go_enter Tryz.func48, Tryz.ntmps48
  go_wp2
  go_ret
  exact ⟨rfl, Ext.refl _⟩
set_option maxRecDepth 100000 in
set_option maxHeartbeats 2000000 in
theorem c_sReachFrom (v : Value) (la ha : Nat) (x : NetT) (i : Int) (V : List Int) (w : World) (h : Nets w la ha v x) (hh : ha ≤ w.heap.size) (hV : RsV x i V) :
    Calls Tryz.prog 22 #[v, .int .i64 i] w fun e w' => ∃ r, e = .returned (.tuple #[r, .bool (hasT x i)]) ∧ w'.ownsRow w.heap.size 3 1 r V.length (V.flatMap encI) ∧ Ext w w' := by
  obtain ⟨q, hq⟩ : ∃ q, q = hasT x i := ⟨_, rfl⟩
  rw [← hq]
  have C1 : Hid (∀ W, Ext w W → Calls Tryz.prog 46 #[v, .int .i64 i] W fun e w' => e = .returned (.bool q) ∧ Ext W w') := fun W hX => by rw [hq]; exact c_neHas v la ha x i W (h.ext hX hh) (Nat.le_trans hh hX.size)
  have C2 : Hid (q = true → ∀ W, Ext w W → Calls Tryz.prog 36 #[v, .int .i64 i] W fun e w' => ∃ r, e = .returned r ∧ OwnI w' W.heap.size w'.heap.size r V ∧ Ext W w') := fun hqt W hX => by
    have h0 : hasT x i = true := hq ▸ hqt
    obtain ⟨b1, b2⟩ := has_bd h0
    exact (c_neReach v la ha x i V W (h.ext hX hh) (Nat.le_trans hh hX.size) (has_netB h0) b1 b2 (hV.t h0)).mono fun e w' ⟨r, he, ho, hx⟩ => ⟨r, he, OwnI.of ho, hx⟩
  have hZ0 : q = false → V = [] := fun e => hV.f (by rw [← hq]; exact e)
  clear hq hV
  obtain ⟨a, ca, b, cb, rfl, ⟨m1, m2⟩, m3, m4⟩ := h.form
  obtain ⟨T, L⟩ := x
  simp only at m1 m3 C1 C2 ⊢
  obtain ⟨m, hm⟩ : ∃ n, n = T.length := ⟨_, rfl⟩
  obtain ⟨l, hl⟩ : ∃ n, n = L.length := ⟨_, rfl⟩
  rw [← hm] at m1 C1 C2 ⊢
  rw [← hl] at m3 C1 C2 ⊢
  clear h hm hl
  cases q
  · have e := hZ0 rfl
    subst e
    go_enter Tryz.func22, Tryz.ntmps22
    go_wp2_with fail
    obtain ⟨W1, hW1⟩ : ∃ W, W = w.alloc (.cells #[.slice a m ca, .slice b l cb] 27) := ⟨_, rfl⟩
    rw [← hW1]
    have X1 : Ext w W1 := by rw [hW1]; exact Ext.alloc _ _
    have B1 : W1.heap[w.heap.size]? = some (.cells #[.slice a m ca, .slice b l cb] 27) := by rw [hW1]; exact blk_alloc _ _
    clear hW1
    refine (C1.out _ X1).mono ?_
    rintro e W2 ⟨rfl, X2⟩
    have k0 := blk_cell (X2.blk B1) (j := 0) rfl
    have k1 := blk_cell (X2.blk B1) (j := 1) rfl
    go_wp2
    go_ret2
    exact ⟨_, rfl, World.ownsRow_nil _ _ _ _, X1.trans X2⟩
  · have C3 := Lib.hid (C2.out rfl)
    clear C2 hZ0
    go_enter Tryz.func22, Tryz.ntmps22
    go_wp2_with fail
    obtain ⟨W1, hW1⟩ : ∃ W, W = w.alloc (.cells #[.slice a m ca, .slice b l cb] 27) := ⟨_, rfl⟩
    rw [← hW1]
    have X1 : Ext w W1 := by rw [hW1]; exact Ext.alloc _ _
    have B1 : W1.heap[w.heap.size]? = some (.cells #[.slice a m ca, .slice b l cb] 27) := by rw [hW1]; exact blk_alloc _ _
    clear hW1
    refine (C1.out _ X1).mono ?_
    rintro e W2 ⟨rfl, X2⟩
    have k0 := blk_cell (X2.blk B1) (j := 0) rfl
    have k1 := blk_cell (X2.blk B1) (j := 1) rfl
    go_wp2_with fail
    refine (C3.out _ (X1.trans X2)).mono ?_
    rintro e W3 ⟨r3, rfl, ho, X3⟩
    obtain ⟨a5, c5, rfl, _, _⟩ := ho.form
    have HO := Lib.hid ho
    have s1 := (X1.trans X2).size
    clear ho
    go_wp2
    go_ret2
    exact ⟨_, rfl, own_mono HO.out.own s1, (X1.trans X2).trans X3⟩
set_option maxRecDepth 100000 in
set_option maxHeartbeats 2000000 in
theorem c_iReachFrom (v : Value) (la ha : Nat) (x : NetT) (i : Int) (V : List Int) (w : World) (h : Nets w la ha v x) (hh : ha ≤ w.heap.size) (hV : RsV x i V) :
    Calls Tryz.prog 21 #[v, .int .i64 i] w fun e w' => ∃ r, e = .returned (.tuple #[r, .bool (hasT x i)]) ∧ w'.ownsRow w.heap.size 3 1 r V.length (V.flatMap encI) ∧ Ext w w' := by
  obtain ⟨q, hq⟩ : ∃ q, q = hasT x i := ⟨_, rfl⟩
  rw [← hq]
  have C1 : Hid (∀ W, Ext w W → Calls Tryz.prog 44 #[v, .int .i64 i] W fun e w' => e = .returned (.bool q) ∧ Ext W w') := fun W hX => by rw [hq]; exact c_isTower v la ha x i W (h.ext hX hh) (Nat.le_trans hh hX.size)
  have C2 : Hid (q = true → ∀ W, Ext w W → Calls Tryz.prog 33 #[v, .int .i64 i, .func (.func 48) #[] #[]] W fun e w' => ∃ r, e = .returned r ∧ OwnI w' W.heap.size w'.heap.size r V ∧ Ext W w') := fun hqt W hX => by
    have h0 : hasT x i = true := hq ▸ hqt
    obtain ⟨b1, b2⟩ := has_bd h0
    exact (c_reachFrom v la ha x i V (fun _ => true) x.2 W (h.ext hX hh) (has_netB h0) b1 b2 (fun W2 k _ _ => c_always k W2) (fun y => by simp [List.mem_iff_getElem?]) (hV.t h0)).mono fun e w' ⟨r, he, ho, hx⟩ => ⟨r, he, OwnI.of ho, hx⟩
  have hZ0 : q = false → V = [] := fun e => hV.f (by rw [← hq]; exact e)
  clear hq hV
  obtain ⟨a, ca, b, cb, rfl, ⟨m1, m2⟩, m3, m4⟩ := h.form
  obtain ⟨T, L⟩ := x
  simp only at m1 m3 C1 C2 ⊢
  obtain ⟨m, hm⟩ : ∃ n, n = T.length := ⟨_, rfl⟩
  obtain ⟨l, hl⟩ : ∃ n, n = L.length := ⟨_, rfl⟩
  rw [← hm] at m1 C1 C2 ⊢
  rw [← hl] at m3 C1 C2 ⊢
  clear h hm hl
  cases q
  · have e := hZ0 rfl
    subst e
    go_enter Tryz.func21, Tryz.ntmps21
    go_wp2_with fail
    obtain ⟨W1, hW1⟩ : ∃ W, W = w.alloc (.cells #[.slice a m ca, .slice b l cb] 27) := ⟨_, rfl⟩
    rw [← hW1]
    have X1 : Ext w W1 := by rw [hW1]; exact Ext.alloc _ _
    have B1 : W1.heap[w.heap.size]? = some (.cells #[.slice a m ca, .slice b l cb] 27) := by rw [hW1]; exact blk_alloc _ _
    clear hW1
    refine (C1.out _ X1).mono ?_
    rintro e W2 ⟨rfl, X2⟩
    have k0 := blk_cell (X2.blk B1) (j := 0) rfl
    have k1 := blk_cell (X2.blk B1) (j := 1) rfl
    go_wp2
    go_ret2
    exact ⟨_, rfl, World.ownsRow_nil _ _ _ _, X1.trans X2⟩
  · have C3 := Lib.hid (C2.out rfl)
    clear C2 hZ0
    go_enter Tryz.func21, Tryz.ntmps21
    go_wp2_with fail
    obtain ⟨W1, hW1⟩ : ∃ W, W = w.alloc (.cells #[.slice a m ca, .slice b l cb] 27) := ⟨_, rfl⟩
    rw [← hW1]
    have X1 : Ext w W1 := by rw [hW1]; exact Ext.alloc _ _
    have B1 : W1.heap[w.heap.size]? = some (.cells #[.slice a m ca, .slice b l cb] 27) := by rw [hW1]; exact blk_alloc _ _
    clear hW1
    refine (C1.out _ X1).mono ?_
    rintro e W2 ⟨rfl, X2⟩
    have k0 := blk_cell (X2.blk B1) (j := 0) rfl
    have k1 := blk_cell (X2.blk B1) (j := 1) rfl
    go_wp2_with fail
    refine (C3.out _ (X1.trans X2)).mono ?_
    rintro e W3 ⟨r3, rfl, ho, X3⟩
    obtain ⟨a5, c5, rfl, _, _⟩ := ho.form
    have HO := Lib.hid ho
    have s1 := (X1.trans X2).size
    clear ho
    go_wp2
    go_ret2
    exact ⟨_, rfl, own_mono HO.out.own s1, (X1.trans X2).trans X3⟩
end Go.Proofs.YtmaaeemhbccpcaaGreatDoor
