/- Which towers there are; distances. -/
import Derived.Test.YtmaaeemhbccpcaaGreatDoorNeGood
/- Is there such a tower; the squares of distances: the program's and the reference's. -/
namespace Go.Proofs.YtmaaeemhbccpcaaGreatDoor
open Go.RowKit
def hasT (x : NetT) (i : Int) : Bool := netB x && inB 0 ((x.1.length : Int) - 1) i
set_option maxRecDepth 100000 in
theorem c_isTower (v : Value) (la ha : Nat) (x : NetT) (i : Int) (w : World) (h : Nets w la ha v x) (hh : ha ≤ w.heap.size) :
    Calls Tryz.prog 44 #[v, .int .i64 i] w fun e w' => e = .returned (.bool (hasT x i)) ∧ Ext w w' := by
  obtain ⟨r, hr⟩ : ∃ r, r = hasT x i := ⟨_, rfl⟩
  rw [← hr]
  unfold hasT at hr
  obtain ⟨q, hq⟩ : ∃ q, q = netB x := ⟨_, rfl⟩
  rw [← hq] at hr
  have CG : Hid (∀ W, Ext w W → Calls Tryz.prog 13 #[v] W fun e w' => e = .returned (.bool q) ∧ Ext W w') := fun W hX => by rw [hq]; exact c_IsNet v la ha x W (h.ext hX hh) (Nat.le_trans hh hX.size)
  clear hq
  obtain ⟨T, L⟩ := x
  obtain ⟨a, ca, b, cb, rfl, ⟨m1, m2⟩, m3, m4⟩ := h.form
  obtain ⟨p1, p2⟩ := h.parts
  have HT := Lib.hid p1
  have HL := Lib.hid p2
  simp only at m1 m3 HT HL
  obtain ⟨m, hm⟩ : ∃ n, n = T.length := ⟨_, rfl⟩
  obtain ⟨l, hl⟩ : ∃ n, n = L.length := ⟨_, rfl⟩
  have HM := Lib.hid hm
  have HLL := Lib.hid hl
  clear p1 p2
  simp only at hr
  rw [← hm] at m1 hr CG
  rw [← hl] at m3 CG
  simp only
  rw [← hm, ← hl]
  clear h hm hl HT HL
  cases q
  · have HR := Lib.hid (hr.trans (Bool.false_and _))
    clear hr
    go_enter Tryz.func44, Tryz.ntmps44
    go_wp2_with fail
    obtain ⟨W1, hW1⟩ : ∃ W, W = w.alloc (.cells #[.slice a m ca, .slice b l cb] 27) := ⟨_, rfl⟩
    rw [← hW1]
    have X1 : Ext w W1 := by rw [hW1]; exact Ext.alloc _ _
    have B1 : W1.heap[w.heap.size]? = some (.cells #[.slice a m ca, .slice b l cb] 27) := by rw [hW1]; exact blk_alloc _ _
    clear hW1
    refine (CG.out _ X1).mono ?_
    rintro e W2 ⟨rfl, X2⟩
    have k0 := blk_cell (X2.blk B1) (j := 0) rfl
    have k1 := blk_cell (X2.blk B1) (j := 1) rfl
    go_wp2
    go_ret
    exact ⟨by rw [HR.out]; rfl, X1.trans X2⟩
  · have HR := Lib.hid (hr.trans (Bool.true_and _))
    clear hr
    go_enter Tryz.func44, Tryz.ntmps44
    go_wp2_with fail
    obtain ⟨W1, hW1⟩ : ∃ W, W = w.alloc (.cells #[.slice a m ca, .slice b l cb] 27) := ⟨_, rfl⟩
    rw [← hW1]
    have X1 : Ext w W1 := by rw [hW1]; exact Ext.alloc _ _
    have B1 : W1.heap[w.heap.size]? = some (.cells #[.slice a m ca, .slice b l cb] 27) := by rw [hW1]; exact blk_alloc _ _
    clear hW1
    refine (CG.out _ X1).mono ?_
    rintro e W2 ⟨rfl, X2⟩
    have k0 := blk_cell (X2.blk B1) (j := 0) rfl
    have k1 := blk_cell (X2.blk B1) (j := 1) rfl
    go_wp2_with (go_at_call 39; refine (within_c _ _ _ _).mono ?_; rintro e w' ⟨rfl, rfl⟩)
    go_ret
    exact ⟨by rw [HR.out]; rfl, X1.trans X2⟩
set_option maxRecDepth 100000 in
theorem c_neHas (v : Value) (la ha : Nat) (x : NetT) (i : Int) (w : World) (h : Nets w la ha v x) (hh : ha ≤ w.heap.size) :
    Calls Tryz.prog 46 #[v, .int .i64 i] w fun e w' => e = .returned (.bool (hasT x i)) ∧ Ext w w' := by
  obtain ⟨r, hr⟩ : ∃ r, r = hasT x i := ⟨_, rfl⟩
  rw [← hr]
  unfold hasT at hr
  obtain ⟨q, hq⟩ : ∃ q, q = netB x := ⟨_, rfl⟩
  rw [← hq] at hr
  have CG : Hid (∀ W, Ext w W → Calls Tryz.prog 30 #[v] W fun e w' => e = .returned (.bool q) ∧ Ext W w') := fun W hX => by rw [hq]; exact c_neGood v la ha x W (h.ext hX hh) (Nat.le_trans hh hX.size)
  clear hq
  obtain ⟨T, L⟩ := x
  obtain ⟨a, ca, b, cb, rfl, ⟨m1, m2⟩, m3, m4⟩ := h.form
  obtain ⟨p1, p2⟩ := h.parts
  have HT := Lib.hid p1
  have HL := Lib.hid p2
  simp only at m1 m3 HT HL
  obtain ⟨m, hm⟩ : ∃ n, n = T.length := ⟨_, rfl⟩
  obtain ⟨l, hl⟩ : ∃ n, n = L.length := ⟨_, rfl⟩
  have HM := Lib.hid hm
  have HLL := Lib.hid hl
  clear p1 p2
  simp only at hr
  rw [← hm] at m1 hr CG
  rw [← hl] at m3 CG
  simp only
  rw [← hm, ← hl]
  clear h hm hl HT HL
  cases q
  · have HR := Lib.hid (hr.trans (Bool.false_and _))
    clear hr
    go_enter Tryz.func46, Tryz.ntmps46
    go_wp2_with fail
    obtain ⟨W1, hW1⟩ : ∃ W, W = w.alloc (.cells #[.slice a m ca, .slice b l cb] 27) := ⟨_, rfl⟩
    rw [← hW1]
    have X1 : Ext w W1 := by rw [hW1]; exact Ext.alloc _ _
    have B1 : W1.heap[w.heap.size]? = some (.cells #[.slice a m ca, .slice b l cb] 27) := by rw [hW1]; exact blk_alloc _ _
    clear hW1
    refine (CG.out _ X1).mono ?_
    rintro e W2 ⟨rfl, X2⟩
    have k0 := blk_cell (X2.blk B1) (j := 0) rfl
    have k1 := blk_cell (X2.blk B1) (j := 1) rfl
    go_wp2
    go_ret
    exact ⟨by rw [HR.out]; rfl, X1.trans X2⟩
  · have HR := Lib.hid (hr.trans (Bool.true_and _))
    clear hr
    go_enter Tryz.func46, Tryz.ntmps46
    go_wp2_with fail
    obtain ⟨W1, hW1⟩ : ∃ W, W = w.alloc (.cells #[.slice a m ca, .slice b l cb] 27) := ⟨_, rfl⟩
    rw [← hW1]
    have X1 : Ext w W1 := by rw [hW1]; exact Ext.alloc _ _
    have B1 : W1.heap[w.heap.size]? = some (.cells #[.slice a m ca, .slice b l cb] 27) := by rw [hW1]; exact blk_alloc _ _
    clear hW1
    refine (CG.out _ X1).mono ?_
    rintro e W2 ⟨rfl, X2⟩
    have k0 := blk_cell (X2.blk B1) (j := 0) rfl
    have k1 := blk_cell (X2.blk B1) (j := 1) rfl
    go_wp2_with (go_at_call 59; refine (l1In_c _ _ _ _).mono ?_; rintro e w' ⟨rfl, rfl⟩)
    go_ret
    exact ⟨by rw [HR.out]; rfl, X1.trans X2⟩
def sqV (p q : TowerT) : Int := (p.1 - q.1) * (p.1 - q.1) + (p.2.1 - q.2.1) * (p.2.1 - q.2.1)
theorem sq_bd {d : Int} (h1 : -999 ≤ d) (h2 : d ≤ 999) : 0 ≤ d * d ∧ d * d ≤ 998001 := by
  rcases Int.le_total 0 d with h | h
  · exact mulBd h h2 h h2
  · have := mulBd (a := -d) (A := 999) (b := -d) (B := 999) (by omega) (by omega) (by omega) (by omega)
    rw [Int.neg_mul_neg] at this
    exact this
theorem tow_bd {t : TowerT} (h : towB t = true) : (0 ≤ t.1 ∧ t.1 ≤ 999) ∧ 0 ≤ t.2.1 ∧ t.2.1 ≤ 999 := by
  simp only [towB, Bool.and_eq_true] at h
  exact ⟨inB_t h.1, inB_t h.2.1⟩
theorem sqV_bd {p q : TowerT} (hp : towB p = true) (hq : towB q = true) : 0 ≤ sqV p q ∧ sqV p q ≤ 1996002 := by
  obtain ⟨⟨a1, a2⟩, a3, a4⟩ := tow_bd hp
  obtain ⟨⟨b1, b2⟩, b3, b4⟩ := tow_bd hq
  have h1 := sq_bd (d := p.1 - q.1) (by omega) (by omega)
  have h2 := sq_bd (d := p.2.1 - q.2.1) (by omega) (by omega)
  unfold sqV; omega
end Go.Proofs.YtmaaeemhbccpcaaGreatDoor
/- SquareBetween of the program and of the reference: their contracts. -/
namespace Go.Proofs.YtmaaeemhbccpcaaGreatDoor
open Go.RowKit
def has2 (x : NetT) (i j : Int) : Bool := hasT x i && hasT x j
def sqbV (x : NetT) (i j : Int) : Int := if has2 x i j then sqV (x.1.getD i.toNat (0, 0, 0)) (x.1.getD j.toNat (0, 0, 0)) else 0
theorem hasT_get {x : NetT} {i : Int} (h : hasT x i = true) : ∃ (k : Nat) (t : TowerT), i = k ∧ x.1[k]? = some t ∧ towB t = true := by
  simp only [hasT, Bool.and_eq_true] at h
  obtain ⟨h1, h2⟩ := h
  obtain ⟨i1, i2⟩ := inB_t h2
  have hk : i.toNat < x.1.length := by omega
  refine ⟨i.toNat, x.1[i.toNat], by omega, List.getElem?_eq_getElem hk, ?_⟩
  simp only [netB, Bool.and_eq_true, List.all_eq_true] at h1
  exact h1.2.2.1 _ (List.getElem_mem hk)
end Go.Proofs.YtmaaeemhbccpcaaGreatDoor
