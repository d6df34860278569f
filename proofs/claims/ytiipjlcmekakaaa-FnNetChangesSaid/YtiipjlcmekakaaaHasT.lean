

/- Is there such a tower; the squares of distances: the program's and the reference's. -/
import Derived.Test.YtiipjlcmekakaaaNeGood
namespace Go.Proofs.Ytiipjlcmekakaaa
open Go.RowKit
def hasT (x : NetT) (i : Int) : Bool := netB x && inB 0 ((x.1.length : Int) - 1) i
set_option maxRecDepth 100000 in
theorem c_isTower (v : Value) (la ha : Nat) (x : NetT) (i : Int) (w : World) (h : Nets w la ha v x) (hh : ha ≤ w.heap.size) :
    Calls Try.prog 47 #[v, .int .i64 i] w fun e w' => e = .returned (.bool (hasT x i)) ∧ Ext w w' := by
  obtain ⟨r, hr⟩ : ∃ r, r = hasT x i := ⟨_, rfl⟩
  rw [← hr]
  unfold hasT at hr
  obtain ⟨q, hq⟩ : ∃ q, q = netB x := ⟨_, rfl⟩
  rw [← hq] at hr
  have CG : Hid (∀ W, Ext w W → Calls Try.prog 14 #[v] W fun e w' => e = .returned (.bool q) ∧ Ext W w') := fun W hX => by rw [hq]; exact c_IsNet v la ha x W (h.ext hX hh) (Nat.le_trans hh hX.size)
  clear hq
  obtain ⟨T, L⟩ := x
  obtain ⟨a, ca, b, cb, rfl, ⟨m1, m2⟩, m3, m4⟩ := h.form
  obtain ⟨p1, p2⟩ := h.parts
  have HT := Lib.hid p1
  have HL := Lib.hid p2
  simp only at m1 m3 HT HL
  obtain ⟨m, hm⟩ : ∃ n, n = T.length := ⟨_, rfl⟩
  obtain ⟨l, hl⟩ : ∃ n, n = L.length := ⟨_, rfl⟩
  have HM := Lib.hid hm
  have HLL := Lib.hid hl
  clear p1 p2
  simp only at hr
  rw [← hm] at m1 hr CG
  rw [← hl] at m3 CG
  simp only
  rw [← hm, ← hl]
  clear h hm hl HT HL
  cases q
  · have HR := Lib.hid (hr.trans (Bool.false_and _))
    clear hr
    go_enter Try.func47, Try.ntmps47
    go_wp2_with fail
    obtain ⟨W1, hW1⟩ : ∃ W, W = w.alloc (.cells #[.slice a m ca, .slice b l cb] 27) := ⟨_, rfl⟩
    rw [← hW1]
    have X1 : Ext w W1 := by rw [hW1]; exact Ext.alloc _ _
    have B1 : W1.heap[w.heap.size]? = some (.cells #[.slice a m ca, .slice b l cb] 27) := by rw [hW1]; exact blk_alloc _ _
    clear hW1
    refine (CG.out _ X1).mono ?_
    rintro e W2 ⟨rfl, X2⟩
    have k0 := blk_cell (X2.blk B1) (j := 0) rfl
    have k1 := blk_cell (X2.blk B1) (j := 1) rfl
    go_wp2
    go_ret
    exact ⟨by rw [HR.out]; rfl, X1.trans X2⟩
  · have HR := Lib.hid (hr.trans (Bool.true_and _))
    clear hr
    go_enter Try.func47, Try.ntmps47
    go_wp2_with fail
    obtain ⟨W1, hW1⟩ : ∃ W, W = w.alloc (.cells #[.slice a m ca, .slice b l cb] 27) := ⟨_, rfl⟩
    rw [← hW1]
    have X1 : Ext w W1 := by rw [hW1]; exact Ext.alloc _ _
    have B1 : W1.heap[w.heap.size]? = some (.cells #[.slice a m ca, .slice b l cb] 27) := by rw [hW1]; exact blk_alloc _ _
    clear hW1
    refine (CG.out _ X1).mono ?_
    rintro e W2 ⟨rfl, X2⟩
    have k0 := blk_cell (X2.blk B1) (j := 0) rfl
    have k1 := blk_cell (X2.blk B1) (j := 1) rfl
    go_wp2_with (go_at_call 51; refine (within_c _ _ _ _).mono ?_; rintro e w' ⟨rfl, rfl⟩)
    go_ret
    exact ⟨by rw [HR.out]; rfl, X1.trans X2⟩
set_option maxRecDepth 100000 in
theorem c_neHas (v : Value) (la ha : Nat) (x : NetT) (i : Int) (w : World) (h : Nets w la ha v x) (hh : ha ≤ w.heap.size) :
    Calls Try.prog 49 #[v, .int .i64 i] w fun e w' => e = .returned (.bool (hasT x i)) ∧ Ext w w' := by
  obtain ⟨r, hr⟩ : ∃ r, r = hasT x i := ⟨_, rfl⟩
  rw [← hr]
  unfold hasT at hr
  obtain ⟨q, hq⟩ : ∃ q, q = netB x := ⟨_, rfl⟩
  rw [← hq] at hr
  have CG : Hid (∀ W, Ext w W → Calls Try.prog 44 #[v] W fun e w' => e = .returned (.bool q) ∧ Ext W w') := fun W hX => by rw [hq]; exact c_neGood v la ha x W (h.ext hX hh) (Nat.le_trans hh hX.size)
  clear hq
  obtain ⟨T, L⟩ := x
  obtain ⟨a, ca, b, cb, rfl, ⟨m1, m2⟩, m3, m4⟩ := h.form
  obtain ⟨p1, p2⟩ := h.parts
  have HT := Lib.hid p1
  have HL := Lib.hid p2
  simp only at m1 m3 HT HL
  obtain ⟨m, hm⟩ : ∃ n, n = T.length := ⟨_, rfl⟩
  obtain ⟨l, hl⟩ : ∃ n, n = L.length := ⟨_, rfl⟩
  have HM := Lib.hid hm
  have HLL := Lib.hid hl
  clear p1 p2
  simp only at hr
  rw [← hm] at m1 hr CG
  rw [← hl] at m3 CG
  simp only
  rw [← hm, ← hl]
  clear h hm hl HT HL
  cases q
  · have HR := Lib.hid (hr.trans (Bool.false_and _))
    clear hr
    go_enter Try.func49, Try.ntmps49
    go_wp2_with fail
    obtain ⟨W1, hW1⟩ : ∃ W, W = w.alloc (.cells #[.slice a m ca, .slice b l cb] 27) := ⟨_, rfl⟩
    rw [← hW1]
    have X1 : Ext w W1 := by rw [hW1]; exact Ext.alloc _ _
    have B1 : W1.heap[w.heap.size]? = some (.cells #[.slice a m ca, .slice b l cb] 27) := by rw [hW1]; exact blk_alloc _ _
    clear hW1
    refine (CG.out _ X1).mono ?_
    rintro e W2 ⟨rfl, X2⟩
    have k0 := blk_cell (X2.blk B1) (j := 0) rfl
    have k1 := blk_cell (X2.blk B1) (j := 1) rfl
    go_wp2
    go_ret
    exact ⟨by rw [HR.out]; rfl, X1.trans X2⟩
  · have HR := Lib.hid (hr.trans (Bool.true_and _))
    clear hr
    go_enter Try.func49, Try.ntmps49
    go_wp2_with fail
    obtain ⟨W1, hW1⟩ : ∃ W, W = w.alloc (.cells #[.slice a m ca, .slice b l cb] 27) := ⟨_, rfl⟩
    rw [← hW1]
    have X1 : Ext w W1 := by rw [hW1]; exact Ext.alloc _ _
    have B1 : W1.heap[w.heap.size]? = some (.cells #[.slice a m ca, .slice b l cb] 27) := by rw [hW1]; exact blk_alloc _ _
    clear hW1
    refine (CG.out _ X1).mono ?_
    rintro e W2 ⟨rfl, X2⟩
    have k0 := blk_cell (X2.blk B1) (j := 0) rfl
    have k1 := blk_cell (X2.blk B1) (j := 1) rfl
    go_wp2_with (go_at_call 82; refine (l1In_c _ _ _ _).mono ?_; rintro e w' ⟨rfl, rfl⟩)
    go_ret
    exact ⟨by rw [HR.out]; rfl, X1.trans X2⟩
def sqV (p q : TowerT) : Int := (p.1 - q.1) * (p.1 - q.1) + (p.2.1 - q.2.1) * (p.2.1 - q.2.1)
theorem sq_bd {d : Int} (h1 : -999 ≤ d) (h2 : d ≤ 999) : 0 ≤ d * d ∧ d * d ≤ 998001 := by
  rcases Int.le_total 0 d with h | h
  · exact mulBd h h2 h h2
  · have := mulBd (a := -d) (A := 999) (b := -d) (B := 999) (by omega) (by omega) (by omega) (by omega)
    rw [Int.neg_mul_neg] at this
    exact this
theorem tow_bd {t : TowerT} (h : towB t = true) : (0 ≤ t.1 ∧ t.1 ≤ 999) ∧ 0 ≤ t.2.1 ∧ t.2.1 ≤ 999 := by
  simp only [towB, Bool.and_eq_true] at h
  exact ⟨inB_t h.1, inB_t h.2.1⟩
theorem sqV_bd {p q : TowerT} (hp : towB p = true) (hq : towB q = true) : 0 ≤ sqV p q ∧ sqV p q ≤ 1996002 := by
  obtain ⟨⟨a1, a2⟩, a3, a4⟩ := tow_bd hp
  obtain ⟨⟨b1, b2⟩, b3, b4⟩ := tow_bd hq
  have h1 := sq_bd (d := p.1 - q.1) (by omega) (by omega)
  have h2 := sq_bd (d := p.2.1 - q.2.1) (by omega) (by omega)
  unfold sqV; omega
set_option maxRecDepth 100000 in
set_option maxHeartbeats 1000000 in
theorem c_squareBetween (v : Value) (la ha : Nat) (x : NetT) (i j : Nat) (p q : TowerT) (w : World) (h : Nets w la ha v x) (hp : x.1[i]? = some p) (hq : x.1[j]? = some q) (tp : towB p = true) (tq : towB q = true) :
    Calls Try.prog 57 #[v, .int .i64 i, .int .i64 j] w fun e w' => e = .returned (.int .i64 (sqV p q)) ∧ Ext w w' := by
  obtain ⟨r, hr⟩ : ∃ r, r = sqV p q := ⟨_, rfl⟩
  rw [← hr]
  have hrb := sqV_bd tp tq
  rw [← hr] at hrb
  unfold sqV at hr
  obtain ⟨⟨pa1, pa2⟩, pa3, pa4⟩ := tow_bd tp
  obtain ⟨⟨qa1, qa2⟩, qa3, qa4⟩ := tow_bd tq
  have d1 := sq_bd (d := p.1 - q.1) (by omega) (by omega)
  have d2 := sq_bd (d := p.2.1 - q.2.1) (by omega) (by omega)
  obtain ⟨T, L⟩ := x
  obtain ⟨a, ca, b, cb, rfl, ⟨m1, m2⟩, m3, m4⟩ := h.form
  obtain ⟨p1, p2⟩ := h.parts
  have HT := Lib.hid p1
  have HL := Lib.hid p2
  simp only at m1 m3 HT HL
  obtain ⟨m, hm⟩ : ∃ n, n = T.length := ⟨_, rfl⟩
  obtain ⟨l, hl⟩ : ∃ n, n = L.length := ⟨_, rfl⟩
  have HM := Lib.hid hm
  have HLL := Lib.hid hl
  clear p1 p2
  simp only at hp hq
  have him : i < m := by rw [hm]; exact (List.getElem?_eq_some_iff.1 hp).1
  have hjm : j < m := by rw [hm]; exact (List.getElem?_eq_some_iff.1 hq).1
  rw [← hm] at m1 HT
  rw [← hl] at m3 HL
  simp only
  rw [← hm, ← hl]
  obtain ⟨b1, o1, p', rfl, hp', c0, c1, _⟩ := Towers_at HT.out him
  obtain ⟨b2, o2, q', hbo, hq', c3, c4, _⟩ := Towers_at HT.out hjm
  simp only [Option.some.injEq, Addr.mk.injEq, and_true] at hbo
  obtain ⟨rfl, rfl⟩ := hbo
  have ep : p' = p := by have := hp'.out; rw [hp] at this; exact (Option.some.inj this).symm
  have eq : q' = q := by have := hq'.out; rw [hq] at this; exact (Option.some.inj this).symm
  subst ep eq
  obtain ⟨px, py, pz⟩ := p'
  obtain ⟨qx, qy, qz⟩ := q'
  simp only at c0 c1 c3 c4 d1 d2 hr pa1 pa2 pa3 pa4 qa1 qa2 qa3 qa4
  obtain ⟨dx, hdx⟩ : ∃ d, d = px - qx := ⟨_, rfl⟩
  obtain ⟨dy, hdy⟩ : ∃ d, d = py - qy := ⟨_, rfl⟩
  have W1 : IntKind.i64.wrap (px - qx) = dx := by rw [hdx]; exact IntWalk.i64_in _ (by omega)
  have W2 : IntKind.i64.wrap (py - qy) = dy := by rw [hdy]; exact IntWalk.i64_in _ (by omega)
  rw [← hdx] at d1 hr
  rw [← hdy] at d2 hr
  obtain ⟨d1a, d1b⟩ := d1
  obtain ⟨d2a, d2b⟩ := d2
  have HR := Lib.hid hr
  have himI : (i : Int) < (m : Int) := by omega
  have hjmI : (j : Int) < (m : Int) := by omega
  clear h hp hq hp' hq' hm hl tp tq hdx hdy hr hrb pa1 pa2 pa3 pa4 qa1 qa2 qa3 qa4
  go_enter Try.func57, Try.ntmps57
  go_wp2_with fail
  have B0 : (w.alloc (.cells #[.slice (some ⟨b1, o1, none⟩) m ca, .slice b l cb] 27)).cell? ⟨w.heap.size, 0, none⟩ = some (.slice (some ⟨b1, o1, none⟩) m ca) := box_cell w _ _ 0 _ rfl
  have X0 := Ext.alloc w (.cells #[.slice (some ⟨b1, o1, none⟩) m ca, .slice b l cb] 27)
  generalize w.alloc (.cells #[.slice (some ⟨b1, o1, none⟩) m ca, .slice b l cb] 27) = w1 at *
  have bb := XT.cell B0
  have e0 := XT.cell (X0.cell c0)
  have e1 := XT.cell (X0.cell c1)
  have e3 := XT.cell (X0.cell c3)
  have e4 := XT.cell (X0.cell c4)
  clear c0 c1 c3 c4 B0
  refine region_ext (by kernel_rfl) (by kernel_rfl) ?_
  repeat (go_big_quiet_step (fail))
  refine wpQuiet_nil ?_
  intro wq hxq
  go_wp2
  go_ret
  exact ⟨by rw [HR.out]; rfl, X0.trans hxq⟩
set_option maxRecDepth 100000 in
set_option maxHeartbeats 1000000 in
theorem c_neSquare (v : Value) (la ha : Nat) (x : NetT) (i j : Nat) (p q : TowerT) (w : World) (h : Nets w la ha v x) (hp : x.1[i]? = some p) (hq : x.1[j]? = some q) (tp : towB p = true) (tq : towB q = true) :
    Calls Try.prog 58 #[v, .int .i64 i, .int .i64 j] w fun e w' => e = .returned (.int .i64 (sqV p q)) ∧ Ext w w' := by
  obtain ⟨r, hr⟩ : ∃ r, r = sqV p q := ⟨_, rfl⟩
  rw [← hr]
  have hrb := sqV_bd tp tq
  rw [← hr] at hrb
  unfold sqV at hr
  obtain ⟨⟨pa1, pa2⟩, pa3, pa4⟩ := tow_bd tp
  obtain ⟨⟨qa1, qa2⟩, qa3, qa4⟩ := tow_bd tq
  have d1 := sq_bd (d := p.1 - q.1) (by omega) (by omega)
  have d2 := sq_bd (d := p.2.1 - q.2.1) (by omega) (by omega)
  obtain ⟨T, L⟩ := x
  obtain ⟨a, ca, b, cb, rfl, ⟨m1, m2⟩, m3, m4⟩ := h.form
  obtain ⟨p1, p2⟩ := h.parts
  have HT := Lib.hid p1
  have HL := Lib.hid p2
  simp only at m1 m3 HT HL
  obtain ⟨m, hm⟩ : ∃ n, n = T.length := ⟨_, rfl⟩
  obtain ⟨l, hl⟩ : ∃ n, n = L.length := ⟨_, rfl⟩
  have HM := Lib.hid hm
  have HLL := Lib.hid hl
  clear p1 p2
  simp only at hp hq
  have him : i < m := by rw [hm]; exact (List.getElem?_eq_some_iff.1 hp).1
  have hjm : j < m := by rw [hm]; exact (List.getElem?_eq_some_iff.1 hq).1
  rw [← hm] at m1 HT
  rw [← hl] at m3 HL
  simp only
  rw [← hm, ← hl]
  obtain ⟨b1, o1, p', rfl, hp', c0, c1, _⟩ := Towers_at HT.out him
  obtain ⟨b2, o2, q', hbo, hq', c3, c4, _⟩ := Towers_at HT.out hjm
  simp only [Option.some.injEq, Addr.mk.injEq, and_true] at hbo
  obtain ⟨rfl, rfl⟩ := hbo
  have ep : p' = p := by have := hp'.out; rw [hp] at this; exact (Option.some.inj this).symm
  have eq : q' = q := by have := hq'.out; rw [hq] at this; exact (Option.some.inj this).symm
  subst ep eq
  obtain ⟨px, py, pz⟩ := p'
  obtain ⟨qx, qy, qz⟩ := q'
  simp only at c0 c1 c3 c4 d1 d2 hr pa1 pa2 pa3 pa4 qa1 qa2 qa3 qa4
  obtain ⟨dx, hdx⟩ : ∃ d, d = px - qx := ⟨_, rfl⟩
  obtain ⟨dy, hdy⟩ : ∃ d, d = py - qy := ⟨_, rfl⟩
  have W1 : IntKind.i64.wrap (px - qx) = dx := by rw [hdx]; exact IntWalk.i64_in _ (by omega)
  have W2 : IntKind.i64.wrap (py - qy) = dy := by rw [hdy]; exact IntWalk.i64_in _ (by omega)
  rw [← hdx] at d1 hr
  rw [← hdy] at d2 hr
  obtain ⟨d1a, d1b⟩ := d1
  obtain ⟨d2a, d2b⟩ := d2
  have HR := Lib.hid hr
  have himI : (i : Int) < (m : Int) := by omega
  have hjmI : (j : Int) < (m : Int) := by omega
  clear h hp hq hp' hq' hm hl tp tq hdx hdy hr hrb pa1 pa2 pa3 pa4 qa1 qa2 qa3 qa4
  go_enter Try.func58, Try.ntmps58
  go_wp2_with fail
  have B0 : (w.alloc (.cells #[.slice (some ⟨b1, o1, none⟩) m ca, .slice b l cb] 27)).cell? ⟨w.heap.size, 0, none⟩ = some (.slice (some ⟨b1, o1, none⟩) m ca) := box_cell w _ _ 0 _ rfl
  have X0 := Ext.alloc w (.cells #[.slice (some ⟨b1, o1, none⟩) m ca, .slice b l cb] 27)
  generalize w.alloc (.cells #[.slice (some ⟨b1, o1, none⟩) m ca, .slice b l cb] 27) = w1 at *
  have bb := XT.cell B0
  have e0 := XT.cell (X0.cell c0)
  have e1 := XT.cell (X0.cell c1)
  have e3 := XT.cell (X0.cell c3)
  have e4 := XT.cell (X0.cell c4)
  clear c0 c1 c3 c4 B0
  refine region_ext (by kernel_rfl) (by kernel_rfl) ?_
  repeat (go_big_quiet_step (fail))
  refine wpQuiet_nil ?_
  intro wq hxq
  go_wp2
  go_ret
  exact ⟨by rw [HR.out]; rfl, X0.trans hxq⟩
end Go.Proofs.Ytiipjlcmekakaaa
