

/- The number of a link between two towers: the program's and the reference's. -/
import Derived.Test.YtmaaeemhbccpcaaGreatDoorGE
namespace Go.Proofs.YtmaaeemhbccpcaaGreatDoor
open Go.RowKit
def idxG (p : LinkT → Bool) : Nat → List LinkT → Int
  | _, [] => -1
  | k, y :: r => if p y then (k : Int) else idxG p (k + 1) r
theorem idxG_drop {xs : List LinkT} {k : Nat} {y : LinkT} (p : LinkT → Bool) (h : xs[k]? = some y) : idxG p k (xs.drop k) = if p y then (k : Int) else idxG p (k + 1) (xs.drop (k + 1)) := by
  have hk : k < xs.length := (List.getElem?_eq_some_iff.1 h).1
  have e : xs.drop k = y :: xs.drop (k + 1) := by
    rw [List.drop_eq_getElem_cons hk]; congr 1; exact (List.getElem?_eq_some_iff.1 h).2
  rw [e]; rfl
theorem idxG_congr {p q : LinkT → Bool} : ∀ (xs : List LinkT) (k : Nat), (∀ x ∈ xs, p x = q x) → idxG p k xs = idxG q k xs
  | [], k, _ => rfl
  | y :: r, k, h => by
    unfold idxG
    rw [h y (by simp), idxG_congr r (k + 1) (fun x hx => h x (by simp [hx]))]
theorem idxG_bd (p : LinkT → Bool) : ∀ (xs : List LinkT) (k : Nat), -1 ≤ idxG p k xs ∧ idxG p k xs < (k + xs.length : Nat) + 1
  | [], k => by simp [idxG]; omega
  | y :: r, k => by
    have h := idxG_bd p r (k + 1)
    unfold idxG
    split
    · simp; omega
    · simp only [List.length_cons]; omega
def lkEq (i j : Int) (x : LinkT) : Bool := (x.1 == min i j) && (x.2.1 == max i j)
def lkEq2 (i j : Int) (x : LinkT) : Bool := ((x.1 == i) && (x.2.1 == j)) || ((x.1 == j) && (x.2.1 == i))
theorem lnkP_all {m : Int} : ∀ {L : List LinkT} {p : Option LinkT}, lnkP m p L = true → ∀ x ∈ L, lkB m x = true
  | [], _, _, x, hx => by cases hx
  | y :: r, p, h, x, hx => by
    simp only [lnkP, Bool.and_eq_true] at h
    rcases List.mem_cons.1 hx with rfl | hx
    · exact h.1.1
    · exact lnkP_all h.2 x hx
theorem netB_links {x : NetT} (h : netB x = true) : ∀ y ∈ x.2, lkB x.1.length y = true := by
  simp only [netB, Bool.and_eq_true] at h
  exact lnkP_all h.2.2.2
theorem lkEq_same {m : Int} {x : LinkT} (h : lkB m x = true) (i j : Int) : lkEq i j x = lkEq2 i j x := by
  simp only [lkB, Bool.and_eq_true, decide_eq_true_eq] at h
  obtain ⟨_, h2, _⟩ := h
  unfold lkEq lkEq2
  rw [Bool.eq_iff_iff]
  simp only [Bool.and_eq_true, Bool.or_eq_true, beq_iff_eq]
  omega
theorem idx_same {x : NetT} (h : netB x = true) (i j : Int) : idxG (lkEq i j) 0 x.2 = idxG (lkEq2 i j) 0 x.2 :=
  idxG_congr _ _ fun y hy => lkEq_same (netB_links h y hy) i j
set_option maxRecDepth 100000 in
theorem c_linkFn (x : LinkT) (ba bb : Nat) (i j : Int) (w : World) (h1 : w.cell? ⟨ba, 0, none⟩ = some (.int .i64 i)) (h2 : w.cell? ⟨bb, 0, none⟩ = some (.int .i64 j)) :
    Calls Tryz.prog 71 #[.agg #[.int .i64 x.1, .int .i64 x.2.1, .int .i64 x.2.2], .pointer (some ⟨ba, 0, none⟩), .pointer (some ⟨bb, 0, none⟩)] w fun e w' => e = .returned (.bool (lkEq i j x)) ∧ Ext w w' := by
  obtain ⟨x1, x2, x3⟩ := x
  obtain ⟨r, hr⟩ : ∃ r, r = lkEq i j (x1, x2, x3) := ⟨_, rfl⟩
  rw [← hr]
  unfold lkEq at hr
  simp only at hr ⊢
  have hla := World.block_lt_of_cell? w _ h1
  have hlb := World.block_lt_of_cell? w _ h2
  simp only at hla hlb
  have k1 := (Ext.alloc w (.cells #[.int .i64 x1, .int .i64 x2, .int .i64 x3] 42)).cell h1
  have k2 := (Ext.alloc w (.cells #[.int .i64 x1, .int .i64 x2, .int .i64 x3] 42)).cell h2
  by_cases hij : j < i
  · rw [show min i j = j by omega, show max i j = i by omega] at hr
    cases e1 : (x1 == j)
    · rw [e1] at hr
      have HR := Lib.hid hr
      clear hr
      go_enter Tryz.func71, Tryz.ntmps71
      go_wp2
      go_ret
      exact ⟨by rw [HR.out]; rfl, Ext.alloc _ _⟩
    · rw [e1] at hr
      have HR := Lib.hid (hr.trans (Bool.true_and _))
      clear hr
      have hij2 : ¬ i < j := by omega
      have hij3 : ¬ i ≤ j := by omega
      go_enter Tryz.func71, Tryz.ntmps71
      go_wp2
      go_ret
      exact ⟨by rw [HR.out]; rfl, Ext.alloc _ _⟩
  · rw [show min i j = i by omega, show max i j = j by omega] at hr
    have hij4 : i ≤ j := by omega
    cases e1 : (x1 == i)
    · rw [e1] at hr
      have HR := Lib.hid hr
      clear hr
      go_enter Tryz.func71, Tryz.ntmps71
      go_wp2
      go_ret
      exact ⟨by rw [HR.out]; rfl, Ext.alloc _ _⟩
    · rw [e1] at hr
      have HR := Lib.hid (hr.trans (Bool.true_and _))
      clear hr
      by_cases hij5 : i < j
      · go_enter Tryz.func71, Tryz.ntmps71
        go_wp2
        go_ret
        exact ⟨by rw [HR.out]; rfl, Ext.alloc _ _⟩
      · have hij6 : j = i := by omega
        subst hij6
        go_enter Tryz.func71, Tryz.ntmps71
        go_wp2
        go_ret
        exact ⟨by rw [HR.out]; rfl, Ext.alloc _ _⟩
set_option maxRecDepth 100000 in
set_option maxHeartbeats 1000000 in
theorem c_linkFind (v : Value) (la ha : Nat) (xs : List LinkT) (ba bb : Nat) (p : LinkT → Bool) (w : World) (h : Links w la ha v xs)
    (hp : ∀ W x, Ext w W → x ∈ xs → Calls Tryz.prog 71 #[.agg #[.int .i64 x.1, .int .i64 x.2.1, .int .i64 x.2.2], .pointer (some ⟨ba, 0, none⟩), .pointer (some ⟨bb, 0, none⟩)] W fun e w' => e = .returned (.bool (p x)) ∧ Ext W w') :
    Calls Tryz.prog 70 #[v, .func (.func 71) #[] #[.pointer (some ⟨ba, 0, none⟩), .pointer (some ⟨bb, 0, none⟩)]] w fun e w' => e = .returned (.int .i64 (idxG p 0 xs)) ∧ Ext w w' := by
  obtain ⟨r, hr⟩ : ∃ r, r = idxG p 0 xs := ⟨_, rfl⟩
  rw [← hr]
  have HR := Lib.hid hr
  obtain ⟨a, cap, rfl, m1, m2⟩ := h.form
  have H := Lib.hid h
  have HP := Lib.hid hp
  obtain ⟨n, hn⟩ : ∃ n, n = xs.length := ⟨_, rfl⟩
  rw [← hn] at m1 H ⊢
  have HN := Lib.hid hn
  clear h hn hr hp
  go_enter Tryz.func70, Tryz.ntmps70
  go_wp2
  go_loopw [5, 8] (fun _ t wr => ∃ k : Nat, k ≤ n ∧ t = .int .i64 k ∧ Ext w wr ∧ Hid (r = idxG p k (xs.drop k))) (fun _ t _ => n - (intOf t).toNat)
  case atStart => exact ⟨0, by omega, rfl, Ext.refl _, HR.out⟩
  case round =>
    obtain ⟨k, hk, rfl, hx, hT⟩ := hrel
    by_cases hlt : k < n
    · obtain ⟨b, o, y, rfl, hg, c0, c1, c2⟩ := Links_at H.out hlt
      have d0 := hx.cell c0
      have d1 := hx.cell c1
      have d2 := hx.cell c2
      have hs := hT.out.trans (idxG_drop p hg.out)
      have hltI : (k : Int) < (n : Int) := by omega
      obtain ⟨t, ht⟩ : ∃ t, t = p y := ⟨_, rfl⟩
      have CP : Hid (∀ W, Ext w W → Calls Tryz.prog 71 #[.agg #[.int .i64 y.1, .int .i64 y.2.1, .int .i64 y.2.2], .pointer (some ⟨ba, 0, none⟩), .pointer (some ⟨bb, 0, none⟩)] W fun e w' => e = .returned (.bool t) ∧ Ext W w') := fun W hX => by
        rw [ht]; exact HP.out W y hX (List.mem_of_getElem? hg.out)
      rw [← ht] at hs
      clear c0 c1 c2 ht
      cases t
      · have HS : Hid (r = idxG p (k + 1) (xs.drop (k + 1))) := hs
        clear hs
        go_wp2_with (go_at_call 71; refine (CP.out _ hx).mono ?_; rintro e w2 ⟨rfl, hx2⟩)
        go_roundw
        case rel => exact ⟨k + 1, by omega, by go_num, hx.trans hx2, HS.out⟩
        case measure => simp [intOf]; omega
      · have HS : Hid (r = (k : Int)) := hs
        clear hs
        go_wp2_with (go_at_call 71; refine (CP.out _ hx).mono ?_; rintro e w2 ⟨rfl, hx2⟩)
        go_ret
        exact ⟨by rw [HS.out]; rfl, hx.trans hx2⟩
    · have hge : ¬ ((k : Int) < (n : Int)) := by omega
      have HS : Hid (r = -1) := by
        have e := hT.out
        rw [List.drop_eq_nil_of_le (by rw [← HN.out]; omega)] at e
        exact e
      go_wp2
      go_ret
      exact ⟨by rw [HS.out]; rfl, hx⟩
set_option maxRecDepth 100000 in
set_option maxHeartbeats 1000000 in
theorem c_linkIndex (v : Value) (la ha : Nat) (x : NetT) (i j : Int) (w : World) (h : Nets w la ha v x) (hh : ha ≤ w.heap.size) :
    Calls Tryz.prog 45 #[v, .int .i64 i, .int .i64 j] w fun e w' => e = .returned (.int .i64 (idxG (lkEq i j) 0 x.2)) ∧ Ext w w' := by
  obtain ⟨r, hr⟩ : ∃ r, r = idxG (lkEq i j) 0 x.2 := ⟨_, rfl⟩
  rw [← hr]
  obtain ⟨T, L⟩ := x
  obtain ⟨a, ca, b, cb, rfl, ⟨m1, m2⟩, m3, m4⟩ := h.form
  obtain ⟨p1, p2⟩ := h.parts
  simp only at m1 m3 p1 p2 hr ⊢
  obtain ⟨m, hm⟩ : ∃ n, n = T.length := ⟨_, rfl⟩
  have CF : Hid (∀ W ba bb, Ext w W → W.cell? ⟨ba, 0, none⟩ = some (.int .i64 i) → W.cell? ⟨bb, 0, none⟩ = some (.int .i64 j) → Calls Tryz.prog 70 #[.slice b L.length cb, .func (.func 71) #[] #[.pointer (some ⟨ba, 0, none⟩), .pointer (some ⟨bb, 0, none⟩)]] W fun e w' => e = .returned (.int .i64 r) ∧ Ext W w') := fun W ba bb hX c1 c2 => by
    rw [hr]
    exact c_linkFind _ la ha L ba bb (lkEq i j) W (p2.ext hX hh) fun W2 y hX2 _ => c_linkFn y ba bb i j W2 (hX2.cell c1) (hX2.cell c2)
  obtain ⟨l, hl⟩ : ∃ n, n = L.length := ⟨_, rfl⟩
  rw [← hm] at m1 ⊢
  rw [← hl] at m3 CF ⊢
  clear h p1 p2 hm hl hr
  go_enter Tryz.func45, Tryz.ntmps45
  go_wp2_with fail
  obtain ⟨W1, hW1⟩ : ∃ W, W = ((w.alloc (.cells #[.slice a m ca, .slice b l cb] 27)).alloc (.cells #[.int .i64 i] 3)).alloc (.cells #[.int .i64 j] 3) := ⟨_, rfl⟩
  rw [← hW1]
  have X1 : Ext w W1 := by rw [hW1]; exact (((Ext.refl w).al _).al _).al _
  have B1 : W1.heap[w.heap.size + 1]? = some (.cells #[.int .i64 i] 3) := by rw [hW1]; exact blk_old (blk_alloc2 _ _ _)
  have B2 : W1.heap[w.heap.size + 2]? = some (.cells #[.int .i64 j] 3) := by rw [hW1]; exact blk_alloc3 _ _ _ _
  clear hW1
  refine (CF.out W1 _ _ X1 (blk_cell B1 (j := 0) rfl) (blk_cell B2 (j := 0) rfl)).mono ?_
  rintro e W2 ⟨rfl, X2⟩
  go_wp2
  go_ret
  exact ⟨rfl, X1.trans X2⟩
set_option maxRecDepth 100000 in
set_option maxHeartbeats 4000000 in
theorem c_neLink (v : Value) (la ha : Nat) (x : NetT) (i j : Int) (w : World) (h : Nets w la ha v x) (hh : ha ≤ w.heap.size) :
    Calls Tryz.prog 72 #[v, .int .i64 i, .int .i64 j] w fun e w' => e = .returned (.int .i64 (idxG (lkEq2 i j) 0 x.2)) ∧ Ext w w' := by
  obtain ⟨r, hr⟩ : ∃ r, r = idxG (lkEq2 i j) 0 x.2 := ⟨_, rfl⟩
  rw [← hr]
  obtain ⟨T, L⟩ := x
  obtain ⟨a, ca, b, cb, rfl, ⟨m1, m2⟩, m3, m4⟩ := h.form
  obtain ⟨p1, p2⟩ := h.parts
  have HT := Lib.hid p1
  have HL := Lib.hid p2
  simp only at m1 m3 HT HL
  obtain ⟨m, hm⟩ : ∃ n, n = T.length := ⟨_, rfl⟩
  obtain ⟨l, hl⟩ : ∃ n, n = L.length := ⟨_, rfl⟩
  have HM := Lib.hid hm
  have HLL := Lib.hid hl
  clear p1 p2
  simp only at hr ⊢
  rw [← hm] at m1 HT ⊢
  rw [← hl] at m3 HL ⊢
  have HR := Lib.hid hr
  clear h hm hl hr
  go_enter Tryz.func72, Tryz.ntmps72
  go_wp2
  have B1 : (w.alloc (.cells #[.slice a m ca, .slice b l cb] 27)).cell? ⟨w.heap.size, 1, none⟩ = some (.slice b l cb) := box_cell w _ _ 1 _ rfl
  have X0 := Ext.alloc w (.cells #[.slice a m ca, .slice b l cb] 27)
  generalize w.alloc (.cells #[.slice a m ca, .slice b l cb] 27) = w1 at *
  go_loopw [12] (fun t wr => ∃ k : Nat, k ≤ l ∧ t = .int .i64 k ∧ Ext w1 wr ∧ Hid (r = idxG (lkEq2 i j) k (L.drop k))) (fun t _ => l - (intOf t).toNat)
  case atStart => exact ⟨0, by omega, rfl, Ext.refl _, HR.out⟩
  case round =>
    obtain ⟨k, hk, rfl, hx, hT⟩ := hrel
    by_cases hlt : k < l
    · obtain ⟨b1, o1, y, rfl, hg, c0, c1, c2⟩ := Links_at HL.out hlt
      have d0 := hx.cell (X0.cell c0)
      have d1 := hx.cell (X0.cell c1)
      have d2 := hx.cell (X0.cell c2)
      have hs := hT.out.trans (idxG_drop (lkEq2 i j) hg.out)
      have hltI : (k : Int) < (l : Int) := by omega
      clear c0 c1 c2
      cases e1 : (y.1 == i) <;> cases e2 : (y.2.1 == j) <;> cases e3 : (y.1 == j) <;> cases e4 : (y.2.1 == i)
      all_goals
        have EE : Hid ((y.1 == i) = _ ∧ (y.2.1 == j) = _ ∧ (y.1 == j) = _ ∧ (y.2.1 == i) = _) := ⟨e1, e2, e3, e4⟩
        first
          | (have HS : Hid (r = (k : Int)) := (by unfold Hid; rw [hs]; unfold lkEq2; rw [EE.out.1, EE.out.2.1, EE.out.2.2.1, EE.out.2.2.2]; rfl)
             clear hs
             go_wp2
             go_ret
             exact ⟨by rw [HS.out]; rfl, X0.trans (hx.trans (Ext.alloc _ _))⟩)
          | (have HS : Hid (r = idxG (lkEq2 i j) (k + 1) (L.drop (k + 1))) := (by unfold Hid; rw [hs]; unfold lkEq2; rw [EE.out.1, EE.out.2.1, EE.out.2.2.1, EE.out.2.2.2]; rfl)
             clear hs
             go_wp2
             go_roundw
             case rel => exact ⟨k + 1, by omega, by go_num, hx.trans (Ext.alloc _ _), HS.out⟩
             case measure => simp [intOf]; omega)
    · have hge : ¬ ((k : Int) < (l : Int)) := by omega
      have HS : Hid (r = -1) := by
        have e := hT.out
        rw [List.drop_eq_nil_of_le (by rw [← HLL.out]; omega)] at e
        exact e
      go_wp2
      go_ret
      exact ⟨by rw [HS.out]; rfl, X0.trans hx⟩
end Go.Proofs.YtmaaeemhbccpcaaGreatDoor
