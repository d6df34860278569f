
/- Whether towers see each other: the program's and the reference's. -/
import Derived.Test.YtnoagmjajhlmjaaClear
import Derived.Test.YtnoagmjajhlmjaaMem2
namespace Go.Proofs.Ytnoagmjajhlmjaa
open Go.RowKit

/-- The places at which p holds, from i on. -/
def blk {α : Type} (p : α → Bool) : Nat → List α → List Int
  | _, [] => []
  | i, g :: r => if p g then (i : Int) :: blk p (i + 1) r else blk p (i + 1) r
theorem blk_snoc {α : Type} (p : α → Bool) (l : List α) (g : α) : ∀ i, blk p i (l ++ [g]) = blk p i l ++ (if p g then [((i + l.length : Nat) : Int)] else []) := by
  induction l with
  | nil => intro i; simp [blk]
  | cons y r ih =>
    intro i
    simp only [List.cons_append, blk, ih (i + 1), List.length_cons]
    rw [show i + 1 + r.length = i + (r.length + 1) by omega]
    split <;> simp
theorem blk_len {α : Type} (p : α → Bool) (l : List α) : ∀ i, (blk p i l).length ≤ l.length := by
  induction l with
  | nil => intro i; simp [blk]
  | cons y r ih => intro i; have := ih (i + 1); simp only [blk]; split <;> simp <;> omega
theorem blk_any {α : Type} (p : α → Bool) (l : List α) : ∀ i, (((blk p i l).length : Int) == 0) = !l.any p := by
  induction l with
  | nil => intro i; simp [blk]
  | cons y r ih =>
    intro i
    have h := ih (i + 1)
    by_cases hp : p y = true
    · simp only [blk, List.any_cons, hp]
      simp; omega
    · have hp' : p y = false := by simpa using hp
      simp only [blk, List.any_cons, hp', Bool.false_or]
      exact h

/-- The ground is too high. -/
def low (D A B n : Int) (g : GroundT) : Bool := decide (clr D A B n g < 0)
def OkGs (D : Int) (gs : List GroundT) : Prop := ∀ g ∈ gs, OkG D g
theorem gsOk_get {hi : Int} : ∀ {gs : List GroundT} {p : Option Int}, gsOk hi p gs = true → ∀ g ∈ gs, 1 ≤ g.1 ∧ g.1 ≤ hi ∧ 0 ≤ g.2 ∧ g.2 ≤ 3000
  | [], _, _, g, hg => by cases hg
  | x :: r, p, h, g, hg => by
    simp only [gsOk, Bool.and_eq_true] at h
    obtain ⟨⟨⟨h1, h2⟩, _⟩, h3⟩ := h
    rcases List.mem_cons.1 hg with rfl | hg
    · obtain ⟨a1, a2⟩ := inB_t h1; obtain ⟨b1, b2⟩ := inB_t h2; exact ⟨a1, a2, b1, b2⟩
    · exact gsOk_get h3 g hg
theorem ok_of_sight {D A B n : Int} {gs : List GroundT} (h : sightOk D A B gs = true) (hn : inB 0 3 n = true) : OkD D A B n ∧ OkGs D gs ∧ gs.length ≤ 20 ∧ A ≤ 3000 ∧ B ≤ 3000 := by
  unfold sightOk at h
  simp only [Bool.and_eq_true, decide_eq_true_eq] at h
  obtain ⟨h1, h2, h3, h4, h5⟩ := h
  obtain ⟨a1, a2⟩ := inB_t h1; obtain ⟨b1, b2⟩ := inB_t h2; obtain ⟨c1, c2⟩ := inB_t h3; obtain ⟨n1, n2⟩ := inB_t hn
  exact ⟨⟨a1, a2, b1, by omega, c1, by omega, n1, n2⟩, fun g hg => gsOk_get h5 g hg, h4, b2, c2⟩

set_option maxRecDepth 100000 in
theorem c_sees1 (D A B n x y : Int) (vg : Value) (b : Nat) (w : World) (h : OkD D A B n) (hg : OkG D (x, y))
    (k0 : w.cell? ⟨b, 0, none⟩ = some (.int .i64 D)) (k1 : w.cell? ⟨b, 1, none⟩ = some (.int .i64 A)) (k2 : w.cell? ⟨b, 2, none⟩ = some (.int .i64 B)) (k3 : w.cell? ⟨b, 3, none⟩ = some vg)
    (hv : ∃ a n c, vg = .slice a n c) (k4 : w.cell? ⟨b + 1, 0, none⟩ = some (.int .i64 n)) :
    Calls Try.prog 68 #[.agg #[.int .i64 x, .int .i64 y], .pointer (some ⟨b, 0, none⟩), .pointer (some ⟨b + 1, 0, none⟩)] w fun e w' => e = .returned (.bool (low D A B n (x, y))) ∧ Ext w w' := by
  obtain ⟨a, l, c, rfl⟩ := hv
  obtain ⟨r, hr⟩ : ∃ r, r = clr D A B n (x, y) := ⟨_, rfl⟩
  unfold low
  have CC : Hid (∀ W, Calls Try.prog 55 #[.agg #[.int .i64 D, .int .i64 A, .int .i64 B, .slice a l c], .agg #[.int .i64 x, .int .i64 y], .int .i64 n] W fun e w' => e = .returned (.int .i64 r) ∧ Ext W w') :=
    fun W => by rw [hr]; exact c_clearanceAt D A B n x y _ W h hg
  rw [← hr]
  clear hr
  have l0 := (Ext.alloc w (.cells #[.int .i64 x, .int .i64 y] 61)).cell k0
  have l1 := (Ext.alloc w (.cells #[.int .i64 x, .int .i64 y] 61)).cell k1
  have l2 := (Ext.alloc w (.cells #[.int .i64 x, .int .i64 y] 61)).cell k2
  have l3 := (Ext.alloc w (.cells #[.int .i64 x, .int .i64 y] 61)).cell k3
  have l4 := (Ext.alloc w (.cells #[.int .i64 x, .int .i64 y] 61)).cell k4
  clear k0 k1 k2 k3 k4
  go_enter Try.func68, Try.ntmps68
  go_wp2_with (go_at_call 55; refine (CC.out _).mono ?_; rintro e w2 ⟨rfl, hx⟩)
  go_ret
  exact ⟨rfl, (Ext.alloc _ _).trans hx⟩

set_option maxRecDepth 100000 in
theorem c_IndexFuncG (p : GroundT → Bool) (v : Value) (lo hi : Nat) (gs : List GroundT) (q1 q2 : Value) (w : World) (h : Grounds w lo hi v gs)
    (hp : ∀ x y, (x, y) ∈ gs → ∀ W, Ext w W → Calls Try.prog 68 #[.agg #[.int .i64 x, .int .i64 y], q1, q2] W fun e w' => e = .returned (.bool (p (x, y))) ∧ Ext W w') :
    Calls Try.prog 73 #[v, .func (.func 68) #[] #[q1, q2]] w fun e w' => ∃ i : Int, e = .returned (.int .i64 i) ∧ (decide (0 ≤ i) = gs.any p) ∧ Ext w w' := by
  have h0 := h
  obtain ⟨a, cap, rfl, m1, m2, _⟩ := h0
  have H := Lib.hid h
  have HP := Lib.hid hp
  obtain ⟨n, hn⟩ : ∃ n, n = gs.length := ⟨_, rfl⟩
  rw [← hn] at m1 H ⊢
  have HN := Lib.hid hn
  clear h hp hn
  go_enter Try.func73, Try.ntmps73
  go_wp2
  go_loopw [8] (fun t wr => ∃ k : Nat, k ≤ n ∧ t = .int .i64 k ∧ Ext w wr ∧ Hid ((gs.take k).any p = false)) (fun t _ => n - (intOf t).toNat)
  case atStart => exact ⟨0, by omega, rfl, Ext.refl _, rfl⟩
  case round =>
    obtain ⟨k, hk, rfl, hx, hT⟩ := hrel
    by_cases hlt : k < n
    · obtain ⟨b, o, ⟨x, y⟩, rfl, hg, c0, c1⟩ := Grounds_at H.out hlt
      have d0 := hx.cell c0
      have d1 := hx.cell c1
      clear c0 c1
      have hltI : (k : Int) < (n : Int) := by omega
      have hmem : (x, y) ∈ gs := List.mem_of_getElem? hg.out
      have CP : Hid (∀ W, Ext w W → Calls Try.prog 68 #[.agg #[.int .i64 x, .int .i64 y], q1, q2] W fun e w' => e = .returned (.bool (p (x, y))) ∧ Ext W w') := HP.out x y hmem
      obtain ⟨t, ht⟩ : ∃ t, t = p (x, y) := ⟨_, rfl⟩
      rw [← ht] at CP
      have HT := Lib.hid ht
      clear ht hmem
      cases t
      · go_wp2_with (go_at_call 68; refine (CP.out _ hx).mono ?_; rintro e w2 ⟨rfl, hx2⟩)
        go_roundw
        case rel => exact ⟨k + 1, by omega, by go_num, hx.trans hx2, by unfold Hid; rw [take_snoc' hg.out, List.any_append, hT.out]; simp [HT.out.symm]⟩
        case measure => simp [intOf]; omega
      · go_wp2_with (go_at_call 68; refine (CP.out _ hx).mono ?_; rintro e w2 ⟨rfl, hx2⟩)
        go_ret
        refine ⟨k, rfl, ?_, hx.trans hx2⟩
        rw [List.any_eq_true.2 ⟨(x, y), List.mem_of_getElem? hg.out, HT.out.symm⟩]
        simp
    · have e1 := hT.out
      rw [List.take_of_length_le (by rw [← HN.out]; omega)] at e1
      have E1 := Lib.hid e1
      clear e1
      go_wp2
      go_ret
      exact ⟨-1, rfl, by rw [E1.out]; rfl, hx⟩
set_option maxRecDepth 100000 in
theorem c_ContainsFuncG (p : GroundT → Bool) (v : Value) (lo hi : Nat) (gs : List GroundT) (q1 q2 : Value) (w : World) (h : Grounds w lo hi v gs)
    (hp : ∀ x y, (x, y) ∈ gs → ∀ W, Ext w W → Calls Try.prog 68 #[.agg #[.int .i64 x, .int .i64 y], q1, q2] W fun e w' => e = .returned (.bool (p (x, y))) ∧ Ext W w') :
    Calls Try.prog 67 #[v, .func (.func 68) #[] #[q1, q2]] w fun e w' => e = .returned (.bool (gs.any p)) ∧ Ext w w' := by
  have h0 := h
  obtain ⟨a, cap, rfl, m1, m2, _⟩ := h0
  have CI := Lib.hid (c_IndexFuncG p _ lo hi gs q1 q2 w h hp)
  clear h hp
  go_enter Try.func67, Try.ntmps67
  go_wp2_with (go_at_call 73; refine CI.out.mono ?_; rintro e w2 ⟨i, rfl, hi, hx⟩)
  go_ret
  exact ⟨by rw [← hi]; rfl, hx⟩

def seesB (D A B n : Int) (gs : List GroundT) : Bool := !gs.any (low D A B n)
set_option maxRecDepth 100000 in
theorem c_sees (D A B n : Int) (vg : Value) (lo hi : Nat) (gs : List GroundT) (w : World) (h : Grounds w lo hi vg gs) (hh : hi ≤ w.heap.size) (hok : OkD D A B n) (hgs : OkGs D gs) :
    Calls Try.prog 46 #[.agg #[.int .i64 D, .int .i64 A, .int .i64 B, vg], .int .i64 n] w fun e w' => e = .returned (.bool (seesB D A B n gs)) ∧ Ext w w' := by
  have h0 := h
  obtain ⟨a, cap, rfl, m1, m2, _⟩ := h0
  have hmf : ∀ (fn : Fn) (first cap : Array Value) (w : World), (Instr.makeFunc fn first cap).run Try.prog w = .ok (.func fn first cap) w := fun _ _ _ _ => rfl
  have X := ((Ext.refl w).al (.cells #[.int .i64 D, .int .i64 A, .int .i64 B, .slice a gs.length cap] 28)).al (.cells #[.int .i64 n] 3)
  have B1 : ((w.alloc (.cells #[.int .i64 D, .int .i64 A, .int .i64 B, .slice a gs.length cap] 28)).alloc (.cells #[.int .i64 n] 3)).heap[w.heap.size]? = some (.cells #[.int .i64 D, .int .i64 A, .int .i64 B, .slice a gs.length cap] 28) := blk_old (blk_alloc _ _)
  have B2 : ((w.alloc (.cells #[.int .i64 D, .int .i64 A, .int .i64 B, .slice a gs.length cap] 28)).alloc (.cells #[.int .i64 n] 3)).heap[w.heap.size + 1]? = some (.cells #[.int .i64 n] 3) := blk_alloc2 _ _ _
  have CF := Lib.hid (c_ContainsFuncG (low D A B n) _ lo hi gs (.pointer (some ⟨w.heap.size, 0, none⟩)) (.pointer (some ⟨w.heap.size + 1, 0, none⟩)) _ (h.ext X hh) (fun x y hm W hX =>
    c_sees1 D A B n x y _ w.heap.size W hok (hgs _ hm) (hX.cell (blk_cell B1 (j := 0) rfl)) (hX.cell (blk_cell B1 (j := 1) rfl)) (hX.cell (blk_cell B1 (j := 2) rfl)) (hX.cell (blk_cell B1 (j := 3) rfl)) ⟨_, _, _, rfl⟩ (hX.cell (blk_cell B2 (j := 0) rfl))))
  have HX := Lib.hid X
  clear h hgs hok X B1 B2
  unfold seesB
  go_enter Try.func46, Try.ntmps46
  go_wp2_with (go_at_call 67; refine CF.out.mono ?_; rintro e w2 ⟨rfl, hx⟩)
  go_ret
  exact ⟨rfl, HX.out.trans hx⟩

theorem Try.info_intS : (Try.prog.info? 3).map (fun i => (i.zero, i.size, i.bytes)) = some (some (.int .i64 0), 1, 8) := by kernel_rfl
set_option maxRecDepth 100000 in
set_option maxHeartbeats 1000000 in
theorem c_siBlocked (D A B n : Int) (vg : Value) (lo hi : Nat) (gs : List GroundT) (w : World) (h : Grounds w lo hi vg gs) (hok : OkD D A B n) (hgs : OkGs D gs) (h20 : gs.length ≤ 20) :
    Calls Try.prog 56 #[.agg #[.int .i64 D, .int .i64 A, .int .i64 B, vg], .int .i64 n] w fun e w' => ∃ v, e = .returned v ∧
      w'.ownsRow w.heap.size 3 1 v (blk (low D A B n) 0 gs).length ((blk (low D A B n) 0 gs).flatMap encI) ∧ Ext w w' := by
  obtain ⟨i0, hi0, hz0, hz1, hz2⟩ := info_parts Try.info_intS
  have h0 := h
  obtain ⟨a, cap, rfl, m1, m2, _⟩ := h0
  have H := Lib.hid h
  have HG := Lib.hid hgs
  have HK := Lib.hid hok
  obtain ⟨m, hm⟩ : ∃ m, m = gs.length := ⟨_, rfl⟩
  rw [← hm] at m1 H h20 ⊢
  have HM := Lib.hid hm
  clear h hgs hok hm
  go_enter Try.func56, Try.ntmps56
  go_wp2
  have B1 : (w.alloc (.cells #[.int .i64 D, .int .i64 A, .int .i64 B, .slice a m cap] 28)).heap[w.heap.size]? = some (.cells #[.int .i64 D, .int .i64 A, .int .i64 B, .slice a m cap] 28) := blk_alloc _ _
  have X0 := Ext.alloc w (.cells #[.int .i64 D, .int .i64 A, .int .i64 B, .slice a m cap] 28)
  have hsz := size_alloc w (.cells #[.int .i64 D, .int .i64 A, .int .i64 B, .slice a m cap] 28)
  generalize w.alloc (.cells #[.int .i64 D, .int .i64 A, .int .i64 B, .slice a m cap] 28) = w1 at *
  have HSZ := Lib.hid hsz
  clear hsz
  go_loopw [5, 11] (fun v t wr => ∃ k : Nat, k ≤ m ∧ t = .int .i64 k ∧ wr.ownsRow w1.heap.size 3 1 v (blk (low D A B n) 0 (gs.take k)).length ((blk (low D A B n) 0 (gs.take k)).flatMap encI) ∧ Ext w1 wr) (fun _ t _ => m - (intOf t).toNat)
  case atStart => exact ⟨0, by omega, rfl, by simpa [blk] using World.ownsRow_nil w1 w1.heap.size 3 1, Ext.refl _⟩
  case round =>
    obtain ⟨k, hk, rfl, hown, hx⟩ := hrel
    by_cases hlt : k < m
    · obtain ⟨b, o, ⟨x, y⟩, rfl, hg, c0, c1⟩ := Grounds_at H.out hlt
      have d0 := hx.cell (X0.cell c0)
      have d1 := hx.cell (X0.cell c1)
      have hltI : (k : Int) < (m : Int) := by omega
      have hGX := Ext.alloc wr (.cells #[.int .i64 x, .int .i64 y] 61)
      have B2 := (hx.trans hGX).blk B1
      have k0 := blk_cell B2 (j := 0) rfl
      have k1 := blk_cell B2 (j := 1) rfl
      have k2 := blk_cell B2 (j := 2) rfl
      have k3 := blk_cell B2 (j := 3) rfl
      have HO : Hid (blk (low D A B n) 0 (gs.take (k + 1)) = blk (low D A B n) 0 (gs.take k) ++ (if low D A B n (x, y) then [(k : Int)] else [])) := by
        unfold Hid; rw [take_snoc' hg.out, blk_snoc, List.length_take_of_le (by rw [← HM.out]; exact hk)]; simp
      have hlen := blk_len (low D A B n) (gs.take k) 0
      have hlen2 := List.length_take_le k gs
      have hle : (blk (low D A B n) 0 (gs.take k)).length ≤ 20 := by omega
      obtain ⟨L, hL⟩ : ∃ L, L = blk (low D A B n) 0 (gs.take k) := ⟨_, rfl⟩
      rw [← hL] at HO hle hown
      obtain ⟨t, ht⟩ : ∃ t, t = low D A B n (x, y) := ⟨_, rfl⟩
      obtain ⟨q, hq⟩ : ∃ q, q = clr D A B n (x, y) := ⟨_, rfl⟩
      have hmem : (x, y) ∈ gs := List.mem_of_getElem? hg.out
      have CO : Hid (∀ W, Calls Try.prog 58 #[.agg #[.int .i64 D, .int .i64 A, .int .i64 B, .slice (some ⟨b, o, none⟩) m cap], .agg #[.int .i64 x, .int .i64 y], .int .i64 n] W fun e w' => e = .returned (.int .i64 q) ∧ Ext W w') :=
        fun W => by rw [hq]; exact c_siOver D A B n x y _ W HK.out (HG.out _ hmem)
      rw [← ht] at HO
      unfold low at ht
      rw [← hq] at ht
      have HOWN := Lib.hid hown
      clear c0 c1 hlen hlen2 hL hq hmem hown B2
      by_cases hqn : q < 0
      · have HT : Hid (t = true) := by unfold Hid; rw [ht]; simp [hqn]
        clear ht
        go_wp2_with (first | (go_at_call 58; refine (CO.out _).mono ?_; rintro e w2 ⟨rfl, hx2⟩) | (at_builtin; refine wpList_append_own _ rfl _ _ 46 rfl w1.heap.size 3 i0 (.int .i64 0) 1 8 Try.underlying46 hi0 hz0 hz1 hz2 rfl (by decide) _ _ _ rfl ((own_ext HOWN.out (hGX.trans hx2)).alloc _) ⟨w2.heap.size, 0, none⟩ 1 1 [.int .i64 (k : Int)] rfl rfl (new_cells1 _ _ _) (by intro u hu; simp at hu; subst hu; rfl) (by unfold maxLen; omega) (by omega) (by have := hx.size; have := hGX.size; have := hx2.size; simp; omega) ?_; intro v3 w3 hown3 hgrow3 _))
        go_roundw
        case rel =>
          refine ⟨k + 1, by omega, by go_num, ?_, ((hx.trans hGX).trans hx2).push (own_ext HOWN.out (hGX.trans hx2)) hgrow3 (Nat.le_refl _)⟩
          rw [HO.out, HT.out]
          exact own_push hown3
        case measure => simp [intOf]; omega
      · have HT : Hid (t = false) := by unfold Hid; rw [ht]; simp [hqn]
        clear ht
        go_wp2_with (go_at_call 58; refine (CO.out _).mono ?_; rintro e w2 ⟨rfl, hx2⟩)
        go_roundw
        case rel =>
          refine ⟨k + 1, by omega, by go_num, ?_, (hx.trans hGX).trans hx2⟩
          rw [HO.out, HT.out]
          simpa using own_ext HOWN.out (hGX.trans hx2)
        case measure => simp [intOf]; omega
    · have e1 : gs.take k = gs := List.take_of_length_le (by rw [← HM.out]; omega)
      rw [e1] at hown
      have HOWN := Lib.hid hown
      obtain ⟨a5, c5, rfl, _, _, _⟩ := own_form hown
      clear e1 hown
      go_wp2
      go_ret
      exact ⟨_, rfl, own_mono HOWN.out (by rw [HSZ.out]; omega), X0.trans hx⟩
set_option maxRecDepth 100000 in
theorem c_siSees (D A B n : Int) (vg : Value) (lo hi : Nat) (gs : List GroundT) (w : World) (h : Grounds w lo hi vg gs) (hh : hi ≤ w.heap.size) (hok : OkD D A B n) (hgs : OkGs D gs) (h20 : gs.length ≤ 20) :
    Calls Try.prog 48 #[.agg #[.int .i64 D, .int .i64 A, .int .i64 B, vg], .int .i64 n] w fun e w' => e = .returned (.bool (seesB D A B n gs)) ∧ Ext w w' := by
  have h0 := h
  obtain ⟨a, cap, rfl, m1, m2, _⟩ := h0
  have hb := blk_any (low D A B n) gs 0
  have hl := blk_len (low D A B n) gs 0
  obtain ⟨r, hr⟩ : ∃ r, r = seesB D A B n gs := ⟨_, rfl⟩
  rw [← hr]
  unfold seesB at hr
  rw [← hb] at hr
  have X := Ext.alloc w (.cells #[.int .i64 D, .int .i64 A, .int .i64 B, .slice a gs.length cap] 28)
  have CB := Lib.hid (c_siBlocked D A B n _ lo hi gs _ (h.ext X hh) hok hgs h20)
  obtain ⟨m, hm⟩ : ∃ m, m = (blk (low D A B n) 0 gs).length := ⟨_, rfl⟩
  rw [← hm] at hr CB hl
  have HR := Lib.hid hr
  have HX := Lib.hid X
  clear h hgs hok X hb hr hm
  go_enter Try.func48, Try.ntmps48
  go_wp2_with (go_at_call 56; refine CB.out.mono ?_; rintro e w2 ⟨v, rfl, ho, hx⟩; obtain ⟨a5, c5, rfl, _, _, _⟩ := own_form ho)
  go_ret
  exact ⟨by rw [HR.out]; rfl, HX.out.trans hx⟩
end Go.Proofs.Ytnoagmjajhlmjaa
