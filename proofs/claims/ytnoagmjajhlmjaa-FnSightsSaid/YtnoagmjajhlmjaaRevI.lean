
/- ReverseSight of the program: its contract.  -/
import Derived.Test.YtnoagmjajhlmjaaBack
import Derived.Test.YtnoagmjajhlmjaaRev
namespace Go.Proofs.Ytnoagmjajhlmjaa
open Go.RowKit Go.Shelf
attribute [local go_sem] Oper.semAt_some
theorem back_stops (F : Fence) (n : Nat) (hf : F.fn 65) (hro : F.round = none) (hn : 1 ≤ n) (Bs bo n₀ : Nat) (a : Option Addr) (cap : Nat) (gs : List GroundT) (hlen2 : gs.length ≤ 1048576) (w : World) (hn0 : n₀ ≤ w.heap.size)
    (hBs : w.cell? ⟨Bs, 0, none⟩ = some (.slice a gs.length cap)) (hB2 : Bs < n₀) (hB3 : Bs ≠ bo)
    (hc : ∀ j g, gs[j]? = some g → ∃ b off, a = some ⟨b, off, none⟩ ∧ b < n₀ ∧ b ≠ bo ∧ w.cell? ⟨b, off + j * 2, none⟩ = some (.int .i64 g.1) ∧ w.cell? ⟨b, off + j * 2 + 1, none⟩ = some (.int .i64 g.2)) :
    SeqStopsK F n Try.prog 65 #[.pointer (some ⟨Bs, 0, none⟩)] (fun x : Int × GroundT => #[Value.int .i64 x.1, .agg #[.int .i64 x.2.1, .int .i64 x.2.2]]) (KB bo n₀) (fun ys => ys = bk gs gs.length) (fun pre => ∃ k, k ≤ gs.length ∧ pre = bk gs k) gs.length w :=
  fun l J Jx W hW _ _ hY h0 => back1_in F n hf hro hn l Bs bo n₀ gs.length cap a gs rfl hlen2 J Jx hY W ((hW.cell (p := ⟨Bs, 0, none⟩) (by show Bs < w.heap.size; omega)).trans hBs) hB2 hB3
    (fun j g hg => by
      obtain ⟨b, off, e, h1, h2, c0, c1⟩ := hc j g hg
      exact ⟨b, off, e, h1, h2, (hW.cell (p := ⟨b, off + j * 2, none⟩) (by show b < w.heap.size; omega)).trans c0, (hW.cell (p := ⟨b, off + j * 2 + 1, none⟩) (by show b < w.heap.size; omega)).trans c1⟩) h0
set_option maxRecDepth 100000 in
theorem c_Backward (a : Option Addr) (len cap : Nat) (w : World) :
    Calls Try.prog 41 #[.slice a len cap] w fun e w' => e = .returned (.func (.func 65) #[] #[.pointer (some ⟨w.heap.size, 0, none⟩)]) ∧ w' = w.alloc (.cells #[.slice a len cap] 26) := by
  go_enter Try.func41, Try.ntmps41
  go_wp2
  go_ret
  exact ⟨rfl, rfl⟩
def rvW (D : Int) (x : Int × GroundT) : GroundT := (wrap64 (D - x.2.1), x.2.2)
theorem wrap_small {d : Int} (h1 : -4000000 ≤ d) (h2 : d ≤ 4000000) : wrap64 d = d := by
  have h : IntKind.i64.wrap d = d := by rw [IntKind.wrap_i64]; omega
  first | exact h | (show IntKind.wrap .i64 d = d; exact h) | (unfold wrap64; omega)
theorem rv_bk {D : Int} {gs : List GroundT} (h : OkGs D gs) (h1 : 1 ≤ D) (h2 : D ≤ 999) : (bk gs gs.length).map (rvW D) = rvG D gs := by
  apply List.ext_getElem?
  intro k
  by_cases hk : k < gs.length
  · have hj : gs[gs.length - 1 - k]? = some gs[gs.length - 1 - k] := List.getElem?_eq_getElem (by omega)
    obtain ⟨x0, x1, _⟩ := h _ (List.mem_of_getElem? hj)
    rw [rvG_at hj (by omega), List.getElem?_map]
    unfold bk
    rw [List.getElem?_map, List.getElem?_range hk]
    simp only [Option.map_some, hj, Option.getD_some, rvW, flipG]
    rw [wrap_small (by omega) (by omega)]
  · rw [List.getElem?_eq_none (by rw [List.length_map, bk_len]; omega), List.getElem?_eq_none (by rw [rvG_len]; omega)]
theorem rv_kept {X Y : World} {row : Option Nat} {b : Nat} {C : Array Value} {t : TypeId} {f : Nat × Nat} (h : X.heap[b]? = some (.cells C t f)) (hg : X.grownBy Y row) (hr : ∀ r, row = some r → ∃ o : Obj, X.heap[r]? = some o ∧ o.isCells = false) : Y.heap[b]? = some (.cells C t f) := by
  rw [hg.block b (Array.getElem?_eq_some_iff.1 h).1 (fun e => by
    obtain ⟨o, ho, hc⟩ := hr b e.symm
    rw [h] at ho; cases ho; cases hc)]
  exact h
theorem rv_ownFrom (D A B : Int) (W0 : World) {bo : Nat} (hs0 : W0.heap.size = bo + 2) : OwnFrom W0.heap.size (fun (pre : List (Int × GroundT)) W => (∃ a6 c6, W.heap[bo]? = some (.cells #[.int .i64 D, .int .i64 B, .int .i64 A, .slice a6 pre.length c6] 28) ∧ W.ownsRow W0.heap.size 61 2 (.slice a6 pre.length c6) pre.length ((pre.map (rvW D)).flatMap encGround)) ∧ Keep bo (bo + 1) W0 W) := by
  rintro pre W W' row ⟨⟨a6, c6, hb, ho⟩, hk⟩ hg hr
  refine ⟨⟨a6, c6, rv_kept hb hg (fun r e => (hr r e).2), ho.kept hg ?_⟩, hg.os.trans hk.os, hg.tape.trans hk.tape, hg.output.trans hk.output, Nat.le_trans hk.size hg.size, fun i hi hd => (hg.block i (Nat.lt_of_lt_of_le hi hk.size) (fun e => by have := (hr i e.symm).1; omega)).trans (hk.block i hi hd)⟩
  · cases hv : (Value.slice a6 pre.length c6).ownBlock with
    | none => exact .inl rfl
    | some q => exact .inr (fun e => by
        obtain ⟨o, ho2, hc⟩ := (hr q e.symm).2
        rcases ho.2 with ⟨e1, _⟩ | ⟨g, cap, cur, e1, _, hgb, _⟩
        · rw [e1] at hv; cases hv
        · rw [e1] at hv
          simp only [Value.ownBlock, Option.some.injEq] at hv
          subst hv
          rw [hgb] at ho2; cases ho2; cases hc)
theorem own_cells {w : World} {base sz n j : Nat} {e : TypeId} {v : Value} {xs : List Value} {o : Obj} (hown : w.ownsRow base e sz v n xs) (hj : v.ownBlock = some j) (ho : w.heap[j]? = some o) : o.isCells = true := by
  rcases hown.2 with ⟨rfl, _⟩ | ⟨g, cap, cur, rfl, _, hgb, _⟩
  · simp [Value.ownBlock] at hj
  · simp only [Value.ownBlock, Option.some.injEq] at hj
    subst hj
    rw [hgb] at ho; cases ho; rfl
theorem keep_stb {b : Nat} {w w2 : World} (h : Keep b (b + 1) w w2) (j : Nat) (v : Value) : Keep b (b + 1) w (w2.setCell ⟨b, j, none⟩ v) := by
  have h1 : Below b w2 (w2.setCell ⟨b, j, none⟩ v) := Below.setCell (Below.refl b w2) (Nat.le_refl _) v
  refine h.trans ⟨h1.os, h1.tape, h1.output, h1.size, fun i _ ho => ?_⟩
  exact heap_setCell_other _ _ _ _ (by dsimp only; omega)
set_option maxRecDepth 100000 in
set_option maxHeartbeats 4000000 in
theorem c_iReverse (D A B : Int) (vg : Value) (lo hi : Nat) (gs : List GroundT) (w : World) (h : Grounds w lo hi vg gs) (hh : hi ≤ w.heap.size) :
    Calls Try.prog 9 #[.agg #[.int .i64 D, .int .i64 A, .int .i64 B, vg]] w fun e w' => ∃ r, e = .returned (.tuple #[r, .bool (sightOk D A B gs)]) ∧ OwnSight w' w.heap.size w'.heap.size r (rvV D A B gs) ∧ Ext w w' := by
  obtain ⟨g0, hg0, hgz0, hgz1, hgz2⟩ := info_parts Try.info_ground
  have hr := h
  obtain ⟨a, cap, rfl, m1, m2, _⟩ := hr
  obtain ⟨V, hV⟩ : ∃ V, V = rvV D A B gs := ⟨_, rfl⟩
  obtain ⟨q, hq⟩ : ∃ q, q = sightOk D A B gs := ⟨_, rfl⟩
  have C1 : Hid (∀ m W, Ext w W → CallsIn Fence.wide m Try.prog 37 #[.agg #[.int .i64 D, .int .i64 A, .int .i64 B, .slice a gs.length cap]] W fun e w' => e = .returned (.bool q) ∧ Ext W w') := fun m W hX => by rw [hq]; exact callsIn_wide.2 (c_IsSight D A B _ lo hi gs W (h.ext hX hh))
  rw [← hV, ← hq]
  unfold rvV at hV
  rw [← hq] at hV
  have HG := Lib.hid h
  obtain ⟨n, hn⟩ : ∃ n, n = gs.length := ⟨_, rfl⟩
  rw [← hn] at C1 HG m1 ⊢
  have HN := Lib.hid hn
  have HQ := Lib.hid hq
  clear h hn hq
  cases q
  · have HV : Hid (V = (0, 0, 0, [])) := hV
    clear hV
    refine (callsIn_wide (n := 5)).1 ?_
    refine callsIn_of_wp_marks Try.func9 rfl trivial ?_ rfl
    simp only [Try.ntmps9, List.size_toArray, List.length_cons, List.length_nil, Nat.reduceAdd, Nat.reduceSub, Array.replicate_succ, Array.replicate_zero, List.push_toArray, List.append_toArray, List.nil_append, List.cons_append]
    gi_wp2_with fail
    obtain ⟨W1, hW1⟩ : ∃ W, W = ((w.alloc (.cells #[.int .i64 D, .int .i64 A, .int .i64 B, .slice a n cap] 28)).alloc (.cells #[.int .i64 0, .int .i64 0, .int .i64 0, .slice none 0 0] 28)) := ⟨_, rfl⟩
    rw [← hW1]
    have X1 : Ext w W1 := by rw [hW1]; exact ((Ext.refl w).al _).al _
    have B1 : W1.heap[w.heap.size]? = some (.cells #[.int .i64 D, .int .i64 A, .int .i64 B, .slice a n cap] 28) := by rw [hW1]; exact blk_old (blk_alloc _ _)
    have B2 : W1.heap[w.heap.size + 1]? = some (.cells #[.int .i64 0, .int .i64 0, .int .i64 0, .slice none 0 0] 28) := by rw [hW1]; exact blk_alloc2 _ _ _
    have hs1 : W1.heap.size = w.heap.size + 2 := by rw [hW1, size_alloc, size_alloc]
    clear hW1
    refine ⟨trivial, ?_⟩
    refine ((C1).out _ _ X1).mono ?_
    rintro e wN ⟨rfl, hxN⟩
    have XX := X1.trans hxN
    have HB1 := Lib.hid (hxN.blk B1)
    have HB2 := Lib.hid (hxN.blk B2)
    have hsN := hxN.size
    have k0 := blk_cell HB1.out (j := 0) (v := .int .i64 D) rfl
    have k1 := blk_cell HB1.out (j := 1) (v := .int .i64 A) rfl
    have k2 := blk_cell HB1.out (j := 2) (v := .int .i64 B) rfl
    have k3 := blk_cell HB1.out (j := 3) (v := .slice a n cap) rfl
    have n0 := blk_cell HB2.out (j := 0) (v := .int .i64 0) rfl
    have n1 := blk_cell HB2.out (j := 1) (v := .int .i64 0) rfl
    have n2 := blk_cell HB2.out (j := 2) (v := .int .i64 0) rfl
    have n3 := blk_cell HB2.out (j := 3) (v := .slice none 0 0) rfl
    have r0 := blk_free HB2.out 0
    have r1 := blk_free HB2.out 1
    have r2 := blk_free HB2.out 2
    have r3 := blk_free HB2.out 3
    clear hxN B1 B2 X1
    gi_wp2
    refine ⟨.tuple #[.agg #[.int .i64 0, .int .i64 0, .int .i64 0, .slice none 0 0], .bool false], by simp [results, Try.results9, go_sem, n0, n1, n2, n3], ⟨_, rfl, ?_, ((((XX.st (p := ⟨w.heap.size + 1, 0, none⟩) (by dsimp only; omega) _).st (p := ⟨w.heap.size + 1, 1, none⟩) (by dsimp only; omega) _).st (p := ⟨w.heap.size + 1, 2, none⟩) (by dsimp only; omega) _).st (p := ⟨w.heap.size + 1, 3, none⟩) (by dsimp only; omega) _)⟩⟩
    rw [HV.out]
    exact ⟨_, _, rfl, World.ownsRow_nil _ _ _ _, fun q hq => by simp [Value.ownBlock] at hq⟩
  · have HV : Hid (V = (D, B, A, rvG D gs)) := hV
    obtain ⟨hD, hGs, h20, _⟩ := ok_of_sight (n := 0) HQ.out.symm rfl
    obtain ⟨d0, d1, _⟩ := hD
    have HGS := Lib.hid hGs
    have h20n : n ≤ 20 := by rw [HN.out]; exact h20
    clear hV hGs h20
    refine (callsIn_wide (n := 5)).1 ?_
    refine callsIn_of_wp_marks Try.func9 rfl trivial ?_ rfl
    simp only [Try.ntmps9, List.size_toArray, List.length_cons, List.length_nil, Nat.reduceAdd, Nat.reduceSub, Array.replicate_succ, Array.replicate_zero, List.push_toArray, List.append_toArray, List.nil_append, List.cons_append]
    gi_wp2_with fail
    obtain ⟨W1, hW1⟩ : ∃ W, W = ((w.alloc (.cells #[.int .i64 D, .int .i64 A, .int .i64 B, .slice a n cap] 28)).alloc (.cells #[.int .i64 0, .int .i64 0, .int .i64 0, .slice none 0 0] 28)) := ⟨_, rfl⟩
    rw [← hW1]
    have X1 : Ext w W1 := by rw [hW1]; exact ((Ext.refl w).al _).al _
    have B1 : W1.heap[w.heap.size]? = some (.cells #[.int .i64 D, .int .i64 A, .int .i64 B, .slice a n cap] 28) := by rw [hW1]; exact blk_old (blk_alloc _ _)
    have B2 : W1.heap[w.heap.size + 1]? = some (.cells #[.int .i64 0, .int .i64 0, .int .i64 0, .slice none 0 0] 28) := by rw [hW1]; exact blk_alloc2 _ _ _
    have hs1 : W1.heap.size = w.heap.size + 2 := by rw [hW1, size_alloc, size_alloc]
    clear hW1
    refine ⟨trivial, ?_⟩
    refine ((C1).out _ _ X1).mono ?_
    rintro e wN ⟨rfl, hxN⟩
    have XX := X1.trans hxN
    have HB1 := Lib.hid (hxN.blk B1)
    have HB2 := Lib.hid (hxN.blk B2)
    have hsN := hxN.size
    have k0 := blk_cell HB1.out (j := 0) (v := .int .i64 D) rfl
    have k1 := blk_cell HB1.out (j := 1) (v := .int .i64 A) rfl
    have k2 := blk_cell HB1.out (j := 2) (v := .int .i64 B) rfl
    have k3 := blk_cell HB1.out (j := 3) (v := .slice a n cap) rfl
    have n0 := blk_cell HB2.out (j := 0) (v := .int .i64 0) rfl
    have n1 := blk_cell HB2.out (j := 1) (v := .int .i64 0) rfl
    have n2 := blk_cell HB2.out (j := 2) (v := .int .i64 0) rfl
    have n3 := blk_cell HB2.out (j := 3) (v := .slice none 0 0) rfl
    have r0 := blk_free HB2.out 0
    have r1 := blk_free HB2.out 1
    have r2 := blk_free HB2.out 2
    have r3 := blk_free HB2.out 3
    clear hxN B1 B2 X1
    obtain ⟨bo, hbo⟩ : ∃ b, b = wN.heap.size := ⟨_, rfl⟩
    have hbo2 : w.heap.size + 2 ≤ bo := by omega
    have k3b := (Ext.alloc wN (.cells #[.int .i64 D, .int .i64 B, .int .i64 A, .slice none 0 0] 28)).cell k3
    gi_wp2_with fail
    refine ⟨trivial, ?_⟩
    refine (callsIn_wide.2 (c_Backward a n cap _)).mono ?_
    rintro e w4 ⟨rfl, rfl⟩
    gi_wp2_with fail
    rw [← hbo]
    obtain ⟨W0, hW0⟩ : ∃ W, W = (wN.alloc (.cells #[.int .i64 D, .int .i64 B, .int .i64 A, .slice none 0 0] 28)).alloc (.cells #[.slice a n cap] 26) := ⟨_, rfl⟩
    rw [← hW0]
    have XN0 : Ext wN W0 := by rw [hW0]; exact ((Ext.refl _).al _).al _
    have hs0 : W0.heap.size = bo + 2 := by rw [hW0, hbo, size_alloc, size_alloc]
    have hB0 : W0.heap[bo]? = some (.cells #[.int .i64 D, .int .i64 B, .int .i64 A, .slice none 0 0] 28) := by rw [hW0, hbo]; exact blk_old (blk_alloc _ _)
    have hS0 : W0.cell? ⟨bo + 1, 0, none⟩ = some (.slice a n cap) := by rw [hW0, hbo]; exact blk_cell (blk_alloc2 _ _ _) (j := 0) rfl
    have HAR := Lib.hid (XN0.blk HB1.out)
    have HRES := Lib.hid (XN0.blk HB2.out)
    have HX0 := Lib.hid (XX.trans XN0)
    have hcs : ∀ j g, gs[j]? = some g → ∃ b off, a = some ⟨b, off, none⟩ ∧ b < W0.heap.size ∧ b ≠ bo ∧ W0.cell? ⟨b, off + j * 2, none⟩ = some (.int .i64 g.1) ∧ W0.cell? ⟨b, off + j * 2 + 1, none⟩ = some (.int .i64 g.2) := fun j g hg => by
      have hjn : j < n := by rw [HN.out]; exact (List.getElem?_eq_some_iff.1 hg).1
      obtain ⟨a', c', e', m1', m2', b, off, hb, hcell⟩ := HG.out
      simp only [Value.slice.injEq] at e'
      obtain ⟨rfl, e2, rfl⟩ := e'
      obtain ⟨q1, q2, q3⟩ := hb (by omega)
      have c0 := hcell j g 0 _ hg rfl
      have c1 := hcell j g 1 _ hg rfl
      exact ⟨b, off, q1, by omega, by omega, HX0.out.cell c0, HX0.out.cell c1⟩
    have hNb : wN.heap.size ≤ bo := by omega
    have HBO := Lib.hid hbo
    clear hbo hW0 k0 k1 k2 k3 k3b n0 n1 n2 n3 r0 r1 r2 r3
    refine wpIn_rangeFunc_ownH rfl (by omega) (gf := 65) (lb := #[.pointer (some ⟨bo + 1, 0, none⟩)]) rfl trivial (enters_of Try.func65 (by kernel_rfl) rfl)
      (back_stops Fence.wide 4 trivial rfl (by omega) (bo + 1) bo W0.heap.size a cap gs (by rw [← HN.out]; omega) W0 (Nat.le_refl _) (by rw [← HN.out]; exact hS0) (by omega) (by omega) hcs)
      (fun h1 h2 => h1.trans h2) (KB.b (Nat.le_refl _)) (Below.refl _ _) (fun _ => rfl)
      (fun pre W => (∃ a6 c6, W.heap[bo]? = some (.cells #[.int .i64 D, .int .i64 B, .int .i64 A, .slice a6 pre.length c6] 28) ∧ W.ownsRow W0.heap.size 61 2 (.slice a6 pre.length c6) pre.length ((pre.map (rvW D)).flatMap encGround)) ∧ Keep bo (bo + 1) W0 W)
      (fun _ _ _ => False)
      (rv_ownFrom _ _ _ _ hs0)
      (fun _ _ _ _ _ hs _ _ => hs)
      ⟨⟨none, 0, hB0, World.ownsRow_nil _ _ _ _⟩, Keep.refl _ _ _⟩
      (fun x a' W => ∃ Bx, W0.heap.size ≤ Bx ∧ W.heap[Bx]? = some (.cells #[.int .i64 x.2.1, .int .i64 x.2.2] 61) ∧ a' = { tmps := #[.agg #[.int .i64 D, .int .i64 A, .int .i64 B, .slice a n cap], .pointer (some ⟨w.heap.size, 0, none⟩), .pointer (some ⟨w.heap.size + 1, 0, none⟩), .bool false, .pointer (some ⟨bo, 0, none⟩), undef, .pointer (some ⟨Bx, 0, none⟩),
        .agg #[.int .i64 D, .int .i64 A, .int .i64 B, .slice a n cap], .bool true, .bool false, undef, .pointer (some ⟨w.heap.size, 0, none⟩), .int .i64 D, .pointer (some ⟨w.heap.size, 2, none⟩), .int .i64 B, .pointer (some ⟨w.heap.size, 1, none⟩), .int .i64 A,
        .agg #[.int .i64 D, .int .i64 B, .int .i64 A, .slice none 0 0], .pointer (some ⟨w.heap.size, 3, none⟩), .slice a n cap, .func (.func 65) #[] #[.pointer (some ⟨bo + 1, 0, none⟩)], .int .i64 x.1, .agg #[.int .i64 x.2.1, .int .i64 x.2.2], undef, undef, undef, undef, undef, undef, undef, undef, undef, undef, undef, undef, undef, undef], defers := [] })
      (fun x a' _ X Y row hs hg hr => by
        obtain ⟨Bx, h1, h2, h3⟩ := hs
        exact ⟨Bx, h1, rv_kept h2 hg (fun r e => (hr r e).2), h3⟩)
      ?assign ?body ?done ?stop
    case assign =>
      rintro l pre x W K ⟨⟨a6, c6, hb6, ho6⟩, hk6⟩ hK
      gi_wp2
      exact hK _ _ ((KeepsOthers.alloc _ _).from _) (KB.of_below ((Below.refl _ W).alloc hk6.size _)) ⟨⟨a6, c6, blk_old hb6, ho6.alloc _⟩, hk6.trans (Keep.of_ext (Ext.alloc _ _))⟩ ⟨W.heap.size, hk6.size, blk_alloc _ _, rfl⟩
    case body =>
      rintro l pre x a' W hl ⟨r, hr⟩ ⟨⟨a6, c6, hb6, ho6⟩, hk6⟩ ⟨Bx, hBx, bX, rfl⟩ hlt
      have hl20 : pre.length ≤ 20 := by have := HN.out; omega
      have e3 := blk_cell hb6 (j := 3) (v := .slice a6 pre.length c6) rfl
      have x0 := blk_cell bX (j := 0) (v := .int .i64 x.2.1) rfl
      have x1 := blk_cell bX (j := 1) (v := .int .i64 x.2.2) rfl
      have y0 := blk_cell (hk6.blk HAR.out (Or.inl (by omega))) (j := 0) (v := .int .i64 D) rfl
      have hsz := hk6.size
      have HO6 := Lib.hid ho6
      have HK6 := Lib.hid hk6
      have hbW : bo < W.heap.size := (Array.getElem?_eq_some_iff.1 hb6).1
      clear ho6 hk6 hr
      gi_wp2_with (gi_at_builtin; refine wpListIn_append_own _ rfl _ _ 26 rfl W0.heap.size 61 g0 (.agg #[.int .i64 0, .int .i64 0]) 2 16 Try.underlying26 hg0 hgz0 hgz1 hgz2 rfl (by decide) _ _ _ rfl (HO6.out.alloc _) ⟨W.heap.size, 0, none⟩ 1 1 [.int .i64 (wrap64 (D - x.2.1)), .int .i64 x.2.2] rfl rfl (fun j u hj => new_cells2 W _ _ _ j u hj) (by intro u hu; simp at hu; rcases hu with rfl | rfl <;> rfl) (by unfold maxLen; omega) (by omega) (by simp; omega) ?_; intro v6 w6 hown6 hgrow6 _; obtain ⟨a8, c8, rfl, _, _, _⟩ := own_form hown6; have hb8 := grown_old hgrow6 (blk_old hb6) (fun e => by have := (HO6.out.lt _ e).1; omega); have e61 := blk_cell hb8 (j := 3) (v := .slice a6 pre.length c6) rfl; have f61 := blk_free hb8 3)
      have hU1 : (pre ++ [x]).length = pre.length + 1 := by simp
      have hkf : KeepsOthers W (w6.setCell ⟨bo, 3, none⟩ (.slice a8 (pre.length + 1) c8)) := ((KeepsOthers.alloc _ _).trans (KeepsOthers.of_grownBy hgrow6 (fun j o e ho => own_cells (HO6.out.alloc _) e ho))).trans (KeepsOthers.setCell _ _ _)
      have hkk := keep_stb (keep_grown HK6.out hgrow6 (fun q hq => (HO6.out.lt q hq).1)) 3 (.slice a8 (pre.length + 1) c8)
      refine ⟨hkf.from _, fun k hk hne => ?_, ⟨a8, c8, ?_, ?_⟩, hkk⟩
      · rw [heap_setCell_other _ _ _ _ (by exact hne), hgrow6.block k (by simp; omega) (fun e => by have := (HO6.out.lt k e.symm).1; omega)]
        exact (Ext.alloc W _).block k (by omega)
      · rw [hU1, heap_setCell_same _ _ _ _ _ _ hb8]; rfl
      · rw [hU1, List.map_append, List.flatMap_append]
        exact ownsRow_setCell_below (by simpa [rvW, encGround] using hown6) (by dsimp only; omega) _
    case done =>
      rintro D' ys W hD rfl ⟨⟨a6, c6, hb6, ho6⟩, hk6⟩ hK
      have hbl : (bk gs gs.length).length = n := by rw [bk_len, ← HN.out]
      have hmap : (bk gs gs.length).map (rvW D) = rvG D gs := rv_bk HGS.out d0 d1
      rw [hbl] at hb6 ho6
      rw [hmap] at ho6
      have hr1 := hk6.blk HRES.out (Or.inl (by omega))
      have t0 := blk_cell hr1 (j := 0) (v := .int .i64 0) rfl
      have t1 := blk_cell hr1 (j := 1) (v := .int .i64 0) rfl
      have t2 := blk_cell hr1 (j := 2) (v := .int .i64 0) rfl
      have t3 := blk_cell hr1 (j := 3) (v := .slice none 0 0) rfl
      have f0 := blk_free hr1 0
      have f1 := blk_free hr1 1
      have f2 := blk_free hr1 2
      have f3 := blk_free hr1 3
      have b0 := blk_cell hb6 (j := 0) (v := .int .i64 D) rfl
      have b1 := blk_cell hb6 (j := 1) (v := .int .i64 B) rfl
      have b2 := blk_cell hb6 (j := 2) (v := .int .i64 A) rfl
      have b3 := blk_cell hb6 (j := 3) (v := .slice a6 n c6) rfl
      have HO6 := Lib.hid ho6
      have XW := Lib.hid (HX0.out.keep hk6 (by omega))
      have hlV : (rvG D gs).length = n := by rw [rvG_len, ← HN.out]
      have HLV := Lib.hid hlV
      clear ho6 hk6 hbl hmap hlV
      gi_wp2
      obtain ⟨w9, hw9⟩ : ∃ W', W' = ((((W.setCell ⟨w.heap.size + 1, 0, none⟩ (.int .i64 D)).setCell ⟨w.heap.size + 1, 1, none⟩ (.int .i64 B)).setCell ⟨w.heap.size + 1, 2, none⟩ (.int .i64 A)).setCell ⟨w.heap.size + 1, 3, none⟩ (.slice a6 n c6)) := ⟨_, rfl⟩
      rw [← hw9]
      have g1 : (W.setCell ⟨w.heap.size + 1, 0, none⟩ (.int .i64 D)).heap[w.heap.size + 1]? = some (.cells #[.int .i64 D, .int .i64 0, .int .i64 0, .slice none 0 0] 28) := by rw [heap_setCell_same _ _ _ _ _ _ hr1]; rfl
      have g2 : ((W.setCell ⟨w.heap.size + 1, 0, none⟩ (.int .i64 D)).setCell ⟨w.heap.size + 1, 1, none⟩ (.int .i64 B)).heap[w.heap.size + 1]? = some (.cells #[.int .i64 D, .int .i64 B, .int .i64 0, .slice none 0 0] 28) := by rw [heap_setCell_same _ _ _ _ _ _ g1]; rfl
      have g3 : (((W.setCell ⟨w.heap.size + 1, 0, none⟩ (.int .i64 D)).setCell ⟨w.heap.size + 1, 1, none⟩ (.int .i64 B)).setCell ⟨w.heap.size + 1, 2, none⟩ (.int .i64 A)).heap[w.heap.size + 1]? = some (.cells #[.int .i64 D, .int .i64 B, .int .i64 A, .slice none 0 0] 28) := by rw [heap_setCell_same _ _ _ _ _ _ g2]; rfl
      have g4 : w9.heap[w.heap.size + 1]? = some (.cells #[.int .i64 D, .int .i64 B, .int .i64 A, .slice a6 n c6] 28) := by rw [hw9, heap_setCell_same _ _ _ _ _ _ g3]; rfl
      have X9 : Ext w w9 := by rw [hw9]; exact (((XW.out.st (by dsimp only; omega) _).st (by dsimp only; omega) _).st (by dsimp only; omega) _).st (by dsimp only; omega) _
      have HO9 : w9.ownsRow W0.heap.size 61 2 (.slice a6 n c6) n ((rvG D gs).flatMap encGround) := by
        rw [hw9]
        exact ownsRow_setCell_below (ownsRow_setCell_below (ownsRow_setCell_below (ownsRow_setCell_below HO6.out (by dsimp only; omega) _) (by dsimp only; omega) _) (by dsimp only; omega) _) (by dsimp only; omega) _
      have hK9 : w9.heap[D']? = some (.deferred (some [])) := by
        rw [hw9, heap_setCell_other _ _ _ _ (by dsimp only; omega), heap_setCell_other _ _ _ _ (by dsimp only; omega), heap_setCell_other _ _ _ _ (by dsimp only; omega), heap_setCell_other _ _ _ _ (by dsimp only; omega)]
        exact hK
      clear hw9 g1 g2 g3 hr1 hb6 t0 t1 t2 t3 f0 f1 f2 f3 b0 b1 b2 b3 hK
      have hgp := grownBy_putObj' w9 D' (.deferred none)
      have g5 : (w9.putObj D' (.deferred none)).heap[w.heap.size + 1]? = some (.cells #[.int .i64 D, .int .i64 B, .int .i64 A, .slice a6 n c6] 28) := grown_old hgp g4 (fun e => by cases e; omega)
      have k90 := blk_cell g5 (j := 0) (v := .int .i64 D) rfl
      have k91 := blk_cell g5 (j := 1) (v := .int .i64 B) rfl
      have k92 := blk_cell g5 (j := 2) (v := .int .i64 A) rfl
      have k93 := blk_cell g5 (j := 3) (v := .slice a6 n c6) rfl
      have X10 : Ext w (w9.putObj D' (.deferred none)) := X9.gr hgp (fun q hq => by cases hq; omega)
      have hw10 : (w9.putObj D' (.deferred none)).heap.size = w9.heap.size := by simp
      have HO10 : (w9.putObj D' (.deferred none)).ownsRow W0.heap.size 61 2 (.slice a6 n c6) n ((rvG D gs).flatMap encGround) := HO9.kept hgp (by
        cases hv : (Value.slice a6 n c6).ownBlock with
        | none => exact .inl rfl
        | some q => exact .inr (fun e => by
            cases e
            have := own_cells HO9 hv hK9
            cases this))
      refine ⟨by simp, .inl ⟨_, _, rfl, run_takeDeferred hK9, ?_⟩⟩
      refine ⟨.tuple #[.agg #[.int .i64 D, .int .i64 B, .int .i64 A, .slice a6 n c6], .bool true], by simp [results, Try.results9, go_sem, k90, k91, k92, k93], ⟨_, rfl, ?_, X10⟩⟩
      rw [HV.out]
      refine ⟨a6, c6, ?_, ?_, ?_⟩
      · show _ = Value.agg #[_, _, _, .slice a6 (rvG D gs).length c6]
        rw [HLV.out]
      · show World.ownsRow _ _ _ _ (.slice a6 (rvG D gs).length c6) (rvG D gs).length _
        rw [HLV.out]
        exact own_mono HO10 (by omega)
      · show ∀ k, (Value.slice a6 (rvG D gs).length c6).ownBlock = some k → _
        rw [HLV.out]
        exact fun q hq => (HO10.lt q hq).2
    case stop =>
      rintro D c pre W _ _ h _
      exact h.elim
end Go.Proofs.Ytnoagmjajhlmjaa
