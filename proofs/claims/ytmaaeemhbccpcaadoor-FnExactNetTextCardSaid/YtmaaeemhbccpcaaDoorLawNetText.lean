
/- FnExactNetText: for all arguments the call returns true, where the library's table of the powers of ten holds what its text lays ('laid'). -/
import Derived.Test.YtmaaeemhbccpcaaDoorTextN
import Derived.Test.YtmaaeemhbccpcaaDoorArgNet
import Derived.Test.YtmaaeemhbccpcaaDoorCards
import Derived.Test.YtmaaeemhbccpcaaDoorTie
import Derived.Deep.DeepHandedRow
import Derived.Lib.LaidTab
namespace Go.Proofs.YtmaaeemhbccpcaaDoor
open Go.ChangeShapes Go.WideShapes Go.ChangeAt Go.RowKit
open Go.ChangeMaps (open_string shut_string)
set_option linter.unusedVariables false
set_option linter.unusedSimpArgs false
set_option maxRecDepth 100000 in
set_option maxHeartbeats 4000000 in
theorem law_NetText (v0 : Value) (x0 : NetT) (w : World) (h0 : ArgNet w v0 x0) (ht : Tab10 w) :
    Calls Tryd.prog 3 #[v0] w fun e w' => e = .returned (.bool true) ∧ Ext w w' := by
  obtain ⟨hG0, _⟩ := h0
  obtain ⟨a0, cap0, a0e, cap0e, rfl, ⟨m0, m0b⟩, m0c, m0d⟩ := hG0.form
  have H0 := Lib.hid hG0
  clear hG0
  obtain ⟨r0, hr50⟩ : ∃ r, r = ((⟨(if netB x0 then txtL x0 else []).toArray⟩ : ByteArray)) := ⟨_, rfl⟩
  obtain ⟨r1, hr51⟩ : ∃ r, r = (netB x0) := ⟨_, rfl⟩
  have CS : Hid (∀ W v0 lo0 hi0, Nets W lo0 hi0 v0 x0 → hi0 ≤ W.heap.size → Calls Tryd.prog 6 #[v0] W fun e w' => e = .returned (.tuple #[.string r0, .bool r1]) ∧ Ext W w') :=
    fun W v0 lo0 hi0 hr0 hh0 => by rw [hr50, hr51]; exact c_sNetText v0 lo0 hi0 x0 W hr0 hh0
  have CI : Hid (∀ W v0 lo0 hi0, Ext w W → Nets W lo0 hi0 v0 x0 → hi0 ≤ W.heap.size → Calls Tryd.prog 8 #[v0] W fun e w' => e = .returned (.tuple #[.string r0, .bool r1]) ∧ Ext W w') :=
    fun W v0 lo0 hi0 hX hr0 hh0 => by rw [hr50, hr51]; exact c_iNetText v0 lo0 hi0 x0 W hr0 hh0 (ht.ext hX)
  clear hr50 hr51
  obtain ⟨N0, hN0⟩ : ∃ N : Int, N = ((x0.1.length + x0.2.length : Nat) : Int) := ⟨_, rfl⟩
  have hN00 : 0 ≤ N0 := by omega
  by_cases hsz0 : N0 ≤ 1048576
  · have CZ0 : Hid (∀ W, Ext w W → Calls Tryd.prog 5 #[.agg #[.slice a0 x0.1.length cap0, .slice a0e x0.2.length cap0e], .int .i64 (1048576)] W fun e w' => e = .returned (.int .i64 (1048576 - N0)) ∧ Ext W w') := fun W hX => by
      have e := c_szNet _ _ _ x0 (1048576) W (H0.out.ext hX (Nat.le_refl _)) (by omega) (by omega)
      rw [← hN0, szL_pos hsz0] at e
      exact e
    have hz0 : x0.1.length + x0.2.length ≤ 1048576 := by omega
    have hsn0 : ¬ (1048576 - N0 < 0) := by omega
    have HN0 := Lib.hid hN0
    clear hN0
    have CT0 : Hid (∀ W, Ext w W → Calls Tryd.prog 7 #[.agg #[.slice a0 x0.1.length cap0, .slice a0e x0.2.length cap0e]] W fun e w' => ∃ v, e = .returned v ∧ OwnNet w' W.heap.size w'.heap.size v x0 ∧ Ext W w') :=
      fun W hX => c_toNet _ 0 w.heap.size x0 W (H0.out.ext hX (Nat.le_refl _)) hX.size hz0
    go_enter Tryd.func3, Tryd.ntmps3
    have X := Lib.hid (Ext.refl w)
    go_wp2_with fail
    obtain ⟨W1, hW⟩ : ∃ W, W = w.alloc (.cells #[.slice a0 x0.1.length cap0, .slice a0e x0.2.length cap0e] 25) := ⟨_, rfl⟩
    rw [← hW]
    have Y : Ext w W1 := by rw [hW]; exact Ext.alloc _ _
    have hB : W1.heap[w.heap.size]? = some (.cells #[.slice a0 x0.1.length cap0, .slice a0e x0.2.length cap0e] 25) := by rw [hW]; exact blk_alloc _ _
    clear hW
    have sbA0 := (Array.getElem?_eq_some_iff.1 hB).1
    have s1 := Y.size
    have T__ := Lib.hid (X.out.trans Y)
    clear X
    have X := T__
    clear T__
    have BA0 := Lib.hid hB
    clear hB Y
    refine (CZ0.out W1 X.out).mono ?_
    rintro e W2 ⟨rfl, Y⟩
    have s2 := Y.size
    have T__ := Lib.hid (X.out.trans Y)
    clear X
    have X := T__
    clear T__
    have T__ := Lib.hid (Y.blk BA0.out)
    clear BA0
    have BA0 := T__
    clear T__
    clear Y
    have kA00 := blk_cell BA0.out (j := 0) rfl
    have kA01 := blk_cell BA0.out (j := 1) rfl
    go_wp2_with fail
    refine (CT0.out W2 X.out).mono ?_
    rintro e W3 ⟨p0, rfl, hp0, Y⟩
    have s3 := Y.size
    clear kA00 kA01
    have T__ := Lib.hid (X.out.trans Y)
    clear X
    have X := T__
    clear T__
    have T__ := Lib.hid (Y.blk BA0.out)
    clear BA0
    have BA0 := T__
    clear T__
    have Op0 := Lib.hid hp0
    obtain ⟨adp0, cdp0, adp0e, cdp0e, rfl, ⟨_, _⟩, _, _⟩ := (Op0.out.form)
    clear hp0 Y
    have kA00 := blk_cell BA0.out (j := 0) rfl
    have kA01 := blk_cell BA0.out (j := 1) rfl
    go_wp2_with fail
    refine (CS.out W3 _ _ _ (Op0.out.read) (by omega)).mono ?_
    rintro e W4 ⟨rfl, Y⟩
    have s4 := Y.size
    clear kA00 kA01
    have T__ := Lib.hid (X.out.trans Y)
    clear X
    have X := T__
    clear T__
    have T__ := Lib.hid (Y.blk BA0.out)
    clear BA0
    have BA0 := T__
    clear T__
    have T__ := Lib.hid (Op0.out.ext Y)
    clear Op0
    have Op0 := T__
    clear T__
    clear Y
    clear Op0
    have kA00 := blk_cell BA0.out (j := 0) rfl
    have kA01 := blk_cell BA0.out (j := 1) rfl
    go_wp2_with fail
    refine (CT0.out W4 X.out).mono ?_
    rintro e W5 ⟨q0, rfl, hq0, Y⟩
    have s5 := Y.size
    clear kA00 kA01
    have T__ := Lib.hid (X.out.trans Y)
    clear X
    have X := T__
    clear T__
    have T__ := Lib.hid (Y.blk BA0.out)
    clear BA0
    have BA0 := T__
    clear T__
    have Oq0 := Lib.hid hq0
    obtain ⟨adq0, cdq0, adq0e, cdq0e, rfl, ⟨_, _⟩, _, _⟩ := (Oq0.out.form)
    clear hq0 Y
    have kA00 := blk_cell BA0.out (j := 0) rfl
    have kA01 := blk_cell BA0.out (j := 1) rfl
    have kA00n := (Ext.alloc (W5) (.cells #[.slice adq0 x0.1.length cdq0, .slice adq0e x0.2.length cdq0e] 32)).cell kA00
    have kA01n := (Ext.alloc (W5) (.cells #[.slice adq0 x0.1.length cdq0, .slice adq0e x0.2.length cdq0e] 32)).cell kA01
    go_wp2_with fail
    obtain ⟨W6, hW⟩ : ∃ W, W = W5.alloc (.cells #[.slice adq0 x0.1.length cdq0, .slice adq0e x0.2.length cdq0e] 32) := ⟨_, rfl⟩
    rw [← hW]
    have Y : Ext W5 W6 := by rw [hW]; exact Ext.alloc _ _
    have hB : W6.heap[W5.heap.size]? = some (.cells #[.slice adq0 x0.1.length cdq0, .slice adq0e x0.2.length cdq0e] 32) := by rw [hW]; exact blk_alloc _ _
    clear hW
    have sbQ0 := (Array.getElem?_eq_some_iff.1 hB).1
    have s6 := Y.size
    clear kA00 kA01 kA00n kA01n
    have T__ := Lib.hid (X.out.trans Y)
    clear X
    have X := T__
    clear T__
    have T__ := Lib.hid (Y.blk BA0.out)
    clear BA0
    have BA0 := T__
    clear T__
    have T__ := Lib.hid (Oq0.out.ext Y)
    clear Oq0
    have Oq0 := T__
    clear T__
    have BQ0 := Lib.hid hB
    clear hB Y
    refine (CI.out W6 _ _ _ X.out (Oq0.out.read) (by omega)).mono ?_
    rintro e W7 ⟨rfl, Y⟩
    have s7 := Y.size
    have T__ := Lib.hid (X.out.trans Y)
    clear X
    have X := T__
    clear T__
    have T__ := Lib.hid (Y.blk BA0.out)
    clear BA0
    have BA0 := T__
    clear T__
    have T__ := Lib.hid (Oq0.out.ext Y)
    clear Oq0
    have Oq0 := T__
    clear T__
    have T__ := Lib.hid (Y.blk BQ0.out)
    clear BQ0
    have BQ0 := T__
    clear T__
    clear Y
    have kA00 := blk_cell BA0.out (j := 0) rfl
    have kA01 := blk_cell BA0.out (j := 1) rfl
    have kQ00 := blk_cell BQ0.out (j := 0) rfl
    have kQ01 := blk_cell BQ0.out (j := 1) rfl
    go_wp2_with fail
    have TS : Hid (∀ W, Ext W7 W → Calls Tryd.prog 7 #[.agg #[.slice a0 x0.1.length cap0, .slice a0e x0.2.length cap0e]] W fun e w' => ∃ a3 c3 a3e c3e, e = .returned (.agg #[.slice a3 x0.1.length c3, .slice a3e x0.2.length c3e]) ∧ Nets w' W.heap.size w'.heap.size (.agg #[.slice a3 x0.1.length c3, .slice a3e x0.2.length c3e]) x0 ∧ Ext W7 w') := fun W hX =>
      (CT0.out W (X.out.trans hX)).mono fun e w' ⟨v, he, ho, hx⟩ => by
        obtain ⟨a3, c3, a3e, c3e, rfl, _⟩ := ho.form
        exact ⟨a3, c3, a3e, c3e, he, ho.read, hX.trans hx⟩
    have ES : Hid (∀ W a3 c3 a3e c3e lo, Ext W7 W → Nets W lo W.heap.size (.agg #[.slice a3 x0.1.length c3, .slice a3e x0.2.length c3e]) x0 → Calls Tryd.prog 9 #[.agg #[.slice adq0 x0.1.length cdq0, .slice adq0e x0.2.length cdq0e], .agg #[.slice a3 x0.1.length c3, .slice a3e x0.2.length c3e]] W fun e w' => e = .returned (.bool true) ∧ Ext W7 w') := fun W a3 c3 a3e c3e lo hX hg =>
      (c_eqNet _ _ _ _ _ _ x0 x0 W (Oq0.out.ext hX).read hg (by have := hX.size; omega) (Nat.le_refl _)).mono fun e w' ⟨he, hx⟩ => ⟨by rw [he, decide_eq_true rfl], hX.trans hx⟩
    go_region_held3 (fun w' => Ext W7 w' ∧ w'.cell? ⟨w.heap.size, 0, none⟩ = some (.slice a0 x0.1.length cap0) ∧ w'.cell? ⟨w.heap.size, 1, none⟩ = some (.slice a0e x0.2.length cap0e) ∧ w'.cell? ⟨W5.heap.size, 0, none⟩ = some (.slice adq0 x0.1.length cdq0) ∧ w'.cell? ⟨W5.heap.size, 1, none⟩ = some (.slice adq0e x0.2.length cdq0e))
      (first | exact ⟨Ext.drew _, kA00, kA01, kQ00, kQ01⟩ | exact ⟨hxs, hxs.cell kA00, hxs.cell kA01, hxs.cell kQ00, hxs.cell kQ01⟩)
      (first | (go_at_call 7; refine (TS.out _ (Ext.drew _)).mono ?_; rintro e w3 ⟨a3, c3, a3e, c3e, rfl, hg3, hxs⟩) | (go_at_call 9; refine (ES.out _ _ _ _ _ _ hxs hg3).mono ?_; rintro e w3 ⟨rfl, hxs⟩))
    obtain ⟨W8, hW⟩ : ∃ W, W = w3 := ⟨_, rfl⟩
    subst hW
    have Y : Ext W7 W8 := hxs
    have s8 := Y.size
    clear kA00 kA01 kQ00 kQ01
    have T__ := Lib.hid (X.out.trans Y)
    clear X
    have X := T__
    clear T__
    have T__ := Lib.hid (Y.blk BA0.out)
    clear BA0
    have BA0 := T__
    clear T__
    have T__ := Lib.hid (Oq0.out.ext Y)
    clear Oq0
    have Oq0 := T__
    clear T__
    have T__ := Lib.hid (Y.blk BQ0.out)
    clear BQ0
    have BQ0 := T__
    clear T__
    clear Y hxs TS ES
    go_wp2
    go_ret
    exact ⟨rfl, X.out⟩
  · have CZ0 : Hid (∀ W, Ext w W → Calls Tryd.prog 5 #[.agg #[.slice a0 x0.1.length cap0, .slice a0e x0.2.length cap0e], .int .i64 (1048576)] W fun e w' => e = .returned (.int .i64 (-1)) ∧ Ext W w') := fun W hX => by
      have e := c_szNet _ _ _ x0 (1048576) W (H0.out.ext hX (Nat.le_refl _)) (by omega) (by omega)
      rw [← hN0, szL_neg (by omega)] at e
      exact e
    have HN0 := Lib.hid hN0
    clear hN0
    go_enter Tryd.func3, Tryd.ntmps3
    have X := Lib.hid (Ext.refl w)
    have s0 := Nat.le_refl w.heap.size
    go_wp2_with fail
    obtain ⟨W1, hW⟩ : ∃ W, W = w.alloc (.cells #[.slice a0 x0.1.length cap0, .slice a0e x0.2.length cap0e] 25) := ⟨_, rfl⟩
    rw [← hW]
    have Y : Ext w W1 := by rw [hW]; exact Ext.alloc _ _
    have hB : W1.heap[w.heap.size]? = some (.cells #[.slice a0 x0.1.length cap0, .slice a0e x0.2.length cap0e] 25) := by rw [hW]; exact blk_alloc _ _
    clear hW
    have sbA0 := (Array.getElem?_eq_some_iff.1 hB).1
    have s1 := Y.size
    have T__ := Lib.hid (X.out.trans Y)
    clear X
    have X := T__
    clear T__
    have BA0 := Lib.hid hB
    clear hB Y
    refine (CZ0.out W1 X.out).mono ?_
    rintro e W2 ⟨rfl, Y⟩
    have s2 := Y.size
    have T__ := Lib.hid (X.out.trans Y)
    clear X
    have X := T__
    clear T__
    have T__ := Lib.hid (Y.blk BA0.out)
    clear BA0
    have BA0 := T__
    clear T__
    clear Y
    go_wp2
    go_ret
    exact ⟨rfl, X.out⟩
/-- What the row's list says of the third table. -/
theorem tab10_laid {W : World} (h : laidMetH Tryd.prog Rows.fnExactNetTextRow.laid W) : Tab10 W := by
  have h9 : laidMet Tryd.prog Rows.fnExactNetTextRow.laid W := h
  obtain ⟨ps, hv, _⟩ := h9
  obtain ⟨_, _, _, _, _, _, _, _, _, _, hv2, _⟩ := hv
  obtain ⟨_, _, _, _, _, _, _, _, _, _, hv3, _⟩ := hv2
  obtain ⟨g', t', cs, fuel, p, q, hg', ht', hvar, hd, _, _⟩ := hv3
  have e1 := Option.some.inj (gTab10.symm.trans hg')
  subst e1
  have e2 := Option.some.inj ((show (Tryd.prog.globals[1]?).map (·.type) = some 124 by kernel_rfl).symm.trans ht')
  subst e2
  have hd9 : DataW.trod (fun _ => ()) Tryd.prog W 0 (fun _ => true) false fuel 124 cs.toList = some (Lib.tabData .u64 Lib.pow10Tab, p) := hd
  show Lib.TabIs Tryd.prog W "internal/strconv.uint64pow10" .u64 Lib.pow10Tab
  unfold Lib.TabIs
  rw [hvar, ← Lib.cells_of_tab Tryd.underlying124 Tryd.underlying106 (by kernel_rfl) (by kernel_rfl) hd9]
/-- The cells of a table that is listed. -/
def litCells : DataW Unit → Array Value
  | .agg ds => (ds.filterMap fun
    | .lit (.int k z) => some (Value.int k z)
    | _ => none).toArray
  | _ => #[]
def tabPut (d : DataW Unit) : Obj → Obj
  | .cells _ t frozen => .cells (litCells d) t frozen
  | o => o
/-- A world for the witness: the settled one, the three tables as their initialisers lay them. -/
noncomputable def laidWorldNT (os : Os) : World :=
  { World.holding Tryd.prog os ⟨#[], #[], []⟩ with heap := (((World.holding Tryd.prog os ⟨#[], #[], []⟩).heap.modify 6 (tabPut Rows.laid_math_bits_deBruijn32tab)).modify 7 (tabPut Rows.laid_math_bits_deBruijn64tab)).modify 1 (tabPut Rows.laid_internal_strconv_uint64pow10) }
theorem laidMetNT (os : Os) : laidMet Tryd.prog Rows.fnExactNetTextRow.laid ((laidWorldNT os).forCall (fun _ _ => 0) ⟨#[], #[.agg #[.slice none 0 0, .slice none 0 0]], []⟩).memory :=
  laidMet_of_run' 8 (by kernel_rfl) (by kernel_rfl)
theorem readsNT (os : Os) {H : Type} (enc : TypeId × Value → H) : ∃ places, DataW.whole enc Tryd.prog ((laidWorldNT os).forCall (fun _ _ => 0) ⟨#[], #[.agg #[.slice none 0 0, .slice none 0 0]], []⟩).memory Tryd.f3.params.toList Rows.fnExactNetTextSpec.vars false #[Value.agg #[.slice none 0 0, .slice none 0 0]].toList 8 = some ([.agg [.nil, .nil]], [], places) :=
  ⟨[], by kernel_rfl⟩
set_option maxRecDepth 100000 in
theorem lifted_FnExactNetText (os : Os) (started : os.Started) (H : Type) (enc : TypeId × Value → H) (F : Stop.Interp) :
    ReturnsInHanded {} Tryd.checked os 3 .any ((OpenSpec.ofChange Rows.fnExactNetTextSpec).preRow enc Tryd.prog Tryd.f3 Rows.fnExactNetTextRow.domain false Rows.fnExactNetTextRow.laid) (((OpenSpec.ofChange Rows.fnExactNetTextSpec).at F).post enc Tryd.prog Tryd.f3 false true false false) := by
  obtain ⟨places, hx⟩ := readsNT os enc
  refine returnsInHanded_of_row (C := Tryd.checked) (s := OpenSpec.ofChange Rows.fnExactNetTextSpec) own_YtmaaeemhbccpcaaDoor started (by kernel_rfl) Tryd.func3
    (witness_row_at (enc := enc) (C := Tryd.checked) false (laidWorldNT os) #[.agg #[.slice none 0 0, .slice none 0 0]] rfl (by kernel_rfl) (by kernel_rfl) (by kernel_rfl)
      (OpenSpec.preRow_of_cond 8 hx (by kernel_rfl) (fun k hk => by cases hk) (by kernel_rfl) (laidMetNT os))) ?_
  intro W base args ds gs before hval0 hW _ _ _ hL _ _
  have hval : ∀ (j : Nat) t v, Tryd.f3.params[j]? = some t → args[j]? = some v → Value.okWide Tryd.prog W .any base t v := hval0
  have hW' := hW
  obtain ⟨p, q, hA0, hV, rfl, hfz, hnd⟩ := hW'
  have hA : DataW.TrodAll enc Tryd.prog W 0 (fun _ => true) true Tryd.f3.params.toList args.toList ds p := hA0
  rw [Tryd.params3] at hA hval
  obtain ⟨v0, vs0, d0, ds0, p0, q0, hargs, rfl, rfl, h0, r0⟩ := trodAll_cons hA
  obtain ⟨rfl, rfl, rfl⟩ := trodAll_nil r0
  obtain rfl : args = #[v0] := by cases args; simp_all
  obtain ⟨rfl, rfl⟩ := trodVars_none hV
  have k0 := h0
  have lt0 : ∀ x ∈ p0, x.block < W.heap.size := by obtain ⟨m, hm⟩ := k0; exact DataW.trod_lt m _ _ _ hm
  obtain ⟨x0, w0⟩ := arg_net (hval 0 25 v0 rfl rfl) h0
  clear hA0 hval0
  refine (law_NetText v0 x0 W w0 (tab10_laid hL)).mono fun e W' ⟨he, bel⟩ => ?_
  subst he
  have hp : Rows.fnExactNetTextSpec.post enc Tryd.prog Tryd.f3 false true false false W #[v0] (.bool true) W' :=
    ⟨_, _, _, [], _, [], hW, trodAll_mk1 (shut_bool Tryd.underlying4 _), (trodAll_cons_mk (Below.trod laidOut_YtmaaeemhbccpcaaDoor (by kernel_rfl) (of_decide_eq_true (by kernel_rfl)) k0 bel lt0) trodAll_mk0), rfl, bel.frame _, fun h => by cases h⟩
  exact ⟨_, rfl, hp⟩
theorem said_FnExactNetText : Rows.FnExactNetTextSaid :=
  OpenClaim.holds_of_cond 3 Tryd.f3 rfl rfl rfl rfl rfl rfl rfl ⟨rfl, rfl, rfl, rfl, rfl⟩ rfl rfl rfl rfl rfl (by kernel_rfl) Tryd.func3 (by kernel_rfl)
    (of_decide_eq_true (by kernel_rfl)) (by unfold Func.isWrapper; first | (rw [if_pos (by decide +kernel)]; kernel_rfl) | (rw [if_neg (by decide +kernel)]; exact ⟨rfl, rfl⟩))
    (fun os started H enc _ F => by rw [OpenClaim.pre_eq_preRow]; exact lifted_FnExactNetText os started H enc F)
theorem plainNT (f : FuncId) (fn : Func) (hf : Tryd.pinned.checked.prog.funcNamed "loop.example/g00940/laws.FnExactNetText" = some f) (hfn : Tryd.pinned.checked.prog.funcs[f]? = some fn) :
    true = Tryd.pinned.checked.prog.looks [] ∧ ∀ (j : Nat) t, fn.params[j]? = some t → Tryd.pinned.checked.prog.wantsStandIn t = false := by
  obtain rfl : f = 3 := Option.some.inj ((show Tryd.prog.funcNamed "loop.example/g00940/laws.FnExactNetText" = some 3 by kernel_rfl).symm.trans hf) |>.symm
  obtain rfl : fn = Tryd.f3 := (Option.some.inj (Tryd.func3.symm.trans hfn)).symm
  refine ⟨by kernel_rfl, fun j t ht => ?_⟩
  rw [Tryd.params3] at ht
  obtain rfl : t = 25 := by simpa using Array.mem_of_getElem? ht
  exact (show Tryd.prog.wantsStandIn 25 = false by kernel_rfl)
theorem holds_FnExactNetText : Rows.FnExactNetTextCardSaid :=
  Claim7.holds_tied_plain_at .later [] _ _ _ _ said_FnExactNetText (fun _ h => by cases h) (by kernel_rfl) (fun _ h => by cases h) fnExactNetText_row_tie rfl ⟨rfl, rfl⟩ (by kernel_rfl) rfl plainNT (by kernel_rfl)
end Go.Proofs.YtmaaeemhbccpcaaDoor
