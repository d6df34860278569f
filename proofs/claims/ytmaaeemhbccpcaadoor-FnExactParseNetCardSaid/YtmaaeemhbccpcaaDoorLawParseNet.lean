
/- FnExactParseNet: for all arguments the call returns true, where the library's tables and its two errors hold what its text lays ('laid'). -/
import Derived.Test.YtmaaeemhbccpcaaDoorPnS
import Derived.Test.YtmaaeemhbccpcaaDoorNetM
import Derived.Test.YtmaaeemhbccpcaaDoorArgNet
import Derived.Test.YtmaaeemhbccpcaaDoorCards
import Derived.Test.YtmaaeemhbccpcaaDoorTie
import Derived.Deep.DeepHandedRow
import Derived.Deep.DeepLaidRun
import Derived.Lib.LaidTab
import Derived.Stop.LaidErr
namespace Go.Proofs.YtmaaeemhbccpcaaDoor
open Go.ChangeShapes Go.WideShapes Go.ChangeAt Go.RowKit
open Go.ChangeMaps (open_string shut_string)
set_option linter.unusedVariables false
set_option linter.unusedSimpArgs false
set_option maxRecDepth 100000 in
set_option maxHeartbeats 4000000 in
theorem law_ParseNet (x0 : List UInt8) (w : World)  (ht : PnW w) :
    Calls Tryd.prog 4 #[.string ⟨x0.toArray⟩] w fun e w' => e = .returned (.bool true) ∧ Ext w w' := by
  obtain ⟨ys, hys⟩ : ∃ ys, ys = ((imOk x0).getD ([], [])) := ⟨_, rfl⟩
  obtain ⟨ok, hok⟩ : ∃ ok, ok = (imOk x0).isSome := ⟨_, rfl⟩
  have hyl0 : Hid (ys.1.length + ys.2.length ≤ 1048576) := by unfold Hid; rw [hys]; exact imOk_bound x0
  have CS : Hid (∀ W , x0.length ≤ 1048576 → Calls Tryd.prog 10 #[.string ⟨x0.toArray⟩] W fun e w' => ∃ r, e = .returned (.tuple #[r, .bool ok]) ∧ OwnNet w' W.heap.size w'.heap.size r ys ∧ Ext W w') :=
    fun W  hz0 => by rw [hys, hok]; exact c_sParse x0 W hz0
  have CI : Hid (∀ W , Ext w W → x0.length ≤ 1048576 → Calls Tryd.prog 11 #[.string ⟨x0.toArray⟩] W fun e w' => ∃ r, e = .returned (.tuple #[r, .bool ok]) ∧ OwnNet w' W.heap.size w'.heap.size r ys ∧ Ext W w') :=
    fun W  hX hz0 => by rw [hys, hok]; exact c_iParse x0 W hz0 (ht.ext hX)
  clear hys hok
  have hsz0 : (⟨x0.toArray⟩ : ByteArray).size = x0.length := by simp [ByteArray.size]
  by_cases hz0 : x0.length ≤ 1048576
  · have hb0 : ¬ (1048576 < (x0.length : Int)) := by omega
    have hyl := hyl0.out
    have hyI : (0 : Int) ≤ (ys.1.length : Int) := by omega
    have hyJ : (0 : Int) ≤ (ys.2.length : Int) := by omega
    have hyI2 : (ys.1.length : Int) + (ys.2.length : Int) ≤ 1048576 := by omega
    clear hyl0
    cases ok
    all_goals
      go_enter Tryd.func4, Tryd.ntmps4
      have X := Lib.hid (Ext.refl w)
      go_wp2_with fail
      refine (CS.out w  hz0).mono ?_
      rintro e W1 ⟨s, rfl, hs, Y⟩
      have s1 := Y.size
      have T__ := Lib.hid (X.out.trans Y)
      clear X
      have X := T__
      clear T__
      have Os := Lib.hid hs
      obtain ⟨ads, cds, adse, cdse, rfl, ⟨_, _⟩, _, _⟩ := (Os.out.form)
      clear hs Y
      go_wp2_with fail
      obtain ⟨W2, hW⟩ : ∃ W, W = W1.alloc (.cells #[.slice ads ys.1.length cds, .slice adse ys.2.length cdse] 32) := ⟨_, rfl⟩
      rw [← hW]
      have Y : Ext W1 W2 := by rw [hW]; exact Ext.alloc _ _
      have hB : W2.heap[W1.heap.size]? = some (.cells #[.slice ads ys.1.length cds, .slice adse ys.2.length cdse] 32) := by rw [hW]; exact blk_alloc _ _
      clear hW
      have sbS9 := (Array.getElem?_eq_some_iff.1 hB).1
      have s2 := Y.size
      have T__ := Lib.hid (X.out.trans Y)
      clear X
      have X := T__
      clear T__
      have T__ := Lib.hid (Os.out.ext Y)
      clear Os
      have Os := T__
      clear T__
      have BS9 := Lib.hid hB
      clear hB Y
      refine (CI.out W2  X.out hz0).mono ?_
      rintro e W3 ⟨g, rfl, hg, Y⟩
      have s3 := Y.size
      have T__ := Lib.hid (X.out.trans Y)
      clear X
      have X := T__
      clear T__
      have T__ := Lib.hid (Os.out.ext Y)
      clear Os
      have Os := T__
      clear T__
      have T__ := Lib.hid (Y.blk BS9.out)
      clear BS9
      have BS9 := T__
      clear T__
      have Og := Lib.hid hg
      obtain ⟨adg, cdg, adge, cdge, rfl, ⟨_, _⟩, _, _⟩ := (Og.out.form)
      clear hg Y
      have kS90 := blk_cell BS9.out (j := 0) rfl
      have kS91 := blk_cell BS9.out (j := 1) rfl
      have kS90n := (Ext.alloc (W3) (.cells #[.slice adg ys.1.length cdg, .slice adge ys.2.length cdge] 32)).cell kS90
      have kS91n := (Ext.alloc (W3) (.cells #[.slice adg ys.1.length cdg, .slice adge ys.2.length cdge] 32)).cell kS91
      go_wp2_with fail
      obtain ⟨W4, hW⟩ : ∃ W, W = W3.alloc (.cells #[.slice adg ys.1.length cdg, .slice adge ys.2.length cdge] 32) := ⟨_, rfl⟩
      rw [← hW]
      have Y : Ext W3 W4 := by rw [hW]; exact Ext.alloc _ _
      have hB : W4.heap[W3.heap.size]? = some (.cells #[.slice adg ys.1.length cdg, .slice adge ys.2.length cdge] 32) := by rw [hW]; exact blk_alloc _ _
      clear hW
      have sbG9 := (Array.getElem?_eq_some_iff.1 hB).1
      have s4 := Y.size
      clear kS90 kS91 kS90n kS91n
      have T__ := Lib.hid (X.out.trans Y)
      clear X
      have X := T__
      clear T__
      have T__ := Lib.hid (Os.out.ext Y)
      clear Os
      have Os := T__
      clear T__
      have T__ := Lib.hid (Y.blk BS9.out)
      clear BS9
      have BS9 := T__
      clear T__
      have T__ := Lib.hid (Og.out.ext Y)
      clear Og
      have Og := T__
      clear T__
      have BG9 := Lib.hid hB
      clear hB Y
      refine (c_eqNet _ _ _ _ _ _ ys ys W4 Og.out.read Os.out.read (by omega) (by omega)).mono ?_
      rw [decide_eq_true rfl]
      rintro e W5 ⟨rfl, Y⟩
      have s5 := Y.size
      have T__ := Lib.hid (X.out.trans Y)
      clear X
      have X := T__
      clear T__
      have T__ := Lib.hid (Os.out.ext Y)
      clear Os
      have Os := T__
      clear T__
      have T__ := Lib.hid (Y.blk BS9.out)
      clear BS9
      have BS9 := T__
      clear T__
      have T__ := Lib.hid (Og.out.ext Y)
      clear Og
      have Og := T__
      clear T__
      have T__ := Lib.hid (Y.blk BG9.out)
      clear BG9
      have BG9 := T__
      clear T__
      clear Y
      have kS90 := blk_cell BS9.out (j := 0) rfl
      have kS91 := blk_cell BS9.out (j := 1) rfl
      have kG90 := blk_cell BG9.out (j := 0) rfl
      have kG91 := blk_cell BG9.out (j := 1) rfl
      go_wp2_with fail
      refine (c_markNetM _ _ _ ys W5 Og.out (by omega) hyl).mono ?_
      rintro e W6 ⟨rfl, Y, hm⟩
      have M : Hid (MarkNet W6 _ _ _ ys.1.length ys.2.length) := hm
      have s6 := Y.size
      clear kS90 kS91 kG90 kG91
      have T__ := Lib.hid (X.out.keep Y (by omega))
      clear X
      have X := T__
      clear T__
      have T__ := Lib.hid (Os.out.keepd Y (by omega))
      clear Os
      have Os := T__
      clear T__
      have T__ := Lib.hid (Y.blk BS9.out (by omega))
      clear BS9
      have BS9 := T__
      clear T__
      have T__ := Lib.hid (Y.blk BG9.out (by omega))
      clear BG9
      have BG9 := T__
      clear T__
      clear Y Og hm
      have kS90 := blk_cell BS9.out (j := 0) rfl
      have kS91 := blk_cell BS9.out (j := 1) rfl
      have kG90 := blk_cell BG9.out (j := 0) rfl
      have kG91 := blk_cell BG9.out (j := 1) rfl
      go_wp2_with fail
      refine (c_heldNet _ _ _ ys.1.length ys.2.length W6 M.out (by omega) hyl).mono ?_
      rintro e W7 ⟨rfl, Y⟩
      have s7 := Y.size
      clear kS90 kS91 kG90 kG91
      have T__ := Lib.hid (X.out.trans Y)
      clear X
      have X := T__
      clear T__
      have T__ := Lib.hid (Os.out.ext Y)
      clear Os
      have Os := T__
      clear T__
      have T__ := Lib.hid (Y.blk BS9.out)
      clear BS9
      have BS9 := T__
      clear T__
      have T__ := Lib.hid (Y.blk BG9.out)
      clear BG9
      have BG9 := T__
      clear T__
      have T__ := Lib.hid (M.out.ext Y)
      clear M
      have M := T__
      clear T__
      clear Y
      have kS90 := blk_cell BS9.out (j := 0) rfl
      have kS91 := blk_cell BS9.out (j := 1) rfl
      have kG90 := blk_cell BG9.out (j := 0) rfl
      have kG91 := blk_cell BG9.out (j := 1) rfl
      go_wp2_with fail
      refine (CI.out W7  X.out hz0).mono ?_
      rintro e W8 ⟨z, rfl, hz, Y⟩
      have s8 := Y.size
      clear kS90 kS91 kG90 kG91
      have T__ := Lib.hid (X.out.trans Y)
      clear X
      have X := T__
      clear T__
      have T__ := Lib.hid (Os.out.ext Y)
      clear Os
      have Os := T__
      clear T__
      have T__ := Lib.hid (Y.blk BS9.out)
      clear BS9
      have BS9 := T__
      clear T__
      have T__ := Lib.hid (Y.blk BG9.out)
      clear BG9
      have BG9 := T__
      clear T__
      have T__ := Lib.hid (M.out.ext Y)
      clear M
      have M := T__
      clear T__
      have Oz := Lib.hid hz
      obtain ⟨adz, cdz, adze, cdze, rfl, ⟨_, _⟩, _, _⟩ := (Oz.out.form)
      clear hz Y
      have kS90 := blk_cell BS9.out (j := 0) rfl
      have kS91 := blk_cell BS9.out (j := 1) rfl
      have kG90 := blk_cell BG9.out (j := 0) rfl
      have kG91 := blk_cell BG9.out (j := 1) rfl
      have kS90n := (Ext.alloc (W8) (.cells #[.slice adz ys.1.length cdz, .slice adze ys.2.length cdze] 32)).cell kS90
      have kS91n := (Ext.alloc (W8) (.cells #[.slice adz ys.1.length cdz, .slice adze ys.2.length cdze] 32)).cell kS91
      have kG90n := (Ext.alloc (W8) (.cells #[.slice adz ys.1.length cdz, .slice adze ys.2.length cdze] 32)).cell kG90
      have kG91n := (Ext.alloc (W8) (.cells #[.slice adz ys.1.length cdz, .slice adze ys.2.length cdze] 32)).cell kG91
      go_wp2_with fail
      obtain ⟨W9, hW⟩ : ∃ W, W = W8.alloc (.cells #[.slice adz ys.1.length cdz, .slice adze ys.2.length cdze] 32) := ⟨_, rfl⟩
      rw [← hW]
      have Y : Ext W8 W9 := by rw [hW]; exact Ext.alloc _ _
      have hB : W9.heap[W8.heap.size]? = some (.cells #[.slice adz ys.1.length cdz, .slice adze ys.2.length cdze] 32) := by rw [hW]; exact blk_alloc _ _
      clear hW
      have sbZ9 := (Array.getElem?_eq_some_iff.1 hB).1
      have s9 := Y.size
      clear kS90 kS91 kG90 kG91 kS90n kS91n kG90n kG91n
      have T__ := Lib.hid (X.out.trans Y)
      clear X
      have X := T__
      clear T__
      have T__ := Lib.hid (Os.out.ext Y)
      clear Os
      have Os := T__
      clear T__
      have T__ := Lib.hid (Y.blk BS9.out)
      clear BS9
      have BS9 := T__
      clear T__
      have T__ := Lib.hid (Y.blk BG9.out)
      clear BG9
      have BG9 := T__
      clear T__
      have T__ := Lib.hid (M.out.ext Y)
      clear M
      have M := T__
      clear T__
      have T__ := Lib.hid (Oz.out.ext Y)
      clear Oz
      have Oz := T__
      clear T__
      have BZ9 := Lib.hid hB
      clear hB Y
      refine (c_eqNet _ _ _ _ _ _ ys ys W9 Oz.out.read Os.out.read (by omega) (by omega)).mono ?_
      rw [decide_eq_true rfl]
      rintro e W10 ⟨rfl, Y⟩
      have s10 := Y.size
      have T__ := Lib.hid (X.out.trans Y)
      clear X
      have X := T__
      clear T__
      have T__ := Lib.hid (Os.out.ext Y)
      clear Os
      have Os := T__
      clear T__
      have T__ := Lib.hid (Y.blk BS9.out)
      clear BS9
      have BS9 := T__
      clear T__
      have T__ := Lib.hid (Y.blk BG9.out)
      clear BG9
      have BG9 := T__
      clear T__
      have T__ := Lib.hid (M.out.ext Y)
      clear M
      have M := T__
      clear T__
      have T__ := Lib.hid (Oz.out.ext Y)
      clear Oz
      have Oz := T__
      clear T__
      have T__ := Lib.hid (Y.blk BZ9.out)
      clear BZ9
      have BZ9 := T__
      clear T__
      clear Y
      have kS90 := blk_cell BS9.out (j := 0) rfl
      have kS91 := blk_cell BS9.out (j := 1) rfl
      have kG90 := blk_cell BG9.out (j := 0) rfl
      have kG91 := blk_cell BG9.out (j := 1) rfl
      have kZ90 := blk_cell BZ9.out (j := 0) rfl
      have kZ91 := blk_cell BZ9.out (j := 1) rfl
      go_wp2_with fail
      refine (c_heldNet _ _ _ ys.1.length ys.2.length W10 M.out (by omega) hyl).mono ?_
      rintro e W11 ⟨rfl, Y⟩
      have s11 := Y.size
      clear kS90 kS91 kG90 kG91 kZ90 kZ91
      have T__ := Lib.hid (X.out.trans Y)
      clear X
      have X := T__
      clear T__
      have T__ := Lib.hid (Os.out.ext Y)
      clear Os
      have Os := T__
      clear T__
      have T__ := Lib.hid (Y.blk BS9.out)
      clear BS9
      have BS9 := T__
      clear T__
      have T__ := Lib.hid (Y.blk BG9.out)
      clear BG9
      have BG9 := T__
      clear T__
      have T__ := Lib.hid (M.out.ext Y)
      clear M
      have M := T__
      clear T__
      have T__ := Lib.hid (Oz.out.ext Y)
      clear Oz
      have Oz := T__
      clear T__
      have T__ := Lib.hid (Y.blk BZ9.out)
      clear BZ9
      have BZ9 := T__
      clear T__
      clear Y
      go_wp2
      go_ret
      exact ⟨rfl, X.out⟩
  · have hb0 : 1048576 < (x0.length : Int) := by omega
    go_enter Tryd.func4, Tryd.ntmps4
    go_wp2
    go_ret
    exact ⟨rfl, Ext.refl _⟩
theorem gES : Tryd.prog.globalNamed "strconv.ErrSyntax" = some 2 := by kernel_rfl
theorem gER : Tryd.prog.globalNamed "strconv.ErrRange" = some 3 := by kernel_rfl
theorem tES : (Tryd.prog.globals[2]?).map (·.type) = some 53 := by kernel_rfl
theorem tER : (Tryd.prog.globals[3]?).map (·.type) = some 53 := by kernel_rfl
theorem starES : "*" ++ "errors.errorString" = "*errors.errorString" := by decide
theorem rowES (u : TypeId) (h : Tryd.prog.typeName? 3 u = some "*errors.errorString") : u = 139 :=
  typeName_ptr_named (nm := "errors.errorString") (by rw [starES]; kernel_rfl) (by kernel_rfl) (by decide) u (by rw [starES]; exact h)
theorem cellsES : Tryd.prog.cellsOf 141 = 1 := by kernel_rfl
theorem cellsStr : Tryd.prog.cellsOf 9 = 1 := by kernel_rfl
/-- What the row's list says. -/
theorem pnw_laid {W : World} (h : laidMetH Tryd.prog Rows.fnExactParseNetRow.laid W) (hs : W.ShapedOpen Tryd.prog) : PnW W := by
  have h9 : laidMet Tryd.prog Rows.fnExactParseNetRow.laid W := h
  have hT : Tab10 W := by
    obtain ⟨ps, hv, _⟩ := h9
    obtain ⟨_, _, _, _, _, _, _, _, _, _, hv2, _⟩ := hv
    obtain ⟨_, _, _, _, _, _, _, _, _, _, hv3, _⟩ := hv2
    obtain ⟨g', t', cs, fuel, p, q, hg', ht', hvar, hd, _, _⟩ := hv3
    have e1 := Option.some.inj (gTab10.symm.trans hg')
    subst e1
    have e2 := Option.some.inj ((show (Tryd.prog.globals[1]?).map (·.type) = some 124 by kernel_rfl).symm.trans ht')
    subst e2
    have hd9 : DataW.trod (fun _ => ()) Tryd.prog W 0 (fun _ => true) false fuel 124 cs.toList = some (Lib.tabData .u64 Lib.pow10Tab, p) := hd
    show Lib.TabIs Tryd.prog W "internal/strconv.uint64pow10" .u64 Lib.pow10Tab
    unfold Lib.TabIs
    rw [hvar, ← Lib.cells_of_tab Tryd.underlying124 Tryd.underlying106 (by kernel_rfl) (by kernel_rfl) hd9]
  have h4 : laidMet Tryd.prog [("strconv.ErrRange", Rows.laid_strconv_ErrRange), ("strconv.ErrSyntax", Rows.laid_strconv_ErrSyntax), ("unicode/utf8.first", Rows.laid_unicode_utf8_first)] W := h9.tail.tail.tail.tail
  obtain ⟨a0, s0, hv0, -, -, -⟩ := laid_sentinel h4 gER tER Tryd.underlying53 rowES Tryd.underlying139 Tryd.underlying141 rfl rfl Tryd.underlying9 cellsES cellsStr
  obtain ⟨a1, s1, hv1, -, -, -⟩ := laid_sentinel h4.tail gES tES Tryd.underlying53 rowES Tryd.underlying139 Tryd.underlying141 rfl rfl Tryd.underlying9 cellsES cellsStr
  obtain ⟨m, hm⟩ := sh_laysM146.s1_3 W hs
  exact ⟨hT, ⟨m, hm⟩, ⟨_, (by have h0 := World.var?_cell gES hv1 0; simpa using h0), Or.inr ⟨_, _, rfl⟩⟩, ⟨_, (by have h0 := World.var?_cell gER hv0 0; simpa using h0), Or.inr ⟨_, _, rfl⟩⟩⟩
/-- The cells of a table that is listed. -/
def lit1 : DataW Unit → List Value
  | .lit (.int k z) => [Value.int k z]
  | .agg ds => ds.filterMap fun
    | .lit (.int k z) => some (Value.int k z)
    | _ => none
  | _ => []
def litCells : DataW Unit → Array Value
  | .agg ds => (ds.flatMap lit1).toArray
  | _ => #[]
def tabPut (d : DataW Unit) : Obj → Obj
  | .cells _ t frozen => .cells (litCells d) t frozen
  | o => o
abbrev synS : ByteArray := { data := #[105, 110, 118, 97, 108, 105, 100, 32, 115, 121, 110, 116, 97, 120] }
abbrev rngS : ByteArray := { data := #[118, 97, 108, 117, 101, 32, 111, 117, 116, 32, 111, 102, 32, 114, 97, 110, 103, 101] }
/-- So many blocks has the settled world. -/
noncomputable def lowPN : Nat := (World.holding Tryd.prog default ⟨#[], #[], []⟩).heap.size
def errPut (N : Nat) : Obj → Obj
  | .cells _ t frozen => .cells #[.iface 139 (.pointer (some ⟨N, 0, none⟩))] t frozen
  | o => o
/-- A world for the witness: the settled one, the tables and the two errors as their initialisers lay them. -/
noncomputable def laidWorldPN (os : Os) : World :=
  { World.holding Tryd.prog os ⟨#[.cells #[.string synS] 141, .cells #[.string rngS] 141], #[], []⟩ with heap := ((((((((World.holding Tryd.prog os ⟨#[.cells #[.string synS] 141, .cells #[.string rngS] 141], #[], []⟩).heap.modify 6 (tabPut Rows.laid_math_bits_deBruijn32tab)).modify 7 (tabPut Rows.laid_math_bits_deBruijn64tab)).modify 1 (tabPut Rows.laid_internal_strconv_uint64pow10)).modify 5 (tabPut Rows.laid_unicode_utf8_acceptRanges)).modify 3 (errPut (lowPN + 1))).modify 2 (errPut lowPN)).modify 4 (tabPut Rows.laid_unicode_utf8_first)) }
theorem laidMetPN (os : Os) : laidMet Tryd.prog Rows.fnExactParseNetRow.laid ((laidWorldPN os).forCall (fun _ _ => 0) ⟨#[], #[.string ⟨#[]⟩], []⟩).memory :=
  laidMet_of_run3 8 (by kernel_rfl) (by kernel_rfl) (by kernel_rfl)
theorem readsPN (os : Os) {H : Type} (enc : TypeId × Value → H) : ∃ places, DataW.whole enc Tryd.prog ((laidWorldPN os).forCall (fun _ _ => 0) ⟨#[], #[.string ⟨#[]⟩], []⟩).memory Tryd.f4.params.toList Rows.fnExactParseNetSpec.vars false #[Value.string ⟨#[]⟩].toList 8 = some ([.lit (.string [])], [], places) :=
  ⟨[], by kernel_rfl⟩
set_option maxRecDepth 100000 in
theorem lifted_FnExactParseNet (os : Os) (started : os.Started) (H : Type) (enc : TypeId × Value → H) (F : Stop.Interp) :
    ReturnsInHanded {} Tryd.checked os 4 .any ((OpenSpec.ofChange Rows.fnExactParseNetSpec).preRow enc Tryd.prog Tryd.f4 Rows.fnExactParseNetRow.domain false Rows.fnExactParseNetRow.laid) (((OpenSpec.ofChange Rows.fnExactParseNetSpec).at F).post enc Tryd.prog Tryd.f4 false true false false) := by
  obtain ⟨places, hx⟩ := readsPN os enc
  refine returnsInHanded_of_row (C := Tryd.checked) (s := OpenSpec.ofChange Rows.fnExactParseNetSpec) own_YtmaaeemhbccpcaaDoor started (by kernel_rfl) Tryd.func4
    (witness_row_at (enc := enc) (C := Tryd.checked) false (laidWorldPN os) #[.string ⟨#[]⟩] rfl (by kernel_rfl) (by kernel_rfl) (by kernel_rfl)
      (OpenSpec.preRow_of_cond 8 hx (by kernel_rfl) (fun k hk => by cases hk) (by kernel_rfl) (laidMetPN os))) ?_
  intro W base args ds gs before hval0 hW _ _ _ hL hsh _
  have hval : ∀ (j : Nat) t v, Tryd.f4.params[j]? = some t → args[j]? = some v → Value.okWide Tryd.prog W .any base t v := hval0
  have hW' := hW
  obtain ⟨p, q, hA0, hV, rfl, hfz, hnd⟩ := hW'
  have hA : DataW.TrodAll enc Tryd.prog W 0 (fun _ => true) true Tryd.f4.params.toList args.toList ds p := hA0
  rw [Tryd.params4] at hA hval
  obtain ⟨v0, vs0, d0, ds0, p0, q0, hargs, rfl, rfl, h0, r0⟩ := trodAll_cons hA
  obtain ⟨rfl, rfl, rfl⟩ := trodAll_nil r0
  obtain rfl : args = #[v0] := by cases args; simp_all
  obtain ⟨rfl, rfl⟩ := trodVars_none hV
  obtain ⟨s, rfl, rfl, rfl, hs⟩ := open_string Tryd.underlying9 (hval 0 9 v0 rfl rfl) h0
  obtain ⟨l, rfl⟩ : ∃ l : List UInt8, s = ⟨l.toArray⟩ := ⟨s.data.toList, bytes_of s⟩
  clear hA0 hval0
  refine (law_ParseNet l W (pnw_laid hL hsh)).mono fun e W' ⟨he, bel⟩ => ?_
  subst he
  have hp : Rows.fnExactParseNetSpec.post enc Tryd.prog Tryd.f4 false true false false W #[.string ⟨l.toArray⟩] (.bool true) W' :=
    ⟨_, _, _, [], _, [], hW, trodAll_mk1 (shut_bool Tryd.underlying4 _), (trodAll_cons_mk (shut_string Tryd.underlying9 hs) trodAll_mk0), rfl, bel.frame _, fun h => by cases h⟩
  exact ⟨_, rfl, hp⟩
theorem said_FnExactParseNet : Rows.FnExactParseNetSaid :=
  OpenClaim.holds_of_cond 4 Tryd.f4 rfl rfl rfl rfl rfl rfl rfl ⟨rfl, rfl, rfl, rfl, rfl⟩ rfl rfl rfl rfl rfl (by kernel_rfl) Tryd.func4 (by kernel_rfl)
    (of_decide_eq_true (by kernel_rfl)) (by unfold Func.isWrapper; first | (rw [if_pos (by decide +kernel)]; kernel_rfl) | (rw [if_neg (by decide +kernel)]; exact ⟨rfl, rfl⟩))
    (fun os started H enc _ F => by rw [OpenClaim.pre_eq_preRow]; exact lifted_FnExactParseNet os started H enc F)
theorem plainPN (f : FuncId) (fn : Func) (hf : Tryd.pinned.checked.prog.funcNamed "loop.example/g00940/laws.FnExactParseNet" = some f) (hfn : Tryd.pinned.checked.prog.funcs[f]? = some fn) :
    true = Tryd.pinned.checked.prog.looks [] ∧ ∀ (j : Nat) t, fn.params[j]? = some t → Tryd.pinned.checked.prog.wantsStandIn t = false := by
  obtain rfl : f = 4 := Option.some.inj ((show Tryd.prog.funcNamed "loop.example/g00940/laws.FnExactParseNet" = some 4 by kernel_rfl).symm.trans hf) |>.symm
  obtain rfl : fn = Tryd.f4 := (Option.some.inj (Tryd.func4.symm.trans hfn)).symm
  refine ⟨by kernel_rfl, fun j t ht => ?_⟩
  rw [Tryd.params4] at ht
  obtain rfl : t = 9 := by simpa using Array.mem_of_getElem? ht
  exact (show Tryd.prog.wantsStandIn 9 = false by kernel_rfl)
theorem holds_FnExactParseNet : Rows.FnExactParseNetCardSaid :=
  Claim7.holds_tied_plain_at .later [] _ _ _ _ said_FnExactParseNet (fun _ h => by cases h) (by kernel_rfl) (fun _ h => by cases h) fnExactParseNet_row_tie rfl ⟨rfl, rfl⟩ (by kernel_rfl) rfl plainPN (by kernel_rfl)
end Go.Proofs.YtmaaeemhbccpcaaDoor
