

/- Fogs: how they read; the laws' own helpers on them: sizes, copies, equality, marks. -/
import Derived.Test.YtngnagicgheenaaNet
namespace Go.Proofs.Ytngnagicgheenaa
open Go.RowKit
/-- Fog: its cells are its fields. -/
abbrev FogT := Int × Int × Int
def encFog (g : FogT) : List Value := [.int .i64 g.1, .int .i64 g.2.1, .int .i64 g.2.2]
theorem encFog_len (g : FogT) : (encFog g).length = 3 := rfl
abbrev Fogs (w : World) (lo hi : Nat) (v : Value) (xs : List FogT) : Prop := Row encFog 3 w lo hi v xs
theorem Fogs_at {w : World} {lo hi n : Nat} {a : Option Addr} {cap : Nat} {xs : List FogT} (h : Fogs w lo hi (.slice a n cap) xs) {k : Nat} (hk : k < n) :
    ∃ b off g, a = some ⟨b, off, none⟩ ∧ Hid (xs[k]? = some g) ∧ w.cell? ⟨b, off + k * 3, none⟩ = some (.int .i64 g.1) ∧ w.cell? ⟨b, off + k * 3 + 1, none⟩ = some (.int .i64 g.2.1) ∧ w.cell? ⟨b, off + k * 3 + 2, none⟩ = some (.int .i64 g.2.2) := by
  obtain ⟨a', cap', hv, h1, h2, b, off, h3, h4⟩ := h
  simp only [Value.slice.injEq] at hv
  obtain ⟨rfl, rfl, rfl⟩ := hv
  obtain ⟨ha, _, _⟩ := h3 (by omega)
  have hg : xs[k]? = some xs[k] := List.getElem?_eq_getElem hk
  exact ⟨b, off, xs[k], ha, hg, h4 k _ 0 _ hg rfl, h4 k _ 1 _ hg rfl, h4 k _ 2 _ hg rfl⟩
set_option maxRecDepth 100000 in
theorem c_eqFog (a b c p q r : Int) (w : World) :
    Calls Try.prog 49 #[.agg #[.int .i64 a, .int .i64 b, .int .i64 c], .agg #[.int .i64 p, .int .i64 q, .int .i64 r]] w fun e w' => e = .returned (.bool (decide (((a, b, c) : FogT) = (p, q, r)))) ∧ Ext w w' := by
  go_enter Try.func49, Try.ntmps49
  go_wp2
  all_goals
    go_ret
    refine ⟨by simp_all, ?_⟩
    repeat (first | exact Ext.refl _ | apply Ext.al | apply Ext.dr)
set_option maxRecDepth 100000 in
theorem c_toFog (a b c : Int) (w : World) :
    Calls Try.prog 44 #[.agg #[.int .i64 a, .int .i64 b, .int .i64 c]] w fun e w' => e = .returned (.agg #[.int .i64 a, .int .i64 b, .int .i64 c]) ∧ Ext w w' := by
  go_enter Try.func44, Try.ntmps44
  go_wp2
  refine bodyPost_ret (v := .agg #[.int .i64 a, .int .i64 b, .int .i64 c]) (by simp [results, Try.results44, go_sem]) rfl ⟨rfl, ?_⟩
  repeat (first | exact Ext.refl _ | apply Ext.al | apply Ext.dr | (refine Ext.st ?_ (by simp) _))
set_option maxRecDepth 100000 in
theorem c_eqFogS (va vb : Value) (la ha lb hb : Nat) (xs ys : List FogT) (w : World) (h1 : Fogs w la ha va xs) (h2 : Fogs w lb hb vb ys) :
    Calls Try.prog 18 #[va, vb] w fun e w' => e = .returned (.bool (decide (xs = ys))) ∧ Ext w w' := by
  have g1 := h1
  have g2 := h2
  obtain ⟨a, ca, rfl, m1, m2, _⟩ := g1
  obtain ⟨b, cb, rfl, m3, m4, _⟩ := g2
  have H1 := Lib.hid h1
  have H2 := Lib.hid h2
  clear h1 h2
  obtain ⟨r, hr⟩ : ∃ r, r = decide (xs = ys) := ⟨_, rfl⟩
  rw [← hr]
  have HR := Lib.hid hr
  clear hr
  by_cases hlen : xs.length = ys.length
  · have hl : ((xs.length : Int) != (ys.length : Int)) = false := by simp [hlen]
    obtain ⟨n, hn⟩ : ∃ n, n = xs.length := ⟨_, rfl⟩
    rw [← hlen] at m3 hl H2 ⊢
    rw [← hn] at m1 m3 hl H1 H2 ⊢
    have HN := Lib.hid hn
    have HL := Lib.hid hlen
    clear hn hlen
    go_enter Try.func18, Try.ntmps18
    go_wp2
    go_loopw [5] (fun t wr => ∃ k : Nat, k ≤ n ∧ t = .int .i64 k ∧ Ext w wr ∧ Hid (xs.take k = ys.take k)) (fun t _ => n - (intOf t).toNat)
    case atStart => exact ⟨0, by omega, rfl, Ext.refl _, by simp [Hid]⟩
    case round =>
      obtain ⟨k, hk, rfl, hx, hT⟩ := hrel
      by_cases hlt : k < n
      · obtain ⟨b1, o1, g1, rfl, hg1, c0, c1, c2⟩ := Fogs_at H1.out hlt
        obtain ⟨b2, o2, g2, rfl, hg2, d0, d1, d2⟩ := Fogs_at H2.out hlt
        have C0 := XT.cell (hx.cell c0)
        have D0 := XT.cell (hx.cell d0)
        have C1 := XT.cell (hx.cell c1)
        have D1 := XT.cell (hx.cell d1)
        have C2 := XT.cell (hx.cell c2)
        have D2 := XT.cell (hx.cell d2)
        clear c0 d0 c1 d1 c2 d2
        have hltI : (k : Int) < (n : Int) := by omega
        by_cases hgg : g1 = g2
        · have hgg2 := Lib.hid hgg
          have CE : Hid (∀ W, Calls Try.prog 49 #[.agg #[.int .i64 g1.1, .int .i64 g1.2.1, .int .i64 g1.2.2], .agg #[.int .i64 g2.1, .int .i64 g2.2.1, .int .i64 g2.2.2]] W fun e w' => e = .returned (.bool true) ∧ Ext W w') := fun W => by
            have hd : decide (g1 = g2) = true := by simp [hgg]
            rw [← hd]; exact c_eqFog _ _ _ _ _ _ W
          clear hgg
          go_wp2
          refine region_ext (by kernel_rfl) (by kernel_rfl) ?_
          repeat (go_big_quiet_step ((go_at_call 49; refine Calls.ext_of (CE.out _))))
          refine wpQuiet_nil ?_
          intro wq hxq
          go_wp2
          go_roundw
          case rel => exact ⟨k + 1, by omega, by go_num, hx.trans hxq, take_eq_succ hT.out hg1.out hg2.out hgg2.out⟩
          case measure => simp [intOf]; omega
        · have hgg2 := Lib.hid hgg
          have CE : Hid (∀ W, Calls Try.prog 49 #[.agg #[.int .i64 g1.1, .int .i64 g1.2.1, .int .i64 g1.2.2], .agg #[.int .i64 g2.1, .int .i64 g2.2.1, .int .i64 g2.2.2]] W fun e w' => e = .returned (.bool false) ∧ Ext W w') := fun W => by
            have hd : decide (g1 = g2) = false := by simp [hgg]
            rw [← hd]; exact c_eqFog _ _ _ _ _ _ W
          clear hgg
          go_wp2
          refine region_ext (by kernel_rfl) (by kernel_rfl) ?_
          repeat (go_big_quiet_step ((go_at_call 49; refine Calls.ext_of (CE.out _))))
          refine wpQuiet_nil ?_
          intro wq hxq
          go_wp2
          go_ret
          refine ⟨?_, hx.trans hxq⟩
          rw [HR.out, decide_eq_false (fun e => hgg2.out (by have := hg1.out; rw [e, hg2.out] at this; exact (Option.some.inj this).symm))]
          rfl
      · go_wp2
        go_ret
        refine ⟨?_, hx⟩
        have e := hT.out
        rw [List.take_of_length_le (by rw [← HN.out]; omega), List.take_of_length_le (by rw [← HL.out, ← HN.out]; omega)] at e
        rw [HR.out, decide_eq_true e]
        rfl
  · have hl : ((xs.length : Int) != (ys.length : Int)) = true := by rw [bne_iff_ne]; omega
    have HL := Lib.hid hlen
    clear hlen
    go_enter Try.func18, Try.ntmps18
    go_wp2
    go_ret
    refine ⟨?_, Ext.refl _⟩
    rw [HR.out, decide_eq_false (fun e => HL.out (by rw [e]))]
    rfl
theorem Try.info_Fog : (Try.prog.info? 65).map (fun i => (i.zero, i.size, i.bytes)) = some (some (.agg #[.int .i64 0, .int .i64 0, .int .i64 0]), 3, 24) := by kernel_rfl
set_option maxRecDepth 100000 in
theorem c_toFogS (va : Value) (la ha : Nat) (xs : List FogT) (w : World) (h1 : Fogs w la ha va xs) (hn20 : xs.length ≤ 1048576) :
    Calls Try.prog 15 #[va] w fun e w' => ∃ v, e = .returned v ∧ w'.ownsRow w.heap.size 65 3 v xs.length (xs.flatMap encFog) ∧ Ext w w' := by
  obtain ⟨i0, hi, hz0, hz1, hz2⟩ := info_parts Try.info_Fog
  have g1 := h1
  obtain ⟨a, ca, rfl, m1, m2, _⟩ := g1
  have H1 := Lib.hid h1
  obtain ⟨n, hn⟩ : ∃ n, n = xs.length := ⟨_, rfl⟩
  rw [← hn] at m1 H1 hn20 ⊢
  have HN := Lib.hid hn
  clear h1 hn
  go_enter Try.func15, Try.ntmps15
  go_wp2_with (at_make; refine wpList_make_full _ rfl _ _ 36 rfl w.heap.size 65 i0 (.agg #[.int .i64 0, .int .i64 0, .int .i64 0]) 3 Try.underlying36 hi hz0 hz1 _ _ _ _ n rfl rfl rfl rfl (by rw [hz2]; omega) (by unfold maxLen; omega) (Nat.le_refl _) ?_; intro w1 hown hgrow)
  have hx1 : Ext w w1 := (Ext.refl w).gr hgrow (by simp)
  clear hgrow
  go_loopw [4] (fun t wr => ∃ (k : Nat) (L : List Value), k ≤ n ∧ t = .int .i64 k ∧ wr.ownsRow w.heap.size 65 3 (.slice (some ⟨w.heap.size, 0, none⟩) n n) n L ∧ Hid (L.take (k * 3) = (xs.take k).flatMap encFog) ∧ Ext w wr) (fun t _ => n - (intOf t).toNat)
  case atStart => exact ⟨0, _, by omega, rfl, hown, by simp [Hid], hx1⟩
  case round =>
    clear hown
    obtain ⟨k, L, hk, rfl, hown, hT, hx⟩ := hrel
    have hL : L.length = n * 3 := hown.1
    by_cases hlt : k < n
    · obtain ⟨b, o, g, rfl, hg, c0, c1, c2⟩ := Fogs_at H1.out hlt
      have d0 := hx.cell c0
      have d1 := hx.cell c1
      have d2 := hx.cell c2
      clear c0 c1 c2
      obtain ⟨y0, hy0⟩ : ∃ y, L[k * 3]? = some y := ⟨_, List.getElem?_eq_getElem (by omega)⟩
      have Y0 := Lib.hid hy0
      obtain ⟨y1, hy1⟩ : ∃ y, L[k * 3 + 1]? = some y := ⟨_, List.getElem?_eq_getElem (by omega)⟩
      have Y1 := Lib.hid hy1
      obtain ⟨y2, hy2⟩ : ∃ y, L[k * 3 + 2]? = some y := ⟨_, List.getElem?_eq_getElem (by omega)⟩
      have Y2 := Lib.hid hy2
      clear hy0 hy1 hy2
      have HL := Lib.hid hL
      clear hL
      have hltI : (k : Int) < (n : Int) := by omega
      go_wp2_with (go_at_call 44; refine (c_toFog _ _ _ _).mono ?_; rintro e w2 ⟨rfl, hx2⟩; have o2 := own_ext hown hx2; have e0 := (o2.cellAt (k * 3) (by omega)).trans Y0.out; have e1 := (o2.cellAt (k * 3 + 1) (by omega)).trans Y1.out; have e2 := (o2.cellAt (k * 3 + 2) (by omega)).trans Y2.out; have z0 := o2.frozenAt (k * 3); have z1 := o2.frozenAt (k * 3 + 1); have z2 := o2.frozenAt (k * 3 + 2))
      obtain ⟨O0, gr0⟩ := o2.stored (k * 3) (.int .i64 g.1)
      obtain ⟨O1, gr1⟩ := O0.stored (k * 3 + 1) (.int .i64 g.2.1)
      obtain ⟨O2, gr2⟩ := O1.stored (k * 3 + 2) (.int .i64 g.2.2)
      go_roundw
      case rel => exact ⟨k + 1, _, by omega, by go_num, O2, by unfold Hid; rw [flatMap_snoc hg.out]; exact take_set3 hT.out (by have := HL.out; omega), ((((hx.trans hx2).st (Nat.le_refl _) _).st (Nat.le_refl _) _).st (Nat.le_refl _) _)⟩
      case measure => simp [intOf]; omega
    · have hT' : L = xs.flatMap encFog := by
        have e1 : k = n := by omega
        have e3 := hT.out
        rw [e1, List.take_of_length_le (by omega), List.take_of_length_le (by rw [HN.out]; exact Nat.le_refl _)] at e3
        exact e3
      have HT' := Lib.hid hT'
      clear hT' hL
      go_wp2
      go_ret
      exact ⟨_, rfl, by rw [← HT'.out]; exact hown, hx⟩
set_option maxRecDepth 100000 in
theorem c_markFogS (v : Value) (n base : Nat) (L : List Value) (c : Int) (w : World) (hown : w.ownsRow base 65 3 v n L) (hc0 : 0 ≤ c) (hc1 : c ≤ 1099511627776) (hn20 : n ≤ 1099511627776) :
    Calls Try.prog 33 #[v, .int .i64 c] w fun e w' => e = .returned (.int .i64 (c + n * 3)) ∧ w'.ownsRow base 65 3 v n (marks c (n * 3)) ∧ w.grownBy w' v.ownBlock := by
  obtain ⟨a, cap, hv, ha, _, _⟩ := own_form hown
  have hownB := hown
  subst hv
  go_enter Try.func33, Try.ntmps33
  go_wp2
  go_loopw [1, 5] (fun q t wr => ∃ (k : Nat) (L2 : List Value), k ≤ n ∧ t = .int .i64 k ∧ q = .int .i64 (c + k * 3) ∧ wr.ownsRow base 65 3 (.slice a n cap) n L2 ∧ Hid (L2.take (k * 3) = marks c (k * 3)) ∧ w.grownBy wr (Value.slice a n cap).ownBlock) (fun _ t _ => n - (intOf t).toNat)
  case atStart => exact ⟨0, _, by omega, rfl, by simp, hown, by simp [Hid, marks], World.grownBy.refl _ _⟩
  case round =>
    clear hown hownB
    obtain ⟨k, L2, hk, rfl, rfl, hown, hT, hx⟩ := hrel
    have hL : L2.length = n * 3 := hown.1
    by_cases hlt : k < n
    · obtain ⟨b, rfl⟩ := ha (by omega)
      obtain ⟨y0, hy0⟩ : ∃ y, L2[k * 3]? = some y := ⟨_, List.getElem?_eq_getElem (by omega)⟩
      have Y0 := Lib.hid hy0
      obtain ⟨y1, hy1⟩ : ∃ y, L2[k * 3 + 1]? = some y := ⟨_, List.getElem?_eq_getElem (by omega)⟩
      have Y1 := Lib.hid hy1
      obtain ⟨y2, hy2⟩ : ∃ y, L2[k * 3 + 2]? = some y := ⟨_, List.getElem?_eq_getElem (by omega)⟩
      have Y2 := Lib.hid hy2
      clear hy0 hy1 hy2
      have e0 := (hown.cellAt (k * 3) (by omega)).trans Y0.out
      have e1 := (hown.cellAt (k * 3 + 1) (by omega)).trans Y1.out
      have e2 := (hown.cellAt (k * 3 + 2) (by omega)).trans Y2.out
      have z0 := hown.frozenAt (k * 3)
      have z1 := hown.frozenAt (k * 3 + 1)
      have z2 := hown.frozenAt (k * 3 + 2)
      have HL := Lib.hid hL
      clear hL
      have hltI : (k : Int) < (n : Int) := by omega
      go_wp2
      obtain ⟨O0, gr0⟩ := hown.stored (k * 3) (.int .i64 (c + k * 3))
      obtain ⟨O1, gr1⟩ := O0.stored (k * 3 + 1) (.int .i64 (c + k * 3 + 1))
      obtain ⟨O2, gr2⟩ := O1.stored (k * 3 + 2) (.int .i64 (c + k * 3 + 1 + 1))
      go_roundw
      case rel =>
        refine ⟨k + 1, _, by omega, by go_num, by go_num, by simpa using O2, ?_, by simpa using (grown_trans (grown_trans (grown_trans hx gr0) gr1) gr2)⟩
        unfold Hid
        rw [show (k + 1) * 3 = k * 3 + 3 by omega, marks_add]
        have e := take_set3 (a := .int .i64 (c + k * 3)) (b := .int .i64 (c + k * 3 + 1)) (c := .int .i64 (c + k * 3 + 1 + 1)) hT.out (by have := HL.out; omega)
        rw [show (k + 1) * 3 = k * 3 + 3 by omega] at e
        simpa [marks3, Int.add_assoc] using e
      case measure => simp [intOf]; omega
    · have e1 : k = n := by omega
      have e3 := hT.out
      rw [e1, List.take_of_length_le (by omega)] at e3
      have HT := Lib.hid e3
      have E1 := Lib.hid e1
      clear e3 e1 hL
      go_wp2
      go_ret
      refine ⟨?_, ?_, hx⟩
      · rw [E1.out]; rfl
      · rw [show marks c (n * 3) = L2 from by rw [HT.out]]; exact hown

set_option maxRecDepth 100000 in
theorem c_szFogS (a : Option Addr) (n cap : Nat) (left : Int) (w : World) (h0 : 0 ≤ left) (h1 : left ≤ 1048576) (hn : n ≤ 9223372036854775807) :
    Calls Try.prog 12 #[.slice a n cap, .int .i64 left] w fun e w' => e = .returned (.int .i64 (szL left n)) ∧ w = w' := by
  obtain ⟨r, hr⟩ : ∃ r, r = szL left n := ⟨_, rfl⟩
  rw [← hr]
  unfold szL at hr
  have HR := Lib.hid hr
  clear hr
  by_cases h : (n : Int) ≤ left
  all_goals
    go_enter Try.func12, Try.ntmps12
    go_wp2
    go_ret
    refine ⟨?_, rfl⟩
    rw [HR.out]
    first | (rw [if_pos h]; rfl) | (rw [if_neg (by omega)]; rfl)
theorem c_toFogs (va : Value) (la ha : Nat) (xs : List FogT) (w : World) (h : Fogs w la ha va xs) (hn : xs.length ≤ 1048576) :
    Calls Try.prog 15 #[va] w fun e w' => ∃ v, e = .returned v ∧ OwnG encFog 3 65 w' w.heap.size w'.heap.size v xs ∧ Ext w w' :=
  (c_toFogS va la ha xs w h hn).mono fun _ _ ⟨v, he, ho, hx⟩ => ⟨v, he, OwnG.of ho, hx⟩
theorem c_markFogs (v : Value) (lo hi : Nat) (xs : List FogT) (c : Int) (w : World) (h : OwnG encFog 3 65 w lo hi v xs) (hc0 : 0 ≤ c) (hc1 : c ≤ 1099511627776) (hn20 : xs.length ≤ 1099511627776) :
    Calls Try.prog 33 #[v, .int .i64 c] w fun e w' => e = .returned (.int .i64 (c + xs.length * 3)) ∧ Keep lo hi w w' ∧ w'.ownsRow lo 65 3 v xs.length (marks c (xs.length * 3)) :=
  (c_markFogS v xs.length lo _ c w h.own hc0 hc1 hn20).mono fun _ _ ⟨he, ho, hg⟩ => ⟨he, Keep.of_grown hg (fun k hk => ⟨(h.own.lt k hk).1, h.lt k hk⟩), ho⟩

/-! ### Valid fogs -/
def fgB (l : Int) (x : FogT) : Bool := inB 0 (l - 1) x.1 && (inB 0 9999 x.2.1 && inB (x.2.1 + 1) 10000 x.2.2)
def befF (a b : FogT) : Bool := !(decide (b.1 < a.1) || (decide (a.1 = b.1) && decide (b.2.1 ≤ a.2.2)))
def fogP (l : Int) : Option FogT → List FogT → Bool
  | _, [] => true
  | p, x :: r => (fgB l x && (match p with | none => true | some a => befF a x)) && fogP l (some x) r
def fogsB (l : Int) (F : List FogT) : Bool := decide ((F.length : Int) ≤ 60) && fogP l none F
def pvF (L : List FogT) (k : Nat) : Option FogT := if k = 0 then none else L[k - 1]?
theorem pvF_succ {xs : List FogT} {k : Nat} {x : FogT} (h : xs[k]? = some x) : pvF xs (k + 1) = some x := by simp [pvF, h]
theorem fogP_drop {m : Int} {xs : List FogT} {k : Nat} {x : FogT} (h : xs[k]? = some x) :
    fogP m (pvF xs k) (xs.drop k) = ((fgB m x && (match pvF xs k with | none => true | some a => befF a x)) && fogP m (pvF xs (k + 1)) (xs.drop (k + 1))) := by
  have hk : k < xs.length := (List.getElem?_eq_some_iff.1 h).1
  have e : xs.drop k = x :: xs.drop (k + 1) := by
    rw [List.drop_eq_getElem_cons hk]; congr 1; exact (List.getElem?_eq_some_iff.1 h).2
  rw [e, pvF_succ h]
  cases pvF xs k <;> rfl
theorem fogP_all {m : Int} : ∀ {L : List FogT} {p : Option FogT}, fogP m p L = true → ∀ x ∈ L, fgB m x = true
  | [], _, _, x, hx => by cases hx
  | y :: r, p, h, x, hx => by
    simp only [fogP, Bool.and_eq_true] at h
    rcases List.mem_cons.1 hx with rfl | hx
    · exact h.1.1
    · exact fogP_all h.2 x hx
theorem fogsB_mem {m : Int} {L : List FogT} (h : fogsB m L = true) : ∀ x ∈ L, fgB m x = true := by
  simp only [fogsB, Bool.and_eq_true] at h
  exact fogP_all h.2
theorem fogsB_len {m : Int} {L : List FogT} (h : fogsB m L = true) : L.length ≤ 60 := by
  simp only [fogsB, Bool.and_eq_true, decide_eq_true_eq] at h
  omega
structure FgB (m : Int) (x : FogT) : Prop where
  l0 : 0 ≤ x.1
  l1 : x.1 < m
  f0 : 0 ≤ x.2.1
  ft : x.2.1 < x.2.2
  t1 : x.2.2 ≤ 10000
theorem fgB_iff {m : Int} {x : FogT} : fgB m x = true ↔ FgB m x := by
  unfold fgB
  rw [Bool.and_eq_true, Bool.and_eq_true, inB_iff, inB_iff, inB_iff]
  constructor
  · rintro ⟨⟨a, b⟩, ⟨c, d⟩, e, f⟩
    exact ⟨a, by omega, c, by omega, f⟩
  · rintro ⟨a, b, c, d, e⟩
    exact ⟨⟨a, by omega⟩, ⟨c, by omega⟩, by omega, e⟩
end Go.Proofs.Ytngnagicgheenaa
