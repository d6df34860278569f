

/- What is asked of fogs: clear seconds, starts, sums: the program's and the reference's loops. -/
import Derived.Test.YtngnagicgheenaaFogW
import Derived.Test.YtngnagicgheenaaFogA
import Derived.Test.YtngnagicgheenaaLinkI
namespace Go.Proofs.Ytngnagicgheenaa
open Go.RowKit
set_option maxRecDepth 100000 in
theorem c_l1Least (a b : Int) (w : World) : Calls Try.prog 82 #[.int .i64 a, .int .i64 b] w fun e w' => e = .returned (.int .i64 (min a b)) ∧ w = w' := by
  by_cases h : a < b
  · have hm : min a b = a := by omega
    rw [hm]
    go_enter Try.func82, Try.ntmps82
    go_wp2
    go_ret
    exact ⟨rfl, rfl⟩
  · have hm : min a b = b := by omega
    rw [hm]
    go_enter Try.func82, Try.ntmps82
    go_wp2
    go_ret
    exact ⟨rfl, rfl⟩
set_option maxRecDepth 100000 in
theorem c_l1Most (a b : Int) (w : World) : Calls Try.prog 81 #[.int .i64 a, .int .i64 b] w fun e w' => e = .returned (.int .i64 (max a b)) ∧ w = w' := by
  by_cases h : b < a
  · have hm : max a b = a := by omega
    rw [hm]
    go_enter Try.func81, Try.ntmps81
    go_wp2
    go_ret
    exact ⟨rfl, rfl⟩
  · have hm : max a b = b := by omega
    rw [hm]
    go_enter Try.func81, Try.ntmps81
    go_wp2
    go_ret
    exact ⟨rfl, rfl⟩
/-! ### Is a link clear? -/
set_option maxRecDepth 100000 in
set_option maxHeartbeats 1000000 in
theorem c_fgClear (v : Value) (la ha : Nat) (m : Int) (F : List FogT) (link t : Int) (w : World) (h : Fogs w la ha v F) (hg : ∀ x ∈ F, fgB m x = true) :
    Calls Try.prog 58 #[v, .int .i64 link, .int .i64 t] w fun e w' => e = .returned (.bool (clB F link t)) ∧ Ext w w' := by
  obtain ⟨r, hr⟩ : ∃ r, r = clB F link t := ⟨_, rfl⟩
  rw [← hr]
  unfold clB at hr
  have HR := Lib.hid hr
  clear hr
  obtain ⟨a, cap, rfl, m1, m2⟩ := Row.form h
  have H := Lib.hid h
  have HG := Lib.hid hg
  obtain ⟨n, hn⟩ : ∃ n, n = F.length := ⟨_, rfl⟩
  rw [← hn] at m1 H ⊢
  have HN := Lib.hid hn
  clear h hn hg
  go_enter Try.func58, Try.ntmps58
  go_wp2
  go_loopw [11] (fun tk wr => ∃ k : Nat, k ≤ n ∧ tk = .int .i64 k ∧ Ext w wr ∧ Hid (r = (F.drop k).all fun x => !inFog link t x)) (fun tk _ => n - (intOf tk).toNat)
  case atStart => exact ⟨0, by omega, rfl, Ext.refl _, HR.out⟩
  case round =>
    obtain ⟨k, hk, rfl, hx, hT⟩ := hrel
    by_cases hlt : k < n
    · obtain ⟨b, o, g, rfl, hg, c0, c1, c2⟩ := Fogs_at H.out hlt
      have hfg := fgB_iff.1 (HG.out g (List.mem_of_getElem? hg.out))
      have hf0 := hfg.f0
      have hft := hfg.ft
      have hf1 := hfg.t1
      have d0 := hx.cell c0
      have d1 := hx.cell c1
      have d2 := hx.cell c2
      have hltI : (k : Int) < (n : Int) := by omega
      clear c0 c1 c2
      have hs := hT.out.trans (all_dropF hg.out)
      unfold inFog at hs
      cases e1 : (g.1 == link)
      · have HS : Hid (r = (F.drop (k + 1)).all fun x => !inFog link t x) := by unfold Hid; rw [hs, e1]; rfl
        clear hs
        go_wp2
        go_roundw
        case rel => exact ⟨k + 1, by omega, by go_num, hx.trans (Ext.alloc _ _), HS.out⟩
        case measure => simp [intOf]; omega
      · cases e2 : inB g.2.1 (g.2.2 - 1) t
        · have HS : Hid (r = (F.drop (k + 1)).all fun x => !inFog link t x) := by
            have e3 : (decide (g.2.1 ≤ t) && decide (t < g.2.2)) = false := by
              rw [← e2]; unfold inB; congr 1; rw [Bool.eq_iff_iff]; simp; omega
            unfold Hid; rw [hs, e1, e3]; rfl
          clear hs
          go_wp2_with (go_at_call 52; refine (l1In_c _ _ _ _).mono ?_; rintro e w' ⟨rfl, rfl⟩)
          go_roundw
          case rel => exact ⟨k + 1, by omega, by go_num, hx.trans (Ext.alloc _ _), HS.out⟩
          case measure => simp [intOf]; omega
        · have HS : Hid (r = false) := by
            have e3 : (decide (g.2.1 ≤ t) && decide (t < g.2.2)) = true := by
              rw [← e2]; unfold inB; congr 1; rw [Bool.eq_iff_iff]; simp; omega
            unfold Hid; rw [hs, e1, e3]; rfl
          clear hs
          go_wp2_with (go_at_call 52; refine (l1In_c _ _ _ _).mono ?_; rintro e w' ⟨rfl, rfl⟩)
          go_ret
          exact ⟨by rw [HS.out]; rfl, hx.trans (Ext.alloc _ _)⟩
    · have hge : ¬ ((k : Int) < (n : Int)) := by omega
      have HS : Hid (r = true) := by
        have e := hT.out
        rw [List.drop_eq_nil_of_le (by rw [← HN.out]; omega)] at e
        exact e
      go_wp2
      go_ret
      exact ⟨by rw [HS.out]; rfl, hx⟩
set_option maxRecDepth 100000 in
theorem c_clearFn (x : FogT) (ba bb : Nat) (link t : Int) (w : World) (h1 : w.cell? ⟨ba, 0, none⟩ = some (.int .i64 link)) (h2 : w.cell? ⟨bb, 0, none⟩ = some (.int .i64 t)) :
    Calls Try.prog 80 #[.agg #[.int .i64 x.1, .int .i64 x.2.1, .int .i64 x.2.2], .pointer (some ⟨ba, 0, none⟩), .pointer (some ⟨bb, 0, none⟩)] w fun e w' => e = .returned (.bool (inFog link t x)) ∧ Ext w w' := by
  obtain ⟨x1, x2, x3⟩ := x
  obtain ⟨r, hr⟩ : ∃ r, r = inFog link t (x1, x2, x3) := ⟨_, rfl⟩
  rw [← hr]
  unfold inFog at hr
  simp only at hr ⊢
  have hla := World.block_lt_of_cell? w _ h1
  have hlb := World.block_lt_of_cell? w _ h2
  simp only at hla hlb
  have k1 := (Ext.alloc w (.cells #[.int .i64 x1, .int .i64 x2, .int .i64 x3] 65)).cell h1
  have k2 := (Ext.alloc w (.cells #[.int .i64 x1, .int .i64 x2, .int .i64 x3] 65)).cell h2
  cases e1 : (x1 == link)
  · have HR : Hid (r = false) := by unfold Hid; rw [hr, e1]; rfl
    clear hr
    go_enter Try.func80, Try.ntmps80
    go_wp2
    go_ret
    exact ⟨by rw [HR.out]; rfl, Ext.alloc _ _⟩
  · by_cases e2 : x2 ≤ t
    · have HR : Hid (r = decide (t < x3)) := by unfold Hid; rw [hr, e1, decide_eq_true e2]; rfl
      clear hr
      go_enter Try.func80, Try.ntmps80
      go_wp2
      go_ret
      exact ⟨by rw [HR.out]; rfl, Ext.alloc _ _⟩
    · have HR : Hid (r = false) := by unfold Hid; rw [hr, e1, decide_eq_false e2]; rfl
      have e2b : t < x2 := by omega
      clear hr
      go_enter Try.func80, Try.ntmps80
      go_wp2
      go_ret
      exact ⟨by rw [HR.out]; rfl, Ext.alloc _ _⟩
theorem idxG_all (p : FogT → Bool) : ∀ (xs : List FogT) (k : Nat), decide (0 ≤ idxG p k xs) = !xs.all fun x => !p x
  | [], k => by simp [idxG]
  | y :: r, k => by
    unfold idxG
    rw [List.all_cons]
    have h := idxG_all p r (k + 1)
    cases e : p y
    · rw [if_neg (by simp), h]; simp
    · rw [if_pos rfl]; simp
set_option maxRecDepth 100000 in
set_option maxHeartbeats 1000000 in
theorem c_clearFind (v : Value) (la ha : Nat) (xs : List FogT) (ba bb : Nat) (p : FogT → Bool) (w : World) (h : Fogs w la ha v xs)
    (hp : ∀ W x, Ext w W → x ∈ xs → Calls Try.prog 80 #[.agg #[.int .i64 x.1, .int .i64 x.2.1, .int .i64 x.2.2], .pointer (some ⟨ba, 0, none⟩), .pointer (some ⟨bb, 0, none⟩)] W fun e w' => e = .returned (.bool (p x)) ∧ Ext W w') :
    Calls Try.prog 88 #[v, .func (.func 80) #[] #[.pointer (some ⟨ba, 0, none⟩), .pointer (some ⟨bb, 0, none⟩)]] w fun e w' => e = .returned (.int .i64 (idxG p 0 xs)) ∧ Ext w w' := by
  obtain ⟨r, hr⟩ : ∃ r, r = idxG p 0 xs := ⟨_, rfl⟩
  rw [← hr]
  have HR := Lib.hid hr
  obtain ⟨a, cap, rfl, m1, m2⟩ := Row.form h
  have H := Lib.hid h
  have HP := Lib.hid hp
  obtain ⟨n, hn⟩ : ∃ n, n = xs.length := ⟨_, rfl⟩
  rw [← hn] at m1 H ⊢
  have HN := Lib.hid hn
  clear h hn hr hp
  go_enter Try.func88, Try.ntmps88
  go_wp2
  go_loopw [5, 8] (fun _ t wr => ∃ k : Nat, k ≤ n ∧ t = .int .i64 k ∧ Ext w wr ∧ Hid (r = idxG p k (xs.drop k))) (fun _ t _ => n - (intOf t).toNat)
  case atStart => exact ⟨0, by omega, rfl, Ext.refl _, HR.out⟩
  case round =>
    obtain ⟨k, hk, rfl, hx, hT⟩ := hrel
    by_cases hlt : k < n
    · obtain ⟨b, o, y, rfl, hg, c0, c1, c2⟩ := Fogs_at H.out hlt
      have d0 := hx.cell c0
      have d1 := hx.cell c1
      have d2 := hx.cell c2
      have hs := hT.out.trans (idxG_drop p hg.out)
      have hltI : (k : Int) < (n : Int) := by omega
      obtain ⟨t, ht⟩ : ∃ t, t = p y := ⟨_, rfl⟩
      have CP : Hid (∀ W, Ext w W → Calls Try.prog 80 #[.agg #[.int .i64 y.1, .int .i64 y.2.1, .int .i64 y.2.2], .pointer (some ⟨ba, 0, none⟩), .pointer (some ⟨bb, 0, none⟩)] W fun e w' => e = .returned (.bool t) ∧ Ext W w') := fun W hX => by
        rw [ht]; exact HP.out W y hX (List.mem_of_getElem? hg.out)
      rw [← ht] at hs
      clear c0 c1 c2 ht
      cases t
      · have HS : Hid (r = idxG p (k + 1) (xs.drop (k + 1))) := hs
        clear hs
        go_wp2_with (go_at_call 80; refine (CP.out _ hx).mono ?_; rintro e w2 ⟨rfl, hx2⟩)
        go_roundw
        case rel => exact ⟨k + 1, by omega, by go_num, hx.trans hx2, HS.out⟩
        case measure => simp [intOf]; omega
      · have HS : Hid (r = (k : Int)) := hs
        clear hs
        go_wp2_with (go_at_call 80; refine (CP.out _ hx).mono ?_; rintro e w2 ⟨rfl, hx2⟩)
        go_ret
        exact ⟨by rw [HS.out]; rfl, hx.trans hx2⟩
    · have hge : ¬ ((k : Int) < (n : Int)) := by omega
      have HS : Hid (r = -1) := by
        have e := hT.out
        rw [List.drop_eq_nil_of_le (by rw [← HN.out]; omega)] at e
        exact e
      go_wp2
      go_ret
      exact ⟨by rw [HS.out]; rfl, hx⟩
set_option maxRecDepth 100000 in
theorem c_clearCont (v : Value) (la ha : Nat) (xs : List FogT) (ba bb : Nat) (p : FogT → Bool) (w : World) (h : Fogs w la ha v xs)
    (hp : ∀ W x, Ext w W → x ∈ xs → Calls Try.prog 80 #[.agg #[.int .i64 x.1, .int .i64 x.2.1, .int .i64 x.2.2], .pointer (some ⟨ba, 0, none⟩), .pointer (some ⟨bb, 0, none⟩)] W fun e w' => e = .returned (.bool (p x)) ∧ Ext W w') :
    Calls Try.prog 79 #[v, .func (.func 80) #[] #[.pointer (some ⟨ba, 0, none⟩), .pointer (some ⟨bb, 0, none⟩)]] w fun e w' => e = .returned (.bool (!xs.all fun x => !p x)) ∧ Ext w w' := by
  have CI := Lib.hid (c_clearFind v la ha xs ba bb p w h hp)
  obtain ⟨r, hr⟩ : ∃ r, r = !xs.all fun x => !p x := ⟨_, rfl⟩
  rw [← hr]
  have HR := Lib.hid (hr.trans (idxG_all p xs 0).symm)
  obtain ⟨a, cap, rfl, m1, m2⟩ := Row.form h
  clear h hr hp
  rw [HR.out]
  go_enter Try.func79, Try.ntmps79
  go_wp2_with (go_at_call 88; refine CI.out.mono ?_; rintro e w2 ⟨rfl, hx2⟩)
  go_ret
  exact ⟨rfl, hx2⟩
set_option maxRecDepth 100000 in
set_option maxHeartbeats 1000000 in
theorem c_isClear (v : Value) (la ha : Nat) (F : List FogT) (link t : Int) (w : World) (h : Fogs w la ha v F) (hh : ha ≤ w.heap.size) :
    Calls Try.prog 59 #[v, .int .i64 link, .int .i64 t] w fun e w' => e = .returned (.bool (clB F link t)) ∧ Ext w w' := by
  obtain ⟨r, hr⟩ : ∃ r, r = clB F link t := ⟨_, rfl⟩
  rw [← hr]
  have CF : Hid (∀ W ba bb, Ext w W → W.cell? ⟨ba, 0, none⟩ = some (.int .i64 link) → W.cell? ⟨bb, 0, none⟩ = some (.int .i64 t) → Calls Try.prog 79 #[v, .func (.func 80) #[] #[.pointer (some ⟨ba, 0, none⟩), .pointer (some ⟨bb, 0, none⟩)]] W fun e w' => e = .returned (.bool (!r)) ∧ Ext W w') := fun W ba bb hX c1 c2 => by
    rw [hr]
    exact c_clearCont v la ha F ba bb (inFog link t) W (h.ext hX hh) fun W2 x hX2 _ => c_clearFn x ba bb link t W2 (hX2.cell c1) (hX2.cell c2)
  obtain ⟨a, cap, rfl, m1, m2⟩ := Row.form h
  clear h hr
  go_enter Try.func59, Try.ntmps59
  go_wp2_with fail
  obtain ⟨W1, hW1⟩ : ∃ W, W = ((w.alloc (.cells #[.int .i64 link] 3)).alloc (.cells #[.int .i64 t] 3)) := ⟨_, rfl⟩
  rw [← hW1]
  have X1 : Ext w W1 := by rw [hW1]; exact ((Ext.refl w).al _).al _
  have B1 : W1.heap[w.heap.size]? = some (.cells #[.int .i64 link] 3) := by rw [hW1]; exact blk_old (blk_alloc _ _)
  have B2 : W1.heap[w.heap.size + 1]? = some (.cells #[.int .i64 t] 3) := by rw [hW1]; exact blk_alloc2 _ _ _
  clear hW1
  refine (CF.out W1 _ _ X1 (blk_cell B1 (j := 0) rfl) (blk_cell B2 (j := 0) rfl)).mono ?_
  rintro e W2 ⟨rfl, X2⟩
  cases r
  all_goals
    go_wp2
    go_ret
    exact ⟨rfl, X1.trans X2⟩
/-! ### The first clear second -/
set_option maxRecDepth 100000 in
set_option maxHeartbeats 1000000 in
theorem c_startAfter (v : Value) (la ha : Nat) (m : Int) (F : List FogT) (link t s : Int) (w : World) (h : Fogs w la ha v F) (hg : ∀ x ∈ F, fgB m x = true) (ht0 : 0 ≤ t) (ht1 : t ≤ 10000) (hs0 : 1 ≤ s) (hs1 : s ≤ 1000) :
    Calls Try.prog 56 #[v, .int .i64 link, .int .i64 t, .int .i64 s] w fun e w' => e = .returned (.int .i64 (stF link s t F)) ∧ Ext w w' := by
  obtain ⟨r, hr⟩ : ∃ r, r = stF link s t F := ⟨_, rfl⟩
  rw [← hr]
  have HR := Lib.hid hr
  clear hr
  obtain ⟨a, cap, rfl, m1, m2⟩ := Row.form h
  have H := Lib.hid h
  have HG := Lib.hid hg
  obtain ⟨n, hn⟩ : ∃ n, n = F.length := ⟨_, rfl⟩
  rw [← hn] at m1 H ⊢
  have HN := Lib.hid hn
  clear h hn hg
  go_enter Try.func56, Try.ntmps56
  go_wp2
  go_loopw [2, 13] (fun tt tk wr => ∃ (k : Nat) (u : Int), k ≤ n ∧ tk = .int .i64 k ∧ tt = .int .i64 u ∧ 0 ≤ u ∧ u ≤ 10000 ∧ Ext w wr ∧ Hid (r = stF link s u (F.drop k))) (fun _ tk _ => n - (intOf tk).toNat)
  case atStart => exact ⟨0, t, by omega, rfl, rfl, ht0, ht1, Ext.refl _, HR.out⟩
  case round =>
    obtain ⟨k, u, hk, rfl, rfl, hu0, hu1, hx, hT⟩ := hrel
    by_cases hlt : k < n
    · obtain ⟨b, o, g, rfl, hg, c0, c1, c2⟩ := Fogs_at H.out hlt
      have hfg := fgB_iff.1 (HG.out g (List.mem_of_getElem? hg.out))
      have hf0 := hfg.f0
      have hft := hfg.ft
      have hf1 := hfg.t1
      have d0 := hx.cell c0
      have d1 := hx.cell c1
      have d2 := hx.cell c2
      have hltI : (k : Int) < (n : Int) := by omega
      clear c0 c1 c2
      have hs := hT.out.trans (stF_drop hg.out u)
      cases e1 : (g.1 == link)
      · have HS : Hid (r = stF link s u (F.drop (k + 1))) := by
          unfold Hid; rw [hs, if_neg (fun h => by rw [h.1] at e1; simp at e1)]
        clear hs
        go_wp2
        go_roundw
        case rel => exact ⟨k + 1, u, by omega, by go_num, rfl, hu0, hu1, hx.trans (Ext.alloc _ _), HS.out⟩
        case measure => simp [intOf]; omega
      · have e1b : g.1 = link := by simpa using e1
        by_cases e2 : u < g.2.2
        · by_cases e3 : g.2.1 < u + s
          · have HS : Hid (r = stF link s g.2.2 (F.drop (k + 1))) := by
              unfold Hid; rw [hs, if_pos ⟨e1b, e2, e3⟩]
            clear hs e1b
            go_wp2
            go_roundw
            case rel => exact ⟨k + 1, g.2.2, by omega, by go_num, rfl, by omega, hf1, hx.trans (Ext.alloc _ _), HS.out⟩
            case measure => simp [intOf]; omega
          · have HS : Hid (r = stF link s u (F.drop (k + 1))) := by
              unfold Hid; rw [hs, if_neg (fun h => e3 h.2.2)]
            have e3b : u + s ≤ g.2.1 := by omega
            clear hs e1b
            go_wp2
            go_roundw
            case rel => exact ⟨k + 1, u, by omega, by go_num, rfl, hu0, hu1, hx.trans (Ext.alloc _ _), HS.out⟩
            case measure => simp [intOf]; omega
        · have HS : Hid (r = stF link s u (F.drop (k + 1))) := by
            unfold Hid; rw [hs, if_neg (fun h => e2 h.2.1)]
          have e2b : g.2.2 ≤ u := by omega
          clear hs e1b
          go_wp2
          go_roundw
          case rel => exact ⟨k + 1, u, by omega, by go_num, rfl, hu0, hu1, hx.trans (Ext.alloc _ _), HS.out⟩
          case measure => simp [intOf]; omega
    · have hge : ¬ ((k : Int) < (n : Int)) := by omega
      have HS : Hid (r = u) := by
        have e := hT.out
        rw [List.drop_eq_nil_of_le (by rw [← HN.out]; omega)] at e
        exact e
      go_wp2
      go_ret
      exact ⟨by rw [HS.out]; rfl, hx⟩
set_option maxRecDepth 100000 in
set_option maxHeartbeats 1000000 in
theorem c_fgStart (v : Value) (la ha : Nat) (m : Int) (F : List FogT) (link t s : Int) (w : World) (h : Fogs w la ha v F) (hg : ∀ x ∈ F, fgB m x = true) (ht0 : 0 ≤ t) (ht1 : t ≤ 10000) (hs0 : 1 ≤ s) (hs1 : s ≤ 1000) :
    Calls Try.prog 53 #[v, .int .i64 link, .int .i64 t, .int .i64 s] w fun e w' => e = .returned (.int .i64 (stF link s t F)) ∧ Ext w w' := by
  obtain ⟨r, hr⟩ : ∃ r, r = stF link s t F := ⟨_, rfl⟩
  rw [← hr]
  have HR := Lib.hid hr
  clear hr
  obtain ⟨a, cap, rfl, m1, m2⟩ := Row.form h
  have H := Lib.hid h
  have HG := Lib.hid hg
  obtain ⟨n, hn⟩ : ∃ n, n = F.length := ⟨_, rfl⟩
  rw [← hn] at m1 H ⊢
  have HN := Lib.hid hn
  clear h hn hg
  go_enter Try.func53, Try.ntmps53
  go_wp2
  go_loopw [2, 13] (fun tt tk wr => ∃ (k : Nat) (u : Int), k ≤ n ∧ tk = .int .i64 k ∧ tt = .int .i64 u ∧ 0 ≤ u ∧ u ≤ 10000 ∧ Ext w wr ∧ Hid (r = stF link s u (F.drop k))) (fun _ tk _ => n - (intOf tk).toNat)
  case atStart => exact ⟨0, t, by omega, rfl, rfl, ht0, ht1, Ext.refl _, HR.out⟩
  case round =>
    obtain ⟨k, u, hk, rfl, rfl, hu0, hu1, hx, hT⟩ := hrel
    by_cases hlt : k < n
    · obtain ⟨b, o, g, rfl, hg, c0, c1, c2⟩ := Fogs_at H.out hlt
      have hfg := fgB_iff.1 (HG.out g (List.mem_of_getElem? hg.out))
      have hf0 := hfg.f0
      have hft := hfg.ft
      have hf1 := hfg.t1
      have d0 := hx.cell c0
      have d1 := hx.cell c1
      have d2 := hx.cell c2
      have hltI : (k : Int) < (n : Int) := by omega
      clear c0 c1 c2
      have hs := hT.out.trans (stF_drop hg.out u)
      cases e1 : (g.1 == link)
      · have HS : Hid (r = stF link s u (F.drop (k + 1))) := by
          unfold Hid; rw [hs, if_neg (fun h => by rw [h.1] at e1; simp at e1)]
        clear hs
        go_wp2
        go_roundw
        case rel => exact ⟨k + 1, u, by omega, by go_num, rfl, hu0, hu1, hx.trans (Ext.alloc _ _), HS.out⟩
        case measure => simp [intOf]; omega
      · have e1b : g.1 = link := by simpa using e1
        by_cases e2 : u < g.2.2
        · by_cases e3 : g.2.1 < u + s
          · have HS : Hid (r = stF link s g.2.2 (F.drop (k + 1))) := by
              unfold Hid; rw [hs, if_pos ⟨e1b, e2, e3⟩]
            clear hs e1b
            go_wp2
            go_roundw
            case rel => exact ⟨k + 1, g.2.2, by omega, by go_num, rfl, by omega, hf1, hx.trans (Ext.alloc _ _), HS.out⟩
            case measure => simp [intOf]; omega
          · have HS : Hid (r = stF link s u (F.drop (k + 1))) := by
              unfold Hid; rw [hs, if_neg (fun h => e3 h.2.2)]
            have e3b : u + s ≤ g.2.1 := by omega
            clear hs e1b
            go_wp2
            go_roundw
            case rel => exact ⟨k + 1, u, by omega, by go_num, rfl, hu0, hu1, hx.trans (Ext.alloc _ _), HS.out⟩
            case measure => simp [intOf]; omega
        · have HS : Hid (r = stF link s u (F.drop (k + 1))) := by
            unfold Hid; rw [hs, if_neg (fun h => e2 h.2.1)]
          have e2b : g.2.2 ≤ u := by omega
          clear hs e1b
          go_wp2
          go_roundw
          case rel => exact ⟨k + 1, u, by omega, by go_num, rfl, hu0, hu1, hx.trans (Ext.alloc _ _), HS.out⟩
          case measure => simp [intOf]; omega
    · have hge : ¬ ((k : Int) < (n : Int)) := by omega
      have HS : Hid (r = u) := by
        have e := hT.out
        rw [List.drop_eq_nil_of_le (by rw [← HN.out]; omega)] at e
        exact e
      go_wp2
      go_ret
      exact ⟨by rw [HS.out]; rfl, hx⟩
set_option maxRecDepth 100000 in
set_option maxHeartbeats 1000000 in
theorem c_fgNext (v : Value) (la ha : Nat) (m : Int) (F : List FogT) (link t : Int) (w : World) (h : Fogs w la ha v F) (hg : ∀ x ∈ F, fgB m x = true) (ht0 : 0 ≤ t) (ht1 : t ≤ 10000) :
    Calls Try.prog 57 #[v, .int .i64 link, .int .i64 t] w fun e w' => e = .returned (.int .i64 (stF link 1 t F)) ∧ Ext w w' := by
  obtain ⟨r, hr⟩ : ∃ r, r = stF link 1 t F := ⟨_, rfl⟩
  rw [← hr]
  have HR := Lib.hid hr
  clear hr
  obtain ⟨a, cap, rfl, m1, m2⟩ := Row.form h
  have H := Lib.hid h
  have HG := Lib.hid hg
  obtain ⟨n, hn⟩ : ∃ n, n = F.length := ⟨_, rfl⟩
  rw [← hn] at m1 H ⊢
  have HN := Lib.hid hn
  clear h hn hg
  go_enter Try.func57, Try.ntmps57
  go_wp2
  go_loopw [2, 11] (fun tt tk wr => ∃ (k : Nat) (u : Int), k ≤ n ∧ tk = .int .i64 k ∧ tt = .int .i64 u ∧ 0 ≤ u ∧ u ≤ 10000 ∧ Ext w wr ∧ Hid (r = stF link 1 u (F.drop k))) (fun _ tk _ => n - (intOf tk).toNat)
  case atStart => exact ⟨0, t, by omega, rfl, rfl, ht0, ht1, Ext.refl _, HR.out⟩
  case round =>
    obtain ⟨k, u, hk, rfl, rfl, hu0, hu1, hx, hT⟩ := hrel
    by_cases hlt : k < n
    · obtain ⟨b, o, g, rfl, hg, c0, c1, c2⟩ := Fogs_at H.out hlt
      have hfg := fgB_iff.1 (HG.out g (List.mem_of_getElem? hg.out))
      have hf0 := hfg.f0
      have hft := hfg.ft
      have hf1 := hfg.t1
      have d0 := hx.cell c0
      have d1 := hx.cell c1
      have d2 := hx.cell c2
      have hltI : (k : Int) < (n : Int) := by omega
      clear c0 c1 c2
      have hs := hT.out.trans (stF_drop hg.out u)
      cases e1 : (g.1 == link)
      · have HS : Hid (r = stF link 1 u (F.drop (k + 1))) := by
          unfold Hid; rw [hs, if_neg (fun h => by rw [h.1] at e1; simp at e1)]
        clear hs
        go_wp2
        go_roundw
        case rel => exact ⟨k + 1, u, by omega, by go_num, rfl, hu0, hu1, hx.trans (Ext.alloc _ _), HS.out⟩
        case measure => simp [intOf]; omega
      · have e1b : g.1 = link := by simpa using e1
        cases e2 : inB g.2.1 (g.2.2 - 1) u
        · have e3 := inB_f e2
          have HS : Hid (r = stF link 1 u (F.drop (k + 1))) := by unfold Hid; rw [hs]; rw [if_neg (fun h => by omega)]
          clear hs e1b
          go_wp2_with (go_at_call 52; refine (l1In_c _ _ _ _).mono ?_; rintro e w' ⟨rfl, rfl⟩)
          go_roundw
          case rel => exact ⟨k + 1, u, by omega, by go_num, rfl, by omega, by omega, hx.trans (Ext.alloc _ _), HS.out⟩
          case measure => simp [intOf]; omega
        · have e3 := inB_t e2
          have HS : Hid (r = stF link 1 g.2.2 (F.drop (k + 1))) := by unfold Hid; rw [hs]; rw [if_pos ⟨e1b, by omega, by omega⟩]
          clear hs e1b
          go_wp2_with (go_at_call 52; refine (l1In_c _ _ _ _).mono ?_; rintro e w' ⟨rfl, rfl⟩)
          go_roundw
          case rel => exact ⟨k + 1, g.2.2, by omega, by go_num, rfl, by omega, by omega, hx.trans (Ext.alloc _ _), HS.out⟩
          case measure => simp [intOf]; omega
    · have hge : ¬ ((k : Int) < (n : Int)) := by omega
      have HS : Hid (r = u) := by
        have e := hT.out
        rw [List.drop_eq_nil_of_le (by rw [← HN.out]; omega)] at e
        exact e
      go_wp2
      go_ret
      exact ⟨by rw [HS.out]; rfl, hx⟩
/-! ### Sums -/
set_option maxRecDepth 100000 in
set_option maxHeartbeats 1000000 in
theorem c_fgSeconds (v : Value) (la ha : Nat) (m : Int) (F : List FogT) (link a0 b0 : Int) (w : World) (h : Fogs w la ha v F) (hg : ∀ x ∈ F, fgB m x = true) (hl : F.length ≤ 60) (ha0 : 0 ≤ a0) (ha1 : a0 ≤ 10000) (hb0 : 0 ≤ b0) (hb1 : b0 ≤ 10000) :
    Calls Try.prog 61 #[v, .int .i64 link, .int .i64 a0, .int .i64 b0] w fun e w' => e = .returned (.int .i64 (secF link a0 b0 F)) ∧ Ext w w' := by
  obtain ⟨r, hr⟩ : ∃ r, r = secF link a0 b0 F := ⟨_, rfl⟩
  rw [← hr]
  have HR := Lib.hid hr
  have HBD : Hid (∀ k, 0 ≤ secF link a0 b0 (F.take k) ∧ secF link a0 b0 (F.take k) ≤ 600000) := fun k => by
    have h1 := secF_bd (link := link) (a := a0) (b := b0) (F := F.take k) (fun x hx => hg x (List.mem_of_mem_take hx))
    have h2 : (F.take k).length ≤ F.length := by rw [List.length_take]; omega
    omega
  clear hr
  obtain ⟨a, cap, rfl, m1, m2⟩ := Row.form h
  have H := Lib.hid h
  have HG := Lib.hid hg
  obtain ⟨n, hn⟩ : ∃ n, n = F.length := ⟨_, rfl⟩
  rw [← hn] at m1 H ⊢
  have HN := Lib.hid hn
  clear h hn hg
  go_enter Try.func61, Try.ntmps61
  go_wp2
  go_loopw [9, 14] (fun tt tk wr => ∃ (k : Nat) (u : Int), k ≤ n ∧ tk = .int .i64 k ∧ tt = .int .i64 u ∧ Ext w wr ∧ Hid (u = secF link a0 b0 (F.take k))) (fun _ tk _ => n - (intOf tk).toNat)
  case atStart => exact ⟨0, 0, by omega, rfl, rfl, Ext.refl _, by simp [Hid, secF]⟩
  case round =>
    obtain ⟨k, u, hk, rfl, rfl, hx, hT⟩ := hrel
    obtain ⟨hu0, hu1⟩ := HBD.out k
    rw [← hT.out] at hu0 hu1
    by_cases hlt : k < n
    · obtain ⟨b, o, g, rfl, hg, c0, c1, c2⟩ := Fogs_at H.out hlt
      have hfg := fgB_iff.1 (HG.out g (List.mem_of_getElem? hg.out))
      have hf0 := hfg.f0
      have hft := hfg.ft
      have hf1 := hfg.t1
      have d0 := hx.cell c0
      have d1 := hx.cell c1
      have d2 := hx.cell c2
      have hltI : (k : Int) < (n : Int) := by omega
      clear c0 c1 c2
      have hs := secF_take (link := link) (a := a0) (b := b0) hg.out
      rw [← hT.out] at hs
      unfold secT at hs
      cases e1 : (g.1 == link)
      · have HS : Hid (u = secF link a0 b0 (F.take (k + 1))) := by
          unfold Hid; rw [hs, if_neg (fun h => by rw [h] at e1; simp at e1)]; omega
        clear hs
        go_wp2
        go_roundw
        case rel => exact ⟨k + 1, u, by omega, by go_num, rfl, hx.trans (Ext.alloc _ _), HS.out⟩
        case measure => simp [intOf]; omega
      · have e1b : g.1 = link := by simpa using e1
        obtain ⟨p, hp⟩ : ∃ p, p = min g.2.2 b0 := ⟨_, rfl⟩
        obtain ⟨q, hq⟩ : ∃ q, q = max g.2.1 a0 := ⟨_, rfl⟩
        obtain ⟨z, hz⟩ : ∃ z, z = max 0 (p - q) := ⟨_, rfl⟩
        have HS : Hid (u + z = secF link a0 b0 (F.take (k + 1))) := by
          unfold Hid; rw [hs, if_pos e1b, hz, hp, hq]
        have hp0 : 0 ≤ p := by omega
        have hp1 : p ≤ 10000 := by omega
        have hq0 : 0 ≤ q := by omega
        have hq1 : q ≤ 10000 := by omega
        have hz0 : 0 ≤ z := by omega
        have hz1 : z ≤ 10000 := by omega
        have CP : Hid (∀ W, Calls Try.prog 82 #[.int .i64 g.2.2, .int .i64 b0] W fun e w' => e = .returned (.int .i64 p) ∧ W = w') := fun W => by rw [hp]; exact c_l1Least _ _ W
        have CQ : Hid (∀ W, Calls Try.prog 81 #[.int .i64 g.2.1, .int .i64 a0] W fun e w' => e = .returned (.int .i64 q) ∧ W = w') := fun W => by rw [hq]; exact c_l1Most _ _ W
        have CZ : Hid (∀ W, Calls Try.prog 81 #[.int .i64 0, .int .i64 (p - q)] W fun e w' => e = .returned (.int .i64 z) ∧ W = w') := fun W => by rw [hz]; exact c_l1Most _ _ W
        clear hs e1b hp hq hz
        go_wp2_with fail
        have G1 : (wr.alloc (.cells #[.int .i64 g.1, .int .i64 g.2.1, .int .i64 g.2.2] 65)).cell? ⟨wr.heap.size, 1, none⟩ = some (.int .i64 g.2.1) := box_cell wr _ _ 1 _ rfl
        have G2 : (wr.alloc (.cells #[.int .i64 g.1, .int .i64 g.2.1, .int .i64 g.2.2] 65)).cell? ⟨wr.heap.size, 2, none⟩ = some (.int .i64 g.2.2) := box_cell wr _ _ 2 _ rfl
        have GX := hx.trans (Ext.alloc wr (.cells #[.int .i64 g.1, .int .i64 g.2.1, .int .i64 g.2.2] 65))
        generalize wr.alloc (.cells #[.int .i64 g.1, .int .i64 g.2.1, .int .i64 g.2.2] 65) = w2 at *
        have gg1 := XT.cell G1
        have gg2 := XT.cell G2
        clear G1 G2 d0 d1 d2
        refine region_ext (by kernel_rfl) (by kernel_rfl) ?_
        repeat (go_big_quiet_step ((first | (go_at_call 82; refine Calls.ext_same (CP.out _)) | (go_at_call 81; with_reducible (first | refine Calls.ext_same (CQ.out _) | refine Calls.ext_same (CZ.out _))))))
        refine wpQuiet_nil ?_
        intro wq hxq
        go_wp2
        go_roundw
        case rel => exact ⟨k + 1, u + z, by omega, by go_num, rfl, GX.trans hxq, HS.out⟩
        case measure => simp [intOf]; omega
    · have hge : ¬ ((k : Int) < (n : Int)) := by omega
      have HS : Hid (r = u) := by
        unfold Hid
        rw [HR.out, hT.out, List.take_of_length_le (by rw [← HN.out]; omega)]
      go_wp2
      go_ret
      exact ⟨by rw [HS.out]; rfl, hx⟩
end Go.Proofs.Ytngnagicgheenaa
