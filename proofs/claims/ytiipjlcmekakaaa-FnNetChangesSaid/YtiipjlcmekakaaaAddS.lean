
/- AddLink of the reference: its contract. -/
import Derived.Test.YtiipjlcmekakaaaAddO
import Derived.Test.YtiipjlcmekakaaaNeGood
import Derived.Deep.RegionHeld3
import Derived.Deep.DeepCutAuto
import Derived.Deep.CutBlock
namespace Go.Proofs.Ytiipjlcmekakaaa
open Go.RowKit
set_option linter.unusedSimpArgs false
set_option linter.unusedVariables false
/-- Where a link is put. -/
def adK (y : LinkT) : List LinkT → Nat
  | [] => 0
  | z :: r => if befL z y then adK y r + 1 else 0
def adN (x : NetT) (y : LinkT) : NetT := (x.1, x.2.take (adK y x.2) ++ [y] ++ x.2.drop (adK y x.2))
def adOk (x : NetT) (y : LinkT) : Bool := netB x && netB (adN x y)
def adV (x : NetT) (y : LinkT) : NetT := if adOk x y then adN x y else ([], [])
theorem adK_le (y : LinkT) : ∀ L, adK y L ≤ L.length
  | [] => Nat.le_refl _
  | z :: r => by unfold adK; split <;> simp; have := adK_le y r; omega
theorem adK_lt {y : LinkT} : ∀ {L : List LinkT} {k : Nat} {z : LinkT}, k < adK y L → L[k]? = some z → befL z y = true
  | [], k, z, h, _ => by simp [adK] at h
  | z :: r, 0, z', h, hz => by
    unfold adK at h
    simp at hz; subst hz
    split at h
    · assumption
    · omega
  | z :: r, k + 1, z', h, hz => by
    unfold adK at h
    split at h
    · exact adK_lt (L := r) (k := k) (by omega) (by simpa using hz)
    · omega
theorem adK_at {y : LinkT} : ∀ {L : List LinkT} {z : LinkT}, L[adK y L]? = some z → befL z y = false
  | [], z, h => by simp [adK] at h
  | z :: r, z', h => by
    unfold adK at h
    by_cases hb : befL z y = true
    · rw [if_pos hb] at h
      exact adK_at (L := r) (by simpa using h)
    · rw [if_neg hb] at h
      simp at h; subst h
      simpa using hb
theorem run_append_empty9 {P : Program} {w : World} (base : Nat) (t ty e : TypeId) (i : TypeInfo) (size : Nat) (ht : P.underlying t = some (.slice e)) (hi : P.info? e = some i) (v : Value) (n cap : Nat) (s0 : Option Addr) (xs : List Value) (hown : w.ownsRow base e size v n xs) :
    (Builtin.append_ #[t, t] ty #[v, .slice s0 0 cap]).run P w = .ok v w := by
  have hl : ∀ (x : Addr), (loadCells x 0).run P w = .ok #[] w := fun x => by simpa using run_loadCells_list (P := P) w x [] (by simp)
  rcases hown.2 with ⟨rfl, rfl⟩ | ⟨g, c9, cur, rfl, _, _, hnc, _⟩
  · cases s0 <;> simp [Builtin.append_, run_underlying ht, sizeOf, typeInfo, hi, Builtin.lenOf, Builtin.firstCells, hl]
  · cases s0 <;> simp [Builtin.append_, run_underlying ht, sizeOf, typeInfo, hi, Builtin.lenOf, Builtin.firstCells, hnc, storeCells, hl]
/-- Nothing is appended to a list of the call's own. -/
theorem step_append_empty9 {P : Program} {ops : Array Oper} {Q : Exit → Act → World → Prop} {o : Oper} {a : Act} {w : World} {K : Act → World → Prop} {E : Prop}
    (hg : o.guard = none) (s x : Operand) (t : TypeId) (ho : o.op = Op.call { callee := Callee.builtin Builtin.append, args := #[s, x], argTypes := #[t, t] })
    (base : Nat) (e : TypeId) (i : TypeInfo) (size : Nat) (ht : P.underlying t = some (.slice e)) (hi : P.info? e = some i)
    (v : Value) (n : Nat) (xs : List Value) (hs : a.eval s = v) (hown : w.ownsRow base e size v n xs) (hx : ∃ s0 cap, a.eval x = .slice s0 0 cap)
    (hK : K (a.put o.dst v) w) :
    if Region.wanted o (yielded ops a.tmps) = true then Oper.wp P o a w K Q else E := by
  obtain ⟨s0, cap, hx⟩ := hx
  have hw : Region.wanted o (yielded ops a.tmps) = true := by simp [Region.wanted, hg]
  rw [if_pos hw]
  have hrun := run_append_empty9 (P := P) (w := w) base t o.type e i size ht hi v n cap s0 xs hown
  unfold Oper.wp execOp
  simp only [ho, resolve, invoke, builtin, Sem.run_bind, Sem.run_pure, Result.andThen_ok, List.map_toArray, List.map_cons, List.map_nil, hs, hx, hrun]
  exact hK
theorem keep_setj9 (w : World) (b j : Nat) (v : Value) : Keep b (b + 1) w (w.setCell ⟨b, j, none⟩ v) :=
  ⟨rfl, rfl, rfl, by simp [World.setCell], fun k _ hk => heap_setCell_other _ _ _ _ (by show k ≠ b; omega)⟩
theorem own_setne {w : World} {base sz n b j : Nat} {e : TypeId} {v z : Value} {xs : List Value} (h : w.ownsRow base e sz v n xs) (hb : v.ownBlock ≠ some b) : (w.setCell ⟨b, j, none⟩ z).ownsRow base e sz v n xs := by
  refine ⟨h.1, h.2.elim Or.inl ?_⟩
  rintro ⟨g, cap, cur, rfl, hg, hh, r⟩
  have hne : g ≠ b := fun e => hb (by rw [e]; rfl)
  exact Or.inr ⟨g, cap, cur, rfl, hg, by rw [heap_setCell_other _ _ _ _ (by show g ≠ b; exact hne)]; exact hh, r⟩
theorem grown_old9 {W w7 : World} {row : Option Nat} (hg : W.grownBy w7 row) {b : Nat} {o : Obj} (hb : W.heap[b]? = some o) (hr : row ≠ some b) : w7.heap[b]? = some o := by
  rw [hg.block b (Array.getElem?_eq_some_iff.1 hb).1 (fun e => hr e.symm)]; exact hb
theorem lit_cells3 {w : World} {b : Nat} {x y z : Value} {t : TypeId} (h : w.heap[b]? = some (.cells #[x, y, z] t (0, 0))) : ∀ j u, ([x, y, z] : List Value)[j]? = some u → w.cell? ((⟨b, 0, none⟩ : Addr).add j) = some u := by
  intro j u hj
  match j, hj with
  | 0, hj => exact blk_cell h (by simpa using hj)
  | 1, hj => exact blk_cell h (by simpa using hj)
  | 2, hj => exact blk_cell h (by simpa using hj)
  | j + 3, hj => simp at hj
theorem link_addr {w : World} {lo hi b o l cb K : Nat} {L : List LinkT} (h : Row encLink 3 w lo hi (.slice (some ⟨b, o, none⟩) l cb) L) (h0 : 0 < l) (hK : K ≤ l) : ∃ ad : Addr, (if cb = K then (some ⟨b, o, none⟩ : Option Addr) else some ⟨b, o + K * 3, none⟩) = some ad ∧
    ∀ W, Ext w W → ∀ t u, ((L.drop K).flatMap encLink)[t]? = some u → W.cell? (ad.add t) = some u := by
  have hsrc := row_src encLink_len h h0
  by_cases hc : cb = K
  · refine ⟨⟨b, o, none⟩, by rw [if_pos hc], fun W hX t u hu => ?_⟩
    obtain ⟨_, _, e, h1, _⟩ := h
    simp only [Value.slice.injEq] at e
    rw [List.drop_of_length_le (by omega)] at hu
    simp at hu
  · refine ⟨⟨b, o + K * 3, none⟩, by rw [if_neg hc], fun W hX t u hu => ?_⟩
    rw [add_lit1, show o + K * 3 + t = o + (K * 3 + t) by omega]
    refine hX.cell (hsrc _ u ?_)
    rw [← List.take_append_drop K L, List.flatMap_append, List.getElem?_append_right (by rw [flat_len encLink_len, List.length_take]; omega), flat_len encLink_len, List.length_take]
    have hl : L.length = l := by
      obtain ⟨_, _, e, _⟩ := h
      simp only [Value.slice.injEq] at e
      exact e.2.1.symm
    rw [show min K L.length = K by omega, show K * 3 + t - K * 3 = t by omega]
    exact hu
set_option maxRecDepth 100000 in
set_option maxHeartbeats 4000000 in
theorem c_sAddLink (v : Value) (la ha : Nat) (x : NetT) (y : LinkT) (w : World) (h : Nets w la ha v x) (hh : ha ≤ w.heap.size) :
    Calls Try.prog 10 #[v, .agg #[.int .i64 y.1, .int .i64 y.2.1, .int .i64 y.2.2]] w fun e w' => ∃ r, e = .returned (.tuple #[r, .bool (adOk x y)]) ∧ OwnNet w' w.heap.size w'.heap.size r (adV x y) ∧ Ext w w' := by
  obtain ⟨l0, hl0, hlz0, hlz1, hlz2⟩ := info_parts Try.info_link
  obtain ⟨ok, hok⟩ : ∃ k, k = adOk x y := ⟨_, rfl⟩
  obtain ⟨V, hV⟩ : ∃ V, V = adV x y := ⟨_, rfl⟩
  rw [← hok, ← hV]
  have HOK : Hid (ok = (netB x && netB (adN x y))) := hok
  have HV0 : Hid (ok = false → V = ([], [])) := fun e => by rw [hV, adV, ← hok, e]; rfl
  have HV1 : Hid (ok = true → V = adN x y) := fun e => by rw [hV, adV, ← hok, e]; rfl
  clear hok hV
  obtain ⟨a, ca, b, cb, rfl, _, _⟩ := h.form
  obtain ⟨hT, hL⟩ := h.parts
  obtain ⟨y1, y2, y3⟩ := y
  obtain ⟨q, hq⟩ : ∃ q, q = netB x := ⟨_, rfl⟩
  have CG : Hid (∀ W, Ext w W → Calls Try.prog 44 #[.agg #[.slice a x.1.length ca, .slice b x.2.length cb]] W fun e w' => e = .returned (.bool q) ∧ Ext W w') := fun W hX => by rw [hq]; exact c_neGood _ la ha x W (h.ext hX hh) (Nat.le_trans hh hX.size)
  have HNET : Hid (∀ W, Ext w W → Nets W la ha (.agg #[.slice a x.1.length ca, .slice b x.2.length cb]) x) := fun W hX => h.ext hX hh
  have HQ := Lib.hid hq
  have HL := Lib.hid hL
  obtain ⟨W1, hW1⟩ : ∃ W, W = (((w.alloc (.cells #[.slice a x.1.length ca, .slice b x.2.length cb] 27)).alloc (.cells #[.int .i64 y1, .int .i64 y2, .int .i64 y3] 29)).alloc (.cells #[.slice none 0 0, .slice none 0 0] 27)) := ⟨_, rfl⟩
  have X1 : Hid (Ext w W1) := by unfold Hid; rw [hW1]; exact (((Ext.refl w).al _).al _).al _
  have B1 : Hid (W1.heap[w.heap.size]? = some (.cells #[.slice a x.1.length ca, .slice b x.2.length cb] 27)) := by unfold Hid; rw [hW1]; exact blk_old (blk_old (blk_alloc _ _))
  have B2 : Hid (W1.heap[w.heap.size + 1]? = some (.cells #[.int .i64 y1, .int .i64 y2, .int .i64 y3] 29)) := by unfold Hid; rw [hW1]; exact blk_old (blk_alloc2 _ _ _)
  have B3 : Hid (W1.heap[w.heap.size + 2]? = some (.cells #[.slice none 0 0, .slice none 0 0] 27)) := by unfold Hid; rw [hW1]; exact blk_alloc3 _ _ _ _
  have s1 : W1.heap.size = w.heap.size + 3 := by rw [hW1, size_alloc, size_alloc, size_alloc]
  have HW1 := Lib.hid hW1
  obtain ⟨m, hm⟩ : ∃ n, n = x.1.length := ⟨_, rfl⟩
  obtain ⟨l, hl⟩ : ∃ n, n = x.2.length := ⟨_, rfl⟩
  rw [← hm, ← hl] at CG HNET B1 HW1 ⊢
  rw [← hl] at HL
  have HM := Lib.hid hm
  have HLL := Lib.hid hl
  clear hW1 h hT hL hq hm hl
  go_enter Try.func10, Try.ntmps10
  go_upto_region 1 with fail
  rw [← HW1.out]
  have k0 := blk_cell B1.out (j := 0) (v := .slice a m ca) rfl
  have k1 := blk_cell B1.out (j := 1) (v := .slice b l cb) rfl
  go_wp2_with fail
  refine (CG.out _ X1.out).mono ?_
  rintro e w2 ⟨rfl, hx2⟩
  clear k0 k1 HW1
  have X2 := Lib.hid (X1.out.trans hx2)
  have hs20 : w.heap.size + 3 ≤ w2.heap.size := by have := hx2.size; omega
  have B1 := Lib.hid (hx2.blk B1.out)
  have B2 := Lib.hid (hx2.blk B2.out)
  have B3 := Lib.hid (hx2.blk B3.out)
  clear hx2
  cases q
  · obtain rfl : ok = false := by rw [HOK.out, ← HQ.out]; rfl
    have HZ := Lib.hid (HV0.out rfl)
    have z0 := blk_cell B3.out (j := 0) (v := .slice none 0 0) rfl
    have z1 := blk_cell B3.out (j := 1) (v := .slice none 0 0) rfl
    have f0 := blk_free B3.out 0
    have f1 := blk_free B3.out 1
    go_wp2
    refine bodyPost_ret (v := .tuple #[.agg #[.slice none 0 0, .slice none 0 0], .bool false]) (by simp [results, Try.results10, go_sem, z0, z1]) rfl ⟨_, rfl, ?_, (X2.out.st (p := ⟨w.heap.size + 2, 0, none⟩) (by dsimp only; omega) _).st (p := ⟨w.heap.size + 2, 1, none⟩) (by dsimp only; omega) _⟩
    rw [HZ.out]
    exact ⟨_, _, rfl, ⟨World.ownsRow_nil _ _ _ _, fun q hq => by simp [Value.ownBlock] at hq⟩, ⟨World.ownsRow_nil _ _ _ _, fun q hq => by simp [Value.ownBlock] at hq⟩, fun q hq => by simp [Value.ownBlock] at hq⟩
  · have k0 := blk_cell B1.out (j := 0) (v := .slice a m ca) rfl
    have k1 := blk_cell B1.out (j := 1) (v := .slice b l cb) rfl
    have hl40 : l ≤ 40 := by rw [HLL.out]; exact net_links HQ.out.symm
    have hm16 : m ≤ 16 := by
      have hb := HQ.out.symm
      simp only [netB, Bool.and_eq_true] at hb
      have := inB_t hb.1
      have := HM.out
      omega
    have CO : Hid (Calls Try.prog 45 #[.agg #[.slice a m ca, .slice b l cb]] w2 fun e w' => ∃ r, e = .returned r ∧ OwnNet w' w2.heap.size w'.heap.size r x ∧ Ext w2 w') := c_neOwn _ la ha x w2 (HNET.out _ X2.out) (Nat.le_trans hh X2.out.size) (by rw [← HM.out]; omega) (by rw [← HLL.out]; omega)
    go_wp2_with fail
    refine CO.out.mono ?_
    rintro e w3 ⟨r3, rfl, ho3, hx3⟩
    obtain ⟨vt, vl, rfl, hoT, hoL, hoD⟩ := ho3
    obtain ⟨at3, ct3, rfl, _, _, _⟩ := own_form hoT.own
    obtain ⟨al3, cl3, rfl, _, _, _⟩ := own_form hoL.own
    have HT3 : Hid (w3.ownsRow w2.heap.size 75 3 (.slice at3 m ct3) m (x.1.flatMap encTower)) := by unfold Hid; rw [HM.out]; exact hoT.own
    have HL3 : Hid (w3.ownsRow w2.heap.size 29 3 (.slice al3 l cl3) l (x.2.flatMap encLink)) := by unfold Hid; rw [HLL.out]; exact hoL.own
    rw [← HM.out, ← HLL.out]
    have hs30 : w.heap.size + 3 ≤ w3.heap.size := by have := hx3.size; omega
    have hs2_3 : w2.heap.size ≤ w3.heap.size := hx3.size
    have X3 := Lib.hid (X2.out.trans hx3)
    have B1 := Lib.hid (hx3.blk B1.out)
    have B2 := Lib.hid (hx3.blk B2.out)
    have B3 := Lib.hid (hx3.blk B3.out)
    clear hx3 hoT hoL hoD CO k0 k1
    go_upto_block 0 with fail
    obtain ⟨w4, hw4⟩ : ∃ W, W = w3.alloc (.cells #[.slice at3 m ct3, .slice al3 l cl3] 27) := ⟨_, rfl⟩
    rw [← hw4]
    have hx4 : Ext w3 w4 := by rw [hw4]; exact Ext.alloc _ _
    have B6 : Hid (w4.heap[w3.heap.size]? = some (.cells #[.slice at3 m ct3, .slice al3 l cl3] 27)) := by unfold Hid; rw [hw4]; exact blk_alloc _ _
    have X4 := Lib.hid (X3.out.trans hx4)
    have B1 := Lib.hid (hx4.blk B1.out)
    have B2 := Lib.hid (hx4.blk B2.out)
    have B3 := Lib.hid (hx4.blk B3.out)
    have HT4 := Lib.hid (own_ext HT3.out hx4)
    clear hw4 hx4 HL3
    obtain ⟨K, hK⟩ : ∃ K, K = adK (y1, y2, y3) x.2 := ⟨_, rfl⟩
    have hKl : K ≤ l := by rw [hK, HLL.out]; exact adK_le _ _
    have HKK := Lib.hid hK
    clear hK
    go_cut [7] from 14 to 29 (fun v wx => v = .int .i64 (K : Int) ∧ Ext w4 wx)
    case first =>
      go_wp2_with fail
      go_loopg [7] 41 (fun gg v wr => ∃ k : Nat, v = .int .i64 k ∧ k ≤ K ∧ K ≤ k + gg ∧ Ext w4 wr)
      case atStart => exact ⟨0, rfl, by omega, by omega, Ext.refl _⟩
      case round =>
        obtain ⟨k, rfl, hk, hkg, hxr⟩ := hrel
        have B1r := Lib.hid (hxr.blk B1.out)
        have B2r := Lib.hid (hxr.blk B2.out)
        have n1 := blk_cell B1r.out (j := 1) (v := .slice b l cb) rfl
        have p0 := blk_cell B2r.out (j := 0) (v := .int .i64 y1) rfl
        have p1 := blk_cell B2r.out (j := 1) (v := .int .i64 y2) rfl
        have p2 := blk_cell B2r.out (j := 2) (v := .int .i64 y3) rfl
        by_cases hkl : k < l
        · obtain ⟨b9, o9, z, rfl, hz, c0, c1, c2⟩ := Links_at (HL.out.ext (X4.out.trans hxr) hh) hkl
          obtain ⟨z1, z2, z3⟩ := z
          simp only at c0 c1 c2
          have hklI : (k : Int) < (l : Int) := by omega
          have hk0I : (0 : Int) ≤ (k : Int) := by omega
          obtain ⟨bf, hbf⟩ : ∃ t, t = befL (z1, z2, z3) (y1, y2, y3) := ⟨_, rfl⟩
          have CB : Hid (∀ W, Calls Try.prog 46 #[.agg #[.int .i64 z1, .int .i64 z2, .int .i64 z3], .agg #[.int .i64 y1, .int .i64 y2, .int .i64 y3]] W fun e w' => e = .returned (.bool bf) ∧ Ext W w') := fun W => by rw [hbf]; exact c_neBefore (z1, z2, z3) (y1, y2, y3) W
          have HBF := Lib.hid hbf
          clear hbf
          go_upto_region 5 with fail
          go_region_held3 (fun w' => Ext wr w' ∧ w'.cell? ⟨w.heap.size, 1, none⟩ = some (.slice (some ⟨b9, o9, none⟩) l cb) ∧ w'.cell? ⟨w.heap.size + 1, 0, none⟩ = some (.int .i64 y1) ∧ w'.cell? ⟨w.heap.size + 1, 1, none⟩ = some (.int .i64 y2) ∧ w'.cell? ⟨w.heap.size + 1, 2, none⟩ = some (.int .i64 y3) ∧ w'.cell? ⟨b9, o9 + k * 3, none⟩ = some (.int .i64 z1) ∧ w'.cell? ⟨b9, o9 + k * 3 + 1, none⟩ = some (.int .i64 z2) ∧ w'.cell? ⟨b9, o9 + k * 3 + 2, none⟩ = some (.int .i64 z3))
            (first | exact ⟨Ext.drew _, n1, p0, p1, p2, c0, c1, c2⟩ | exact ⟨hxs, hxs.cell n1, hxs.cell p0, hxs.cell p1, hxs.cell p2, hxs.cell c0, hxs.cell c1, hxs.cell c2⟩)
            (first | (go_at_call 46; refine (CB.out _).mono ?_; rintro e w5 ⟨rfl, hx5⟩; have hxs := (Ext.drew wr).trans hx5))
          cases bf
          · have hkK : k = K := by
              rcases Nat.lt_or_ge k K with h9 | h9
              · have := adK_lt (y := (y1, y2, y3)) (by rw [← HKK.out]; exact h9) hz.out
                rw [← HBF.out] at this; cases this
              · omega
            subst hkK
            go_wp2
            go_meet
            case rel => exact ⟨rfl, hxr.trans hxs⟩
          · have hkK : k < K := by
              rcases Nat.lt_or_ge k K with h9 | h9
              · exact h9
              · have h8 : k = adK (y1, y2, y3) x.2 := by rw [← HKK.out]; omega
                have := adK_at (y := (y1, y2, y3)) (by rw [← h8]; exact hz.out)
                rw [← HBF.out] at this; cases this
            go_wp2
            go_roundg (K - (k + 1))
            case measure => omega
            case rel => exact ⟨k + 1, by go_num, by omega, by omega, hxr.trans hxs⟩
        · have hkK : k = K := by omega
          subst hkK
          have hklI : ¬ (k : Int) < (l : Int) := by omega
          have hklb : decide ((k : Int) < (l : Int)) = false := decide_eq_false hklI
          have hkln : decide (k < l) = false := decide_eq_false (by omega)
          clear p0 p1 p2 B2r
          go_upto_region 5 with fail
          have N1 := XT.cell n1
          clear n1
          refine region_ext (by kernel_rfl) (by kernel_rfl) ?_
          repeat (go_big_quiet_step (fail))
          refine wpQuiet_nil ?_
          intro wq hxq
          go_wp2
          go_meet
          case rel => exact ⟨rfl, hxr.trans hxq⟩
    case rest =>
      obtain ⟨rfl, hxc⟩ := hcut
      have X5 := Lib.hid (X4.out.trans hxc)
      have B1 := Lib.hid (hxc.blk B1.out)
      have B2 := Lib.hid (hxc.blk B2.out)
      have B3 := Lib.hid (hxc.blk B3.out)
      have B6 := Lib.hid (hxc.blk B6.out)
      have HT5 := Lib.hid (own_ext HT4.out hxc)
      have hs3c : w3.heap.size < wc.heap.size := (Array.getElem?_eq_some_iff.1 B6.out).1
      have hs33 : w.heap.size + 3 ≤ w3.heap.size := hs30
      clear hxc HT4
      go_upto_region 7 with fail
      by_cases hl0' : 0 < l
      · obtain ⟨b9, o9, z, rfl, _, _, _, _⟩ := Links_at HL.out hl0'
        have hsrc := row_src encLink_len HL.out hl0'
        have RA : Hid (∀ W, Ext w W → ∀ t u, ((x.2.take K).flatMap encLink)[t]? = some u → W.cell? ((⟨b9, o9, none⟩ : Addr).add t) = some u) := fun W hX t u hu => by
          rw [add_lit1]
          refine hX.cell (hsrc t u ?_)
          rw [flat_take encLink_len, List.getElem?_take] at hu
          split at hu
          · exact hu
          · cases hu
        obtain ⟨ad, had, hcl⟩ := link_addr HL.out hl0' hKl
        have HCL := Lib.hid hcl
        clear hsrc hcl
        obtain ⟨wd, hwd⟩ : ∃ W, W = wc.drew := ⟨_, rfl⟩
        have XD : Hid (Ext wc wd) := by unfold Hid; rw [hwd]; exact Ext.drew _
        have hKlI : (K : Int) ≤ (l : Int) := by omega
        have hcbl : l ≤ cb := by
          obtain ⟨_, _, e, h1, _⟩ := HL.out
          simp only [Value.slice.injEq] at e
          omega
        have hKcI : (K : Int) ≤ (cb : Int) := by omega
        have hlcI : (l : Int) ≤ (cb : Int) := by omega
        have hK0I : (0 : Int) ≤ (K : Int) := by omega
        have HS : Hid (∀ W, Ext wc W → W.cell? ⟨w.heap.size, 1, none⟩ = some (.slice (some ⟨b9, o9, none⟩) l cb) ∧ W.cell? ⟨w.heap.size + 1, 0, none⟩ = some (.int .i64 y1) ∧ W.cell? ⟨w.heap.size + 1, 1, none⟩ = some (.int .i64 y2) ∧ W.cell? ⟨w.heap.size + 1, 2, none⟩ = some (.int .i64 y3)) := fun W hX => ⟨hX.cell (blk_cell B1.out (j := 1) rfl), hX.cell (blk_cell B2.out (j := 0) rfl), hX.cell (blk_cell B2.out (j := 1) rfl), hX.cell (blk_cell B2.out (j := 2) rfl)⟩
        refine wp_region_E (S := fun W => W.cell? ⟨w.heap.size, 1, none⟩ = some (.slice (some ⟨b9, o9, none⟩) l cb) ∧ W.cell? ⟨w.heap.size + 1, 0, none⟩ = some (.int .i64 y1) ∧ W.cell? ⟨w.heap.size + 1, 1, none⟩ = some (.int .i64 y2) ∧ W.cell? ⟨w.heap.size + 1, 2, none⟩ = some (.int .i64 y3)) (by kernel_rfl) ?_
        rw [← hwd]
        clear hwd
        have hSS : (fun W : World => W.cell? ⟨w.heap.size, 1, none⟩ = some (.slice (some ⟨b9, o9, none⟩) l cb) ∧ W.cell? ⟨w.heap.size + 1, 0, none⟩ = some (.int .i64 y1) ∧ W.cell? ⟨w.heap.size + 1, 1, none⟩ = some (.int .i64 y2) ∧ W.cell? ⟨w.heap.size + 1, 2, none⟩ = some (.int .i64 y3)) wd := HS.out _ XD.out
        refine wpAnyE_take (i := 1) (v := ?_) rfl (by kernel_rfl) (by kernel_rfl) (by kernel_rfl) (fun _ _ _ h => h) (Or.inl ⟨by rfl, ?_⟩) (by assumption) ?_
        rotate_left 1
        focus (intro W hSW; (try dsimp only at hSW); go_simp; try with_reducible rfl)
        (try simp only [Act.put, List.setIfInBounds_toArray, List.set_cons_zero, List.set_cons_succ])
        refine wpAnyE_take (i := 2) (v := ?_) rfl (by kernel_rfl) (by kernel_rfl) (by kernel_rfl) (fun _ _ _ h => h) (Or.inl ⟨by rfl, ?_⟩) (by assumption) ?_
        rotate_left 1
        focus (intro W hSW; (try dsimp only at hSW); go_simp; try with_reducible rfl)
        (try simp only [Act.put, List.setIfInBounds_toArray, List.set_cons_zero, List.set_cons_succ])
        refine wpAnyE_take (i := 3) (v := ?_) rfl (by kernel_rfl) (by kernel_rfl) (by kernel_rfl) (fun _ _ _ h => h) (Or.inl ⟨by rfl, ?_⟩) (by assumption) ?_
        rotate_left 1
        focus (intro W hSW; (try dsimp only at hSW); go_simp; try with_reducible rfl)
        (try simp only [Act.put, List.setIfInBounds_toArray, List.set_cons_zero, List.set_cons_succ])
        refine wpAnyE_take (i := 4) (v := ?_) rfl (by kernel_rfl) (by kernel_rfl) (by kernel_rfl) (fun _ _ _ h => h) (Or.inl ⟨by rfl, ?_⟩) (by assumption) ?_
        rotate_left 1
        focus (intro W hSW; (try dsimp only at hSW); go_simp; try with_reducible rfl)
        (try simp only [Act.put, List.setIfInBounds_toArray, List.set_cons_zero, List.set_cons_succ])
        refine wpAnyE_take (i := 6) (v := ?_) rfl (by kernel_rfl) (by kernel_rfl) (by kernel_rfl) (fun _ _ _ h => h) (Or.inl ⟨by rfl, ?_⟩) (by assumption) ?_
        rotate_left 1
        focus (intro W hSW; (try dsimp only at hSW); go_simp; try with_reducible rfl)
        (try simp only [Act.put, List.setIfInBounds_toArray, List.set_cons_zero, List.set_cons_succ])
        refine wpAnyE_take (i := 9) (v := ?_) rfl (by kernel_rfl) (by kernel_rfl) (by kernel_rfl) (fun _ _ _ h => h) (Or.inl ⟨by rfl, ?_⟩) (by assumption) ?_
        rotate_left 1
        focus (intro W hSW; (try dsimp only at hSW); go_simp; try with_reducible rfl)
        (try simp only [Act.put, List.setIfInBounds_toArray, List.set_cons_zero, List.set_cons_succ])
        refine wpAnyE_take (i := 10) (v := ?_) rfl (by kernel_rfl) (by kernel_rfl) (by kernel_rfl) (fun _ _ _ h => h) (Or.inl ⟨by rfl, ?_⟩) (by assumption) ?_
        rotate_left 1
        focus (intro W hSW; (try dsimp only at hSW); go_simp; try with_reducible rfl)
        (try simp only [Act.put, List.setIfInBounds_toArray, List.set_cons_zero, List.set_cons_succ])
        refine wpAnyE_take (i := 11) (v := ?_) rfl (by kernel_rfl) (by kernel_rfl) (by kernel_rfl) (fun _ _ _ h => h) (Or.inl ⟨by rfl, ?_⟩) (by assumption) ?_
        rotate_left 1
        focus (intro W hSW; (try dsimp only at hSW); go_simp; try with_reducible rfl)
        (try simp only [Act.put, List.setIfInBounds_toArray, List.set_cons_zero, List.set_cons_succ])
        refine wpAnyE_take (i := 12) (v := ?_) rfl (by kernel_rfl) (by kernel_rfl) (by kernel_rfl) (fun _ _ _ h => h) (Or.inl ⟨by rfl, ?_⟩) (by assumption) ?_
        rotate_left 1
        focus (intro W hSW; (try dsimp only at hSW); go_simp; try with_reducible rfl)
        (try simp only [Act.put, List.setIfInBounds_toArray, List.set_cons_zero, List.set_cons_succ])
        clear had
        refine wpAnyE_pair (i := 0) (j := 7) (by kernel_rfl) rfl rfl (fun K9 hK => ?_) (fun K9 hK => ?_)
        ·
          have HK := Lib.hid hK
          clear hK
          go_simp
          obtain ⟨wa, hw9⟩ : ∃ W, W = (wd).alloc (.cells #[] 29) := ⟨_, rfl⟩
          rw [← hw9]
          obtain ⟨pL, hp9⟩ : ∃ p, p = (wd).heap.size := ⟨_, rfl⟩
          rw [← hp9]
          have HL0 : Hid ((wa).ownsRow pL 29 3 (.slice (some ⟨pL, 0, none⟩) 0 0) 0 []) := by unfold Hid; rw [hw9, hp9]; exact own_lit3 wd 29
          have hx9 : Ext wd wa := by rw [hw9]; exact Ext.alloc _ _
          have XA := Lib.hid ((XD).out.trans hx9)
          have hpL : wc.heap.size ≤ pL := by rw [hp9]; exact (XD).out.size
          try (have hne : pY ≠ pL := by (have := (Array.getElem?_eq_some_iff.1 HY.out).1; omega))
          try (have g9 := Lib.hid (hx9.blk HY.out); clear HY; have HY := g9; clear g9)
          clear hSS hw9 hp9 hx9
          have hSS : (fun W : World => W.cell? ⟨w.heap.size, 1, none⟩ = some (.slice (some ⟨b9, o9, none⟩) l cb) ∧ W.cell? ⟨w.heap.size + 1, 0, none⟩ = some (.int .i64 y1) ∧ W.cell? ⟨w.heap.size + 1, 1, none⟩ = some (.int .i64 y2) ∧ W.cell? ⟨w.heap.size + 1, 2, none⟩ = some (.int .i64 y3)) wa := HS.out _ XA.out
          refine HK.out _ _ (fun _ => hSS) ?_
          clear HK
          refine wpAnyE_pair (i := 5) (j := 7) (by kernel_rfl) rfl rfl (fun K9 hK => ?_) (fun K9 hK => ?_)
          ·
            have HK := Lib.hid hK
            clear hK
            refine step_append_own rfl (.tmp 30) (.tmp 34) 25 rfl pL 29 l0 (.agg #[.int .i64 0, .int .i64 0, .int .i64 0]) 3 24 Try.underlying25 hl0 hlz0 hlz1 hlz2 rfl (by decide) (.slice (some ⟨pL, 0, none⟩) 0 0) 0 [] (by simp [Act.eval, Act.put]) HL0.out ⟨b9, o9, none⟩ K cb ((x.2.take K).flatMap encLink) (by simp [Act.eval, Act.put]) (by rw [flat_len encLink_len, List.length_take_of_le (by rw [← HLL.out]; omega)]) (RA.out _ (X5.out.trans (XA).out)) (encLink_one _) (by unfold maxLen; omega) (by omega) (Nat.le_of_lt (HL0.out.lt pL rfl).2) ?_
            intro v5 wb hown5 hgr5
            obtain ⟨a5, c5, rfl, _, _, _⟩ := own_form hown5
            have XB := Lib.hid ((XA).out.gr hgr5 (fun q hq => by cases hq; omega))
            have HA := Lib.hid hown5
            try (have g9 := Lib.hid (grown_old9 hgr5 HY.out (fun e => by cases e; exact hne rfl)); clear HY; have HY := g9; clear g9)
            clear hSS hown5 hgr5 HL0
            have hSS : (fun W : World => W.cell? ⟨w.heap.size, 1, none⟩ = some (.slice (some ⟨b9, o9, none⟩) l cb) ∧ W.cell? ⟨w.heap.size + 1, 0, none⟩ = some (.int .i64 y1) ∧ W.cell? ⟨w.heap.size + 1, 1, none⟩ = some (.int .i64 y2) ∧ W.cell? ⟨w.heap.size + 1, 2, none⟩ = some (.int .i64 y3)) wb := HS.out _ XB.out
            refine HK.out _ _ (fun _ => hSS) ?_
            clear HK
            refine wpAnyE_one (i := 7) (by kernel_rfl) rfl (fun K9 hK => ?_)
            have HK := Lib.hid hK
            clear hK
            go_simp
            obtain ⟨we, hw9⟩ : ∃ W, W = (wb).alloc (.cells #[.int .i64 y1, .int .i64 y2, .int .i64 y3] 29) := ⟨_, rfl⟩
            rw [← hw9]
            obtain ⟨pY, hp9⟩ : ∃ p, p = (wb).heap.size := ⟨_, rfl⟩
            rw [← hp9]
            have HY : Hid ((we).heap[pY]? = some (.cells #[.int .i64 y1, .int .i64 y2, .int .i64 y3] 29)) := by unfold Hid; rw [hw9, hp9]; exact blk_alloc _ _
            have hx9 : Ext wb we := by rw [hw9]; exact Ext.alloc _ _
            have XE := Lib.hid ((XB).out.trans hx9)
            try (have hne : pY ≠ pL := by (have := (HL0.out.lt pL rfl).2; omega))
            try (have g9 := Lib.hid (own_ext HA.out hx9); clear HA; have HA := g9; clear g9)
            clear hSS hw9 hp9 hx9
            have hSS : (fun W : World => W.cell? ⟨w.heap.size, 1, none⟩ = some (.slice (some ⟨b9, o9, none⟩) l cb) ∧ W.cell? ⟨w.heap.size + 1, 0, none⟩ = some (.int .i64 y1) ∧ W.cell? ⟨w.heap.size + 1, 1, none⟩ = some (.int .i64 y2) ∧ W.cell? ⟨w.heap.size + 1, 2, none⟩ = some (.int .i64 y3)) we := HS.out _ XE.out
            refine HK.out _ _ (fun _ => hSS) ?_
            clear HK
            refine wpAnyE_one (i := 8) (by kernel_rfl) rfl (fun K9 hK => ?_)
            have HK := Lib.hid hK
            clear hK
            refine step_append_own rfl (.tmp 35) (.tmp 37) 25 rfl wc.heap.size 29 l0 (.agg #[.int .i64 0, .int .i64 0, .int .i64 0]) 3 24 Try.underlying25 hl0 hlz0 hlz1 hlz2 rfl (by decide) (.slice a5 (0 + K) c5) (0 + K) ([] ++ (x.2.take K).flatMap encLink) (by simp [Act.eval, Act.put]) (own_mono HA.out hpL) ⟨pY, 0, none⟩ 1 1 [.int .i64 y1, .int .i64 y2, .int .i64 y3] (by simp [Act.eval, Act.put]) rfl (lit_cells3 HY.out) (by intro u hu; simp at hu; rcases hu with rfl | rfl | rfl <;> rfl) (by unfold maxLen; omega) (by omega) (by have := (XE).out.size; omega) ?_
            intro v8 w8 hown8 hgr8
            obtain ⟨a8, c8, rfl, _, _, _⟩ := own_form hown8
            have X8 := Lib.hid ((XE).out.gr hgr8 (fun q hq => by have := (HA.out.lt q hq).1; omega))
            have HB := Lib.hid hown8
            clear hSS hown8 hgr8 HA HY
            have hSS : (fun W : World => W.cell? ⟨w.heap.size, 1, none⟩ = some (.slice (some ⟨b9, o9, none⟩) l cb) ∧ W.cell? ⟨w.heap.size + 1, 0, none⟩ = some (.int .i64 y1) ∧ W.cell? ⟨w.heap.size + 1, 1, none⟩ = some (.int .i64 y2) ∧ W.cell? ⟨w.heap.size + 1, 2, none⟩ = some (.int .i64 y3)) w8 := HS.out _ X8.out
            refine HK.out _ _ (fun _ => hSS) ?_
            clear HK
            refine wpAnyE_one (i := 13) (by kernel_rfl) rfl (fun K9 hK => ?_)
            have HK := Lib.hid hK
            clear hK
            have hsz8 := X8.out.size
            refine step_append_own rfl (.tmp 38) (.tmp 42) 25 rfl wc.heap.size 29 l0 (.agg #[.int .i64 0, .int .i64 0, .int .i64 0]) 3 24 Try.underlying25 hl0 hlz0 hlz1 hlz2 rfl (by decide) (.slice a8 (0 + K + 1) c8) (0 + K + 1) ([] ++ (x.2.take K).flatMap encLink ++ [.int .i64 y1, .int .i64 y2, .int .i64 y3]) (by simp [Act.eval, Act.put]) HB.out ad (l - K) (cb - K) ((x.2.drop K).flatMap encLink) (by simp [Act.eval, Act.put]) (by rw [flat_len encLink_len, List.length_drop, ← HLL.out]) (HCL.out _ (X5.out.trans X8.out)) (encLink_one _) (by unfold maxLen; omega) (by omega) (by omega) ?_
            intro v9 w9_ hown9 hgr9
            rw [Nat.zero_add] at hown9
            obtain ⟨a9, c9, rfl, _, _, _⟩ := own_form hown9
            have X9 := Lib.hid (X8.out.gr hgr9 (fun q hq => by have := (HB.out.lt q hq).1; omega))
            have HC := Lib.hid hown9
            clear hSS hown9 hgr9 HB
            have hSS : (fun W : World => W.cell? ⟨w.heap.size, 1, none⟩ = some (.slice (some ⟨b9, o9, none⟩) l cb) ∧ W.cell? ⟨w.heap.size + 1, 0, none⟩ = some (.int .i64 y1) ∧ W.cell? ⟨w.heap.size + 1, 1, none⟩ = some (.int .i64 y2) ∧ W.cell? ⟨w.heap.size + 1, 2, none⟩ = some (.int .i64 y3)) w9_ := HS.out _ X9.out
            refine HK.out _ _ (fun _ => hSS) ?_
            clear HK
            refine wpAnyE_take (i := 14) (v := ?_) rfl (by kernel_rfl) (by kernel_rfl) (by kernel_rfl) (fun _ _ _ h => h) (Or.inl ⟨by rfl, ?_⟩) (by assumption) ?_
            rotate_left 1
            focus (intro W hSW; (try dsimp only at hSW); go_simp; try with_reducible rfl)
            (try simp only [Act.put, List.setIfInBounds_toArray, List.set_cons_zero, List.set_cons_succ])
            clear hSS
            have B6' := Lib.hid (X9.out.blk B6.out)
            have e61 := blk_cell B6'.out (j := 1) (v := .slice al3 l cl3) rfl
            have f61 := blk_free B6'.out 1
            refine wpAnyE_one (i := 15) (by kernel_rfl) rfl (fun K9 hK => ?_)
            have HK := Lib.hid hK
            clear hK
            go_simp
            refine HK.out _ _ (fun hn => absurd ?_ hn) (wpAnyE_done (by kernel_rfl) ?_ _)
            · intro oj hoj q hq hne
              cases hoj
              revert hne
              revert q
              decide
            clear HK e61 f61
            obtain ⟨w10, hw10⟩ : ∃ W, W = w9_.setCell ⟨w3.heap.size, 1, none⟩ (.slice a9 (K + 1 + (l - K)) c9) := ⟨_, rfl⟩
            rw [← hw10]
            have B10 : Hid (w10.heap[w3.heap.size]? = some (.cells #[.slice at3 m ct3, .slice a9 (K + 1 + (l - K)) c9] 27)) := by unfold Hid; rw [hw10, heap_setCell_same _ _ _ _ _ _ B6'.out]; rfl
            have hs3 : w.heap.size + 3 ≤ w3.heap.size := hs33
            have hs4 : w3.heap.size < wc.heap.size := hs3c
            have hs23 : w2.heap.size ≤ w3.heap.size := hs2_3
            have HN : Hid (OwnNet w10 w2.heap.size w10.heap.size (.agg #[.slice at3 m ct3, .slice a9 (K + 1 + (l - K)) c9]) (adN x (y1, y2, y3))) := by
              have hl2 : (adN x (y1, y2, y3)).2.length = K + 1 + (l - K) := by
                unfold adN
                rw [← HKK.out]
                simp only [List.length_append, List.length_take, List.length_drop, List.length_cons, List.length_nil]
                rw [← HLL.out]
                omega
              have hf2 : (adN x (y1, y2, y3)).2.flatMap encLink = [] ++ (x.2.take K).flatMap encLink ++ [.int .i64 y1, .int .i64 y2, .int .i64 y3] ++ (x.2.drop K).flatMap encLink := by
                unfold adN
                rw [← HKK.out]
                simp [encLink]
              have ho2 : w10.ownsRow wc.heap.size 29 3 (.slice a9 (K + 1 + (l - K)) c9) (adN x (y1, y2, y3)).2.length ((adN x (y1, y2, y3)).2.flatMap encLink) := by
                rw [hl2, hf2, hw10]
                exact ownsRow_setCell_below HC.out (by dsimp only; omega) _
              have ho1 : w10.ownsRow w2.heap.size 75 3 (.slice at3 m ct3) (adN x (y1, y2, y3)).1.length ((adN x (y1, y2, y3)).1.flatMap encTower) := by
                show w10.ownsRow w2.heap.size 75 3 (.slice at3 m ct3) x.1.length (x.1.flatMap encTower)
                rw [← HM.out, hw10]
                exact own_setne (own_ext HT5.out X9.out) (fun e => by have := (HT3.out.lt _ e).2; omega)
              exact ⟨_, _, rfl, ⟨own_mono ho1 (Nat.le_refl _), fun q hq => (ho1.lt q hq).2⟩, ⟨own_mono ho2 (by omega), fun q hq => (ho2.lt q hq).2⟩, own_ne_type ho1 ho2 (by decide)⟩
            have X10 : Hid (Ext w w10) := by unfold Hid; rw [hw10]; exact (X5.out.trans X9.out).st (p := ⟨w3.heap.size, 1, none⟩) (by dsimp only; omega) _
            have B3' : Hid (w10.heap[w.heap.size + 2]? = some (.cells #[.slice none 0 0, .slice none 0 0] 27)) := by
              unfold Hid
              rw [hw10, heap_setCell_other _ _ _ _ (by show w.heap.size + 2 ≠ w3.heap.size; omega)]
              exact X9.out.blk B3.out
            have CG2 : Hid (Calls Try.prog 44 #[.agg #[.slice at3 m ct3, .slice a9 (K + 1 + (l - K)) c9]] w10 fun e w' => e = .returned (.bool ok) ∧ Ext w10 w') := by
              have h9 := c_neGood _ w2.heap.size w10.heap.size (adN x (y1, y2, y3)) w10 HN.out.read (Nat.le_refl _)
              have e9 : netB (adN x (y1, y2, y3)) = ok := by rw [HOK.out, ← HQ.out, Bool.true_and]
              rw [e9] at h9
              exact h9
            have k60 := blk_cell B10.out (j := 0) (v := .slice at3 m ct3) rfl
            have k61 := blk_cell B10.out (j := 1) (v := .slice a9 (K + 1 + (l - K)) c9) rfl
            clear hw10 B6' HC
            go_wp2_with fail
            refine CG2.out.mono ?_
            rintro e w11 ⟨rfl, hx11⟩
            clear k60 k61 CG2 B3
            have B3 := Lib.hid (hx11.blk B3'.out)
            have X11 := Lib.hid (X10.out.trans hx11)
            have HN11 := Lib.hid (HN.out.ext hx11)
            have B11 := Lib.hid (hx11.blk B10.out)
            have hs11 := hx11.size
            clear B3' X10 HN B10 hx11
            cases ok
            ·
              have HZ := Lib.hid (HV0.out rfl)
              have z0 := blk_cell B3.out (j := 0) (v := .slice none 0 0) rfl
              have z1 := blk_cell B3.out (j := 1) (v := .slice none 0 0) rfl
              have f0 := blk_free B3.out 0
              have f1 := blk_free B3.out 1
              go_wp2
              refine bodyPost_ret (v := .tuple #[.agg #[.slice none 0 0, .slice none 0 0], .bool false]) (by simp [results, Try.results10, go_sem, z0, z1]) rfl ⟨_, rfl, ?_, (X11.out.st (p := ⟨w.heap.size + 2, 0, none⟩) (by dsimp only; omega) _).st (p := ⟨w.heap.size + 2, 1, none⟩) (by dsimp only; omega) _⟩
              rw [HZ.out]
              exact ⟨_, _, rfl, ⟨World.ownsRow_nil _ _ _ _, fun q hq => by simp [Value.ownBlock] at hq⟩, ⟨World.ownsRow_nil _ _ _ _, fun q hq => by simp [Value.ownBlock] at hq⟩, fun q hq => by simp [Value.ownBlock] at hq⟩
            · have HVV := Lib.hid (HV1.out rfl)
              have k60 := blk_cell B11.out (j := 0) (v := .slice at3 m ct3) rfl
              have k61 := blk_cell B11.out (j := 1) (v := .slice a9 (K + 1 + (l - K)) c9) rfl
              have z0 := blk_cell B3.out (j := 0) (v := .slice none 0 0) rfl
              have z1 := blk_cell B3.out (j := 1) (v := .slice none 0 0) rfl
              have f0 := blk_free B3.out 0
              have f1 := blk_free B3.out 1
              go_wp2
              obtain ⟨w12, hw12⟩ : ∃ W, W = (w11.setCell ⟨w.heap.size + 1 + 1, 0, none⟩ (.slice at3 m ct3)).setCell ⟨w.heap.size + 1 + 1, 1, none⟩ (.slice a9 (K + 1 + (l - K)) c9) := ⟨_, rfl⟩
              rw [← hw12]
              have g1 : (w11.setCell ⟨w.heap.size + 2, 0, none⟩ (.slice at3 m ct3)).heap[w.heap.size + 2]? = some (.cells #[.slice at3 m ct3, .slice none 0 0] 27) := by rw [heap_setCell_same _ _ _ _ _ _ B3.out]; rfl
              have g2 : w12.heap[w.heap.size + 2]? = some (.cells #[.slice at3 m ct3, .slice a9 (K + 1 + (l - K)) c9] 27) := by rw [hw12]; exact (heap_setCell_same _ _ _ _ _ _ g1).trans rfl
              have k70 := blk_cell g2 (j := 0) (v := .slice at3 m ct3) rfl
              have k71 := blk_cell g2 (j := 1) (v := .slice a9 (K + 1 + (l - K)) c9) rfl
              have HK12 : Keep (w.heap.size + 2) (w.heap.size + 3) w11 w12 := by rw [hw12]; exact (keep_setj9 w11 (w.heap.size + 2) 0 _).trans (keep_setj9 _ (w.heap.size + 2) 1 _)
              have HO12 := Lib.hid (HN11.out.keepd HK12 (Or.inr hs20))
              have X12 : Hid (Ext w w12) := by
                unfold Hid; rw [hw12]
                exact (X11.out.st (p := ⟨w.heap.size + 1 + 1, 0, none⟩) (by dsimp only; omega) _).st (p := ⟨w.heap.size + 1 + 1, 1, none⟩) (by dsimp only; omega) _
              have hs12 := HK12.size
              clear hw12 g1 g2 HK12
              refine bodyPost_ret (v := .tuple #[.agg #[.slice at3 m ct3, .slice a9 (K + 1 + (l - K)) c9], .bool true]) (by simp [results, Try.results10, go_sem, k70, k71]) rfl ⟨_, rfl, ?_, X12.out⟩
              rw [HVV.out]
              obtain ⟨vt, vl, e, q1, q2, q3⟩ := HO12.out
              exact ⟨vt, vl, e, q1.mono (by omega) (Nat.le_trans hs11 hs12), q2.mono (by omega) (Nat.le_trans hs11 hs12), q3⟩
          ·
            have HK := Lib.hid hK
            clear hK
            go_simp
            obtain ⟨wb, hw9⟩ : ∃ W, W = (wa).alloc (.cells #[.int .i64 y1, .int .i64 y2, .int .i64 y3] 29) := ⟨_, rfl⟩
            rw [← hw9]
            obtain ⟨pY, hp9⟩ : ∃ p, p = (wa).heap.size := ⟨_, rfl⟩
            rw [← hp9]
            have HY : Hid ((wb).heap[pY]? = some (.cells #[.int .i64 y1, .int .i64 y2, .int .i64 y3] 29)) := by unfold Hid; rw [hw9, hp9]; exact blk_alloc _ _
            have hx9 : Ext wa wb := by rw [hw9]; exact Ext.alloc _ _
            have XB := Lib.hid ((XA).out.trans hx9)
            try (have hne : pY ≠ pL := by (have := (HL0.out.lt pL rfl).2; omega))
            try (have g9 := Lib.hid (own_ext HL0.out hx9); clear HL0; have HL0 := g9; clear g9)
            clear hSS hw9 hp9 hx9
            have hSS : (fun W : World => W.cell? ⟨w.heap.size, 1, none⟩ = some (.slice (some ⟨b9, o9, none⟩) l cb) ∧ W.cell? ⟨w.heap.size + 1, 0, none⟩ = some (.int .i64 y1) ∧ W.cell? ⟨w.heap.size + 1, 1, none⟩ = some (.int .i64 y2) ∧ W.cell? ⟨w.heap.size + 1, 2, none⟩ = some (.int .i64 y3)) wb := HS.out _ XB.out
            refine HK.out _ _ (fun _ => hSS) ?_
            clear HK
            refine wpAnyE_one (i := 5) (by kernel_rfl) rfl (fun K9 hK => ?_)
            have HK := Lib.hid hK
            clear hK
            refine step_append_own rfl (.tmp 30) (.tmp 34) 25 rfl pL 29 l0 (.agg #[.int .i64 0, .int .i64 0, .int .i64 0]) 3 24 Try.underlying25 hl0 hlz0 hlz1 hlz2 rfl (by decide) (.slice (some ⟨pL, 0, none⟩) 0 0) 0 [] (by simp [Act.eval, Act.put]) HL0.out ⟨b9, o9, none⟩ K cb ((x.2.take K).flatMap encLink) (by simp [Act.eval, Act.put]) (by rw [flat_len encLink_len, List.length_take_of_le (by rw [← HLL.out]; omega)]) (RA.out _ (X5.out.trans (XB).out)) (encLink_one _) (by unfold maxLen; omega) (by omega) (Nat.le_of_lt (HL0.out.lt pL rfl).2) ?_
            intro v5 we hown5 hgr5
            obtain ⟨a5, c5, rfl, _, _, _⟩ := own_form hown5
            have XE := Lib.hid ((XB).out.gr hgr5 (fun q hq => by cases hq; omega))
            have HA := Lib.hid hown5
            try (have g9 := Lib.hid (grown_old9 hgr5 HY.out (fun e => by cases e; exact hne rfl)); clear HY; have HY := g9; clear g9)
            clear hSS hown5 hgr5 HL0
            have hSS : (fun W : World => W.cell? ⟨w.heap.size, 1, none⟩ = some (.slice (some ⟨b9, o9, none⟩) l cb) ∧ W.cell? ⟨w.heap.size + 1, 0, none⟩ = some (.int .i64 y1) ∧ W.cell? ⟨w.heap.size + 1, 1, none⟩ = some (.int .i64 y2) ∧ W.cell? ⟨w.heap.size + 1, 2, none⟩ = some (.int .i64 y3)) we := HS.out _ XE.out
            refine HK.out _ _ (fun _ => hSS) ?_
            clear HK
            refine wpAnyE_one (i := 8) (by kernel_rfl) rfl (fun K9 hK => ?_)
            have HK := Lib.hid hK
            clear hK
            refine step_append_own rfl (.tmp 35) (.tmp 37) 25 rfl wc.heap.size 29 l0 (.agg #[.int .i64 0, .int .i64 0, .int .i64 0]) 3 24 Try.underlying25 hl0 hlz0 hlz1 hlz2 rfl (by decide) (.slice a5 (0 + K) c5) (0 + K) ([] ++ (x.2.take K).flatMap encLink) (by simp [Act.eval, Act.put]) (own_mono HA.out hpL) ⟨pY, 0, none⟩ 1 1 [.int .i64 y1, .int .i64 y2, .int .i64 y3] (by simp [Act.eval, Act.put]) rfl (lit_cells3 HY.out) (by intro u hu; simp at hu; rcases hu with rfl | rfl | rfl <;> rfl) (by unfold maxLen; omega) (by omega) (by have := (XE).out.size; omega) ?_
            intro v8 w8 hown8 hgr8
            obtain ⟨a8, c8, rfl, _, _, _⟩ := own_form hown8
            have X8 := Lib.hid ((XE).out.gr hgr8 (fun q hq => by have := (HA.out.lt q hq).1; omega))
            have HB := Lib.hid hown8
            clear hSS hown8 hgr8 HA HY
            have hSS : (fun W : World => W.cell? ⟨w.heap.size, 1, none⟩ = some (.slice (some ⟨b9, o9, none⟩) l cb) ∧ W.cell? ⟨w.heap.size + 1, 0, none⟩ = some (.int .i64 y1) ∧ W.cell? ⟨w.heap.size + 1, 1, none⟩ = some (.int .i64 y2) ∧ W.cell? ⟨w.heap.size + 1, 2, none⟩ = some (.int .i64 y3)) w8 := HS.out _ X8.out
            refine HK.out _ _ (fun _ => hSS) ?_
            clear HK
            refine wpAnyE_one (i := 13) (by kernel_rfl) rfl (fun K9 hK => ?_)
            have HK := Lib.hid hK
            clear hK
            have hsz8 := X8.out.size
            refine step_append_own rfl (.tmp 38) (.tmp 42) 25 rfl wc.heap.size 29 l0 (.agg #[.int .i64 0, .int .i64 0, .int .i64 0]) 3 24 Try.underlying25 hl0 hlz0 hlz1 hlz2 rfl (by decide) (.slice a8 (0 + K + 1) c8) (0 + K + 1) ([] ++ (x.2.take K).flatMap encLink ++ [.int .i64 y1, .int .i64 y2, .int .i64 y3]) (by simp [Act.eval, Act.put]) HB.out ad (l - K) (cb - K) ((x.2.drop K).flatMap encLink) (by simp [Act.eval, Act.put]) (by rw [flat_len encLink_len, List.length_drop, ← HLL.out]) (HCL.out _ (X5.out.trans X8.out)) (encLink_one _) (by unfold maxLen; omega) (by omega) (by omega) ?_
            intro v9 w9_ hown9 hgr9
            rw [Nat.zero_add] at hown9
            obtain ⟨a9, c9, rfl, _, _, _⟩ := own_form hown9
            have X9 := Lib.hid (X8.out.gr hgr9 (fun q hq => by have := (HB.out.lt q hq).1; omega))
            have HC := Lib.hid hown9
            clear hSS hown9 hgr9 HB
            have hSS : (fun W : World => W.cell? ⟨w.heap.size, 1, none⟩ = some (.slice (some ⟨b9, o9, none⟩) l cb) ∧ W.cell? ⟨w.heap.size + 1, 0, none⟩ = some (.int .i64 y1) ∧ W.cell? ⟨w.heap.size + 1, 1, none⟩ = some (.int .i64 y2) ∧ W.cell? ⟨w.heap.size + 1, 2, none⟩ = some (.int .i64 y3)) w9_ := HS.out _ X9.out
            refine HK.out _ _ (fun _ => hSS) ?_
            clear HK
            refine wpAnyE_take (i := 14) (v := ?_) rfl (by kernel_rfl) (by kernel_rfl) (by kernel_rfl) (fun _ _ _ h => h) (Or.inl ⟨by rfl, ?_⟩) (by assumption) ?_
            rotate_left 1
            focus (intro W hSW; (try dsimp only at hSW); go_simp; try with_reducible rfl)
            (try simp only [Act.put, List.setIfInBounds_toArray, List.set_cons_zero, List.set_cons_succ])
            clear hSS
            have B6' := Lib.hid (X9.out.blk B6.out)
            have e61 := blk_cell B6'.out (j := 1) (v := .slice al3 l cl3) rfl
            have f61 := blk_free B6'.out 1
            refine wpAnyE_one (i := 15) (by kernel_rfl) rfl (fun K9 hK => ?_)
            have HK := Lib.hid hK
            clear hK
            go_simp
            refine HK.out _ _ (fun hn => absurd ?_ hn) (wpAnyE_done (by kernel_rfl) ?_ _)
            · intro oj hoj q hq hne
              cases hoj
              revert hne
              revert q
              decide
            clear HK e61 f61
            obtain ⟨w10, hw10⟩ : ∃ W, W = w9_.setCell ⟨w3.heap.size, 1, none⟩ (.slice a9 (K + 1 + (l - K)) c9) := ⟨_, rfl⟩
            rw [← hw10]
            have B10 : Hid (w10.heap[w3.heap.size]? = some (.cells #[.slice at3 m ct3, .slice a9 (K + 1 + (l - K)) c9] 27)) := by unfold Hid; rw [hw10, heap_setCell_same _ _ _ _ _ _ B6'.out]; rfl
            have hs3 : w.heap.size + 3 ≤ w3.heap.size := hs33
            have hs4 : w3.heap.size < wc.heap.size := hs3c
            have hs23 : w2.heap.size ≤ w3.heap.size := hs2_3
            have HN : Hid (OwnNet w10 w2.heap.size w10.heap.size (.agg #[.slice at3 m ct3, .slice a9 (K + 1 + (l - K)) c9]) (adN x (y1, y2, y3))) := by
              have hl2 : (adN x (y1, y2, y3)).2.length = K + 1 + (l - K) := by
                unfold adN
                rw [← HKK.out]
                simp only [List.length_append, List.length_take, List.length_drop, List.length_cons, List.length_nil]
                rw [← HLL.out]
                omega
              have hf2 : (adN x (y1, y2, y3)).2.flatMap encLink = [] ++ (x.2.take K).flatMap encLink ++ [.int .i64 y1, .int .i64 y2, .int .i64 y3] ++ (x.2.drop K).flatMap encLink := by
                unfold adN
                rw [← HKK.out]
                simp [encLink]
              have ho2 : w10.ownsRow wc.heap.size 29 3 (.slice a9 (K + 1 + (l - K)) c9) (adN x (y1, y2, y3)).2.length ((adN x (y1, y2, y3)).2.flatMap encLink) := by
                rw [hl2, hf2, hw10]
                exact ownsRow_setCell_below HC.out (by dsimp only; omega) _
              have ho1 : w10.ownsRow w2.heap.size 75 3 (.slice at3 m ct3) (adN x (y1, y2, y3)).1.length ((adN x (y1, y2, y3)).1.flatMap encTower) := by
                show w10.ownsRow w2.heap.size 75 3 (.slice at3 m ct3) x.1.length (x.1.flatMap encTower)
                rw [← HM.out, hw10]
                exact own_setne (own_ext HT5.out X9.out) (fun e => by have := (HT3.out.lt _ e).2; omega)
              exact ⟨_, _, rfl, ⟨own_mono ho1 (Nat.le_refl _), fun q hq => (ho1.lt q hq).2⟩, ⟨own_mono ho2 (by omega), fun q hq => (ho2.lt q hq).2⟩, own_ne_type ho1 ho2 (by decide)⟩
            have X10 : Hid (Ext w w10) := by unfold Hid; rw [hw10]; exact (X5.out.trans X9.out).st (p := ⟨w3.heap.size, 1, none⟩) (by dsimp only; omega) _
            have B3' : Hid (w10.heap[w.heap.size + 2]? = some (.cells #[.slice none 0 0, .slice none 0 0] 27)) := by
              unfold Hid
              rw [hw10, heap_setCell_other _ _ _ _ (by show w.heap.size + 2 ≠ w3.heap.size; omega)]
              exact X9.out.blk B3.out
            have CG2 : Hid (Calls Try.prog 44 #[.agg #[.slice at3 m ct3, .slice a9 (K + 1 + (l - K)) c9]] w10 fun e w' => e = .returned (.bool ok) ∧ Ext w10 w') := by
              have h9 := c_neGood _ w2.heap.size w10.heap.size (adN x (y1, y2, y3)) w10 HN.out.read (Nat.le_refl _)
              have e9 : netB (adN x (y1, y2, y3)) = ok := by rw [HOK.out, ← HQ.out, Bool.true_and]
              rw [e9] at h9
              exact h9
            have k60 := blk_cell B10.out (j := 0) (v := .slice at3 m ct3) rfl
            have k61 := blk_cell B10.out (j := 1) (v := .slice a9 (K + 1 + (l - K)) c9) rfl
            clear hw10 B6' HC
            go_wp2_with fail
            refine CG2.out.mono ?_
            rintro e w11 ⟨rfl, hx11⟩
            clear k60 k61 CG2 B3
            have B3 := Lib.hid (hx11.blk B3'.out)
            have X11 := Lib.hid (X10.out.trans hx11)
            have HN11 := Lib.hid (HN.out.ext hx11)
            have B11 := Lib.hid (hx11.blk B10.out)
            have hs11 := hx11.size
            clear B3' X10 HN B10 hx11
            cases ok
            ·
              have HZ := Lib.hid (HV0.out rfl)
              have z0 := blk_cell B3.out (j := 0) (v := .slice none 0 0) rfl
              have z1 := blk_cell B3.out (j := 1) (v := .slice none 0 0) rfl
              have f0 := blk_free B3.out 0
              have f1 := blk_free B3.out 1
              go_wp2
              refine bodyPost_ret (v := .tuple #[.agg #[.slice none 0 0, .slice none 0 0], .bool false]) (by simp [results, Try.results10, go_sem, z0, z1]) rfl ⟨_, rfl, ?_, (X11.out.st (p := ⟨w.heap.size + 2, 0, none⟩) (by dsimp only; omega) _).st (p := ⟨w.heap.size + 2, 1, none⟩) (by dsimp only; omega) _⟩
              rw [HZ.out]
              exact ⟨_, _, rfl, ⟨World.ownsRow_nil _ _ _ _, fun q hq => by simp [Value.ownBlock] at hq⟩, ⟨World.ownsRow_nil _ _ _ _, fun q hq => by simp [Value.ownBlock] at hq⟩, fun q hq => by simp [Value.ownBlock] at hq⟩
            · have HVV := Lib.hid (HV1.out rfl)
              have k60 := blk_cell B11.out (j := 0) (v := .slice at3 m ct3) rfl
              have k61 := blk_cell B11.out (j := 1) (v := .slice a9 (K + 1 + (l - K)) c9) rfl
              have z0 := blk_cell B3.out (j := 0) (v := .slice none 0 0) rfl
              have z1 := blk_cell B3.out (j := 1) (v := .slice none 0 0) rfl
              have f0 := blk_free B3.out 0
              have f1 := blk_free B3.out 1
              go_wp2
              obtain ⟨w12, hw12⟩ : ∃ W, W = (w11.setCell ⟨w.heap.size + 1 + 1, 0, none⟩ (.slice at3 m ct3)).setCell ⟨w.heap.size + 1 + 1, 1, none⟩ (.slice a9 (K + 1 + (l - K)) c9) := ⟨_, rfl⟩
              rw [← hw12]
              have g1 : (w11.setCell ⟨w.heap.size + 2, 0, none⟩ (.slice at3 m ct3)).heap[w.heap.size + 2]? = some (.cells #[.slice at3 m ct3, .slice none 0 0] 27) := by rw [heap_setCell_same _ _ _ _ _ _ B3.out]; rfl
              have g2 : w12.heap[w.heap.size + 2]? = some (.cells #[.slice at3 m ct3, .slice a9 (K + 1 + (l - K)) c9] 27) := by rw [hw12]; exact (heap_setCell_same _ _ _ _ _ _ g1).trans rfl
              have k70 := blk_cell g2 (j := 0) (v := .slice at3 m ct3) rfl
              have k71 := blk_cell g2 (j := 1) (v := .slice a9 (K + 1 + (l - K)) c9) rfl
              have HK12 : Keep (w.heap.size + 2) (w.heap.size + 3) w11 w12 := by rw [hw12]; exact (keep_setj9 w11 (w.heap.size + 2) 0 _).trans (keep_setj9 _ (w.heap.size + 2) 1 _)
              have HO12 := Lib.hid (HN11.out.keepd HK12 (Or.inr hs20))
              have X12 : Hid (Ext w w12) := by
                unfold Hid; rw [hw12]
                exact (X11.out.st (p := ⟨w.heap.size + 1 + 1, 0, none⟩) (by dsimp only; omega) _).st (p := ⟨w.heap.size + 1 + 1, 1, none⟩) (by dsimp only; omega) _
              have hs12 := HK12.size
              clear hw12 g1 g2 HK12
              refine bodyPost_ret (v := .tuple #[.agg #[.slice at3 m ct3, .slice a9 (K + 1 + (l - K)) c9], .bool true]) (by simp [results, Try.results10, go_sem, k70, k71]) rfl ⟨_, rfl, ?_, X12.out⟩
              rw [HVV.out]
              obtain ⟨vt, vl, e, q1, q2, q3⟩ := HO12.out
              exact ⟨vt, vl, e, q1.mono (by omega) (Nat.le_trans hs11 hs12), q2.mono (by omega) (Nat.le_trans hs11 hs12), q3⟩
        ·
          have HK := Lib.hid hK
          clear hK
          go_simp
          obtain ⟨wa, hw9⟩ : ∃ W, W = (wd).alloc (.cells #[.int .i64 y1, .int .i64 y2, .int .i64 y3] 29) := ⟨_, rfl⟩
          rw [← hw9]
          obtain ⟨pY, hp9⟩ : ∃ p, p = (wd).heap.size := ⟨_, rfl⟩
          rw [← hp9]
          have HY : Hid ((wa).heap[pY]? = some (.cells #[.int .i64 y1, .int .i64 y2, .int .i64 y3] 29)) := by unfold Hid; rw [hw9, hp9]; exact blk_alloc _ _
          have hx9 : Ext wd wa := by rw [hw9]; exact Ext.alloc _ _
          have XA := Lib.hid ((XD).out.trans hx9)
          try (have hne : pY ≠ pL := by (have := (HL0.out.lt pL rfl).2; omega))
          try (have g9 := Lib.hid (own_ext HZZ.out hx9); clear HZZ; have HZZ := g9; clear g9)
          clear hSS hw9 hp9 hx9
          have hSS : (fun W : World => W.cell? ⟨w.heap.size, 1, none⟩ = some (.slice (some ⟨b9, o9, none⟩) l cb) ∧ W.cell? ⟨w.heap.size + 1, 0, none⟩ = some (.int .i64 y1) ∧ W.cell? ⟨w.heap.size + 1, 1, none⟩ = some (.int .i64 y2) ∧ W.cell? ⟨w.heap.size + 1, 2, none⟩ = some (.int .i64 y3)) wa := HS.out _ XA.out
          refine HK.out _ _ (fun _ => hSS) ?_
          clear HK
          refine wpAnyE_one (i := 0) (by kernel_rfl) rfl (fun K9 hK => ?_)
          have HK := Lib.hid hK
          clear hK
          go_simp
          obtain ⟨wb, hw9⟩ : ∃ W, W = (wa).alloc (.cells #[] 29) := ⟨_, rfl⟩
          rw [← hw9]
          obtain ⟨pL, hp9⟩ : ∃ p, p = (wa).heap.size := ⟨_, rfl⟩
          rw [← hp9]
          have HL0 : Hid ((wb).ownsRow pL 29 3 (.slice (some ⟨pL, 0, none⟩) 0 0) 0 []) := by unfold Hid; rw [hw9, hp9]; exact own_lit3 wa 29
          have hx9 : Ext wa wb := by rw [hw9]; exact Ext.alloc _ _
          have XB := Lib.hid ((XA).out.trans hx9)
          have hpL : wc.heap.size ≤ pL := by rw [hp9]; exact (XA).out.size
          try (have hne : pY ≠ pL := by (have := (Array.getElem?_eq_some_iff.1 HY.out).1; omega))
          try (have g9 := Lib.hid (hx9.blk HY.out); clear HY; have HY := g9; clear g9)
          clear hSS hw9 hp9 hx9
          have hSS : (fun W : World => W.cell? ⟨w.heap.size, 1, none⟩ = some (.slice (some ⟨b9, o9, none⟩) l cb) ∧ W.cell? ⟨w.heap.size + 1, 0, none⟩ = some (.int .i64 y1) ∧ W.cell? ⟨w.heap.size + 1, 1, none⟩ = some (.int .i64 y2) ∧ W.cell? ⟨w.heap.size + 1, 2, none⟩ = some (.int .i64 y3)) wb := HS.out _ XB.out
          refine HK.out _ _ (fun _ => hSS) ?_
          clear HK
          refine wpAnyE_one (i := 5) (by kernel_rfl) rfl (fun K9 hK => ?_)
          have HK := Lib.hid hK
          clear hK
          refine step_append_own rfl (.tmp 30) (.tmp 34) 25 rfl pL 29 l0 (.agg #[.int .i64 0, .int .i64 0, .int .i64 0]) 3 24 Try.underlying25 hl0 hlz0 hlz1 hlz2 rfl (by decide) (.slice (some ⟨pL, 0, none⟩) 0 0) 0 [] (by simp [Act.eval, Act.put]) HL0.out ⟨b9, o9, none⟩ K cb ((x.2.take K).flatMap encLink) (by simp [Act.eval, Act.put]) (by rw [flat_len encLink_len, List.length_take_of_le (by rw [← HLL.out]; omega)]) (RA.out _ (X5.out.trans (XB).out)) (encLink_one _) (by unfold maxLen; omega) (by omega) (Nat.le_of_lt (HL0.out.lt pL rfl).2) ?_
          intro v5 we hown5 hgr5
          obtain ⟨a5, c5, rfl, _, _, _⟩ := own_form hown5
          have XE := Lib.hid ((XB).out.gr hgr5 (fun q hq => by cases hq; omega))
          have HA := Lib.hid hown5
          try (have g9 := Lib.hid (grown_old9 hgr5 HY.out (fun e => by cases e; exact hne rfl)); clear HY; have HY := g9; clear g9)
          clear hSS hown5 hgr5 HL0
          have hSS : (fun W : World => W.cell? ⟨w.heap.size, 1, none⟩ = some (.slice (some ⟨b9, o9, none⟩) l cb) ∧ W.cell? ⟨w.heap.size + 1, 0, none⟩ = some (.int .i64 y1) ∧ W.cell? ⟨w.heap.size + 1, 1, none⟩ = some (.int .i64 y2) ∧ W.cell? ⟨w.heap.size + 1, 2, none⟩ = some (.int .i64 y3)) we := HS.out _ XE.out
          refine HK.out _ _ (fun _ => hSS) ?_
          clear HK
          refine wpAnyE_one (i := 8) (by kernel_rfl) rfl (fun K9 hK => ?_)
          have HK := Lib.hid hK
          clear hK
          refine step_append_own rfl (.tmp 35) (.tmp 37) 25 rfl wc.heap.size 29 l0 (.agg #[.int .i64 0, .int .i64 0, .int .i64 0]) 3 24 Try.underlying25 hl0 hlz0 hlz1 hlz2 rfl (by decide) (.slice a5 (0 + K) c5) (0 + K) ([] ++ (x.2.take K).flatMap encLink) (by simp [Act.eval, Act.put]) (own_mono HA.out hpL) ⟨pY, 0, none⟩ 1 1 [.int .i64 y1, .int .i64 y2, .int .i64 y3] (by simp [Act.eval, Act.put]) rfl (lit_cells3 HY.out) (by intro u hu; simp at hu; rcases hu with rfl | rfl | rfl <;> rfl) (by unfold maxLen; omega) (by omega) (by have := (XE).out.size; omega) ?_
          intro v8 w8 hown8 hgr8
          obtain ⟨a8, c8, rfl, _, _, _⟩ := own_form hown8
          have X8 := Lib.hid ((XE).out.gr hgr8 (fun q hq => by have := (HA.out.lt q hq).1; omega))
          have HB := Lib.hid hown8
          clear hSS hown8 hgr8 HA HY
          have hSS : (fun W : World => W.cell? ⟨w.heap.size, 1, none⟩ = some (.slice (some ⟨b9, o9, none⟩) l cb) ∧ W.cell? ⟨w.heap.size + 1, 0, none⟩ = some (.int .i64 y1) ∧ W.cell? ⟨w.heap.size + 1, 1, none⟩ = some (.int .i64 y2) ∧ W.cell? ⟨w.heap.size + 1, 2, none⟩ = some (.int .i64 y3)) w8 := HS.out _ X8.out
          refine HK.out _ _ (fun _ => hSS) ?_
          clear HK
          refine wpAnyE_one (i := 13) (by kernel_rfl) rfl (fun K9 hK => ?_)
          have HK := Lib.hid hK
          clear hK
          have hsz8 := X8.out.size
          refine step_append_own rfl (.tmp 38) (.tmp 42) 25 rfl wc.heap.size 29 l0 (.agg #[.int .i64 0, .int .i64 0, .int .i64 0]) 3 24 Try.underlying25 hl0 hlz0 hlz1 hlz2 rfl (by decide) (.slice a8 (0 + K + 1) c8) (0 + K + 1) ([] ++ (x.2.take K).flatMap encLink ++ [.int .i64 y1, .int .i64 y2, .int .i64 y3]) (by simp [Act.eval, Act.put]) HB.out ad (l - K) (cb - K) ((x.2.drop K).flatMap encLink) (by simp [Act.eval, Act.put]) (by rw [flat_len encLink_len, List.length_drop, ← HLL.out]) (HCL.out _ (X5.out.trans X8.out)) (encLink_one _) (by unfold maxLen; omega) (by omega) (by omega) ?_
          intro v9 w9_ hown9 hgr9
          rw [Nat.zero_add] at hown9
          obtain ⟨a9, c9, rfl, _, _, _⟩ := own_form hown9
          have X9 := Lib.hid (X8.out.gr hgr9 (fun q hq => by have := (HB.out.lt q hq).1; omega))
          have HC := Lib.hid hown9
          clear hSS hown9 hgr9 HB
          have hSS : (fun W : World => W.cell? ⟨w.heap.size, 1, none⟩ = some (.slice (some ⟨b9, o9, none⟩) l cb) ∧ W.cell? ⟨w.heap.size + 1, 0, none⟩ = some (.int .i64 y1) ∧ W.cell? ⟨w.heap.size + 1, 1, none⟩ = some (.int .i64 y2) ∧ W.cell? ⟨w.heap.size + 1, 2, none⟩ = some (.int .i64 y3)) w9_ := HS.out _ X9.out
          refine HK.out _ _ (fun _ => hSS) ?_
          clear HK
          refine wpAnyE_take (i := 14) (v := ?_) rfl (by kernel_rfl) (by kernel_rfl) (by kernel_rfl) (fun _ _ _ h => h) (Or.inl ⟨by rfl, ?_⟩) (by assumption) ?_
          rotate_left 1
          focus (intro W hSW; (try dsimp only at hSW); go_simp; try with_reducible rfl)
          (try simp only [Act.put, List.setIfInBounds_toArray, List.set_cons_zero, List.set_cons_succ])
          clear hSS
          have B6' := Lib.hid (X9.out.blk B6.out)
          have e61 := blk_cell B6'.out (j := 1) (v := .slice al3 l cl3) rfl
          have f61 := blk_free B6'.out 1
          refine wpAnyE_one (i := 15) (by kernel_rfl) rfl (fun K9 hK => ?_)
          have HK := Lib.hid hK
          clear hK
          go_simp
          refine HK.out _ _ (fun hn => absurd ?_ hn) (wpAnyE_done (by kernel_rfl) ?_ _)
          · intro oj hoj q hq hne
            cases hoj
            revert hne
            revert q
            decide
          clear HK e61 f61
          obtain ⟨w10, hw10⟩ : ∃ W, W = w9_.setCell ⟨w3.heap.size, 1, none⟩ (.slice a9 (K + 1 + (l - K)) c9) := ⟨_, rfl⟩
          rw [← hw10]
          have B10 : Hid (w10.heap[w3.heap.size]? = some (.cells #[.slice at3 m ct3, .slice a9 (K + 1 + (l - K)) c9] 27)) := by unfold Hid; rw [hw10, heap_setCell_same _ _ _ _ _ _ B6'.out]; rfl
          have hs3 : w.heap.size + 3 ≤ w3.heap.size := hs33
          have hs4 : w3.heap.size < wc.heap.size := hs3c
          have hs23 : w2.heap.size ≤ w3.heap.size := hs2_3
          have HN : Hid (OwnNet w10 w2.heap.size w10.heap.size (.agg #[.slice at3 m ct3, .slice a9 (K + 1 + (l - K)) c9]) (adN x (y1, y2, y3))) := by
            have hl2 : (adN x (y1, y2, y3)).2.length = K + 1 + (l - K) := by
              unfold adN
              rw [← HKK.out]
              simp only [List.length_append, List.length_take, List.length_drop, List.length_cons, List.length_nil]
              rw [← HLL.out]
              omega
            have hf2 : (adN x (y1, y2, y3)).2.flatMap encLink = [] ++ (x.2.take K).flatMap encLink ++ [.int .i64 y1, .int .i64 y2, .int .i64 y3] ++ (x.2.drop K).flatMap encLink := by
              unfold adN
              rw [← HKK.out]
              simp [encLink]
            have ho2 : w10.ownsRow wc.heap.size 29 3 (.slice a9 (K + 1 + (l - K)) c9) (adN x (y1, y2, y3)).2.length ((adN x (y1, y2, y3)).2.flatMap encLink) := by
              rw [hl2, hf2, hw10]
              exact ownsRow_setCell_below HC.out (by dsimp only; omega) _
            have ho1 : w10.ownsRow w2.heap.size 75 3 (.slice at3 m ct3) (adN x (y1, y2, y3)).1.length ((adN x (y1, y2, y3)).1.flatMap encTower) := by
              show w10.ownsRow w2.heap.size 75 3 (.slice at3 m ct3) x.1.length (x.1.flatMap encTower)
              rw [← HM.out, hw10]
              exact own_setne (own_ext HT5.out X9.out) (fun e => by have := (HT3.out.lt _ e).2; omega)
            exact ⟨_, _, rfl, ⟨own_mono ho1 (Nat.le_refl _), fun q hq => (ho1.lt q hq).2⟩, ⟨own_mono ho2 (by omega), fun q hq => (ho2.lt q hq).2⟩, own_ne_type ho1 ho2 (by decide)⟩
          have X10 : Hid (Ext w w10) := by unfold Hid; rw [hw10]; exact (X5.out.trans X9.out).st (p := ⟨w3.heap.size, 1, none⟩) (by dsimp only; omega) _
          have B3' : Hid (w10.heap[w.heap.size + 2]? = some (.cells #[.slice none 0 0, .slice none 0 0] 27)) := by
            unfold Hid
            rw [hw10, heap_setCell_other _ _ _ _ (by show w.heap.size + 2 ≠ w3.heap.size; omega)]
            exact X9.out.blk B3.out
          have CG2 : Hid (Calls Try.prog 44 #[.agg #[.slice at3 m ct3, .slice a9 (K + 1 + (l - K)) c9]] w10 fun e w' => e = .returned (.bool ok) ∧ Ext w10 w') := by
            have h9 := c_neGood _ w2.heap.size w10.heap.size (adN x (y1, y2, y3)) w10 HN.out.read (Nat.le_refl _)
            have e9 : netB (adN x (y1, y2, y3)) = ok := by rw [HOK.out, ← HQ.out, Bool.true_and]
            rw [e9] at h9
            exact h9
          have k60 := blk_cell B10.out (j := 0) (v := .slice at3 m ct3) rfl
          have k61 := blk_cell B10.out (j := 1) (v := .slice a9 (K + 1 + (l - K)) c9) rfl
          clear hw10 B6' HC
          go_wp2_with fail
          refine CG2.out.mono ?_
          rintro e w11 ⟨rfl, hx11⟩
          clear k60 k61 CG2 B3
          have B3 := Lib.hid (hx11.blk B3'.out)
          have X11 := Lib.hid (X10.out.trans hx11)
          have HN11 := Lib.hid (HN.out.ext hx11)
          have B11 := Lib.hid (hx11.blk B10.out)
          have hs11 := hx11.size
          clear B3' X10 HN B10 hx11
          cases ok
          ·
            have HZ := Lib.hid (HV0.out rfl)
            have z0 := blk_cell B3.out (j := 0) (v := .slice none 0 0) rfl
            have z1 := blk_cell B3.out (j := 1) (v := .slice none 0 0) rfl
            have f0 := blk_free B3.out 0
            have f1 := blk_free B3.out 1
            go_wp2
            refine bodyPost_ret (v := .tuple #[.agg #[.slice none 0 0, .slice none 0 0], .bool false]) (by simp [results, Try.results10, go_sem, z0, z1]) rfl ⟨_, rfl, ?_, (X11.out.st (p := ⟨w.heap.size + 2, 0, none⟩) (by dsimp only; omega) _).st (p := ⟨w.heap.size + 2, 1, none⟩) (by dsimp only; omega) _⟩
            rw [HZ.out]
            exact ⟨_, _, rfl, ⟨World.ownsRow_nil _ _ _ _, fun q hq => by simp [Value.ownBlock] at hq⟩, ⟨World.ownsRow_nil _ _ _ _, fun q hq => by simp [Value.ownBlock] at hq⟩, fun q hq => by simp [Value.ownBlock] at hq⟩
          · have HVV := Lib.hid (HV1.out rfl)
            have k60 := blk_cell B11.out (j := 0) (v := .slice at3 m ct3) rfl
            have k61 := blk_cell B11.out (j := 1) (v := .slice a9 (K + 1 + (l - K)) c9) rfl
            have z0 := blk_cell B3.out (j := 0) (v := .slice none 0 0) rfl
            have z1 := blk_cell B3.out (j := 1) (v := .slice none 0 0) rfl
            have f0 := blk_free B3.out 0
            have f1 := blk_free B3.out 1
            go_wp2
            obtain ⟨w12, hw12⟩ : ∃ W, W = (w11.setCell ⟨w.heap.size + 1 + 1, 0, none⟩ (.slice at3 m ct3)).setCell ⟨w.heap.size + 1 + 1, 1, none⟩ (.slice a9 (K + 1 + (l - K)) c9) := ⟨_, rfl⟩
            rw [← hw12]
            have g1 : (w11.setCell ⟨w.heap.size + 2, 0, none⟩ (.slice at3 m ct3)).heap[w.heap.size + 2]? = some (.cells #[.slice at3 m ct3, .slice none 0 0] 27) := by rw [heap_setCell_same _ _ _ _ _ _ B3.out]; rfl
            have g2 : w12.heap[w.heap.size + 2]? = some (.cells #[.slice at3 m ct3, .slice a9 (K + 1 + (l - K)) c9] 27) := by rw [hw12]; exact (heap_setCell_same _ _ _ _ _ _ g1).trans rfl
            have k70 := blk_cell g2 (j := 0) (v := .slice at3 m ct3) rfl
            have k71 := blk_cell g2 (j := 1) (v := .slice a9 (K + 1 + (l - K)) c9) rfl
            have HK12 : Keep (w.heap.size + 2) (w.heap.size + 3) w11 w12 := by rw [hw12]; exact (keep_setj9 w11 (w.heap.size + 2) 0 _).trans (keep_setj9 _ (w.heap.size + 2) 1 _)
            have HO12 := Lib.hid (HN11.out.keepd HK12 (Or.inr hs20))
            have X12 : Hid (Ext w w12) := by
              unfold Hid; rw [hw12]
              exact (X11.out.st (p := ⟨w.heap.size + 1 + 1, 0, none⟩) (by dsimp only; omega) _).st (p := ⟨w.heap.size + 1 + 1, 1, none⟩) (by dsimp only; omega) _
            have hs12 := HK12.size
            clear hw12 g1 g2 HK12
            refine bodyPost_ret (v := .tuple #[.agg #[.slice at3 m ct3, .slice a9 (K + 1 + (l - K)) c9], .bool true]) (by simp [results, Try.results10, go_sem, k70, k71]) rfl ⟨_, rfl, ?_, X12.out⟩
            rw [HVV.out]
            obtain ⟨vt, vl, e, q1, q2, q3⟩ := HO12.out
            exact ⟨vt, vl, e, q1.mono (by omega) (Nat.le_trans hs11 hs12), q2.mono (by omega) (Nat.le_trans hs11 hs12), q3⟩
      · have hlz : l = 0 := by omega
        subst hlz
        have hKz : K = 0 := by omega
        subst hKz
        have HX2 : Hid (x.2 = []) := List.eq_nil_of_length_eq_zero HLL.out.symm
        obtain ⟨sb, had⟩ : ∃ s, s = b := ⟨_, rfl⟩
        clear had sb
        obtain ⟨wd, hwd⟩ : ∃ W, W = wc.drew := ⟨_, rfl⟩
        have XD : Hid (Ext wc wd) := by unfold Hid; rw [hwd]; exact Ext.drew _
        have hKcI : (0 : Int) ≤ (cb : Int) := by omega
        have HS : Hid (∀ W, Ext wc W → W.cell? ⟨w.heap.size, 1, none⟩ = some (.slice b 0 cb) ∧ W.cell? ⟨w.heap.size + 1, 0, none⟩ = some (.int .i64 y1) ∧ W.cell? ⟨w.heap.size + 1, 1, none⟩ = some (.int .i64 y2) ∧ W.cell? ⟨w.heap.size + 1, 2, none⟩ = some (.int .i64 y3)) := fun W hX => ⟨hX.cell (blk_cell B1.out (j := 1) rfl), hX.cell (blk_cell B2.out (j := 0) rfl), hX.cell (blk_cell B2.out (j := 1) rfl), hX.cell (blk_cell B2.out (j := 2) rfl)⟩
        refine wp_region_E (S := fun W => W.cell? ⟨w.heap.size, 1, none⟩ = some (.slice b 0 cb) ∧ W.cell? ⟨w.heap.size + 1, 0, none⟩ = some (.int .i64 y1) ∧ W.cell? ⟨w.heap.size + 1, 1, none⟩ = some (.int .i64 y2) ∧ W.cell? ⟨w.heap.size + 1, 2, none⟩ = some (.int .i64 y3)) (by kernel_rfl) ?_
        rw [← hwd]
        clear hwd
        have hSS : (fun W : World => W.cell? ⟨w.heap.size, 1, none⟩ = some (.slice b 0 cb) ∧ W.cell? ⟨w.heap.size + 1, 0, none⟩ = some (.int .i64 y1) ∧ W.cell? ⟨w.heap.size + 1, 1, none⟩ = some (.int .i64 y2) ∧ W.cell? ⟨w.heap.size + 1, 2, none⟩ = some (.int .i64 y3)) wd := HS.out _ XD.out
        refine wpAnyE_take (i := 1) (v := ?_) rfl (by kernel_rfl) (by kernel_rfl) (by kernel_rfl) (fun _ _ _ h => h) (Or.inl ⟨by rfl, ?_⟩) (by assumption) ?_
        rotate_left 1
        focus (intro W hSW; (try dsimp only at hSW); go_simp; try with_reducible rfl)
        (try simp only [Act.put, List.setIfInBounds_toArray, List.set_cons_zero, List.set_cons_succ])
        refine wpAnyE_take (i := 2) (v := ?_) rfl (by kernel_rfl) (by kernel_rfl) (by kernel_rfl) (fun _ _ _ h => h) (Or.inl ⟨by rfl, ?_⟩) (by assumption) ?_
        rotate_left 1
        focus (intro W hSW; (try dsimp only at hSW); go_simp; try with_reducible rfl)
        (try simp only [Act.put, List.setIfInBounds_toArray, List.set_cons_zero, List.set_cons_succ])
        refine wpAnyE_take (i := 3) (v := ?_) rfl (by kernel_rfl) (by kernel_rfl) (by kernel_rfl) (fun _ _ _ h => h) (Or.inl ⟨by rfl, ?_⟩) (by assumption) ?_
        rotate_left 1
        focus (intro W hSW; (try dsimp only at hSW); go_simp; try with_reducible rfl)
        (try simp only [Act.put, List.setIfInBounds_toArray, List.set_cons_zero, List.set_cons_succ])
        refine wpAnyE_take (i := 4) (v := ?_) rfl (by kernel_rfl) (by kernel_rfl) (by kernel_rfl) (fun _ _ _ h => h) (Or.inl ⟨by rfl, ?_⟩) (by assumption) ?_
        rotate_left 1
        focus (intro W hSW; (try dsimp only at hSW); go_simp; try with_reducible rfl)
        (try simp only [Act.put, List.setIfInBounds_toArray, List.set_cons_zero, List.set_cons_succ])
        refine wpAnyE_take (i := 6) (v := ?_) rfl (by kernel_rfl) (by kernel_rfl) (by kernel_rfl) (fun _ _ _ h => h) (Or.inl ⟨by rfl, ?_⟩) (by assumption) ?_
        rotate_left 1
        focus (intro W hSW; (try dsimp only at hSW); go_simp; try with_reducible rfl)
        (try simp only [Act.put, List.setIfInBounds_toArray, List.set_cons_zero, List.set_cons_succ])
        refine wpAnyE_take (i := 9) (v := ?_) rfl (by kernel_rfl) (by kernel_rfl) (by kernel_rfl) (fun _ _ _ h => h) (Or.inl ⟨by rfl, ?_⟩) (by assumption) ?_
        rotate_left 1
        focus (intro W hSW; (try dsimp only at hSW); go_simp; try with_reducible rfl)
        (try simp only [Act.put, List.setIfInBounds_toArray, List.set_cons_zero, List.set_cons_succ])
        refine wpAnyE_take (i := 10) (v := ?_) rfl (by kernel_rfl) (by kernel_rfl) (by kernel_rfl) (fun _ _ _ h => h) (Or.inl ⟨by rfl, ?_⟩) (by assumption) ?_
        rotate_left 1
        focus (intro W hSW; (try dsimp only at hSW); go_simp; try with_reducible rfl)
        (try simp only [Act.put, List.setIfInBounds_toArray, List.set_cons_zero, List.set_cons_succ])
        refine wpAnyE_take (i := 11) (v := ?_) rfl (by kernel_rfl) (by kernel_rfl) (by kernel_rfl) (fun _ _ _ h => h) (Or.inl ⟨by rfl, ?_⟩) (by assumption) ?_
        rotate_left 1
        focus (intro W hSW; (try dsimp only at hSW); go_simp; try with_reducible rfl)
        (try simp only [Act.put, List.setIfInBounds_toArray, List.set_cons_zero, List.set_cons_succ])
        refine wpAnyE_take (i := 12) (v := ?_) rfl (by kernel_rfl) (by kernel_rfl) (by kernel_rfl) (fun _ _ _ h => h) (Or.inl ⟨by rfl, ?_⟩) (by assumption) ?_
        rotate_left 1
        focus (intro W hSW; (try dsimp only at hSW); go_simp; try with_reducible rfl)
        (try simp only [Act.put, List.setIfInBounds_toArray, List.set_cons_zero, List.set_cons_succ])
        refine wpAnyE_pair (i := 0) (j := 7) (by kernel_rfl) rfl rfl (fun K9 hK => ?_) (fun K9 hK => ?_)
        ·
          have HK := Lib.hid hK
          clear hK
          go_simp
          obtain ⟨wa, hw9⟩ : ∃ W, W = (wd).alloc (.cells #[] 29) := ⟨_, rfl⟩
          rw [← hw9]
          obtain ⟨pL, hp9⟩ : ∃ p, p = (wd).heap.size := ⟨_, rfl⟩
          rw [← hp9]
          have HL0 : Hid ((wa).ownsRow pL 29 3 (.slice (some ⟨pL, 0, none⟩) 0 0) 0 []) := by unfold Hid; rw [hw9, hp9]; exact own_lit3 wd 29
          have hx9 : Ext wd wa := by rw [hw9]; exact Ext.alloc _ _
          have XA := Lib.hid ((XD).out.trans hx9)
          have hpL : wc.heap.size ≤ pL := by rw [hp9]; exact (XD).out.size
          try (have hne : pY ≠ pL := by (have := (Array.getElem?_eq_some_iff.1 HY.out).1; omega))
          try (have g9 := Lib.hid (hx9.blk HY.out); clear HY; have HY := g9; clear g9)
          clear hSS hw9 hp9 hx9
          have hSS : (fun W : World => W.cell? ⟨w.heap.size, 1, none⟩ = some (.slice b 0 cb) ∧ W.cell? ⟨w.heap.size + 1, 0, none⟩ = some (.int .i64 y1) ∧ W.cell? ⟨w.heap.size + 1, 1, none⟩ = some (.int .i64 y2) ∧ W.cell? ⟨w.heap.size + 1, 2, none⟩ = some (.int .i64 y3)) wa := HS.out _ XA.out
          refine HK.out _ _ (fun _ => hSS) ?_
          clear HK
          refine wpAnyE_pair (i := 5) (j := 7) (by kernel_rfl) rfl rfl (fun K9 hK => ?_) (fun K9 hK => ?_)
          ·
            have HK := Lib.hid hK
            clear hK
            refine step_append_empty9 rfl (.tmp 30) (.tmp 34) 25 rfl pL 29 l0 3 Try.underlying25 hl0 (.slice (some ⟨pL, 0, none⟩) 0 0) 0 [] (by simp [Act.eval, Act.put]) HL0.out (by trace_state; exact ⟨_, _, rfl⟩) ?_
            clear hSS
            have hSS : (fun W : World => W.cell? ⟨w.heap.size, 1, none⟩ = some (.slice b 0 cb) ∧ W.cell? ⟨w.heap.size + 1, 0, none⟩ = some (.int .i64 y1) ∧ W.cell? ⟨w.heap.size + 1, 1, none⟩ = some (.int .i64 y2) ∧ W.cell? ⟨w.heap.size + 1, 2, none⟩ = some (.int .i64 y3)) wa := HS.out _ XA.out
            refine HK.out _ _ (fun _ => hSS) ?_
            clear HK
            refine wpAnyE_one (i := 7) (by kernel_rfl) rfl (fun K9 hK => ?_)
            have HK := Lib.hid hK
            clear hK
            go_simp
            obtain ⟨wb, hw9⟩ : ∃ W, W = (wa).alloc (.cells #[.int .i64 y1, .int .i64 y2, .int .i64 y3] 29) := ⟨_, rfl⟩
            rw [← hw9]
            obtain ⟨pY, hp9⟩ : ∃ p, p = (wa).heap.size := ⟨_, rfl⟩
            rw [← hp9]
            have HY : Hid ((wb).heap[pY]? = some (.cells #[.int .i64 y1, .int .i64 y2, .int .i64 y3] 29)) := by unfold Hid; rw [hw9, hp9]; exact blk_alloc _ _
            have hx9 : Ext wa wb := by rw [hw9]; exact Ext.alloc _ _
            have XB := Lib.hid ((XA).out.trans hx9)
            try (have hne : pY ≠ pL := by (have := (HL0.out.lt pL rfl).2; omega))
            try (have g9 := Lib.hid (own_ext HL0.out hx9); clear HL0; have HL0 := g9; clear g9)
            clear hSS hw9 hp9 hx9
            have hSS : (fun W : World => W.cell? ⟨w.heap.size, 1, none⟩ = some (.slice b 0 cb) ∧ W.cell? ⟨w.heap.size + 1, 0, none⟩ = some (.int .i64 y1) ∧ W.cell? ⟨w.heap.size + 1, 1, none⟩ = some (.int .i64 y2) ∧ W.cell? ⟨w.heap.size + 1, 2, none⟩ = some (.int .i64 y3)) wb := HS.out _ XB.out
            refine HK.out _ _ (fun _ => hSS) ?_
            clear HK
            refine wpAnyE_one (i := 8) (by kernel_rfl) rfl (fun K9 hK => ?_)
            have HK := Lib.hid hK
            clear hK
            refine step_append_own rfl (.tmp 35) (.tmp 37) 25 rfl wc.heap.size 29 l0 (.agg #[.int .i64 0, .int .i64 0, .int .i64 0]) 3 24 Try.underlying25 hl0 hlz0 hlz1 hlz2 rfl (by decide) (.slice (some ⟨pL, 0, none⟩) 0 0) 0 [] (by simp [Act.eval, Act.put]) (own_mono HL0.out hpL) ⟨pY, 0, none⟩ 1 1 [.int .i64 y1, .int .i64 y2, .int .i64 y3] (by simp [Act.eval, Act.put]) rfl (lit_cells3 HY.out) (by intro u hu; simp at hu; rcases hu with rfl | rfl | rfl <;> rfl) (by unfold maxLen; omega) (by omega) (by have := (XB).out.size; omega) ?_
            intro v8 w9_ hown9 hgr9
            rw [Nat.zero_add] at hown9
            obtain ⟨a9, c9, rfl, _, _, _⟩ := own_form hown9
            have X9 := Lib.hid ((XB).out.gr hgr9 (fun q hq => by have := (HL0.out.lt q hq).1; omega))
            have HC := Lib.hid hown9
            clear hSS hown9 hgr9 HL0 HY
            have hSS : (fun W : World => W.cell? ⟨w.heap.size, 1, none⟩ = some (.slice b 0 cb) ∧ W.cell? ⟨w.heap.size + 1, 0, none⟩ = some (.int .i64 y1) ∧ W.cell? ⟨w.heap.size + 1, 1, none⟩ = some (.int .i64 y2) ∧ W.cell? ⟨w.heap.size + 1, 2, none⟩ = some (.int .i64 y3)) w9_ := HS.out _ X9.out
            refine HK.out _ _ (fun _ => hSS) ?_
            clear HK
            refine wpAnyE_one (i := 13) (by kernel_rfl) rfl (fun K9 hK => ?_)
            have HK := Lib.hid hK
            clear hK
            refine step_append_empty9 rfl (.tmp 38) (.tmp 42) 25 rfl wc.heap.size 29 l0 3 Try.underlying25 hl0 (.slice a9 1 c9) 1 ([] ++ [.int .i64 y1, .int .i64 y2, .int .i64 y3]) (by simp [Act.eval, Act.put]) HC.out (by exact ⟨_, _, rfl⟩) ?_
            refine HK.out _ _ (fun _ => hSS) ?_
            clear HK
            refine wpAnyE_take (i := 14) (v := ?_) rfl (by kernel_rfl) (by kernel_rfl) (by kernel_rfl) (fun _ _ _ h => h) (Or.inl ⟨by rfl, ?_⟩) (by assumption) ?_
            rotate_left 1
            focus (intro W hSW; (try dsimp only at hSW); go_simp; try with_reducible rfl)
            (try simp only [Act.put, List.setIfInBounds_toArray, List.set_cons_zero, List.set_cons_succ])
            clear hSS
            have B6' := Lib.hid (X9.out.blk B6.out)
            have e61 := blk_cell B6'.out (j := 1) (v := .slice al3 0 cl3) rfl
            have f61 := blk_free B6'.out 1
            refine wpAnyE_one (i := 15) (by kernel_rfl) rfl (fun K9 hK => ?_)
            have HK := Lib.hid hK
            clear hK
            go_simp
            refine HK.out _ _ (fun hn => absurd ?_ hn) (wpAnyE_done (by kernel_rfl) ?_ _)
            · intro oj hoj q hq hne
              cases hoj
              revert hne
              revert q
              decide
            clear HK e61 f61
            obtain ⟨w10, hw10⟩ : ∃ W, W = w9_.setCell ⟨w3.heap.size, 1, none⟩ (.slice a9 1 c9) := ⟨_, rfl⟩
            rw [← hw10]
            have B10 : Hid (w10.heap[w3.heap.size]? = some (.cells #[.slice at3 m ct3, .slice a9 1 c9] 27)) := by unfold Hid; rw [hw10, heap_setCell_same _ _ _ _ _ _ B6'.out]; rfl
            have hs3 : w.heap.size + 3 ≤ w3.heap.size := hs33
            have hs4 : w3.heap.size < wc.heap.size := hs3c
            have hs23 : w2.heap.size ≤ w3.heap.size := hs2_3
            have HN : Hid (OwnNet w10 w2.heap.size w10.heap.size (.agg #[.slice at3 m ct3, .slice a9 1 c9]) (adN x (y1, y2, y3))) := by
              have hl2 : (adN x (y1, y2, y3)).2.length = 1 := by
                unfold adN
                rw [HX2.out]
                simp
              have hf2 : (adN x (y1, y2, y3)).2.flatMap encLink = [] ++ [.int .i64 y1, .int .i64 y2, .int .i64 y3] := by
                unfold adN
                rw [HX2.out]
                simp [encLink]
              have ho2 : w10.ownsRow wc.heap.size 29 3 (.slice a9 1 c9) (adN x (y1, y2, y3)).2.length ((adN x (y1, y2, y3)).2.flatMap encLink) := by
                rw [hl2, hf2, hw10]
                exact ownsRow_setCell_below HC.out (by dsimp only; omega) _
              have ho1 : w10.ownsRow w2.heap.size 75 3 (.slice at3 m ct3) (adN x (y1, y2, y3)).1.length ((adN x (y1, y2, y3)).1.flatMap encTower) := by
                show w10.ownsRow w2.heap.size 75 3 (.slice at3 m ct3) x.1.length (x.1.flatMap encTower)
                rw [← HM.out, hw10]
                exact own_setne (own_ext HT5.out X9.out) (fun e => by have := (HT3.out.lt _ e).2; omega)
              exact ⟨_, _, rfl, ⟨own_mono ho1 (Nat.le_refl _), fun q hq => (ho1.lt q hq).2⟩, ⟨own_mono ho2 (by omega), fun q hq => (ho2.lt q hq).2⟩, own_ne_type ho1 ho2 (by decide)⟩
            have X10 : Hid (Ext w w10) := by unfold Hid; rw [hw10]; exact (X5.out.trans X9.out).st (p := ⟨w3.heap.size, 1, none⟩) (by dsimp only; omega) _
            have B3' : Hid (w10.heap[w.heap.size + 2]? = some (.cells #[.slice none 0 0, .slice none 0 0] 27)) := by
              unfold Hid
              rw [hw10, heap_setCell_other _ _ _ _ (by show w.heap.size + 2 ≠ w3.heap.size; omega)]
              exact X9.out.blk B3.out
            have CG2 : Hid (Calls Try.prog 44 #[.agg #[.slice at3 m ct3, .slice a9 1 c9]] w10 fun e w' => e = .returned (.bool ok) ∧ Ext w10 w') := by
              have h9 := c_neGood _ w2.heap.size w10.heap.size (adN x (y1, y2, y3)) w10 HN.out.read (Nat.le_refl _)
              have e9 : netB (adN x (y1, y2, y3)) = ok := by rw [HOK.out, ← HQ.out, Bool.true_and]
              rw [e9] at h9
              exact h9
            have k60 := blk_cell B10.out (j := 0) (v := .slice at3 m ct3) rfl
            have k61 := blk_cell B10.out (j := 1) (v := .slice a9 1 c9) rfl
            clear hw10 B6' HC
            go_wp2_with fail
            refine CG2.out.mono ?_
            rintro e w11 ⟨rfl, hx11⟩
            clear k60 k61 CG2 B3
            have B3 := Lib.hid (hx11.blk B3'.out)
            have X11 := Lib.hid (X10.out.trans hx11)
            have HN11 := Lib.hid (HN.out.ext hx11)
            have B11 := Lib.hid (hx11.blk B10.out)
            have hs11 := hx11.size
            clear B3' X10 HN B10 hx11
            cases ok
            ·
              have HZ := Lib.hid (HV0.out rfl)
              have z0 := blk_cell B3.out (j := 0) (v := .slice none 0 0) rfl
              have z1 := blk_cell B3.out (j := 1) (v := .slice none 0 0) rfl
              have f0 := blk_free B3.out 0
              have f1 := blk_free B3.out 1
              go_wp2
              refine bodyPost_ret (v := .tuple #[.agg #[.slice none 0 0, .slice none 0 0], .bool false]) (by simp [results, Try.results10, go_sem, z0, z1]) rfl ⟨_, rfl, ?_, (X11.out.st (p := ⟨w.heap.size + 2, 0, none⟩) (by dsimp only; omega) _).st (p := ⟨w.heap.size + 2, 1, none⟩) (by dsimp only; omega) _⟩
              rw [HZ.out]
              exact ⟨_, _, rfl, ⟨World.ownsRow_nil _ _ _ _, fun q hq => by simp [Value.ownBlock] at hq⟩, ⟨World.ownsRow_nil _ _ _ _, fun q hq => by simp [Value.ownBlock] at hq⟩, fun q hq => by simp [Value.ownBlock] at hq⟩
            · have HVV := Lib.hid (HV1.out rfl)
              have k60 := blk_cell B11.out (j := 0) (v := .slice at3 m ct3) rfl
              have k61 := blk_cell B11.out (j := 1) (v := .slice a9 1 c9) rfl
              have z0 := blk_cell B3.out (j := 0) (v := .slice none 0 0) rfl
              have z1 := blk_cell B3.out (j := 1) (v := .slice none 0 0) rfl
              have f0 := blk_free B3.out 0
              have f1 := blk_free B3.out 1
              go_wp2
              obtain ⟨w12, hw12⟩ : ∃ W, W = (w11.setCell ⟨w.heap.size + 1 + 1, 0, none⟩ (.slice at3 m ct3)).setCell ⟨w.heap.size + 1 + 1, 1, none⟩ (.slice a9 1 c9) := ⟨_, rfl⟩
              rw [← hw12]
              have g1 : (w11.setCell ⟨w.heap.size + 2, 0, none⟩ (.slice at3 m ct3)).heap[w.heap.size + 2]? = some (.cells #[.slice at3 m ct3, .slice none 0 0] 27) := by rw [heap_setCell_same _ _ _ _ _ _ B3.out]; rfl
              have g2 : w12.heap[w.heap.size + 2]? = some (.cells #[.slice at3 m ct3, .slice a9 1 c9] 27) := by rw [hw12]; exact (heap_setCell_same _ _ _ _ _ _ g1).trans rfl
              have k70 := blk_cell g2 (j := 0) (v := .slice at3 m ct3) rfl
              have k71 := blk_cell g2 (j := 1) (v := .slice a9 1 c9) rfl
              have HK12 : Keep (w.heap.size + 2) (w.heap.size + 3) w11 w12 := by rw [hw12]; exact (keep_setj9 w11 (w.heap.size + 2) 0 _).trans (keep_setj9 _ (w.heap.size + 2) 1 _)
              have HO12 := Lib.hid (HN11.out.keepd HK12 (Or.inr hs20))
              have X12 : Hid (Ext w w12) := by
                unfold Hid; rw [hw12]
                exact (X11.out.st (p := ⟨w.heap.size + 1 + 1, 0, none⟩) (by dsimp only; omega) _).st (p := ⟨w.heap.size + 1 + 1, 1, none⟩) (by dsimp only; omega) _
              have hs12 := HK12.size
              clear hw12 g1 g2 HK12
              refine bodyPost_ret (v := .tuple #[.agg #[.slice at3 m ct3, .slice a9 1 c9], .bool true]) (by simp [results, Try.results10, go_sem, k70, k71]) rfl ⟨_, rfl, ?_, X12.out⟩
              rw [HVV.out]
              obtain ⟨vt, vl, e, q1, q2, q3⟩ := HO12.out
              exact ⟨vt, vl, e, q1.mono (by omega) (Nat.le_trans hs11 hs12), q2.mono (by omega) (Nat.le_trans hs11 hs12), q3⟩
          ·
            have HK := Lib.hid hK
            clear hK
            go_simp
            obtain ⟨wb, hw9⟩ : ∃ W, W = (wa).alloc (.cells #[.int .i64 y1, .int .i64 y2, .int .i64 y3] 29) := ⟨_, rfl⟩
            rw [← hw9]
            obtain ⟨pY, hp9⟩ : ∃ p, p = (wa).heap.size := ⟨_, rfl⟩
            rw [← hp9]
            have HY : Hid ((wb).heap[pY]? = some (.cells #[.int .i64 y1, .int .i64 y2, .int .i64 y3] 29)) := by unfold Hid; rw [hw9, hp9]; exact blk_alloc _ _
            have hx9 : Ext wa wb := by rw [hw9]; exact Ext.alloc _ _
            have XB := Lib.hid ((XA).out.trans hx9)
            try (have hne : pY ≠ pL := by (have := (HL0.out.lt pL rfl).2; omega))
            try (have g9 := Lib.hid (own_ext HL0.out hx9); clear HL0; have HL0 := g9; clear g9)
            clear hSS hw9 hp9 hx9
            have hSS : (fun W : World => W.cell? ⟨w.heap.size, 1, none⟩ = some (.slice b 0 cb) ∧ W.cell? ⟨w.heap.size + 1, 0, none⟩ = some (.int .i64 y1) ∧ W.cell? ⟨w.heap.size + 1, 1, none⟩ = some (.int .i64 y2) ∧ W.cell? ⟨w.heap.size + 1, 2, none⟩ = some (.int .i64 y3)) wb := HS.out _ XB.out
            refine HK.out _ _ (fun _ => hSS) ?_
            clear HK
            refine wpAnyE_one (i := 5) (by kernel_rfl) rfl (fun K9 hK => ?_)
            have HK := Lib.hid hK
            clear hK
            refine step_append_empty9 rfl (.tmp 30) (.tmp 34) 25 rfl pL 29 l0 3 Try.underlying25 hl0 (.slice (some ⟨pL, 0, none⟩) 0 0) 0 [] (by simp [Act.eval, Act.put]) HL0.out (by trace_state; exact ⟨_, _, rfl⟩) ?_
            clear hSS
            have hSS : (fun W : World => W.cell? ⟨w.heap.size, 1, none⟩ = some (.slice b 0 cb) ∧ W.cell? ⟨w.heap.size + 1, 0, none⟩ = some (.int .i64 y1) ∧ W.cell? ⟨w.heap.size + 1, 1, none⟩ = some (.int .i64 y2) ∧ W.cell? ⟨w.heap.size + 1, 2, none⟩ = some (.int .i64 y3)) wb := HS.out _ XB.out
            refine HK.out _ _ (fun _ => hSS) ?_
            clear HK
            refine wpAnyE_one (i := 8) (by kernel_rfl) rfl (fun K9 hK => ?_)
            have HK := Lib.hid hK
            clear hK
            refine step_append_own rfl (.tmp 35) (.tmp 37) 25 rfl wc.heap.size 29 l0 (.agg #[.int .i64 0, .int .i64 0, .int .i64 0]) 3 24 Try.underlying25 hl0 hlz0 hlz1 hlz2 rfl (by decide) (.slice (some ⟨pL, 0, none⟩) 0 0) 0 [] (by simp [Act.eval, Act.put]) (own_mono HL0.out hpL) ⟨pY, 0, none⟩ 1 1 [.int .i64 y1, .int .i64 y2, .int .i64 y3] (by simp [Act.eval, Act.put]) rfl (lit_cells3 HY.out) (by intro u hu; simp at hu; rcases hu with rfl | rfl | rfl <;> rfl) (by unfold maxLen; omega) (by omega) (by have := (XB).out.size; omega) ?_
            intro v8 w9_ hown9 hgr9
            rw [Nat.zero_add] at hown9
            obtain ⟨a9, c9, rfl, _, _, _⟩ := own_form hown9
            have X9 := Lib.hid ((XB).out.gr hgr9 (fun q hq => by have := (HL0.out.lt q hq).1; omega))
            have HC := Lib.hid hown9
            clear hSS hown9 hgr9 HL0 HY
            have hSS : (fun W : World => W.cell? ⟨w.heap.size, 1, none⟩ = some (.slice b 0 cb) ∧ W.cell? ⟨w.heap.size + 1, 0, none⟩ = some (.int .i64 y1) ∧ W.cell? ⟨w.heap.size + 1, 1, none⟩ = some (.int .i64 y2) ∧ W.cell? ⟨w.heap.size + 1, 2, none⟩ = some (.int .i64 y3)) w9_ := HS.out _ X9.out
            refine HK.out _ _ (fun _ => hSS) ?_
            clear HK
            refine wpAnyE_one (i := 13) (by kernel_rfl) rfl (fun K9 hK => ?_)
            have HK := Lib.hid hK
            clear hK
            refine step_append_empty9 rfl (.tmp 38) (.tmp 42) 25 rfl wc.heap.size 29 l0 3 Try.underlying25 hl0 (.slice a9 1 c9) 1 ([] ++ [.int .i64 y1, .int .i64 y2, .int .i64 y3]) (by simp [Act.eval, Act.put]) HC.out (by exact ⟨_, _, rfl⟩) ?_
            refine HK.out _ _ (fun _ => hSS) ?_
            clear HK
            refine wpAnyE_take (i := 14) (v := ?_) rfl (by kernel_rfl) (by kernel_rfl) (by kernel_rfl) (fun _ _ _ h => h) (Or.inl ⟨by rfl, ?_⟩) (by assumption) ?_
            rotate_left 1
            focus (intro W hSW; (try dsimp only at hSW); go_simp; try with_reducible rfl)
            (try simp only [Act.put, List.setIfInBounds_toArray, List.set_cons_zero, List.set_cons_succ])
            clear hSS
            have B6' := Lib.hid (X9.out.blk B6.out)
            have e61 := blk_cell B6'.out (j := 1) (v := .slice al3 0 cl3) rfl
            have f61 := blk_free B6'.out 1
            refine wpAnyE_one (i := 15) (by kernel_rfl) rfl (fun K9 hK => ?_)
            have HK := Lib.hid hK
            clear hK
            go_simp
            refine HK.out _ _ (fun hn => absurd ?_ hn) (wpAnyE_done (by kernel_rfl) ?_ _)
            · intro oj hoj q hq hne
              cases hoj
              revert hne
              revert q
              decide
            clear HK e61 f61
            obtain ⟨w10, hw10⟩ : ∃ W, W = w9_.setCell ⟨w3.heap.size, 1, none⟩ (.slice a9 1 c9) := ⟨_, rfl⟩
            rw [← hw10]
            have B10 : Hid (w10.heap[w3.heap.size]? = some (.cells #[.slice at3 m ct3, .slice a9 1 c9] 27)) := by unfold Hid; rw [hw10, heap_setCell_same _ _ _ _ _ _ B6'.out]; rfl
            have hs3 : w.heap.size + 3 ≤ w3.heap.size := hs33
            have hs4 : w3.heap.size < wc.heap.size := hs3c
            have hs23 : w2.heap.size ≤ w3.heap.size := hs2_3
            have HN : Hid (OwnNet w10 w2.heap.size w10.heap.size (.agg #[.slice at3 m ct3, .slice a9 1 c9]) (adN x (y1, y2, y3))) := by
              have hl2 : (adN x (y1, y2, y3)).2.length = 1 := by
                unfold adN
                rw [HX2.out]
                simp
              have hf2 : (adN x (y1, y2, y3)).2.flatMap encLink = [] ++ [.int .i64 y1, .int .i64 y2, .int .i64 y3] := by
                unfold adN
                rw [HX2.out]
                simp [encLink]
              have ho2 : w10.ownsRow wc.heap.size 29 3 (.slice a9 1 c9) (adN x (y1, y2, y3)).2.length ((adN x (y1, y2, y3)).2.flatMap encLink) := by
                rw [hl2, hf2, hw10]
                exact ownsRow_setCell_below HC.out (by dsimp only; omega) _
              have ho1 : w10.ownsRow w2.heap.size 75 3 (.slice at3 m ct3) (adN x (y1, y2, y3)).1.length ((adN x (y1, y2, y3)).1.flatMap encTower) := by
                show w10.ownsRow w2.heap.size 75 3 (.slice at3 m ct3) x.1.length (x.1.flatMap encTower)
                rw [← HM.out, hw10]
                exact own_setne (own_ext HT5.out X9.out) (fun e => by have := (HT3.out.lt _ e).2; omega)
              exact ⟨_, _, rfl, ⟨own_mono ho1 (Nat.le_refl _), fun q hq => (ho1.lt q hq).2⟩, ⟨own_mono ho2 (by omega), fun q hq => (ho2.lt q hq).2⟩, own_ne_type ho1 ho2 (by decide)⟩
            have X10 : Hid (Ext w w10) := by unfold Hid; rw [hw10]; exact (X5.out.trans X9.out).st (p := ⟨w3.heap.size, 1, none⟩) (by dsimp only; omega) _
            have B3' : Hid (w10.heap[w.heap.size + 2]? = some (.cells #[.slice none 0 0, .slice none 0 0] 27)) := by
              unfold Hid
              rw [hw10, heap_setCell_other _ _ _ _ (by show w.heap.size + 2 ≠ w3.heap.size; omega)]
              exact X9.out.blk B3.out
            have CG2 : Hid (Calls Try.prog 44 #[.agg #[.slice at3 m ct3, .slice a9 1 c9]] w10 fun e w' => e = .returned (.bool ok) ∧ Ext w10 w') := by
              have h9 := c_neGood _ w2.heap.size w10.heap.size (adN x (y1, y2, y3)) w10 HN.out.read (Nat.le_refl _)
              have e9 : netB (adN x (y1, y2, y3)) = ok := by rw [HOK.out, ← HQ.out, Bool.true_and]
              rw [e9] at h9
              exact h9
            have k60 := blk_cell B10.out (j := 0) (v := .slice at3 m ct3) rfl
            have k61 := blk_cell B10.out (j := 1) (v := .slice a9 1 c9) rfl
            clear hw10 B6' HC
            go_wp2_with fail
            refine CG2.out.mono ?_
            rintro e w11 ⟨rfl, hx11⟩
            clear k60 k61 CG2 B3
            have B3 := Lib.hid (hx11.blk B3'.out)
            have X11 := Lib.hid (X10.out.trans hx11)
            have HN11 := Lib.hid (HN.out.ext hx11)
            have B11 := Lib.hid (hx11.blk B10.out)
            have hs11 := hx11.size
            clear B3' X10 HN B10 hx11
            cases ok
            ·
              have HZ := Lib.hid (HV0.out rfl)
              have z0 := blk_cell B3.out (j := 0) (v := .slice none 0 0) rfl
              have z1 := blk_cell B3.out (j := 1) (v := .slice none 0 0) rfl
              have f0 := blk_free B3.out 0
              have f1 := blk_free B3.out 1
              go_wp2
              refine bodyPost_ret (v := .tuple #[.agg #[.slice none 0 0, .slice none 0 0], .bool false]) (by simp [results, Try.results10, go_sem, z0, z1]) rfl ⟨_, rfl, ?_, (X11.out.st (p := ⟨w.heap.size + 2, 0, none⟩) (by dsimp only; omega) _).st (p := ⟨w.heap.size + 2, 1, none⟩) (by dsimp only; omega) _⟩
              rw [HZ.out]
              exact ⟨_, _, rfl, ⟨World.ownsRow_nil _ _ _ _, fun q hq => by simp [Value.ownBlock] at hq⟩, ⟨World.ownsRow_nil _ _ _ _, fun q hq => by simp [Value.ownBlock] at hq⟩, fun q hq => by simp [Value.ownBlock] at hq⟩
            · have HVV := Lib.hid (HV1.out rfl)
              have k60 := blk_cell B11.out (j := 0) (v := .slice at3 m ct3) rfl
              have k61 := blk_cell B11.out (j := 1) (v := .slice a9 1 c9) rfl
              have z0 := blk_cell B3.out (j := 0) (v := .slice none 0 0) rfl
              have z1 := blk_cell B3.out (j := 1) (v := .slice none 0 0) rfl
              have f0 := blk_free B3.out 0
              have f1 := blk_free B3.out 1
              go_wp2
              obtain ⟨w12, hw12⟩ : ∃ W, W = (w11.setCell ⟨w.heap.size + 1 + 1, 0, none⟩ (.slice at3 m ct3)).setCell ⟨w.heap.size + 1 + 1, 1, none⟩ (.slice a9 1 c9) := ⟨_, rfl⟩
              rw [← hw12]
              have g1 : (w11.setCell ⟨w.heap.size + 2, 0, none⟩ (.slice at3 m ct3)).heap[w.heap.size + 2]? = some (.cells #[.slice at3 m ct3, .slice none 0 0] 27) := by rw [heap_setCell_same _ _ _ _ _ _ B3.out]; rfl
              have g2 : w12.heap[w.heap.size + 2]? = some (.cells #[.slice at3 m ct3, .slice a9 1 c9] 27) := by rw [hw12]; exact (heap_setCell_same _ _ _ _ _ _ g1).trans rfl
              have k70 := blk_cell g2 (j := 0) (v := .slice at3 m ct3) rfl
              have k71 := blk_cell g2 (j := 1) (v := .slice a9 1 c9) rfl
              have HK12 : Keep (w.heap.size + 2) (w.heap.size + 3) w11 w12 := by rw [hw12]; exact (keep_setj9 w11 (w.heap.size + 2) 0 _).trans (keep_setj9 _ (w.heap.size + 2) 1 _)
              have HO12 := Lib.hid (HN11.out.keepd HK12 (Or.inr hs20))
              have X12 : Hid (Ext w w12) := by
                unfold Hid; rw [hw12]
                exact (X11.out.st (p := ⟨w.heap.size + 1 + 1, 0, none⟩) (by dsimp only; omega) _).st (p := ⟨w.heap.size + 1 + 1, 1, none⟩) (by dsimp only; omega) _
              have hs12 := HK12.size
              clear hw12 g1 g2 HK12
              refine bodyPost_ret (v := .tuple #[.agg #[.slice at3 m ct3, .slice a9 1 c9], .bool true]) (by simp [results, Try.results10, go_sem, k70, k71]) rfl ⟨_, rfl, ?_, X12.out⟩
              rw [HVV.out]
              obtain ⟨vt, vl, e, q1, q2, q3⟩ := HO12.out
              exact ⟨vt, vl, e, q1.mono (by omega) (Nat.le_trans hs11 hs12), q2.mono (by omega) (Nat.le_trans hs11 hs12), q3⟩
        ·
          have HK := Lib.hid hK
          clear hK
          go_simp
          obtain ⟨wa, hw9⟩ : ∃ W, W = (wd).alloc (.cells #[.int .i64 y1, .int .i64 y2, .int .i64 y3] 29) := ⟨_, rfl⟩
          rw [← hw9]
          obtain ⟨pY, hp9⟩ : ∃ p, p = (wd).heap.size := ⟨_, rfl⟩
          rw [← hp9]
          have HY : Hid ((wa).heap[pY]? = some (.cells #[.int .i64 y1, .int .i64 y2, .int .i64 y3] 29)) := by unfold Hid; rw [hw9, hp9]; exact blk_alloc _ _
          have hx9 : Ext wd wa := by rw [hw9]; exact Ext.alloc _ _
          have XA := Lib.hid ((XD).out.trans hx9)
          try (have hne : pY ≠ pL := by (have := (HL0.out.lt pL rfl).2; omega))
          try (have g9 := Lib.hid (own_ext HZZ.out hx9); clear HZZ; have HZZ := g9; clear g9)
          clear hSS hw9 hp9 hx9
          have hSS : (fun W : World => W.cell? ⟨w.heap.size, 1, none⟩ = some (.slice b 0 cb) ∧ W.cell? ⟨w.heap.size + 1, 0, none⟩ = some (.int .i64 y1) ∧ W.cell? ⟨w.heap.size + 1, 1, none⟩ = some (.int .i64 y2) ∧ W.cell? ⟨w.heap.size + 1, 2, none⟩ = some (.int .i64 y3)) wa := HS.out _ XA.out
          refine HK.out _ _ (fun _ => hSS) ?_
          clear HK
          refine wpAnyE_one (i := 0) (by kernel_rfl) rfl (fun K9 hK => ?_)
          have HK := Lib.hid hK
          clear hK
          go_simp
          obtain ⟨wb, hw9⟩ : ∃ W, W = (wa).alloc (.cells #[] 29) := ⟨_, rfl⟩
          rw [← hw9]
          obtain ⟨pL, hp9⟩ : ∃ p, p = (wa).heap.size := ⟨_, rfl⟩
          rw [← hp9]
          have HL0 : Hid ((wb).ownsRow pL 29 3 (.slice (some ⟨pL, 0, none⟩) 0 0) 0 []) := by unfold Hid; rw [hw9, hp9]; exact own_lit3 wa 29
          have hx9 : Ext wa wb := by rw [hw9]; exact Ext.alloc _ _
          have XB := Lib.hid ((XA).out.trans hx9)
          have hpL : wc.heap.size ≤ pL := by rw [hp9]; exact (XA).out.size
          try (have hne : pY ≠ pL := by (have := (Array.getElem?_eq_some_iff.1 HY.out).1; omega))
          try (have g9 := Lib.hid (hx9.blk HY.out); clear HY; have HY := g9; clear g9)
          clear hSS hw9 hp9 hx9
          have hSS : (fun W : World => W.cell? ⟨w.heap.size, 1, none⟩ = some (.slice b 0 cb) ∧ W.cell? ⟨w.heap.size + 1, 0, none⟩ = some (.int .i64 y1) ∧ W.cell? ⟨w.heap.size + 1, 1, none⟩ = some (.int .i64 y2) ∧ W.cell? ⟨w.heap.size + 1, 2, none⟩ = some (.int .i64 y3)) wb := HS.out _ XB.out
          refine HK.out _ _ (fun _ => hSS) ?_
          clear HK
          refine wpAnyE_one (i := 5) (by kernel_rfl) rfl (fun K9 hK => ?_)
          have HK := Lib.hid hK
          clear hK
          refine step_append_empty9 rfl (.tmp 30) (.tmp 34) 25 rfl pL 29 l0 3 Try.underlying25 hl0 (.slice (some ⟨pL, 0, none⟩) 0 0) 0 [] (by simp [Act.eval, Act.put]) HL0.out (by trace_state; exact ⟨_, _, rfl⟩) ?_
          clear hSS
          have hSS : (fun W : World => W.cell? ⟨w.heap.size, 1, none⟩ = some (.slice b 0 cb) ∧ W.cell? ⟨w.heap.size + 1, 0, none⟩ = some (.int .i64 y1) ∧ W.cell? ⟨w.heap.size + 1, 1, none⟩ = some (.int .i64 y2) ∧ W.cell? ⟨w.heap.size + 1, 2, none⟩ = some (.int .i64 y3)) wb := HS.out _ XB.out
          refine HK.out _ _ (fun _ => hSS) ?_
          clear HK
          refine wpAnyE_one (i := 8) (by kernel_rfl) rfl (fun K9 hK => ?_)
          have HK := Lib.hid hK
          clear hK
          refine step_append_own rfl (.tmp 35) (.tmp 37) 25 rfl wc.heap.size 29 l0 (.agg #[.int .i64 0, .int .i64 0, .int .i64 0]) 3 24 Try.underlying25 hl0 hlz0 hlz1 hlz2 rfl (by decide) (.slice (some ⟨pL, 0, none⟩) 0 0) 0 [] (by simp [Act.eval, Act.put]) (own_mono HL0.out hpL) ⟨pY, 0, none⟩ 1 1 [.int .i64 y1, .int .i64 y2, .int .i64 y3] (by simp [Act.eval, Act.put]) rfl (lit_cells3 HY.out) (by intro u hu; simp at hu; rcases hu with rfl | rfl | rfl <;> rfl) (by unfold maxLen; omega) (by omega) (by have := (XB).out.size; omega) ?_
          intro v8 w9_ hown9 hgr9
          rw [Nat.zero_add] at hown9
          obtain ⟨a9, c9, rfl, _, _, _⟩ := own_form hown9
          have X9 := Lib.hid ((XB).out.gr hgr9 (fun q hq => by have := (HL0.out.lt q hq).1; omega))
          have HC := Lib.hid hown9
          clear hSS hown9 hgr9 HL0 HY
          have hSS : (fun W : World => W.cell? ⟨w.heap.size, 1, none⟩ = some (.slice b 0 cb) ∧ W.cell? ⟨w.heap.size + 1, 0, none⟩ = some (.int .i64 y1) ∧ W.cell? ⟨w.heap.size + 1, 1, none⟩ = some (.int .i64 y2) ∧ W.cell? ⟨w.heap.size + 1, 2, none⟩ = some (.int .i64 y3)) w9_ := HS.out _ X9.out
          refine HK.out _ _ (fun _ => hSS) ?_
          clear HK
          refine wpAnyE_one (i := 13) (by kernel_rfl) rfl (fun K9 hK => ?_)
          have HK := Lib.hid hK
          clear hK
          refine step_append_empty9 rfl (.tmp 38) (.tmp 42) 25 rfl wc.heap.size 29 l0 3 Try.underlying25 hl0 (.slice a9 1 c9) 1 ([] ++ [.int .i64 y1, .int .i64 y2, .int .i64 y3]) (by simp [Act.eval, Act.put]) HC.out (by exact ⟨_, _, rfl⟩) ?_
          refine HK.out _ _ (fun _ => hSS) ?_
          clear HK
          refine wpAnyE_take (i := 14) (v := ?_) rfl (by kernel_rfl) (by kernel_rfl) (by kernel_rfl) (fun _ _ _ h => h) (Or.inl ⟨by rfl, ?_⟩) (by assumption) ?_
          rotate_left 1
          focus (intro W hSW; (try dsimp only at hSW); go_simp; try with_reducible rfl)
          (try simp only [Act.put, List.setIfInBounds_toArray, List.set_cons_zero, List.set_cons_succ])
          clear hSS
          have B6' := Lib.hid (X9.out.blk B6.out)
          have e61 := blk_cell B6'.out (j := 1) (v := .slice al3 0 cl3) rfl
          have f61 := blk_free B6'.out 1
          refine wpAnyE_one (i := 15) (by kernel_rfl) rfl (fun K9 hK => ?_)
          have HK := Lib.hid hK
          clear hK
          go_simp
          refine HK.out _ _ (fun hn => absurd ?_ hn) (wpAnyE_done (by kernel_rfl) ?_ _)
          · intro oj hoj q hq hne
            cases hoj
            revert hne
            revert q
            decide
          clear HK e61 f61
          obtain ⟨w10, hw10⟩ : ∃ W, W = w9_.setCell ⟨w3.heap.size, 1, none⟩ (.slice a9 1 c9) := ⟨_, rfl⟩
          rw [← hw10]
          have B10 : Hid (w10.heap[w3.heap.size]? = some (.cells #[.slice at3 m ct3, .slice a9 1 c9] 27)) := by unfold Hid; rw [hw10, heap_setCell_same _ _ _ _ _ _ B6'.out]; rfl
          have hs3 : w.heap.size + 3 ≤ w3.heap.size := hs33
          have hs4 : w3.heap.size < wc.heap.size := hs3c
          have hs23 : w2.heap.size ≤ w3.heap.size := hs2_3
          have HN : Hid (OwnNet w10 w2.heap.size w10.heap.size (.agg #[.slice at3 m ct3, .slice a9 1 c9]) (adN x (y1, y2, y3))) := by
            have hl2 : (adN x (y1, y2, y3)).2.length = 1 := by
              unfold adN
              rw [HX2.out]
              simp
            have hf2 : (adN x (y1, y2, y3)).2.flatMap encLink = [] ++ [.int .i64 y1, .int .i64 y2, .int .i64 y3] := by
              unfold adN
              rw [HX2.out]
              simp [encLink]
            have ho2 : w10.ownsRow wc.heap.size 29 3 (.slice a9 1 c9) (adN x (y1, y2, y3)).2.length ((adN x (y1, y2, y3)).2.flatMap encLink) := by
              rw [hl2, hf2, hw10]
              exact ownsRow_setCell_below HC.out (by dsimp only; omega) _
            have ho1 : w10.ownsRow w2.heap.size 75 3 (.slice at3 m ct3) (adN x (y1, y2, y3)).1.length ((adN x (y1, y2, y3)).1.flatMap encTower) := by
              show w10.ownsRow w2.heap.size 75 3 (.slice at3 m ct3) x.1.length (x.1.flatMap encTower)
              rw [← HM.out, hw10]
              exact own_setne (own_ext HT5.out X9.out) (fun e => by have := (HT3.out.lt _ e).2; omega)
            exact ⟨_, _, rfl, ⟨own_mono ho1 (Nat.le_refl _), fun q hq => (ho1.lt q hq).2⟩, ⟨own_mono ho2 (by omega), fun q hq => (ho2.lt q hq).2⟩, own_ne_type ho1 ho2 (by decide)⟩
          have X10 : Hid (Ext w w10) := by unfold Hid; rw [hw10]; exact (X5.out.trans X9.out).st (p := ⟨w3.heap.size, 1, none⟩) (by dsimp only; omega) _
          have B3' : Hid (w10.heap[w.heap.size + 2]? = some (.cells #[.slice none 0 0, .slice none 0 0] 27)) := by
            unfold Hid
            rw [hw10, heap_setCell_other _ _ _ _ (by show w.heap.size + 2 ≠ w3.heap.size; omega)]
            exact X9.out.blk B3.out
          have CG2 : Hid (Calls Try.prog 44 #[.agg #[.slice at3 m ct3, .slice a9 1 c9]] w10 fun e w' => e = .returned (.bool ok) ∧ Ext w10 w') := by
            have h9 := c_neGood _ w2.heap.size w10.heap.size (adN x (y1, y2, y3)) w10 HN.out.read (Nat.le_refl _)
            have e9 : netB (adN x (y1, y2, y3)) = ok := by rw [HOK.out, ← HQ.out, Bool.true_and]
            rw [e9] at h9
            exact h9
          have k60 := blk_cell B10.out (j := 0) (v := .slice at3 m ct3) rfl
          have k61 := blk_cell B10.out (j := 1) (v := .slice a9 1 c9) rfl
          clear hw10 B6' HC
          go_wp2_with fail
          refine CG2.out.mono ?_
          rintro e w11 ⟨rfl, hx11⟩
          clear k60 k61 CG2 B3
          have B3 := Lib.hid (hx11.blk B3'.out)
          have X11 := Lib.hid (X10.out.trans hx11)
          have HN11 := Lib.hid (HN.out.ext hx11)
          have B11 := Lib.hid (hx11.blk B10.out)
          have hs11 := hx11.size
          clear B3' X10 HN B10 hx11
          cases ok
          ·
            have HZ := Lib.hid (HV0.out rfl)
            have z0 := blk_cell B3.out (j := 0) (v := .slice none 0 0) rfl
            have z1 := blk_cell B3.out (j := 1) (v := .slice none 0 0) rfl
            have f0 := blk_free B3.out 0
            have f1 := blk_free B3.out 1
            go_wp2
            refine bodyPost_ret (v := .tuple #[.agg #[.slice none 0 0, .slice none 0 0], .bool false]) (by simp [results, Try.results10, go_sem, z0, z1]) rfl ⟨_, rfl, ?_, (X11.out.st (p := ⟨w.heap.size + 2, 0, none⟩) (by dsimp only; omega) _).st (p := ⟨w.heap.size + 2, 1, none⟩) (by dsimp only; omega) _⟩
            rw [HZ.out]
            exact ⟨_, _, rfl, ⟨World.ownsRow_nil _ _ _ _, fun q hq => by simp [Value.ownBlock] at hq⟩, ⟨World.ownsRow_nil _ _ _ _, fun q hq => by simp [Value.ownBlock] at hq⟩, fun q hq => by simp [Value.ownBlock] at hq⟩
          · have HVV := Lib.hid (HV1.out rfl)
            have k60 := blk_cell B11.out (j := 0) (v := .slice at3 m ct3) rfl
            have k61 := blk_cell B11.out (j := 1) (v := .slice a9 1 c9) rfl
            have z0 := blk_cell B3.out (j := 0) (v := .slice none 0 0) rfl
            have z1 := blk_cell B3.out (j := 1) (v := .slice none 0 0) rfl
            have f0 := blk_free B3.out 0
            have f1 := blk_free B3.out 1
            go_wp2
            obtain ⟨w12, hw12⟩ : ∃ W, W = (w11.setCell ⟨w.heap.size + 1 + 1, 0, none⟩ (.slice at3 m ct3)).setCell ⟨w.heap.size + 1 + 1, 1, none⟩ (.slice a9 1 c9) := ⟨_, rfl⟩
            rw [← hw12]
            have g1 : (w11.setCell ⟨w.heap.size + 2, 0, none⟩ (.slice at3 m ct3)).heap[w.heap.size + 2]? = some (.cells #[.slice at3 m ct3, .slice none 0 0] 27) := by rw [heap_setCell_same _ _ _ _ _ _ B3.out]; rfl
            have g2 : w12.heap[w.heap.size + 2]? = some (.cells #[.slice at3 m ct3, .slice a9 1 c9] 27) := by rw [hw12]; exact (heap_setCell_same _ _ _ _ _ _ g1).trans rfl
            have k70 := blk_cell g2 (j := 0) (v := .slice at3 m ct3) rfl
            have k71 := blk_cell g2 (j := 1) (v := .slice a9 1 c9) rfl
            have HK12 : Keep (w.heap.size + 2) (w.heap.size + 3) w11 w12 := by rw [hw12]; exact (keep_setj9 w11 (w.heap.size + 2) 0 _).trans (keep_setj9 _ (w.heap.size + 2) 1 _)
            have HO12 := Lib.hid (HN11.out.keepd HK12 (Or.inr hs20))
            have X12 : Hid (Ext w w12) := by
              unfold Hid; rw [hw12]
              exact (X11.out.st (p := ⟨w.heap.size + 1 + 1, 0, none⟩) (by dsimp only; omega) _).st (p := ⟨w.heap.size + 1 + 1, 1, none⟩) (by dsimp only; omega) _
            have hs12 := HK12.size
            clear hw12 g1 g2 HK12
            refine bodyPost_ret (v := .tuple #[.agg #[.slice at3 m ct3, .slice a9 1 c9], .bool true]) (by simp [results, Try.results10, go_sem, k70, k71]) rfl ⟨_, rfl, ?_, X12.out⟩
            rw [HVV.out]
            obtain ⟨vt, vl, e, q1, q2, q3⟩ := HO12.out
            exact ⟨vt, vl, e, q1.mono (by omega) (Nat.le_trans hs11 hs12), q2.mono (by omega) (Nat.le_trans hs11 hs12), q3⟩
end Go.Proofs.Ytiipjlcmekakaaa
