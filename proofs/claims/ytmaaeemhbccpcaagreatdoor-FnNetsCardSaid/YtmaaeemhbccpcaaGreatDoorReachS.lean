

/- What can be reached by links: the reference's search. -/
import Derived.Test.YtmaaeemhbccpcaaGreatDoorReachP
import Derived.Test.YtmaaeemhbccpcaaGreatDoorGB
import Derived.Deep.RegionHeld3
namespace Go.Proofs.YtmaaeemhbccpcaaGreatDoor
open Go.RowKit
/-- What the search keeps: no number twice, all of them towers that can be reached, the first among them. -/
structure Found (m : Nat) (L : List LinkT) (i : Int) (M : List Int) : Prop where
  mem : i ∈ M
  nod : M.Nodup
  bd : ∀ x ∈ M, 0 ≤ x ∧ x < (m : Int)
  snd : ∀ x ∈ M, ReachL L i x
theorem Found.len {m : Nat} {L : List LinkT} {i : Int} {M : List Int} (h : Found m L i M) : M.length ≤ m := nodup_len m M h.nod h.bd
theorem Found.add {m : Nat} {L : List LinkT} {i z : Int} {M : List Int} (h : Found m L i M) (hz : z ∉ M) (hb : 0 ≤ z ∧ z < (m : Int)) (hr : ReachL L i z) : Found m L i (M ++ [z]) := by
  refine ⟨by simp [h.mem], ?_, fun x hx => ?_, fun x hx => ?_⟩
  · rw [List.nodup_append]
    exact ⟨h.nod, by simp, fun a ha b hb e => by simp at hb; subst hb; subst e; exact hz ha⟩
  · rcases List.mem_append.1 hx with hx | hx
    · exact h.bd x hx
    · simp at hx; subst hx; exact hb
  · rcases List.mem_append.1 hx with hx | hx
    · exact h.snd x hx
    · simp at hx; subst hx; exact hr
/-- The neighbours of the first k of them are found. -/
def Near (x : NetT) (m : Nat) (M : List Int) (k : Nat) : Prop := ∀ z ∈ M.take k, ∀ q : Nat, q < m → nbF x z q = true → ((q : Nat) : Int) ∈ M
theorem near_closed {x : NetT} {M : List Int} (hl : ∀ y ∈ x.2, lkB x.1.length y = true) (h : Near x x.1.length M M.length) : ClosedL x.2 (· ∈ M) := by
  intro y hy
  have h1 := hl y hy
  simp only [lkB, Bool.and_eq_true, decide_eq_true_eq] at h1
  obtain ⟨a1, a2, a3, _⟩ := h1
  rw [Near, List.take_length] at h
  constructor
  · intro hm
    have := h _ hm y.2.1.toNat (by omega) (nbF_iff.2 ⟨y, hy, .inl ⟨rfl, by omega⟩⟩)
    rwa [show ((y.2.1.toNat : Nat) : Int) = y.2.1 by omega] at this
  · intro hm
    have := h _ hm y.1.toNat (by omega) (nbF_iff.2 ⟨y, hy, .inr ⟨by omega, rfl⟩⟩)
    rwa [show ((y.1.toNat : Nat) : Int) = y.1 by omega] at this
theorem near_reach {x : NetT} {i z : Int} {q : Nat} (h : nbF x z q = true) (hr : ReachL x.2 i z) : ReachL x.2 i q := by
  obtain ⟨y, hy, h1 | h1⟩ := nbF_iff.1 h
  · rw [← h1.2]; rw [← h1.1] at hr; exact (ReachL.step hy).1 hr
  · rw [← h1.1]; rw [← h1.2] at hr; exact (ReachL.step hy).2 hr
theorem near_step {x : NetT} {m k : Nat} {M M' E : List Int} {z : Int} (h : Near x m M k) (hz : M[k]? = some z) (he : M' = M ++ E) (hq : ∀ q : Nat, q < m → nbF x z q = true → ((q : Nat) : Int) ∈ M') : Near x m M' (k + 1) := by
  have hk := (List.getElem?_eq_some_iff.1 hz).1
  intro y hy q hqm hn
  rw [he, List.take_append_of_le_length (by omega), take_snoc' hz] at hy
  rcases List.mem_append.1 hy with hy | hy
  · have := h y hy q hqm hn
    rw [he]; exact List.mem_append_left _ this
  · simp at hy; subst hy; exact hq q hqm hn
theorem fold_ins_len : ∀ (M L : List Int), (M.foldl insL L).length ≤ L.length + M.length
  | [], L => by simp
  | y :: r, L => by
    have h1 := fold_ins_len r (insL L y)
    have h2 := insL_len L y
    rw [List.foldl_cons, List.length_cons]; omega
set_option maxRecDepth 100000 in
set_option maxHeartbeats 4000000 in
theorem c_neReach (v : Value) (la ha : Nat) (x : NetT) (i : Int) (V : List Int) (w : World) (h : Nets w la ha v x) (hh : ha ≤ w.heap.size) (hn : netB x = true) (hi0 : 0 ≤ i) (hi1 : i < (x.1.length : Int)) (hV : IsReach x.1.length x.2 i V) :
    Calls Tryz.prog 36 #[v, .int .i64 i] w fun e w' => ∃ r, e = .returned r ∧ w'.ownsRow w.heap.size 3 1 r V.length (V.flatMap encI) ∧ Ext w w' := by
  obtain ⟨i0, hi0', hz0', hz1, hz2⟩ := info_parts Tryz.info_intC2
  have hm16 : x.1.length ≤ 16 := by
    have h1 := hn
    simp only [netB, Bool.and_eq_true] at h1
    have := (inB_t h1.1).2; omega
  have CN : Hid (∀ W z, Ext w W → Calls Tryz.prog 47 #[v, .int .i64 z] W fun e w' => ∃ a5 c5, e = .returned (.slice a5 (fupto (nbF x z) x.1.length).length c5) ∧ OwnI w' W.heap.size w'.heap.size (.slice a5 (fupto (nbF x z) x.1.length).length c5) (fupto (nbF x z) x.1.length) ∧ Ext W w') := fun W z hX =>
    (c_neNext v la ha x z W (h.ext hX hh) (Nat.le_trans hh hX.size) hm16).mono fun e w' ⟨r, he, ho, hx⟩ => by
      obtain ⟨a5, c5, rfl, _⟩ := own_form ho
      exact ⟨a5, c5, he, OwnI.of ho, hx⟩
  have HLK := Lib.hid (netB_links hn)
  have HV := Lib.hid hV
  obtain ⟨a, ca, b, cb, rfl, ⟨m1, m2⟩, m3, m4⟩ := h.form
  obtain ⟨m, hm⟩ : ∃ n, n = x.1.length := ⟨_, rfl⟩
  obtain ⟨l, hl⟩ : ∃ n, n = x.2.length := ⟨_, rfl⟩
  rw [← hm] at m1 hi1 hm16 CN HLK HV ⊢
  rw [← hl] at m3 CN ⊢
  have HM := Lib.hid hm
  have hF0 : Hid (Found m x.2 i [i]) := ⟨by simp, by simp, by simp; omega, by simp; exact ReachL.self _ _⟩
  clear h hm hl hn hV
  go_enter Tryz.func36, Tryz.ntmps36
  go_wp2
  obtain ⟨w1, hw1⟩ : ∃ W, W = w.alloc (.cells #[.slice a m ca, .slice b l cb] 27) := ⟨_, rfl⟩
  have B1 : w1.heap[w.heap.size]? = some (.cells #[.slice a m ca, .slice b l cb] 27) := by rw [hw1]; exact blk_alloc _ _
  have X1 : Ext w w1 := by rw [hw1]; exact Ext.alloc _ _
  rw [← hw1]
  have s1 : w1.heap.size = w.heap.size + 1 := by rw [hw1, size_alloc]
  obtain ⟨w2, hw2⟩ : ∃ W, W = w1.alloc (.cells #[.int .i64 i] 3) := ⟨_, rfl⟩
  rw [← hw2]
  have B2 : w2.heap[w.heap.size]? = some (.cells #[.slice a m ca, .slice b l cb] 27) := by rw [hw2]; exact blk_old B1
  have X2 : Ext w w2 := by rw [hw2]; exact X1.al _
  have o2 : w2.ownsRow (w.heap.size + 1) 3 1 (.slice (some ⟨w.heap.size + 1, 0, none⟩) 1 1) ([i] : List Int).length (([i] : List Int).flatMap encI) := by
    have h9 := World.ownsRow_lit (base := w.heap.size + 1) (size := 1) (e := 3) w1 #[.int .i64 i] 1 (by omega) (by unfold maxLen; omega) rfl
    rw [s1] at h9
    rw [hw2]
    exact h9
  have HO2 := Lib.hid o2
  have HB2 := Lib.hid B2
  clear hw1 hw2 B1 X1 s1 o2 B2
  go_loopw [5, 6] (fun vm tk wr => ∃ (k : Nat) (M : List Int), k ≤ M.length ∧ tk = .int .i64 k ∧ wr.ownsRow (w.heap.size + 1) 3 1 vm M.length (M.flatMap encI) ∧ Hid (Found m x.2 i M) ∧ Hid (Near x m M k) ∧ Hid (wr.heap[w.heap.size]? = some (.cells #[.slice a m ca, .slice b l cb] 27)) ∧ Ext w wr) (fun _ tk _ => m - (intOf tk).toNat)
  case atStart => exact ⟨0, [i], by simp, rfl, HO2.out, hF0.out, (fun z hz => by simp at hz), HB2.out, X2⟩
  case round =>
    obtain ⟨k, M, hk, rfl, hown, hF, hN, HB, XW⟩ := hrel
    have hFl := hF.out.len
    obtain ⟨p, hp⟩ : ∃ p, p = M.length := ⟨_, rfl⟩
    rw [← hp] at hk hown hFl
    have HP := Lib.hid hp
    by_cases hlt : k < p
    · obtain ⟨g, c, rfl, hg1, hg2⟩ := own_at0 hown (by omega)
      obtain ⟨z, hz⟩ : ∃ z, M[k]? = some z := ⟨_, List.getElem?_eq_getElem (by omega)⟩
      have e0 := own_cellv hown hz hlt
      have n0 : wr.cell? ⟨w.heap.size, 0, none⟩ = some (.slice a m ca) := blk_cell HB.out (j := 0) rfl
      have n1 : wr.cell? ⟨w.heap.size, 1, none⟩ = some (.slice b l cb) := blk_cell HB.out (j := 1) rfl
      have CW : Hid (∀ W, Ext wr W → Calls Tryz.prog 47 #[.agg #[.slice a m ca, .slice b l cb], .int .i64 z] W fun e w' => ∃ a5 c5, e = .returned (.slice a5 (fupto (nbF x z) m).length c5) ∧ OwnI w' W.heap.size w'.heap.size (.slice a5 (fupto (nbF x z) m).length c5) (fupto (nbF x z) m) ∧ Ext wr w') := fun W hX =>
        (CN.out W z (XW.trans hX)).mono fun e w' ⟨a5, c5, he, ho, hx⟩ => ⟨a5, c5, he, ho, hX.trans hx⟩
      obtain ⟨N, hNN⟩ : ∃ N, N = fupto (nbF x z) m := ⟨_, rfl⟩
      rw [← hNN] at CW
      have HNN := Lib.hid hNN
      obtain ⟨nl, hnl⟩ : ∃ nl, nl = N.length := ⟨_, rfl⟩
      rw [← hnl] at CW
      have HNL := Lib.hid hnl
      have hnlm : nl ≤ m := by rw [hnl, HNN.out]; exact fupto_len _ _
      have hltI : (k : Int) < (p : Int) := by omega
      have HZ := Lib.hid hz
      have HOWN := Lib.hid hown
      have HZM := Lib.hid (List.mem_of_getElem? hz)
      clear hNN hnl hz hown hp
      go_wp2_with fail
      go_region_held3 (fun w' => Ext wr w' ∧ w'.cell? ⟨w.heap.size, 0, none⟩ = some (.slice a m ca) ∧ w'.cell? ⟨w.heap.size, 1, none⟩ = some (.slice b l cb) ∧ w'.cell? ⟨g, k, none⟩ = some (.int .i64 z))
        (first | exact ⟨Ext.drew _, n0, n1, e0⟩ | exact ⟨hxs, hxs.cell n0, hxs.cell n1, hxs.cell e0⟩)
        ((go_at_call 47; refine (CW.out _ (Ext.drew _)).mono ?_; rintro e w5 ⟨a5, c5, rfl, ho5, hxs⟩))
      have ho6 : OwnI w5 wr.heap.size w5.heap.size (.slice a5 nl c5) N := by rw [HNL.out] at ho5 ⊢; exact ho5
      have HO5 := Lib.hid ho6
      have HOW := Lib.hid (own_ext HOWN.out hxs)
      have HB5 := Lib.hid (hxs.blk HB.out)
      have X5 := XW.trans hxs
      have hsz5 := hxs.size
      have hD0 : Hid (∀ k, (Value.slice (some ⟨g, 0, none⟩) p c).ownBlock = some k → k < wr.heap.size ∨ w5.heap.size ≤ k) := fun k hk => by
        simp only [Value.ownBlock, Option.some.injEq] at hk; omega
      clear ho5 ho6 n0 n1 e0
      obtain ⟨wo, hwo⟩ : ∃ W, W = wr := ⟨_, rfl⟩
      subst hwo
      go_wp2
      go_loopw [5, 27] (fun vm tq wr2 => ∃ (q : Nat) (M' : List Int), q ≤ nl ∧ tq = .int .i64 q ∧ wr2.ownsRow (w.heap.size + 1) 3 1 vm M'.length (M'.flatMap encI) ∧ Hid (Found m x.2 i M') ∧ Hid (∃ E, M' = M ++ E) ∧ Hid (∀ y ∈ N.take q, y ∈ M') ∧
          Hid (wr2.heap[w.heap.size]? = some (.cells #[.slice a m ca, .slice b l cb] 27)) ∧ Ext w wr2 ∧ Hid (OwnI wr2 wo.heap.size w5.heap.size (.slice a5 nl c5) N) ∧ Hid (∀ k, vm.ownBlock = some k → k < wo.heap.size ∨ w5.heap.size ≤ k) ∧ w5.heap.size ≤ wr2.heap.size) (fun _ tq _ => nl - (intOf tq).toNat)
      case atStart => exact ⟨0, M, by omega, rfl, by rw [← HP.out]; exact HOW.out, hF.out, ⟨[], by simp⟩, (fun y hy => by simp at hy), HB5.out, X5, HO5.out, hD0.out, Nat.le_refl _⟩
      case round =>
        obtain ⟨q, M', hq, rfl, hown2, hF2, hE, hN2, HB6, X6, HO6, hD, hsz6⟩ := hrel
        have hFl2 := hF2.out.len
        have hMp : 0 < M'.length := by
          obtain ⟨E, hE2⟩ := hE.out
          rw [hE2, List.length_append, ← HP.out]; omega
        obtain ⟨p2, hp2⟩ : ∃ p, p = M'.length := ⟨_, rfl⟩
        rw [← hp2] at hown2 hFl2 hMp
        have HP2 := Lib.hid hp2
        clear hp2
        by_cases hlt2 : q < nl
        · obtain ⟨b6, o6, y, rfl, hy, c0⟩ := Ints_at HO6.out.read hlt2
          obtain ⟨g2, cc2, rfl, hg21, hg22⟩ := own_at0 hown2 hMp
          have hlt2I : (q : Int) < (nl : Int) := by omega
          have HOW2 := Lib.hid hown2
          obtain ⟨t, ht⟩ : ∃ t, t = M'.contains y := ⟨_, rfl⟩
          have hread : Ints wr (w.heap.size + 1) wr.heap.size (.slice (some ⟨g2, 0, none⟩) p2 cc2) M' := by
            have h9 : Row encI 1 wr (w.heap.size + 1) wr.heap.size (.slice (some ⟨g2, 0, none⟩) p2 cc2) M' := Row.of_own (e := 3) encI_len (by rw [← HP2.out]; exact hown2)
            exact h9
          have CH := Lib.hid (c_l1Has _ _ _ M' y wr hread)
          rw [← ht] at CH
          have HT := Lib.hid ht
          clear hown2 ht hread
          cases t
          · have hnm : y ∉ M' := by
              have := HT.out; intro hc; rw [List.contains_iff_mem.2 hc] at this; cases this
            have hyn : y ∈ fupto (nbF x z) m := by rw [← HNN.out]; exact List.mem_of_getElem? hy.out
            obtain ⟨qq, hq1, hq2, hq3⟩ := fupto_mem.1 hyn
            have hzr := hF.out.snd z HZM.out
            have HA : Hid (Found m x.2 i (M' ++ [y])) := hF2.out.add hnm (by rw [hq3]; omega) (by rw [hq3]; exact near_reach hq2 hzr)
            clear hnm hyn hq1 hq2 hq3 hzr
            go_wp2_with (first | (go_at_call 35; refine CH.out.mono ?_; rintro e w' ⟨rfl, rfl⟩) | (at_builtin; refine wpList_append_at _ rfl _ _ 31 rfl (w.heap.size + 1) 3 i0 (.int .i64 0) 1 8 Tryz.underlying31 hi0' hz0' hz1 hz2 rfl (by decide) _ _ _ rfl (HOW2.out.alloc _) ⟨wr.heap.size, 0, none⟩ 1 1 [.int .i64 y] rfl rfl (new_cells1 _ _ _) (by intro u hu; simp at hu; subst hu; rfl) (by unfold maxLen; omega) (by omega) (by simp; omega) ?_; intro v3 w6 hown3 hgrow3 hblk3))
            go_roundw
            case rel =>
              have hal := Ext.alloc wr (.cells #[.int .i64 y] 3)
              have hsa : (wr.alloc (.cells #[.int .i64 y] 3)).heap.size = wr.heap.size + 1 := size_alloc _ _
              have hg2b : ∀ k, (Value.slice (some ⟨g2, 0, none⟩) p2 cc2).ownBlock = some k → g2 = k := fun k hk => by simpa [Value.ownBlock] using hk
              refine ⟨q + 1, M' ++ [y], by omega, by go_num, own_push (by rw [← HP2.out]; exact hown3), HA.out, ?_, ?_, ?_, ?_, ?_, ?_, ?_⟩
              · obtain ⟨E, hE2⟩ := hE.out
                exact ⟨E ++ [y], by rw [hE2, List.append_assoc]⟩
              · intro u hu
                rw [take_snoc' hy.out] at hu
                rcases List.mem_append.1 hu with hu | hu
                · exact List.mem_append_left _ (hN2.out u hu)
                · exact List.mem_append_right _ hu
              · unfold Hid
                rw [hgrow3.block w.heap.size (by omega) (fun e => by have := hg2b _ e.symm; omega)]
                exact hal.blk HB6.out
              · exact (X6.trans hal).gr hgrow3 (fun k hk => by have := hg2b _ hk; omega)
              · refine ⟨(own_ext HO6.out.own hal).kept hgrow3 ?_, HO6.out.lt⟩
                cases hb : (Value.slice (some ⟨b6, o6, none⟩) nl c5).ownBlock with
                | none => exact .inl rfl
                | some k2 =>
                  refine .inr fun e => ?_
                  have h1 := (HO6.out.own.lt k2 hb).1
                  have h2 := HO6.out.lt k2 hb
                  have h3 := hD.out k2 e.symm
                  omega
              · intro k2 hk2
                rcases hblk3 k2 hk2 with h1 | h1
                · exact hD.out k2 h1
                · right; omega
              · have := hgrow3.size; omega
            case measure => simp [intOf]; omega
          · have hym : y ∈ M' := by
              have := HT.out; exact List.contains_iff_mem.1 this.symm
            have HYM := Lib.hid hym
            clear hym
            go_wp2_with (go_at_call 35; refine CH.out.mono ?_; rintro e w' ⟨rfl, rfl⟩)
            go_roundw
            case rel =>
              refine ⟨q + 1, M', by omega, by go_num, by rw [← HP2.out]; exact HOW2.out, hF2.out, hE.out, ?_, HB6.out, X6, HO6.out, hD.out, hsz6⟩
              intro u hu
              rw [take_snoc' hy.out] at hu
              rcases List.mem_append.1 hu with hu | hu
              · exact hN2.out u hu
              · simp at hu; subst hu; exact HYM.out
            case measure => simp [intOf]; omega
        · have hge : ¬ ((q : Int) < (nl : Int)) := by omega
          have HNS : Hid (Near x m M' (k + 1)) := by
            obtain ⟨E, hE2⟩ := hE.out
            refine near_step hN.out HZ.out hE2 fun qq hqq hnb => ?_
            have : ((qq : Nat) : Int) ∈ N := by rw [HNN.out]; exact fupto_mem.2 ⟨qq, hqq, hnb, rfl⟩
            exact hN2.out _ (by rw [List.take_of_length_le (by rw [← HNL.out]; omega)]; exact this)
          have hkp2 : k + 1 ≤ M'.length := by
            obtain ⟨E, hE2⟩ := hE.out
            rw [hE2, List.length_append, ← HP.out]; omega
          have HOW2 := Lib.hid hown2
          clear hown2
          go_wp2
          go_roundw
          case rel => exact ⟨k + 1, M', hkp2, by go_num, by rw [← HP2.out]; exact HOW2.out, hF2.out, HNS.out, HB6.out, X6⟩
          case measure => simp [intOf]; omega
    · have hge : ¬ ((k : Int) < (p : Int)) := by omega
      have hkp : k = p := by omega
      have HC : Hid (ClosedL x.2 (· ∈ M)) := by
        have h9 := hN.out
        rw [hkp, HP.out] at h9
        have h8 := HLK.out
        rw [HM.out] at h9 h8
        exact near_closed h8 h9
      have hread : Ints wr (w.heap.size + 1) wr.heap.size _ M := Row.of_own (e := 3) encI_len (by rw [← HP.out]; exact hown)
      have HRD := Lib.hid hread
      obtain ⟨a7, c7, rfl, _, q1, q2⟩ := own_form hown
      have hws := XW.size
      clear hown hread hkp hp
      go_wp2
      go_loopw [9, 42] (fun vr tq wr3 => ∃ (q : Nat) (R : List Int), q ≤ p ∧ tq = .int .i64 q ∧ wr3.ownsRow w.heap.size 3 1 vr R.length (R.flatMap encI) ∧ Hid (R = (M.take q).foldl insL []) ∧ Ext wr wr3) (fun _ tq _ => p - (intOf tq).toNat)
      case atStart => exact ⟨0, [], by omega, rfl, World.ownsRow_nil _ _ _ _, rfl, Ext.refl _⟩
      case round =>
        obtain ⟨q, R, hq, rfl, hown3, hR, hx3⟩ := hrel
        by_cases hlt3 : q < p
        · obtain ⟨b8, o8, y, rfl, hy, c0⟩ := Ints_at HRD.out hlt3
          have d0 := hx3.cell c0
          have hlt3I : (q : Int) < (p : Int) := by omega
          have hRl : R.length ≤ 20 := by
            have h9 := fold_ins_len (M.take q) []
            rw [← hR.out] at h9
            have := List.length_take_le q M
            simp at h9; omega
          have hRR : Hid (insL R y = (M.take (q + 1)).foldl insL []) := by
            unfold Hid; rw [take_snoc' hy.out, List.foldl_append, ← hR.out]; rfl
          have CP := Lib.hid (c_l1Put _ w.heap.size R y _ hown3 (Nat.le_trans hws hx3.size) hRl)
          clear c0 hown3
          go_wp2_with (go_at_call 63; refine CP.out.mono ?_; rintro e w6 ⟨r6, rfl, ho6, hx6⟩)
          go_roundw
          case rel => exact ⟨q + 1, _, by omega, by go_num, ho6, hRR.out, hx3.trans hx6⟩
          case measure => simp [intOf]; omega
        · have hge3 : ¬ ((q : Int) < (p : Int)) := by omega
          have HRV : Hid (R = V) := by
            unfold Hid
            rw [hR.out, List.take_of_length_le (by rw [← HP.out]; omega)]
            exact reach_of_list HV.out hF.out.mem hF.out.bd hF.out.snd HC.out
          have HO := Lib.hid hown3
          obtain ⟨a9, c9, rfl, _, _, _⟩ := own_form hown3
          clear hown3
          go_wp2
          go_ret
          refine ⟨_, rfl, ?_, XW.trans hx3⟩
          rw [← HRV.out]
          exact HO.out
end Go.Proofs.YtmaaeemhbccpcaaGreatDoor
