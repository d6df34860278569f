
/- GreedyCover of the program: its contract. -/
import Derived.Test.YtiofckbdjifdpaaGreedS
import Derived.Test.YtiofckbdjifdpaaBools
namespace Go.Proofs.Ytiofckbdjifdpaa
open Go.RowKit
/-- What is seen, spot by spot. -/
def tgt (xss : List (List Int)) (n : Nat) (out : List Int) : List Bool := (List.range n).map fun p : Nat => !unB xss out (p : Int)
theorem tgt_len (xss : List (List Int)) (n : Nat) (out : List Int) : (tgt xss n out).length = n := by simp [tgt]
theorem tgt_get {xss : List (List Int)} {n : Nat} {out : List Int} {p : Nat} (h : p < n) : (tgt xss n out)[p]? = some (!unB xss out (p : Int)) := by simp [tgt, h]
theorem tgt_nil (xss : List (List Int)) (n : Nat) : tgt xss n [] = List.replicate n false := by
  apply List.ext_getElem?
  intro p
  by_cases hp : p < n
  · rw [tgt_get hp]; simp [hp, unB, cntL]
  · rw [List.getElem?_eq_none (by rw [tgt_len]; omega), List.getElem?_eq_none (by simp; omega)]
def setS (S : List Bool) (l : List Int) : List Bool := l.foldl (fun S s => S.set s.toNat true) S
theorem setS_len : ∀ (l : List Int) (S : List Bool), (setS S l).length = S.length
  | [], S => rfl
  | x :: r, S => by
    show (setS (S.set x.toNat true) r).length = _
    rw [setS_len r, List.length_set]
theorem setS_snoc {S : List Bool} {l : List Int} {q : Nat} {s : Int} (h : l[q]? = some s) : setS S (l.take (q + 1)) = (setS S (l.take q)).set s.toNat true := by
  unfold setS
  rw [take_snoc' h, List.foldl_append]; rfl
theorem setS_get : ∀ (l : List Int) (S : List Bool) (p : Nat), (∀ x ∈ l, 0 ≤ x) → (setS S l)[p]? = (S[p]?).map fun b => b || l.contains (p : Int)
  | [], S, p, _ => by
    show S[p]? = _
    cases S[p]? <;> simp
  | x :: r, S, p, h => by
    show (setS (S.set x.toNat true) r)[p]? = _
    rw [setS_get r _ p (fun y hy => h y (by simp [hy]))]
    have hx := h x (by simp)
    by_cases e : x.toNat = p
    · have e2 : x = (p : Int) := by omega
      by_cases hl : p < S.length
      · rw [e, List.getElem?_set_self hl, List.getElem?_eq_getElem hl]
        simp [e2]
      · rw [List.getElem?_eq_none (by rw [List.length_set]; omega), List.getElem?_eq_none (by omega)]; rfl
    · have e2 : ¬ (p : Int) = x := by omega
      rw [List.getElem?_set_ne e]
      cases S[p]? with
      | none => rfl
      | some b => simp [e2]
theorem tgt_snoc {xss : List (List Int)} {n : Nat} {out : List Int} {i : Int} {l : List Int} (hi : xss[i.toNat]? = some l) (hl : ∀ x ∈ l, 0 ≤ x) : setS (tgt xss n out) l = tgt xss n (out ++ [i]) := by
  apply List.ext_getElem?
  intro p
  rw [setS_get l _ p hl]
  by_cases hp : p < n
  · rw [tgt_get hp, tgt_get hp, Option.map_some]
    congr 1
    unfold unB
    rw [cntL_snoc, List.getD_eq_getElem?_getD, hi]
    simp only [Option.getD_some]
    by_cases hc : l.contains (p : Int) = true
    · rw [if_pos hc, hc]; simp
    · rw [if_neg hc, Bool.eq_false_iff.2 hc]; simp
  · rw [List.getElem?_eq_none (by rw [tgt_len]; omega), List.getElem?_eq_none (by rw [tgt_len]; omega)]; rfl
theorem lfN_le (xss : List (List Int)) (n : Nat) (out : List Int) : lfN xss n out ≤ n := by
  unfold lfN
  have := List.length_filter_le (unB xss out) (upto n)
  simpa [upto] using this
set_option maxRecDepth 100000 in
set_option maxHeartbeats 8000000 in
theorem c_iGreedy0 (va : Value) (la ha : Nat) (xss : List (List Int)) (n : Nat) (o : Option (List Int)) (w : World) (h : Intss w la ha va xss) (hh : ha ≤ w.heap.size) (gs : GoodS xss n) (hZ : greedF xss n n [] = o) (hg : sitesB xss n = true) :
    Calls Try.prog 27 #[va, .int .i64 n] w fun e w' => ∃ r, e = .returned (.tuple #[r, .bool o.isSome]) ∧ w'.ownsRow w.heap.size 3 1 r (o.getD []).length ((o.getD []).flatMap encI) ∧ Ext w w' := by
  obtain ⟨i0, hi0, hz0, hz1, hz2⟩ := info_parts Try.info_intC
  obtain ⟨j0, hj0, hy0, hy1, hy2⟩ := info_parts Try.info_bool
  have s12 := gs.s12
  have n16 := gs.n16
  have C1 : Hid (Calls Try.prog 39 #[va, .int .i64 n] w fun e w' => e = .returned (.bool true) ∧ Ext w w') := by
    have := c_iAreSites va la ha xss n w h hh
    rwa [hg] at this
  have GS := Lib.hid gs
  have HZ := Lib.hid hZ
  obtain ⟨a, cap, rfl, m1, m2⟩ := h.form
  have H := Lib.hid h
  obtain ⟨s, hs⟩ : ∃ s, s = xss.length := ⟨_, rfl⟩
  rw [← hs] at m1 s12 H C1 ⊢
  have HS := Lib.hid hs
  have hn1 := gs.n1
  clear h gs hZ hg hs
  go_enter Try.func27, Try.ntmps27
  go_wp2_with (first | (go_at_call 39; refine C1.out.mono ?_; rintro e w2 ⟨rfl, hx2⟩) | (at_make; refine wpList_make_full _ rfl _ _ 67 rfl w2.heap.size 4 j0 (.bool false) 1 Try.underlying67 hj0 hy0 hy1 _ _ _ _ n rfl rfl rfl rfl (by rw [hy2]; omega) (by unfold maxLen; omega) (Nat.le_refl _) ?_; intro w3 hown hgrow; rw [made_bools] at hown; rw [← tgt_nil xss] at hown))
  have hx3 : Ext w2 w3 := (Ext.refl w2).gr hgrow (by simp)
  have X3 := hx2.trans hx3
  have HSZ3 := Lib.hid X3.size
  have HSZ2 := Lib.hid hx2.size
  have HB3 : w2.heap.size < w3.heap.size := (hown.lt w2.heap.size rfl).2
  have H3 := Lib.hid (H.out.ext X3 hh)
  have HO3 := Lib.hid hown
  have hl0 : lfN xss n [] = n := by
    unfold lfN
    have : (upto n).filter (unB xss []) = upto n := List.filter_eq_self.2 (fun x _ => by simp [unB, cntL])
    rw [this]; simp [upto]
  have HL0 := Lib.hid hl0
  clear hown hgrow hx2 hx3 hl0
  go_loopg [7, 8] n (fun gg vl vo wr => ∃ (out : List Int) (lf : Nat), vl = .int .i64 lf ∧ Hid (lf = lfN xss n out) ∧ lf ≤ gg ∧ lf ≤ 16 ∧ wr.ownsRow w2.heap.size 4 1 (.slice (some ⟨w2.heap.size, 0, none⟩) n n) n ((tgt xss n out).flatMap encB) ∧ wr.ownsRow w3.heap.size 3 1 vo out.length (out.flatMap encI) ∧ Hid (Picked xss out) ∧ Hid (greedF xss n gg out = o) ∧ w3.heap.size ≤ wr.heap.size ∧ Ext w wr)
  case atStart => exact ⟨[], n, rfl, HL0.out.symm, Nat.le_refl _, n16, HO3.out, World.ownsRow_nil _ _ _ _, ⟨List.nodup_nil, by simp⟩, HZ.out, Nat.le_refl _, X3⟩
  case round =>
    obtain ⟨out, lf, rfl, hlf, hlg, hl16, hsee, hown, hP, hG, hsz, hx⟩ := hrel
    obtain ⟨wo, hwo⟩ : ∃ W, W = wr := ⟨_, rfl⟩
    subst hwo
    have HGC : Hid (GoodC s out) := by unfold Hid; rw [HS.out]; exact hP.out.good (by rw [← HS.out]; exact s12)
    have ho12 := HGC.out.len
    have HSEE := Lib.hid hsee
    have HOWN := Lib.hid hown
    obtain ⟨a5, c5, rfl, _, _, _⟩ := own_form hown
    clear hsee hown
    by_cases hlf0 : lf = 0
    · subst hlf0
      have HOZ : Hid (o = some out) := by
        have h9 := hG.out
        unfold Hid
        cases e : gk with
        | zero => rw [e] at h9; unfold greedF at h9; rw [if_pos hlf.out.symm] at h9; exact h9.symm
        | succ g => rw [e] at h9; unfold greedF at h9; rw [if_pos hlf.out.symm] at h9; exact h9.symm
      go_wp2
      go_ret2
      refine ⟨_, by rw [HOZ.out]; rfl, ?_, hx⟩
      rw [HOZ.out]
      exact own_mono HOWN.out HSZ3.out
    · obtain ⟨g, hgk⟩ : ∃ g, gk = g + 1 := ⟨gk - 1, by omega⟩
      have hlfp : (0 : Int) < (lf : Int) := by omega
      have hG2 := hG.out
      rw [hgk] at hG2
      unfold greedF at hG2
      rw [← hlf.out, if_neg hlf0] at hG2
      obtain ⟨P, hPP⟩ : ∃ P, P = unB xss out := ⟨_, rfl⟩
      rw [← hPP] at hG2
      have HG2 := Lib.hid hG2
      have HPP := Lib.hid hPP
      have H4 := Lib.hid (H.out.ext hx hh)
      clear hG2 hPP hlf0
      go_wp2
      go_loopw [9, 10, 29] (fun vb vm tk wr2 => ∃ (k : Nat) (b : Int) (mm : Nat), k ≤ s ∧ mm ≤ 16 ∧ tk = .int .i64 k ∧ vb = .int .i64 b ∧ vm = .int .i64 mm ∧ Hid (gB P 0 0 0 xss = gB P k b mm (xss.drop k)) ∧ wo = wr2) (fun _ _ tk _ => s - (intOf tk).toNat)
      case atStart => exact ⟨0, 0, 0, by omega, by omega, rfl, rfl, rfl, rfl, rfl⟩
      case round =>
        obtain ⟨k, b, mm, hk, hm16, rfl, rfl, rfl, hB, rfl⟩ := hrel
        by_cases hlt : k < s
        · obtain ⟨b8, o8, a8, c8, l, rfl, hl, c1, HL, q1, q2⟩ := Intss_at H4.out (k := k) hlt
          have hlm := List.mem_of_getElem? hl.out
          have hl16' := GS.out.len l hlm
          have HLM := Lib.hid hlm
          have hltI : (k : Int) < (s : Int) := by omega
          obtain ⟨nl, hnl⟩ : ∃ nl, nl = l.length := ⟨_, rfl⟩
          rw [← hnl] at hl16' q1 HL c1
          have HNL := Lib.hid hnl
          have HBD := Lib.hid (hB.out.trans (gB_drop hl.out b mm))
          clear hlm hnl
          go_wp2
          go_loopw [13, 36] (fun vf tq wr3 => ∃ (q : Nat), q ≤ nl ∧ tq = .int .i64 q ∧ vf = .int .i64 (frN P (l.take q) : Nat) ∧ wo = wr3) (fun _ tq _ => nl - (intOf tq).toNat)
          case atStart => exact ⟨0, by omega, rfl, rfl, rfl⟩
          case round =>
            obtain ⟨q, hq, rfl, rfl, rfl⟩ := hrel
            obtain ⟨f, hf⟩ : ∃ f, f = frN P (l.take q) := ⟨_, rfl⟩
            rw [← hf]
            have hf16 : f ≤ 16 := by
              have h1 := frN_le P (l.take q)
              rw [List.length_take_of_le (by rw [← HNL.out]; omega)] at h1
              omega
            have HF := Lib.hid hf
            clear hf
            by_cases hlt2 : q < nl
            · obtain ⟨b3, o3, sp, rfl, hsp, c2⟩ := Ints_at HL.out hlt2
              obtain ⟨s1, s2⟩ := GS.out.mem l HLM.out sp (List.mem_of_getElem? hsp.out)
              obtain ⟨p, rfl⟩ := Int.eq_ofNat_of_zero_le s1
              have hpn : p < n := by omega
              obtain ⟨c, hcc⟩ : ∃ c, c = P p := ⟨_, rfl⟩
              have e4 := own_cellB HSEE.out (tgt_get hpn) hpn
              rw [← HPP.out, ← hcc] at e4
              have hsn := frN_snoc (P := P) hsp.out
              rw [← hcc] at hsn
              have hlt2I : (q : Int) < (nl : Int) := by omega
              cases c
              · have HFS : Hid (frN P (l.take (q + 1)) = f) := by unfold Hid; rw [hsn, ← HF.out]; rfl
                clear hcc hsn
                go_wp2
                go_roundw
                case rel => exact ⟨q + 1, by omega, by go_num, (by rw [HFS.out]), trivial⟩
                case measure => simp [intOf]; omega
              · have HFS : Hid (frN P (l.take (q + 1)) = f + 1) := by unfold Hid; rw [hsn, ← HF.out]; rfl
                clear hcc hsn
                go_wp2
                go_roundw
                case rel => exact ⟨q + 1, by omega, by go_num, (by rw [HFS.out]; go_num), trivial⟩
                case measure => simp [intOf]; omega
            · have hge : ¬ ((q : Int) < (nl : Int)) := by omega
              have HFL : Hid (f = frN P l) := by unfold Hid; rw [HF.out, List.take_of_length_le (by rw [← HNL.out]; omega)]
              by_cases hgt : mm < f
              · have hgtI : (mm : Int) < (f : Int) := by omega
                have HBN : Hid (gB P 0 0 0 xss = gB P (k + 1) (k : Int) f (xss.drop (k + 1))) := by
                  have h1 := HBD.out
                  rw [← HFL.out, if_pos hgt] at h1; exact h1
                go_wp2
                go_roundw
                case rel => exact ⟨k + 1, _, f, by omega, hf16, by go_num, rfl, rfl, HBN.out, trivial⟩
                case measure => simp [intOf]; omega
              · have hgtI : ¬ ((mm : Int) < (f : Int)) := by omega
                have HBN : Hid (gB P 0 0 0 xss = gB P (k + 1) b mm (xss.drop (k + 1))) := by
                  have h1 := HBD.out
                  rw [← HFL.out, if_neg hgt] at h1; exact h1
                go_wp2
                go_roundw
                case rel => exact ⟨k + 1, b, mm, by omega, hm16, by go_num, rfl, rfl, HBN.out, trivial⟩
                case measure => simp [intOf]; omega
        · have hge : ¬ ((k : Int) < (s : Int)) := by omega
          have hgb : gB P 0 0 0 xss = (b, mm) := by
            have h1 := hB.out
            rw [List.drop_eq_nil_of_le (by rw [← HS.out]; omega)] at h1
            exact h1
          have HGB := Lib.hid hgb
          clear hgb hB
          by_cases hm0 : mm = 0
          · subst hm0
            have HON : Hid (o = none) := by
              have h1 := HG2.out
              rw [HGB.out] at h1
              exact h1.symm
            go_wp2
            go_ret2
            refine ⟨_, by rw [HON.out]; rfl, ?_, hx⟩
            rw [HON.out]
            exact World.ownsRow_nil _ _ _ _
          · have hmI : ((mm : Int) == 0) = false := by simp; omega
            have HG3 : Hid (greedF xss n g (out ++ [b]) = o) := by
              have h1 := HG2.out
              rw [HGB.out, if_neg hm0] at h1
              exact h1
            obtain ⟨j, l, hj, hbj, hmj⟩ : ∃ (j : Nat) (l : List Int), xss[j]? = some l ∧ b = (j : Int) ∧ mm = frN P l := by
              have h2 := HGB.out
              rcases gB_site P xss 0 0 0 with h1 | ⟨j, l, h1, h3, h4⟩
              · rw [h1] at h2
                exact absurd (congrArg Prod.snd h2).symm hm0
              · rw [h3, Nat.zero_add] at h2
                exact ⟨j, l, h1, (congrArg Prod.fst h2).symm, (congrArg Prod.snd h2).symm⟩
            subst hbj
            have hjs : j < s := by rw [HS.out]; exact (List.getElem?_eq_some_iff.1 hj).1
            have HPK : Hid (Picked xss (out ++ [(j : Int)])) := hP.out.add hj (by rw [← HPP.out, ← hmj]; exact hm0)
            obtain ⟨b8, o8, a8, c8, l', rfl, hl, c1, HL, q1, q2⟩ := Intss_at H4.out (k := j) hjs
            have hll : l' = l := by have := hl.out; rw [hj] at this; exact (Option.some.inj this).symm
            subst hll
            have hlm := List.mem_of_getElem? hj
            have HLM := Lib.hid hlm
            have hl16' := GS.out.len l' hlm
            have hls := left_step GS.out out (i := (j : Int)) (l := l') (by rw [Int.toNat_natCast]; exact hj)
            rw [← HPP.out, ← hmj, ← hlf.out] at hls
            obtain ⟨lf2, hlf2⟩ : ∃ z, z = lfN xss n (out ++ [(j : Int)]) := ⟨_, rfl⟩
            rw [← hlf2] at hls
            have HLF2 := Lib.hid hlf2
            have HTG : Hid (setS (tgt xss n out) l' = tgt xss n (out ++ [(j : Int)])) := tgt_snoc (by rw [Int.toNat_natCast]; exact hj) (fun x hx9 => (GS.out.mem l' hlm x hx9).1)
            obtain ⟨nl, hnl⟩ : ∃ nl, nl = l'.length := ⟨_, rfl⟩
            rw [← hnl] at hl16' q1 HL c1
            have HNL := Lib.hid hnl
            have hjsI : (j : Int) < (s : Int) := by omega
            have hm1 : 1 ≤ mm := by omega
            clear hj hmj hlm hlf2 hnl hm0
            go_wp2
            go_loopw [61] (fun tq wr3 => ∃ (q : Nat), q ≤ nl ∧ tq = .int .i64 q ∧ wr3.ownsRow w2.heap.size 4 1 (.slice (some ⟨w2.heap.size, 0, none⟩) n n) n ((setS (tgt xss n out) (l'.take q)).flatMap encB) ∧ wo.grownBy wr3 (some w2.heap.size)) (fun tq _ => nl - (intOf tq).toNat)
            case atStart => exact ⟨0, by omega, rfl, HSEE.out, World.grownBy.refl _ _⟩
            case round =>
              obtain ⟨q, hq, rfl, hsee2, hgr⟩ := hrel
              have HS2 := Lib.hid hsee2
              have HGR := Lib.hid hgr
              have HL5 := Lib.hid (HL.out.keep (w' := wr) (fun k hk1 hk2 => HGR.out.block k (by have := HSZ3.out; omega) (fun e => by have := HSZ2.out; have := Option.some.inj e; omega)))
              clear hsee2
              by_cases hlt2 : q < nl
              · obtain ⟨b3, o3, sp, rfl, hsp, c2⟩ := Ints_at HL5.out hlt2
                obtain ⟨s1, s2⟩ := GS.out.mem l' HLM.out sp (List.mem_of_getElem? hsp.out)
                obtain ⟨p, rfl⟩ := Int.eq_ofNat_of_zero_le s1
                have hpn : p < n := by omega
                have hsn := setS_snoc (S := tgt xss n out) hsp.out
                rw [Int.toNat_natCast] at hsn
                obtain ⟨y, hy⟩ : ∃ y, (setS (tgt xss n out) (l'.take q))[p]? = some y := ⟨_, List.getElem?_eq_getElem (by rw [setS_len, tgt_len]; exact hpn)⟩
                have e4 := own_cellB HS2.out hy hpn
                have z4 := HS2.out.frozenAt p
                have o4 := own_setB HS2.out p true
                have gr4 := (HS2.out.stored p (.bool true)).2
                rw [← hsn] at o4
                have HO4 := Lib.hid o4
                have HG4 := Lib.hid (grown_trans HGR.out gr4)
                have hlt2I : (q : Int) < (nl : Int) := by omega
                have hpI : (p : Int) < (n : Int) := by omega
                clear hsn hy o4 gr4
                go_wp2
                go_roundw
                case rel => exact ⟨q + 1, by omega, by go_num, HO4.out, HG4.out⟩
                case measure => simp [intOf]; omega
              · have hge : ¬ ((q : Int) < (nl : Int)) := by omega
                have hs9 := HS2.out
                rw [List.take_of_length_le (by rw [← HNL.out]; omega), HTG.out] at hs9
                have HS9 := Lib.hid hs9
                have XR := hx.gr HGR.out (fun k9 hk9 => by have := HSZ2.out; have := Option.some.inj hk9; omega)
                have HOW2 := Lib.hid (own_keep HOWN.out (Keep.of_grown (lo := w2.heap.size) (hi := w2.heap.size + 1) HGR.out (fun k9 hk9 => by have := Option.some.inj hk9; omega)) (fun k9 e9 => .inr (by have := (HOWN.out.lt k9 e9).1; omega)))
                have hsz2 := HGR.out.size
                have HOWB : Hid (∀ k9, (Value.slice a5 out.length c5).ownBlock = some k9 → w3.heap.size ≤ k9) := fun k9 e9 => (HOWN.out.lt k9 e9).1
                clear hs9 hgr
                go_wp2_with (at_builtin; refine wpList_append_own _ rfl _ _ 24 rfl w3.heap.size 3 i0 (.int .i64 0) 1 8 Try.underlying24 hi0 hz0 hz1 hz2 rfl (by decide) _ _ _ rfl (HOW2.out.alloc _) ⟨wr.heap.size, 0, none⟩ 1 1 [.int .i64 (j : Int)] rfl rfl (new_cells1 _ _ _) (by intro u hu; simp at hu; subst hu; rfl) (by unfold maxLen; omega) (by omega) (by simp; omega) ?_; intro v3 w8 hown3 hgrow3 _)
                have HS8 : Hid (w8.ownsRow w2.heap.size 4 1 (.slice (some ⟨w2.heap.size, 0, none⟩) n n) n ((tgt xss n (out ++ [(j : Int)])).flatMap encB)) :=
                  own_keep (own_ext HS9.out (Ext.alloc wr _)) (Keep.of_grown (lo := w3.heap.size) (hi := w8.heap.size + w3.heap.size + wr.heap.size + 1000) hgrow3 (fun k9 hk9 => ⟨HOWB.out k9 hk9, by have := (HOW2.out.lt k9 hk9).2; omega⟩)) (fun k9 e9 => .inl (by have e10 : w2.heap.size = k9 := (by simpa [Value.ownBlock] using e9); omega))
                have hsz8 := hgrow3.size
                rw [size_alloc] at hsz8
                go_roundg g
                case measure => omega
                case rel => exact ⟨out ++ [(j : Int)], lf2, by go_num, HLF2.out, by omega, by omega, HS8.out, own_push hown3, HPK.out, HG3.out, by omega, XR.push HOW2.out hgrow3 HSZ3.out⟩
/-- Both ways. -/
theorem gc_cases {xss : List (List Int)} {n : Int} (hg : sitesB xss n = true) : ∃ (m : Nat) (o : Option (List Int)), n = m ∧ GoodS xss m ∧ greedF xss m m [] = o ∧ gcOk xss n = o.isSome ∧ gcV xss n = o.getD [] ∧ (o.isSome = true → coverB xss m (upto xss.length) 1 = true) ∧ (o.isSome = false → coverB xss m (upto xss.length) 1 = false) := by
  obtain ⟨m, rfl, gs⟩ := GoodS.of hg
  have hok : gcOk xss (m : Int) = coverB xss m (upto xss.length) 1 := by unfold gcOk; rw [hg, Int.toNat_natCast, Bool.true_and]
  have hcl := cover_left gs (upto xss.length)
  by_cases hl : lfN xss m (upto xss.length) = 0
  · obtain ⟨V, hV⟩ := greed_some gs hl m [] (lfN_le xss m [])
    rw [decide_eq_true hl] at hcl
    refine ⟨m, some V, rfl, gs, hV, by rw [hok, hcl]; rfl, ?_, fun _ => hcl, fun h => by cases h⟩
    unfold gcV
    rw [hok, hcl, if_pos rfl, Int.toNat_natCast, hV]
  · have hV := greed_none hl m [] ⟨List.nodup_nil, by simp⟩
    rw [decide_eq_false hl] at hcl
    refine ⟨m, none, rfl, gs, hV, by rw [hok, hcl]; rfl, ?_, fun h => (by cases h), fun _ => hcl⟩
    unfold gcV
    rw [hok, hcl]; rfl
theorem gc_len (xss : List (List Int)) (n : Int) : (gcV xss n).length ≤ 1099511627776 := by
  cases hg : sitesB xss n
  · unfold gcV gcOk; rw [hg]; simp
  · obtain ⟨m, o, rfl, gs, ho, h1, h2, h3, h4⟩ := gc_cases hg
    rw [h2]
    cases o with
    | none => simp
    | some V =>
      have : ∀ (f : Nat) (out : List Int), greedF xss m f out = some V → V.length ≤ out.length + f := by
        intro f
        induction f with
        | zero =>
          intro out h
          unfold greedF at h
          split at h
          · rw [← Option.some.inj h]; omega
          · cases h
        | succ f ih =>
          intro out h
          unfold greedF at h
          split at h
          · rw [← Option.some.inj h]; omega
          · split at h
            · cases h
            · have := ih _ h
              simp at this; omega
      have h9 := this m [] ho
      have := gs.n16
      simp at h9 ⊢; omega
set_option maxRecDepth 100000 in
theorem c_iGreedy (va : Value) (la ha : Nat) (xss : List (List Int)) (n : Int) (w : World) (h : Intss w la ha va xss) (hh : ha ≤ w.heap.size) :
    Calls Try.prog 27 #[va, .int .i64 n] w fun e w' => ∃ r, e = .returned (.tuple #[r, .bool (gcOk xss n)]) ∧ w'.ownsRow w.heap.size 3 1 r (gcV xss n).length ((gcV xss n).flatMap encI) ∧ Ext w w' := by
  cases hg : sitesB xss n
  · have e1 : gcOk xss n = false := by unfold gcOk; rw [hg]; rfl
    have e2 : gcV xss n = [] := by unfold gcV; rw [e1]; rfl
    rw [e1, e2]
    have C1 : Hid (Calls Try.prog 39 #[va, .int .i64 n] w fun e w' => e = .returned (.bool false) ∧ Ext w w') := by
      have := c_iAreSites va la ha xss n w h hh
      rwa [hg] at this
    obtain ⟨a, cap, rfl, m1, m2⟩ := h.form
    clear h hg e1 e2
    go_enter Try.func27, Try.ntmps27
    go_wp2_with (go_at_call 39; refine C1.out.mono ?_; rintro e w2 ⟨rfl, hx⟩)
    go_ret2
    exact ⟨_, rfl, World.ownsRow_nil _ _ _ _, hx⟩
  · obtain ⟨m, o, rfl, gs, ho, h1, h2, h3, h4⟩ := gc_cases hg
    rw [h1, h2]
    exact c_iGreedy0 va la ha xss m o w h hh gs ho hg
set_option maxRecDepth 100000 in
theorem c_sGreedyF (va : Value) (la ha : Nat) (xss : List (List Int)) (n : Int) (w : World) (h : Intss w la ha va xss) (hh : ha ≤ w.heap.size) :
    Calls Try.prog 28 #[va, .int .i64 n] w fun e w' => ∃ r, e = .returned (.tuple #[r, .bool (gcOk xss n)]) ∧ w'.ownsRow w.heap.size 3 1 r (gcV xss n).length ((gcV xss n).flatMap encI) ∧ Ext w w' := by
  cases hg : sitesB xss n
  · have e1 : gcOk xss n = false := by unfold gcOk; rw [hg]; rfl
    have e2 : gcV xss n = [] := by unfold gcV; rw [e1]; rfl
    rw [e1, e2]
    have C1 : Hid (Calls Try.prog 42 #[va, .int .i64 n] w fun e w' => e = .returned (.bool false) ∧ Ext w w') := by
      have := c_stGood va la ha xss n w h hh
      rwa [hg] at this
    obtain ⟨a, cap, rfl, m1, m2⟩ := h.form
    clear h hg e1 e2
    go_enter Try.func28, Try.ntmps28
    go_wp2_with (go_at_call 42; refine C1.out.mono ?_; rintro e w2 ⟨rfl, hx⟩)
    go_ret2
    exact ⟨_, rfl, World.ownsRow_nil _ _ _ _, hx⟩
  · obtain ⟨m, o, rfl, gs, ho, h1, h2, h3, h4⟩ := gc_cases hg
    rw [h1, h2]
    cases o with
    | some Z => exact c_sGreedy va la ha xss m Z w h hh gs ho hg (h3 rfl)
    | none =>
      have hc := h4 rfl
      have s12 := gs.s12
      have n16 := gs.n16
      have C1 : Hid (Calls Try.prog 42 #[va, .int .i64 m] w fun e w' => e = .returned (.bool true) ∧ Ext w w') := by
        have := c_stGood va la ha xss m w h hh
        rwa [hg] at this
      have C2 : Hid (∀ W, Ext w W → Calls Try.prog 64 #[va] W fun e w' => ∃ a c, e = .returned (.slice a xss.length c) ∧ OwnI w' W.heap.size w'.heap.size (.slice a xss.length c) (upto xss.length) ∧ Ext W w') :=
        fun W hX => (c_stAll va la ha xss W (h.ext hX hh) (by omega)).mono fun e w' ⟨v, he, ho, hx⟩ => by
          rw [upto_len] at ho
          obtain ⟨a, c, rfl, _⟩ := own_form ho
          exact ⟨a, c, he, OwnI.of (by rw [upto_len]; exact ho), hx⟩
      have CC : Hid (∀ W v lb hb, Ext w W → Ints W lb hb v (upto xss.length) → hb ≤ W.heap.size → Calls Try.prog 62 #[va, .int .i64 m, v, .int .i64 1] W fun e w' => e = .returned (.bool false) ∧ Ext W w') :=
        fun W v lb hb hX hr hbb => by
          have := c_stCovers va v la ha lb hb xss m (upto xss.length) 1 W (h.ext hX hh) (Nat.le_trans hh hX.size) hr hbb gs (upto_good _ s12)
          rwa [hc] at this
      obtain ⟨a, cap, rfl, m1, m2⟩ := h.form
      clear h gs ho hg hc h1 h2 h3 h4
      go_enter Try.func28, Try.ntmps28
      go_wp2_with (first | (go_at_call 42; refine C1.out.mono ?_; rintro e w2 ⟨rfl, hx2⟩) | (go_at_call 64; refine (C2.out _ hx2).mono ?_; rintro e w3 ⟨a3, c3, rfl, ho3, hx3⟩) | (go_at_call 62; refine (CC.out _ _ _ _ (hx2.trans hx3) ho3.read (Nat.le_refl _)).mono ?_; rintro e w4 ⟨rfl, hx4⟩))
      go_ret2
      exact ⟨_, rfl, World.ownsRow_nil _ _ _ _, (hx2.trans hx3).trans hx4⟩
end Go.Proofs.Ytiofckbdjifdpaa
