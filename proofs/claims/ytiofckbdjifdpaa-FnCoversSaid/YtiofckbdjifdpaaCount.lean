
/- CountCovers of the program and of the reference: their contracts. -/
import Derived.Test.YtiofckbdjifdpaaSetS
import Derived.Test.YtiofckbdjifdpaaNextC
import Derived.Test.YtiofckbdjifdpaaIsCover
namespace Go.Proofs.Ytiofckbdjifdpaa
open Go.RowKit
theorem upto_run : ∀ k : Nat, upto k = runI 0 k
  | 0 => rfl
  | k + 1 => by rw [upto_succ, runI_snoc, upto_run k]; simp
theorem bitL_good {s z : Nat} (h12 : s ≤ 12) : GoodC s (bitL s z) := by
  refine ⟨?_, fun i hi => ftoI_bd hi⟩
  have : (bitL s z).length ≤ s := ftoI_len _ _
  omega
theorem combs_good {s k : Nat} {c : List Int} (h12 : s ≤ 12) (h : c ∈ combs s 0 k) : GoodC s c := by
  refine ⟨?_, fun i hi => by have := combs_bd s 0 k c h i hi; omega⟩
  have h1 := (bitsA_mem.1 h).1
  unfold bitsA at h1
  obtain ⟨z, _, rfl⟩ := List.mem_map.1 h1
  exact (bitL_good h12).len
theorem bitsA_get {s z : Nat} (h : z < 2 ^ s) : (bitsA s)[z]? = some (bitL s z) := by simp [bitsA, h]
theorem bitsA_len (s : Nat) : (bitsA s).length = 2 ^ s := by simp [bitsA]
theorem combs_big {d k : Nat} (lo : Int) (h : d < k) : combs d lo k = [] := by
  have h1 := combs_head d lo k
  rw [if_neg (by omega)] at h1
  cases e : combs d lo k with
  | nil => rfl
  | cons a r => rw [e] at h1; simp at h1
theorem countP_snoc {P : List Int → Bool} {S : List (List Int)} {k : Nat} {c : List Int} (h : S[k]? = some c) : (S.take (k + 1)).countP P = (S.take k).countP P + (if P c then 1 else 0) := by
  rw [take_snoc' h, List.countP_append, List.countP_singleton]
theorem countP_le {P : List Int → Bool} {S : List (List Int)} (k : Nat) : (S.take k).countP P ≤ S.length := by
  have h1 := List.countP_le_length (p := P) (l := S.take k)
  rw [List.length_take] at h1; omega
def ccOk (xss : List (List Int)) (n k : Int) : Bool := sitesB xss n && inB 0 12 k
def ccV (xss : List (List Int)) (n k : Int) : Int := if ccOk xss n k then ((combs xss.length 0 k.toNat).countP fun c => coverB xss n.toNat c 1 : Nat) else 0
set_option maxRecDepth 100000 in
/-- nextChoice at any slice. -/
theorem c_nextChoiceG (base k n : Nat) (v : Value) (c : List Int) (w : World) (hown : w.ownsRow base 3 1 v k (c.flatMap encI)) (hn : n ≤ 12) (hb : ∀ x ∈ c, 0 ≤ x ∧ x < (n : Int)) (hkn : k ≤ n) :
    Calls Try.prog 59 #[v, .int .i64 n] w fun e w' => e = .returned (.bool (nxt n c).isSome) ∧ w'.ownsRow base 3 1 v k (((nxt n c).getD c).flatMap encI) ∧ w.grownBy w' v.ownBlock := by
  obtain ⟨a, cap, rfl, ha, h1, h2⟩ := own_form hown
  by_cases hk : k = 0
  · subst hk
    have hcl : c.length = 0 := by have := hown.1; rw [flat_map, List.length_map] at this; omega
    obtain rfl := List.eq_nil_of_length_eq_zero hcl
    have HO := Lib.hid hown
    clear hown ha hb
    go_enter Try.func59, Try.ntmps59
    go_wp2
    go_loopw [6] (fun t wr => t = .int .i64 (-1) ∧ w = wr) (fun _ _ => 0)
    case atStart => exact ⟨rfl, rfl⟩
    case round =>
      obtain ⟨rfl, rfl⟩ := hrel
      go_wp2
      go_ret
      exact ⟨rfl, HO.out, World.grownBy.refl _ _⟩
  · obtain ⟨g, rfl⟩ := ha (by omega)
    exact c_nextChoice base g k cap n c w hown hn hb hkn
set_option maxRecDepth 100000 in
set_option maxHeartbeats 4000000 in
theorem c_sCount (va : Value) (la ha : Nat) (xss : List (List Int)) (n k : Int) (w : World) (h : Intss w la ha va xss) (hh : ha ≤ w.heap.size) :
    Calls Try.prog 21 #[va, .int .i64 n, .int .i64 k] w fun e w' => e = .returned (.tuple #[.int .i64 (ccV xss n k), .bool (ccOk xss n k)]) ∧ Ext w w' := by
  obtain ⟨r, hr⟩ : ∃ r, r = ccV xss n k := ⟨_, rfl⟩
  obtain ⟨q, hq⟩ : ∃ r, r = ccOk xss n k := ⟨_, rfl⟩
  rw [← hr, ← hq]
  unfold ccV at hr
  rw [← hq] at hr
  unfold ccOk at hq
  have C1 := Lib.hid (c_stGood va la ha xss n w h hh)
  cases e1 : sitesB xss n
  · rw [e1] at C1 hq
    rw [Bool.false_and] at hq
    subst hq; simp at hr; subst hr
    obtain ⟨a, cap, rfl, m1, m2⟩ := h.form
    clear h e1
    go_enter Try.func21, Try.ntmps21
    go_wp2_with (go_at_call 42; refine C1.out.mono ?_; rintro e w2 ⟨rfl, hx⟩)
    go_ret2
    exact ⟨rfl, hx⟩
  cases e2 : inB 0 12 k
  · rw [e1] at C1
    rw [e1, e2] at hq
    simp at hq
    subst hq; simp at hr; subst hr
    obtain ⟨a, cap, rfl, m1, m2⟩ := h.form
    clear h e1
    go_enter Try.func21, Try.ntmps21
    go_wp2_with (first | (go_at_call 42; refine C1.out.mono ?_; rintro e w2 ⟨rfl, hx⟩) | (go_at_call 60; refine (l1In_c _ _ _ _).mono ?_; rintro e w' ⟨rfl, rfl⟩))
    go_ret2
    exact ⟨rfl, hx⟩
  · obtain ⟨m, rfl, gs⟩ := GoodS.of e1
    obtain ⟨k0, k12⟩ := inB_t e2
    obtain ⟨j, rfl⟩ := Int.eq_ofNat_of_zero_le k0
    rw [e1] at C1
    rw [e1, e2] at hq
    simp at hq
    subst hq
    rw [if_pos rfl, Int.toNat_natCast, Int.toNat_natCast] at hr
    have s12 := gs.s12
    have n16 := gs.n16
    obtain ⟨P, hP⟩ : ∃ P : List Int → Bool, P = fun c => coverB xss m c 1 := ⟨_, rfl⟩
    rw [← hP, ← bitsA_combs] at hr
    have CC : Hid (∀ W v lb hb l, Ext w W → Ints W lb hb v l → hb ≤ W.heap.size → GoodC xss.length l → Calls Try.prog 62 #[va, .int .i64 m, v, .int .i64 1] W fun e w' => e = .returned (.bool (P l)) ∧ Ext W w') :=
      fun W v lb hb l hX hr hbb hg => by rw [hP]; exact c_stCovers va v la ha lb hb xss m l 1 W (h.ext hX hh) (Nat.le_trans hh hX.size) hr hbb gs hg
    obtain ⟨a, cap, rfl, m1, m2⟩ := h.form
    obtain ⟨s, hs⟩ : ∃ s, s = xss.length := ⟨_, rfl⟩
    rw [← hs] at m1 s12 C1 CC hr ⊢
    have HR := Lib.hid hr
    clear h gs hr hs hP e1
    obtain ⟨M, hM⟩ : ∃ M, M = 2 ^ s := ⟨_, rfl⟩
    have hpw : M ≤ 4096 := by rw [hM]; exact Nat.pow_le_pow_right (n := 2) (by decide) s12
    have hw : wrap64 (2 ^ s) = (M : Int) := by
      have h9 : ((2 : Int) ^ s) = (M : Int) := by rw [hM, Int.natCast_pow]; rfl
      rw [h9]; exact IntWalk.wrap64_in _ ⟨by omega, by omega⟩
    have HM := Lib.hid hM
    clear hM
    go_enter Try.func21, Try.ntmps21
    go_wp2_with (first | (go_at_call 42; refine C1.out.mono ?_; rintro e w2 ⟨rfl, hx⟩) | (go_at_call 60; refine (l1In_c _ _ _ _).mono ?_; rintro e w' ⟨rfl, rfl⟩))
    go_loopw [8, 9] (fun vc t wr => ∃ (z cn : Nat), z ≤ M ∧ t = .int .i64 z ∧ vc = .int .i64 cn ∧ cn ≤ 4096 ∧ Hid (cn = ((bitsA s).take z).countP (fun l => decide (l.length = j) && P l)) ∧ Ext w wr) (fun _ t _ => M - (intOf t).toNat)
    case atStart => exact ⟨0, 0, by omega, rfl, rfl, by omega, by simp [Hid], hx⟩
    case round =>
      clear hx
      obtain ⟨z, cn, hz, rfl, rfl, hcn, hT, hx⟩ := hrel
      by_cases hlt : z < M
      · have hltI : (z : Int) < (M : Int) := by omega
        have CS := Lib.hid (c_stSet z s wr (by rw [← HM.out]; exact hlt) s12)
        have hsn := countP_snoc (P := fun l => decide (l.length = j) && P l) (bitsA_get (s := s) (z := z) (by rw [← HM.out]; exact hlt))
        rw [← hT.out] at hsn
        have hGC := bitL_good (z := z) s12
        have hle := countP_le (P := fun l => decide (l.length = j) && P l) (S := bitsA s) (z + 1)
        rw [bitsA_len, ← HM.out] at hle
        obtain ⟨c, hc⟩ : ∃ c, c = bitL s z := ⟨_, rfl⟩
        rw [← hc] at CS hsn hGC
        have HGC := Lib.hid hGC
        have hc12 := hGC.len
        have HSN := Lib.hid hsn
        have HLE := Lib.hid hle
        clear hc hsn hGC hle
        go_wp2_with fail
        refine CS.out.mono ?_
        rintro e w3 ⟨v3, rfl, ho3, hx3⟩
        obtain ⟨a3, c3, rfl, _, _, _⟩ := own_form ho3
        have HO3 := Lib.hid (OwnI.of ho3)
        have hsz3 := hx3.size
        have XX := hx.trans hx3
        obtain ⟨t, ht⟩ : ∃ t, t = P c := ⟨_, rfl⟩
        have CV := Lib.hid (CC.out w3 _ _ _ c XX HO3.out.read (Nat.le_refl _) HGC.out)
        rw [← ht] at CV
        have HT := Lib.hid ht
        clear ho3 ht
        by_cases hj : c.length = j
        · have hjb : ((c.length : Int) == (j : Int)) = true := by simp [hj]
          have HJ := Lib.hid hj
          clear hj
          cases t
          · have HCN : Hid (cn = ((bitsA s).take (z + 1)).countP (fun l => decide (l.length = j) && P l)) := by unfold Hid; rw [HSN.out, HJ.out, ← HT.out]; simp
            go_wp2_with (go_at_call 62; refine CV.out.mono ?_; rintro e w4 ⟨rfl, hx4⟩)
            go_roundw
            case rel => exact ⟨z + 1, cn, by omega, by go_num, rfl, hcn, HCN.out, XX.trans hx4⟩
            case measure => simp [intOf]; omega
          · have HCN : Hid (cn + 1 = ((bitsA s).take (z + 1)).countP (fun l => decide (l.length = j) && P l)) := by unfold Hid; rw [HSN.out, HJ.out, ← HT.out]; simp
            have hcn1 : cn + 1 ≤ 4096 := by have := HLE.out; rw [← HCN.out] at this; omega
            go_wp2_with (go_at_call 62; refine CV.out.mono ?_; rintro e w4 ⟨rfl, hx4⟩)
            go_roundw
            case rel => exact ⟨z + 1, cn + 1, by omega, by go_num, by go_num, hcn1, HCN.out, XX.trans hx4⟩
            case measure => simp [intOf]; omega
        · have hjb : ((c.length : Int) == (j : Int)) = false := by simp; omega
          have HCN : Hid (cn = ((bitsA s).take (z + 1)).countP (fun l => decide (l.length = j) && P l)) := by unfold Hid; rw [HSN.out, decide_eq_false hj]; simp
          clear hj
          go_wp2
          go_roundw
          case rel => exact ⟨z + 1, cn, by omega, by go_num, rfl, hcn, HCN.out, XX⟩
          case measure => simp [intOf]; omega
      · have hge : ¬ ((z : Int) < (M : Int)) := by omega
        have HRC : Hid (r = cn) := by
          unfold Hid; rw [HR.out, hT.out, List.take_of_length_le (by rw [bitsA_len, ← HM.out]; omega)]
        go_wp2
        go_ret2
        exact ⟨by rw [HRC.out]; rfl, hx⟩
set_option maxRecDepth 100000 in
set_option maxHeartbeats 4000000 in
theorem c_iCount (va : Value) (la ha : Nat) (xss : List (List Int)) (n k : Int) (w : World) (h : Intss w la ha va xss) (hh : ha ≤ w.heap.size) :
    Calls Try.prog 20 #[va, .int .i64 n, .int .i64 k] w fun e w' => e = .returned (.tuple #[.int .i64 (ccV xss n k), .bool (ccOk xss n k)]) ∧ Ext w w' := by
  obtain ⟨r, hr⟩ : ∃ r, r = ccV xss n k := ⟨_, rfl⟩
  obtain ⟨q, hq⟩ : ∃ r, r = ccOk xss n k := ⟨_, rfl⟩
  rw [← hr, ← hq]
  unfold ccV at hr
  rw [← hq] at hr
  unfold ccOk at hq
  have C1 := Lib.hid (c_iAreSites va la ha xss n w h hh)
  cases e1 : sitesB xss n
  · rw [e1] at C1 hq
    rw [Bool.false_and] at hq
    subst hq; simp at hr; subst hr
    obtain ⟨a, cap, rfl, m1, m2⟩ := h.form
    clear h e1
    go_enter Try.func20, Try.ntmps20
    go_wp2_with (go_at_call 39; refine C1.out.mono ?_; rintro e w2 ⟨rfl, hx⟩)
    go_ret2
    exact ⟨rfl, hx⟩
  cases e2 : inB 0 12 k
  · rw [e1] at C1
    rw [e1, e2] at hq
    simp at hq
    subst hq; simp at hr; subst hr
    obtain ⟨a, cap, rfl, m1, m2⟩ := h.form
    clear h e1
    go_enter Try.func20, Try.ntmps20
    go_wp2_with (first | (go_at_call 39; refine C1.out.mono ?_; rintro e w2 ⟨rfl, hx⟩) | (go_at_call 56; refine (within_c _ _ _ _).mono ?_; rintro e w' ⟨rfl, rfl⟩))
    go_ret2
    exact ⟨rfl, hx⟩
  · obtain ⟨m, rfl, gs⟩ := GoodS.of e1
    obtain ⟨k0, k12⟩ := inB_t e2
    obtain ⟨j, rfl⟩ := Int.eq_ofNat_of_zero_le k0
    rw [e1] at C1
    rw [e1, e2] at hq
    simp at hq
    subst hq
    rw [if_pos rfl, Int.toNat_natCast, Int.toNat_natCast] at hr
    have s12 := gs.s12
    have n16 := gs.n16
    obtain ⟨P, hP⟩ : ∃ P : List Int → Bool, P = fun c => coverB xss m c 1 := ⟨_, rfl⟩
    rw [← hP] at hr
    have CC : Hid (∀ W v lb hb l, Ext w W → Ints W lb hb v l → hb ≤ W.heap.size → GoodC xss.length l → Calls Try.prog 58 #[va, .int .i64 m, v, .int .i64 1] W fun e w' => e = .returned (.bool (P l)) ∧ Ext W w') :=
      fun W v lb hb l hX hr hbb hg => by rw [hP]; exact c_covers va v la ha lb hb xss m l 1 W (h.ext hX hh) (Nat.le_trans hh hX.size) hr hbb gs hg
    obtain ⟨a, cap, rfl, m1, m2⟩ := h.form
    obtain ⟨s, hs⟩ : ∃ s, s = xss.length := ⟨_, rfl⟩
    rw [← hs] at m1 s12 C1 CC hr ⊢
    clear h gs hs hP e1
    by_cases hjs : s < j
    · rw [combs_big 0 hjs] at hr
      simp at hr
      subst hr
      have hjsI : (s : Int) < (j : Int) := by omega
      go_enter Try.func20, Try.ntmps20
      go_wp2_with (first | (go_at_call 39; refine C1.out.mono ?_; rintro e w2 ⟨rfl, hx⟩) | (go_at_call 56; refine (within_c _ _ _ _).mono ?_; rintro e w' ⟨rfl, rfl⟩))
      go_ret2
      exact ⟨rfl, hx⟩
    · have hjsI : ¬ (s : Int) < (j : Int) := by omega
      obtain ⟨C, hC⟩ : ∃ C, C = combs s 0 j := ⟨_, rfl⟩
      have h0 := combs_head s 0 j
      rw [if_pos (by omega), ← hC] at h0
      rw [← hC] at hr
      have HC := Lib.hid hC
      have HR := Lib.hid hr
      have H0 := Lib.hid h0
      have hCl : 0 < C.length := (List.getElem?_eq_some_iff.1 h0).1
      have HCL : Hid (C.length ≤ 4096) := by
        have h1 := bitsA_combs s j (fun _ => true)
        have h2 : (combs s 0 j).countP (fun _ => true) = (combs s 0 j).length := by simp
        have h3 := List.countP_le_length (p := fun l : List Int => decide (l.length = j) && true) (l := bitsA s)
        rw [bitsA_len, h1, h2, ← hC] at h3
        have h4 : 2 ^ s ≤ 4096 := Nat.pow_le_pow_right (n := 2) (by decide) s12
        unfold Hid; omega
      clear hC hr h0
      have C3 : Hid (∀ W, Calls Try.prog 57 #[.int .i64 j] W fun e w' => ∃ r, e = .returned r ∧ w'.ownsRow W.heap.size 3 1 r j ((runI 0 j).flatMap encI) ∧ Ext W w') := fun W => by
        have := c_firstChoice j W (by omega)
        rw [upto_len, upto_run] at this; exact this
      go_enter Try.func20, Try.ntmps20
      go_wp2_with (first | (go_at_call 39; refine C1.out.mono ?_; rintro e w2 ⟨rfl, hx⟩) | (go_at_call 56; refine (within_c _ _ _ _).mono ?_; rintro e w' ⟨rfl, rfl⟩))
      refine (C3.out _).mono ?_
      rintro e w3 ⟨v3, rfl, ho3, hx3⟩
      obtain ⟨a3, c3, rfl, _, _, _⟩ := own_form ho3
      have HO3 := Lib.hid ho3
      have X3 := hx.trans hx3
      have HSZ := Lib.hid hx.size
      clear ho3
      go_wp2_with fail
      go_loopg [8] C.length (fun gg vc wr => ∃ (i cn : Nat) (c : List Int), i + gg = C.length ∧ vc = .int .i64 cn ∧ cn ≤ 4096 ∧ Hid (cn = (C.take i).countP P) ∧ Hid (C[i]? = some c) ∧ wr.ownsRow w2.heap.size 3 1 (.slice a3 j c3) j (c.flatMap encI) ∧ Ext w wr)
      case atStart => exact ⟨0, 0, _, by omega, rfl, by omega, by simp [Hid], H0.out, HO3.out, X3⟩
      case round =>
        obtain ⟨i, cn, c, hig, rfl, hcn, hT, hCi, hown, hxr⟩ := hrel
        obtain ⟨wo, hwo⟩ : ∃ W, W = wr := ⟨_, rfl⟩
        subst hwo
        have hmem := List.mem_of_getElem? hCi.out
        rw [HC.out] at hmem
        have HGC := Lib.hid (combs_good s12 hmem)
        have hcl : c.length = j := combs_len _ _ _ c hmem
        have hnx : nxt (s : Int) c = C[i + 1]? := by
          have h1 := hCi.out
          rw [HC.out] at h1 ⊢
          have h2 := combs_nxt s 0 j i c h1
          rw [Int.zero_add] at h2; exact h2
        have hsn := countP_snoc (P := P) hCi.out
        rw [← hT.out] at hsn
        have hle := countP_le (P := P) (S := C) (i + 1)
        have hil := (List.getElem?_eq_some_iff.1 hCi.out).1
        obtain ⟨t, ht⟩ : ∃ t, t = P c := ⟨_, rfl⟩
        rw [← ht] at hsn
        have hro : Ints wo w2.heap.size wo.heap.size (.slice a3 j c3) c := Row.of_own encI_len (by rw [hcl]; exact hown)
        have CV := Lib.hid (CC.out wo _ _ _ c hxr hro (Nat.le_refl _) HGC.out)
        rw [← ht] at CV
        have HOWN := Lib.hid hown
        have HNX := Lib.hid hnx
        have HSN := Lib.hid hsn
        have HLE := Lib.hid hle
        clear hmem hcl hnx hsn hle ht hro hown
        obtain ⟨cn2, hcn2⟩ : ∃ z, z = cn + (if t then 1 else 0) := ⟨_, rfl⟩
        have hc2 : cn2 ≤ 4096 := by have h1 := HLE.out; have h2 := HSN.out; have h3 := HCL.out; rw [hcn2]; rw [h2] at h1; omega
        have HCN2 := Lib.hid hcn2
        have CN : Hid (∀ W, Ext wo W → Calls Try.prog 59 #[.slice a3 j c3, .int .i64 s] W fun e w' => e = .returned (.bool (nxt s c).isSome) ∧ w'.ownsRow w2.heap.size 3 1 (.slice a3 j c3) j (((nxt s c).getD c).flatMap encI) ∧ W.grownBy w' (Value.slice a3 j c3).ownBlock) := fun W hX =>
          c_nextChoiceG w2.heap.size j s _ c W (own_ext HOWN.out hX) s12 HGC.out.mem (by omega)
        have HOB : Hid (∀ k9, (Value.slice a3 j c3).ownBlock = some k9 → w.heap.size ≤ k9) := fun k9 e9 => by have := (HOWN.out.lt k9 e9).1; have := HSZ.out; omega
        obtain ⟨o, ho⟩ : ∃ o, o = nxt (s : Int) c := ⟨_, rfl⟩
        rw [← ho] at CN HNX
        clear ho
        cases t
        all_goals
          simp only [if_true, if_false, Bool.false_eq_true, Nat.add_zero] at hcn2
          cases o with
          | none =>
            have HRC : Hid (r = cn2) := by
              unfold Hid
              have h1 := HNX.out
              have h2 : C.length ≤ i + 1 := by
                rcases Nat.lt_or_ge (i + 1) C.length with h | h
                · rw [List.getElem?_eq_getElem h] at h1; cases h1
                · exact h
              rw [HR.out, HCN2.out, ← HSN.out, List.take_of_length_le h2]
            subst hcn2
            go_wp2_with (first | (go_at_call 58; refine CV.out.mono ?_; rintro e w5 ⟨rfl, hx5⟩) | (go_at_call 59; refine (CN.out _ hx5).mono ?_; rintro e w6 ⟨rfl, ho6, hg6⟩))
            go_ret2
            exact ⟨by rw [HRC.out]; rfl, (hxr.trans hx5).gr hg6 HOB.out⟩
          | some c2 =>
            clear hcn2
            go_wp2_with (first | (go_at_call 58; refine CV.out.mono ?_; rintro e w5 ⟨rfl, hx5⟩) | (go_at_call 59; refine (CN.out _ hx5).mono ?_; rintro e w6 ⟨rfl, ho6, hg6⟩))
            go_roundg (C.length - (i + 1))
            case measure => omega
            case rel => exact ⟨i + 1, cn2, c2, by omega, (by rw [HCN2.out]; first | rfl | go_num), hc2, HCN2.out.trans HSN.out.symm, HNX.out.symm, ho6, (hxr.trans hx5).gr hg6 HOB.out⟩
end Go.Proofs.Ytiofckbdjifdpaa
