/- The program's parsing of a net: plain. -/
import Derived.Test.YtmaaeemhbccpcaaDoorParR
import Derived.Lib.SplitLaws
import Derived.Lib.AtoiAllCases
namespace Go.Proofs.YtmaaeemhbccpcaaDoor
theorem index_one (b c : UInt8) (r : List UInt8) : Lib.index (c :: r) [b] = if c = b then 0 else if Lib.index r [b] = -1 then -1 else Lib.index r [b] + 1 := by
  rw [Lib.index]
  by_cases h : c = b
  · subst h; simp [List.isPrefixOf]
  · have h' : ¬ b = c := fun e => h e.symm
    simp [List.isPrefixOf, h, h']
/-- The library's splitting at one byte. -/
theorem splitK_one (b : UInt8) : ∀ l : List UInt8, Lib.splitK [b] 0 (Lib.count l [b]) l = splitB b l
  | [] => by
    rw [Lib.count_miss (by simp [Lib.index])]; rfl
  | c :: r => by
    have ih := splitK_one b r
    by_cases h : c = b
    · subst h
      rw [Lib.count_cons_eq, Nat.add_comm, Lib.splitK, index_one, if_pos rfl]
      rw [splitB_cons, if_pos rfl, ← ih]
      simp
    · rw [Lib.count_cons_ne _ _ _ h]
      obtain ⟨k, hk⟩ : ∃ k, k = Lib.count r [b] := ⟨_, rfl⟩
      rw [← hk] at ih ⊢
      rw [splitB_cons, if_neg h, ← ih]
      cases k with
      | zero => simp [Lib.splitK]
      | succ k =>
        by_cases hm : Lib.index r [b] = -1
        · rw [Lib.count_miss hm] at hk; omega
        · have hge := Lib.index_ge r [b]
          obtain ⟨i, hi⟩ : ∃ i : Nat, Lib.index r [b] = i := ⟨(Lib.index r [b]).toNat, by omega⟩
          have h1 : Lib.index (c :: r) [b] = ((i + 1 : Nat) : Int) := by
            rw [index_one, if_neg h, if_neg hm, hi]; omega
          unfold Lib.splitK
          rw [h1, hi, if_neg (by simp; omega), if_neg (by simp)]
          simp
theorem libSplit (b : UInt8) (l : List UInt8) : (Lib.splitB ⟨#[b]⟩ 0 (Lib.countB ⟨l.toArray⟩ ⟨#[b]⟩) ⟨l.toArray⟩).map Value.string = (splitB b l).map fun p => Value.string ⟨p.toArray⟩ := by
  have h := Lib.splitB_data ⟨#[b]⟩ 0 (Lib.countB ⟨l.toArray⟩ ⟨#[b]⟩) ⟨l.toArray⟩
  rw [show (⟨l.toArray⟩ : ByteArray).data.toList = l from by simp, show (⟨#[b]⟩ : ByteArray).data.toList = [b] from rfl] at h
  have hc : Lib.countB ⟨l.toArray⟩ ⟨#[b]⟩ = Lib.count l [b] := by
    show Lib.count _ _ = _
    simp
  rw [hc] at h ⊢
  rw [splitK_one] at h
  rw [← h, List.map_map]
  refine List.map_congr_left fun p _ => ?_
  obtain ⟨⟨q⟩⟩ := p
  rfl
/-- What stands before and behind the first byte b. -/
def cutP (b : UInt8) : List UInt8 → List UInt8 × List UInt8
  | [] => ([], [])
  | c :: r => if c = b then ([], r) else (c :: (cutP b r).1, (cutP b r).2)
theorem libCut (b : UInt8) : ∀ l, (Lib.cut l [b]).1 = (cutP b l).1 ∧ (Lib.cut l [b]).2.1 = (cutP b l).2
  | [] => by simp [Lib.cut, Lib.index, cutP]
  | c :: r => by
    have ih := libCut b r
    unfold Lib.cut at ih ⊢
    unfold cutP
    rw [index_one]
    by_cases h : c = b
    · simp [h]
    · rw [if_neg h, if_neg h]
      by_cases hm : Lib.index r [b] = -1
      · rw [hm] at ih
        rw [if_pos hm]
        simp at ih ⊢
        exact ih
      · have hge := Lib.index_ge r [b]
        obtain ⟨i, hi⟩ : ∃ i : Nat, Lib.index r [b] = i := ⟨(Lib.index r [b]).toNat, by omega⟩
        rw [hi] at ih
        rw [if_neg hm, hi, if_pos (by omega)]
        rw [if_pos (by omega)] at ih
        simp only [Int.toNat_natCast] at ih
        rw [show ((i : Int) + 1).toNat = i + 1 by omega]
        rw [← ih.1, ← ih.2]
        simp
theorem cutP_hit {b : UInt8} : ∀ {p : List UInt8} (r : List UInt8), b ∉ p → cutP b (p ++ b :: r) = (p, r)
  | [], r, _ => by
    show cutP b (b :: r) = _
    unfold cutP
    rw [if_pos rfl]
  | c :: q, r, h => by
    have h1 : c ≠ b := fun e => h (by simp [e])
    have h2 : b ∉ q := fun e => h (by simp [e])
    show cutP b (c :: (q ++ b :: r)) = _
    unfold cutP
    rw [if_neg h1, cutP_hit r h2]
theorem cutP_say (b : UInt8) : ∀ l, cutP b l = (l, []) ∨ l = (cutP b l).1 ++ b :: (cutP b l).2
  | [] => Or.inl rfl
  | c :: r => by
    unfold cutP
    by_cases h : c = b
    · rw [if_pos h]; exact Or.inr (by simp [h])
    · rw [if_neg h]
      rcases cutP_say b r with e | e
      · left; rw [e]
      · right
        show c :: r = c :: ((cutP b r).1 ++ b :: (cutP b r).2)
        rw [← e]
theorem cutP_len (b : UInt8) : ∀ l, (cutP b l).2.length ≤ l.length ∧ (cutP b l).1.length ≤ l.length
  | [] => by simp [cutP]
  | c :: r => by
    have := cutP_len b r
    unfold cutP
    split
    · simp
    · simp; omega
/-- A number as the program reads it. -/
def rnO (l : List UInt8) : Option Int :=
  match Lib.atoiAll l with
  | .ok v => if 0 ≤ v ∧ numL v = l then some v else none
  | _ => none
theorem rn_sound {l : List UInt8} {v : Int} (h : rnO l = some v) : 0 ≤ v ∧ numL v = l := by
  unfold rnO at h
  split at h
  · rename_i u e
    split at h
    · rename_i hu
      simp at h
      subst h
      exact hu
    · cases h
  · cases h
theorem rn_nil : rnO [] = none := rfl
theorem dig_toNat {m : Int} (h0 : 0 ≤ m) (h1 : m < 10) : (UInt8.ofNat (48 + m.toNat)).toNat = 48 + m.toNat := by
  rw [UInt8.toNat_ofNat']; omega
theorem pu_step (acc : Nat) (c : UInt8) (r : List UInt8) (d : Nat) (hd : d < 10) (hc : c.toNat = 48 + d) (ha : acc ≤ 999) : Lib.parseUint10 acc (c :: r) = Lib.parseUint10 (acc * 10 + d) r := by
  rw [Lib.parseUint10, if_pos (by omega), if_neg (by omega), if_neg (by omega)]
  congr 1; omega
theorem atoi_of {c : UInt8} {r : List UInt8} {u : Nat} (hc : 48 ≤ c.toNat) (hp : Lib.parseUint10 0 (c :: r) = .ok u) (hu : u ≤ 999) : Lib.atoiAll (c :: r) = .ok (u : Int) := by
  unfold Lib.atoiAll
  have h43 : ¬ (c.toNat = 43 ∨ c.toNat = 45) := by omega
  have h45 : ¬ c.toNat = 45 := by omega
  simp only [h43, if_false]
  have hm : Lib.parseMag (c :: r) = .ok u := by
    unfold Lib.parseMag
    rw [if_neg (by simp)]; exact hp
  rw [hm]
  simp only [h45, not_false_eq_true, true_and, false_and, if_false]
  rw [if_neg (by omega)]
theorem atoi_num {n : Int} (h0 : 0 ≤ n) (h1 : n ≤ 999) : Lib.atoiAll (numL n) = .ok n := by
  have fin : ∀ {m : Int} {u : Nat}, m = u → (Lib.NumEnd.ok (u : Int)) = .ok m := fun h => by rw [h]
  by_cases a : n < 10
  · rw [numL_small h0 a, atoi_of (u := n.toNat) (by rw [dig_toNat h0 a]; omega) ?_ (by omega)]
    · exact fin (by omega)
    · rw [pu_step 0 _ _ n.toNat (by omega) (dig_toNat h0 a) (by omega)]
      simp [Lib.parseUint10]
  · rw [numL_big (by omega)]
    by_cases b : n / 10 < 10
    · rw [numL_small (by omega) b]
      show Lib.atoiAll (UInt8.ofNat (48 + (n / 10).toNat) :: [UInt8.ofNat (48 + (n % 10).toNat)]) = _
      have d1 := dig_toNat (m := n / 10) (by omega) b
      have d2 := dig_toNat (m := n % 10) (by omega) (by omega)
      rw [atoi_of (u := (n / 10).toNat * 10 + (n % 10).toNat) (by omega) ?_ (by omega)]
      · exact fin (by omega)
      · rw [pu_step 0 _ _ (n / 10).toNat (by omega) d1 (by omega), pu_step _ _ _ (n % 10).toNat (by omega) d2 (by omega)]
        simp [Lib.parseUint10]
    · rw [numL_big (by omega), numL_small (by omega) (by omega)]
      show Lib.atoiAll (UInt8.ofNat (48 + (n / 10 / 10).toNat) :: UInt8.ofNat (48 + (n / 10 % 10).toNat) :: [UInt8.ofNat (48 + (n % 10).toNat)]) = _
      have d1 := dig_toNat (m := n / 10 / 10) (by omega) (by omega)
      have d2 := dig_toNat (m := n / 10 % 10) (by omega) (by omega)
      have d3 := dig_toNat (m := n % 10) (by omega) (by omega)
      rw [atoi_of (u := ((n / 10 / 10).toNat * 10 + (n / 10 % 10).toNat) * 10 + (n % 10).toNat) (by omega) ?_ (by omega)]
      · exact fin (by omega)
      · rw [pu_step 0 _ _ (n / 10 / 10).toNat (by omega) d1 (by omega), pu_step _ _ _ (n / 10 % 10).toNat (by omega) d2 (by omega), pu_step _ _ _ (n % 10).toNat (by omega) d3 (by omega)]
        simp [Lib.parseUint10]
theorem rn_num {n : Int} (h0 : 0 ≤ n) (h1 : n ≤ 999) : rnO (numL n) = some n := by
  unfold rnO
  rw [atoi_num h0 h1]
  simp [h0]
/-- Numbers with blanks between them, as the program reads them. -/
def snO : List (List UInt8) → Option (List Int)
  | [] => some []
  | p :: r => match rnO p with
    | none => none
    | some v => match snO r with
      | none => none
      | some q => some (v :: q)
/-- One line as the program reads it. -/
def imStep (n : NetT) (line : List UInt8) : Option NetT :=
  match snO (splitB 32 (cutP 32 line).2) with
  | some [a, b, c] => if (cutP 32 line).1 = wTow ∧ n.2 = [] then some (n.1 ++ [(a, b, c)], n.2) else if (cutP 32 line).1 = wLnk then some (n.1, n.2 ++ [(a, b, c)]) else none
  | _ => none
def imFold : NetT → List (List UInt8) → Option NetT
  | n, [] => some n
  | n, p :: r => match imStep n p with
    | none => none
    | some m => imFold m r
theorem imFold_cons (n : NetT) (p : List UInt8) (r : List (List UInt8)) : imFold n (p :: r) = match imStep n p with
    | none => none
    | some m => imFold m r := rfl
/-- The lines. -/
def linesO (l : List UInt8) : Option (List (List UInt8)) :=
  if l = [] then some [] else if Lib.hasSuffix l [10] then some (splitB 10 (Lib.trimSuffix l [10])) else none
def imOk (l : List UInt8) : Option NetT :=
  match linesO l with
  | none => none
  | some L => match imFold ([], []) L with
    | none => none
    | some n => if netB n then some n else none
theorem suf_iff {l : List UInt8} (h : Lib.hasSuffix l [10] = true) : l = Lib.trimSuffix l [10] ++ [10] := by
  unfold Lib.trimSuffix
  rw [if_pos h]
  unfold Lib.hasSuffix at h
  obtain ⟨q, hq⟩ := List.isSuffixOf_iff_suffix.1 h
  subst hq
  simp
theorem suf_app (q : List UInt8) : Lib.hasSuffix (q ++ [10]) [10] = true ∧ Lib.trimSuffix (q ++ [10]) [10] = q := by
  have h : Lib.hasSuffix (q ++ [10]) [10] = true := by
    unfold Lib.hasSuffix
    exact List.isSuffixOf_iff_suffix.2 ⟨q, rfl⟩
  refine ⟨h, ?_⟩
  unfold Lib.trimSuffix
  rw [if_pos h]
  simp
theorem join_flat (b : UInt8) : ∀ L : List (List UInt8), L ≠ [] → L.flatMap (fun p => p ++ [b]) = [b].intercalate L ++ [b]
  | [], h => absurd rfl h
  | [p], _ => by simp [List.intercalate]
  | p :: q :: r, _ => by
    have ih := join_flat b (q :: r) (by simp)
    rw [List.flatMap_cons, ih]
    simp [List.intercalate]
theorem lines_sound {l : List UInt8} {L : List (List UInt8)} (h : linesO l = some L) : L.flatMap (fun p => p ++ [10]) = l := by
  unfold linesO at h
  split at h
  · rename_i e
    simp at h
    subst h; subst e; rfl
  · split at h
    · rename_i hs
      simp at h
      rw [← h, join_flat _ _ (splitB_ne _ _), splitB_join]
      exact (suf_iff hs).symm
    · cases h
theorem sn_three {L : List (List UInt8)} {a b c : Int} (h : snO L = some [a, b, c]) : L = [numL a, numL b, numL c] := by
  have one : ∀ {L : List (List UInt8)} {v : Int} {q : List Int}, snO L = some (v :: q) → ∃ r, L = numL v :: r ∧ snO r = some q := by
    intro L v q h
    cases L with
    | nil => simp [snO] at h
    | cons p r =>
      unfold snO at h
      cases hp : rnO p with
      | none => rw [hp] at h; cases h
      | some u =>
        rw [hp] at h
        cases hr : snO r with
        | none => rw [hr] at h; cases h
        | some q' =>
          rw [hr] at h
          simp at h
          obtain ⟨rfl, rfl⟩ := h
          exact ⟨r, by rw [(rn_sound hp).2], hr⟩
  obtain ⟨r1, rfl, h1⟩ := one h
  obtain ⟨r2, rfl, h2⟩ := one h1
  obtain ⟨r3, rfl, h3⟩ := one h2
  cases r3 with
  | nil => rfl
  | cons p r =>
    unfold snO at h3
    cases hp : rnO p with
    | none => rw [hp] at h3; cases h3
    | some u =>
      rw [hp] at h3
      cases hr : snO r with
      | none => rw [hr] at h3; cases h3
      | some q' => rw [hr] at h3; simp at h3
theorem step_sound {n m : NetT} {line : List UInt8} (h : imStep n line = some m) :
    (∃ t, n.2 = [] ∧ line = towF t ∧ m = (n.1 ++ [t], [])) ∨ ∃ t, line = lnkF t ∧ m = (n.1, n.2 ++ [t]) := by
  unfold imStep at h
  split at h
  · rename_i a b c e
    have hs := sn_three e
    have hj := splitB_join 32 (cutP 32 line).2
    rw [hs] at hj
    have hline : line = (cutP 32 line).1 ++ [32] ++ lineL [a, b, c] := by
      rcases cutP_say 32 line with h9 | h9
      · rw [h9] at e
        simp [splitB, snO, rn_nil] at e
      · rw [line3]
        have : (cutP 32 line).2 = numL a ++ [32] ++ numL b ++ [32] ++ numL c := by
          rw [← hj]; simp [List.intercalate]
        rw [← this]
        simpa using h9
    split at h
    · rename_i hw
      simp at h
      left
      refine ⟨(a, b, c), hw.2, ?_, by rw [← h, hw.2]⟩
      rw [hw.1] at hline
      exact hline
    · split at h
      · rename_i hw
        simp at h
        right
        refine ⟨(a, b, c), ?_, h.symm⟩
        rw [hw] at hline
        exact hline
      · cases h
  · cases h
theorem fold_sound : ∀ {L : List (List UInt8)} {n m : NetT}, imFold n L = some m → txtL n ++ L.flatMap (fun p => p ++ [10]) = txtL m
  | [], n, m, h => by
    simp [imFold] at h
    subst h; simp
  | p :: r, n, m, h => by
    unfold imFold at h
    cases hp : imStep n p with
    | none => rw [hp] at h; cases h
    | some k =>
      rw [hp] at h
      have ih := fold_sound h
      rw [← ih, List.flatMap_cons]
      rcases step_sound hp with ⟨t, hn, hl, hk⟩ | ⟨t, hl, hk⟩
      · subst hk
        have e1 : txtL (n.1 ++ [t], []) = txtL n ++ towL t := by
          unfold txtL
          rw [hn]; simp
        rw [e1, towL_F, hl]
        simp
      · subst hk
        have e1 : txtL (n.1, n.2 ++ [t]) = txtL n ++ lnkL t := by
          unfold txtL
          simp
        rw [e1, lnkL_F, hl]
        simp
theorem im_sound {l : List UInt8} {n : NetT} (h : imOk l = some n) : netB n = true ∧ txtL n = l := by
  unfold imOk at h
  cases hl : linesO l with
  | none => rw [hl] at h; cases h
  | some L =>
    rw [hl] at h
    simp only at h
    cases hf : imFold ([], []) L with
    | none => rw [hf] at h; cases h
    | some m =>
      rw [hf] at h
      simp only at h
      split at h
      · rename_i hb
        simp at h
        subst h
        refine ⟨hb, ?_⟩
        have := fold_sound hf
        rw [lines_sound hl] at this
        rw [← this]
        rfl
      · cases h
theorem sn_num {a b c : Int} (ha : 0 ≤ a ∧ a ≤ 999) (hb : 0 ≤ b ∧ b ≤ 999) (hc : 0 ≤ c ∧ c ≤ 999) : snO (splitB 32 (lineL [a, b, c])) = some [a, b, c] := by
  have e : splitB 32 (lineL [a, b, c]) = [numL a, numL b, numL c] := by
    have := split_line (w := []) (by simp) ha hb hc
    simp only [List.nil_append] at this
    rw [show [32] ++ lineL [a, b, c] = [] ++ 32 :: lineL [a, b, c] from rfl, splitB_cut _ (by simp)] at this
    exact List.tail_eq_of_cons_eq this
  rw [e]
  simp [snO, rn_num ha.1 ha.2, rn_num hb.1 hb.2, rn_num hc.1 hc.2]
theorem im_tow {n : NetT} {t : TowerT} (h : Small3 t) (hn : n.2 = []) : imStep n (towF t) = some (n.1 ++ [t], []) := by
  have e : cutP 32 (towF t) = (wTow, lineL [t.1, t.2.1, t.2.2]) := by
    unfold towF
    rw [show wTow ++ [32] ++ lineL [t.1, t.2.1, t.2.2] = wTow ++ 32 :: lineL [t.1, t.2.1, t.2.2] by simp]
    exact cutP_hit _ (by decide)
  unfold imStep
  rw [e]
  simp only
  rw [sn_num h.1 h.2.1 h.2.2]
  simp [hn]
theorem im_lnk {n : NetT} {t : LinkT} (h : Small3 t) : imStep n (lnkF t) = some (n.1, n.2 ++ [t]) := by
  have e : cutP 32 (lnkF t) = (wLnk, lineL [t.1, t.2.1, t.2.2]) := by
    unfold lnkF
    rw [show wLnk ++ [32] ++ lineL [t.1, t.2.1, t.2.2] = wLnk ++ 32 :: lineL [t.1, t.2.1, t.2.2] by simp]
    exact cutP_hit _ (by decide)
  unfold imStep
  rw [e]
  simp only
  rw [sn_num h.1 h.2.1 h.2.2]
  simp [show ¬ wLnk = wTow by decide]
theorem imf_tow : ∀ (L : List TowerT) (r : List (List UInt8)) (n : List TowerT), (∀ t ∈ L, Small3 t) → imFold (n, []) (L.map towF ++ r) = imFold (n ++ L, []) r
  | [], r, n, _ => by simp
  | t :: L, r, n, h => by
    show imFold (n, []) (towF t :: (L.map towF ++ r)) = _
    rw [imFold_cons, im_tow (h t (by simp)) rfl]
    show imFold (n ++ [t], []) (L.map towF ++ r) = _
    rw [imf_tow L r _ fun u hu => h u (by simp [hu])]
    simp
theorem imf_lnk : ∀ (L : List LinkT) (n : NetT), (∀ t ∈ L, Small3 t) → imFold n (L.map lnkF) = some (n.1, n.2 ++ L)
  | [], n, _ => by simp [imFold]
  | t :: L, n, h => by
    show imFold n (lnkF t :: L.map lnkF) = _
    rw [imFold_cons, im_lnk (h t (by simp))]
    show imFold (n.1, n.2 ++ [t]) (L.map lnkF) = _
    rw [imf_lnk L _ fun u hu => h u (by simp [hu])]
    simp
theorem splitB_last (b : UInt8) : ∀ q : List UInt8, splitB b (q ++ [b]) = splitB b q ++ [[]]
  | [] => by simp [splitB]
  | c :: r => by
    have ih := splitB_last b r
    show splitB b (c :: (r ++ [b])) = _
    rw [splitB_cons, splitB_cons]
    by_cases h : c = b
    · rw [if_pos h, if_pos h, ih]; rfl
    · rw [if_neg h, if_neg h, ih]
      cases hs : splitB b r with
      | nil => exact absurd hs (splitB_ne _ _)
      | cons p q => rfl
theorem im_complete {x : NetT} (hx : netB x = true) : imOk (txtL x) = some x := by
  have hn := net_nums hx
  obtain ⟨q, hq⟩ : ∃ q, txtL x = q ++ [10] := by
    have e := splitB_join 10 (txtL x)
    rw [split_txt hn] at e
    have hne : x.1.map towF ++ x.2.map lnkF ≠ [] := by
      have hp : x.1 ≠ [] := by
        intro e
        unfold netB at hx
        rw [e] at hx
        simp [inB] at hx
      cases hx1 : x.1 with
      | nil => exact absurd hx1 hp
      | cons a r => simp
    rw [← List.append_assoc] at e
    refine ⟨[10].intercalate (x.1.map towF ++ x.2.map lnkF), ?_⟩
    rw [← e]
    have app : ∀ {L : List (List UInt8)}, L ≠ [] → [10].intercalate (L ++ [[]]) = [10].intercalate L ++ [10] := by
      intro L
      induction L with
      | nil => intro h; exact absurd rfl h
      | cons p r ih =>
        intro _
        cases r with
        | nil => simp [List.intercalate]
        | cons s t =>
          have := ih (by simp)
          simp [List.intercalate] at this ⊢
          exact this
    exact app hne
  have hs : splitB 10 q = x.1.map towF ++ x.2.map lnkF := by
    have h1 := splitB_last 10 q
    rw [← hq, split_txt hn, ← List.append_assoc] at h1
    exact (List.append_inj_left' h1 rfl).symm
  have hl : linesO (txtL x) = some (x.1.map towF ++ x.2.map lnkF) := by
    unfold linesO
    rw [hq, if_neg (by simp), (suf_app q).1, (suf_app q).2, if_pos rfl, hs]
  unfold imOk
  rw [hl]
  simp only
  rw [imf_tow _ _ _ hn.1, imf_lnk _ _ hn.2.1]
  simp [hx]
/-- Both say the same. -/
theorem im_pn (l : List UInt8) : imOk l = if pnOk l then some (pnV l) else none := by
  cases hi : imOk l with
  | some n =>
    have h := im_sound hi
    have p := pn_of h.1 h.2
    rw [p.1, p.2]; rfl
  | none =>
    have : pnOk l = false := pn_not fun x hx e => by
      have := im_complete hx
      rw [e, hi] at this
      cases this
    rw [this]; rfl
end Go.Proofs.YtmaaeemhbccpcaaDoor
