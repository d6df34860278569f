/- Texts that are read, plain: what the reference and the program read is the same. -/
import Derived.Test.YtmaaeemhbccpcaaGreatDoorTextP
import Derived.Test.YtmaaeemhbccpcaaGreatDoorTextS
import Derived.Lib.SplitLaws
import Derived.Lib.AtoiAllCases
import Derived.Lib.IndexBytes
/- Texts that are read: pieces, numbers, lines; plain. -/
namespace Go.Proofs.YtmaaeemhbccpcaaGreatDoor
/-- The pieces between the bytes b. -/
def splitB (b : UInt8) : List UInt8 → List (List UInt8)
  | [] => [[]]
  | c :: r => if c = b then [] :: splitB b r else match splitB b r with
    | [] => [[c]]
    | p :: q => (c :: p) :: q
theorem splitB_cons (b c : UInt8) (r : List UInt8) : splitB b (c :: r) = if c = b then [] :: splitB b r else match splitB b r with
    | [] => [[c]]
    | p :: q => (c :: p) :: q := rfl
theorem splitB_ne (b : UInt8) : ∀ l, splitB b l ≠ []
  | [] => by simp [splitB]
  | c :: r => by
    unfold splitB
    split
    · simp
    · split <;> simp
theorem splitB_none {b : UInt8} : ∀ {p : List UInt8}, b ∉ p → splitB b p = [p]
  | [], _ => rfl
  | c :: r, h => by
    have h1 : c ≠ b := fun e => h (by simp [e])
    have h2 : b ∉ r := fun e => h (by simp [e])
    unfold splitB
    rw [if_neg h1, splitB_none h2]
theorem splitB_cut {b : UInt8} : ∀ {p : List UInt8} (r : List UInt8), b ∉ p → splitB b (p ++ b :: r) = p :: splitB b r
  | [], r, _ => by
    show splitB b (b :: r) = _
    rw [splitB_cons, if_pos rfl]
  | c :: q, r, h => by
    have h1 : c ≠ b := fun e => h (by simp [e])
    have h2 : b ∉ q := fun e => h (by simp [e])
    show splitB b (c :: (q ++ b :: r)) = _
    rw [splitB_cons, if_neg h1, splitB_cut r h2]
theorem splitB_len (b : UInt8) : ∀ l, (splitB b l).length ≤ l.length + 1
  | [] => by simp [splitB]
  | c :: r => by
    have := splitB_len b r
    unfold splitB
    split
    · simp; omega
    · split
      · simp
      · rename_i p q e
        rw [e] at this
        simp at this ⊢; omega
/-- The pieces joined again. -/
theorem splitB_join (b : UInt8) : ∀ l, [b].intercalate (splitB b l) = l
  | [] => rfl
  | c :: r => by
    have ih := splitB_join b r
    have hn := splitB_ne b r
    unfold splitB
    split
    · rename_i e
      subst e
      cases h : splitB c r with
      | nil => exact absurd h hn
      | cons p q =>
        rw [h] at ih
        simp only [List.intercalate, List.intersperse, List.flatten_cons] at ih ⊢
        simp [ih]
    · cases h : splitB b r with
      | nil => exact absurd h hn
      | cons p q =>
        rw [h] at ih
        cases q with
        | nil => simp [List.intercalate] at ih ⊢; rw [ih]
        | cons p2 q2 =>
          simp only [List.intercalate, List.intersperse, List.flatten_cons] at ih ⊢
          rw [List.cons_append, ih]
/-- A digit's byte. -/
theorem dig_mem {n : Int} (h0 : 0 ≤ n) (h1 : n ≤ 999) : ∀ c ∈ numL n, 48 ≤ c.toNat ∧ c.toNat ≤ 57 := by
  have small : ∀ {m : Int}, 0 ≤ m → m < 10 → ∀ c ∈ numL m, 48 ≤ c.toNat ∧ c.toNat ≤ 57 := by
    intro m a b c hc
    rw [numL_small a b] at hc
    rw [List.mem_singleton.1 hc, UInt8.toNat_ofNat']
    omega
  have last : ∀ {m : Int}, 0 ≤ m → ∀ c ∈ [UInt8.ofNat (48 + (m % 10).toNat)], 48 ≤ c.toNat ∧ c.toNat ≤ 57 := by
    intro m a c hc
    rw [List.mem_singleton.1 hc, UInt8.toNat_ofNat']
    omega
  intro c hc
  by_cases a : n < 10
  · exact small h0 a c hc
  · rw [numL_big (by omega)] at hc
    rcases List.mem_append.1 hc with hc | hc
    · by_cases b : n / 10 < 10
      · exact small (by omega) b c hc
      · rw [numL_big (by omega)] at hc
        rcases List.mem_append.1 hc with hc | hc
        · exact small (by omega) (by omega) c hc
        · exact last (by omega) c hc
    · exact last h0 c hc
theorem num_no {n : Int} (h0 : 0 ≤ n) (h1 : n ≤ 999) {b : UInt8} (hb : b.toNat < 48) : b ∉ numL n := fun h => by
  have := (dig_mem h0 h1 b h).1
  omega
/-- A number of at most six digits without leading zeros, or -1. -/
def digB (c : UInt8) : Bool := decide (48 ≤ c.toNat) && decide (c.toNat ≤ 57)
def valL (l : List UInt8) : Int := l.foldl (fun n c => 10 * n + ((c.toNat : Int) - 48)) 0
def rdL (l : List UInt8) : Int :=
  if (decide (1 ≤ l.length) && decide (l.length ≤ 6)) && !(decide (l.head? = some 48) && decide (1 < l.length)) && l.all digB then valL l else -1
theorem val_app (l : List UInt8) (c : UInt8) : valL (l ++ [c]) = 10 * valL l + ((c.toNat : Int) - 48) := by
  unfold valL
  rw [List.foldl_append]; rfl
theorem val_num {n : Int} (h0 : 0 ≤ n) (h1 : n ≤ 999) : valL (numL n) = n := by
  have small : ∀ {m : Int}, 0 ≤ m → m < 10 → valL (numL m) = m := by
    intro m a b
    rw [numL_small a b]
    show 10 * 0 + (((UInt8.ofNat (48 + m.toNat)).toNat : Int) - 48) = m
    rw [UInt8.toNat_ofNat']
    omega
  have step : ∀ {m : Int}, 10 ≤ m → valL (numL (m / 10)) = m / 10 → valL (numL m) = m := by
    intro m a e
    rw [numL_big a, val_app, e, UInt8.toNat_ofNat']
    omega
  by_cases a : n < 10
  · exact small h0 a
  · refine step (by omega) ?_
    by_cases b : n / 10 < 10
    · exact small (by omega) b
    · exact step (by omega) (small (by omega) (by omega))
theorem num_head {n : Int} (h0 : 0 ≤ n) (h1 : n ≤ 999) (hl : 1 < (numL n).length) : (numL n).head? ≠ some 48 := by
  have small : ∀ {m : Int}, 1 ≤ m → m < 10 → ∃ c r, numL m = c :: r ∧ c ≠ 48 := by
    intro m a b
    refine ⟨_, [], numL_small (by omega) b, ?_⟩
    intro e
    have := congrArg UInt8.toNat e
    rw [UInt8.toNat_ofNat'] at this
    have h48 : (48 : UInt8).toNat = 48 := rfl
    omega
  have grow : ∀ {m : Int}, 10 ≤ m → (∃ c r, numL (m / 10) = c :: r ∧ c ≠ 48) → ∃ c r, numL m = c :: r ∧ c ≠ 48 := by
    rintro m a ⟨c, r, e, h⟩
    exact ⟨c, r ++ [_], by rw [numL_big a, e]; rfl, h⟩
  have : ∃ c r, numL n = c :: r ∧ c ≠ 48 := by
    by_cases a : n < 10
    · rw [numL_small h0 a] at hl
      simp at hl
    · refine grow (by omega) ?_
      by_cases b : n / 10 < 10
      · exact small (by omega) b
      · exact grow (by omega) (small (by omega) (by omega))
  obtain ⟨c, r, e, h⟩ := this
  rw [e]
  simp [h]
theorem rd_num {n : Int} (h0 : 0 ≤ n) (h1 : n ≤ 999) : rdL (numL n) = n := by
  have hl := numL_len h0 h1
  have hp : 1 ≤ (numL n).length := by
    by_cases a : n < 10
    · rw [numL_small h0 a]; simp
    · rw [numL_big (by omega)]; simp
  have hd : (numL n).all digB = true := by
    rw [List.all_eq_true]
    intro c hc
    have := dig_mem h0 h1 c hc
    simp [digB, this]
  have hz : (decide ((numL n).head? = some 48) && decide (1 < (numL n).length)) = false := by
    by_cases a : 1 < (numL n).length
    · have := num_head h0 h1 a
      simp [this]
    · simp [a]
  unfold rdL
  rw [hz, hd, decide_eq_true hp, decide_eq_true (show (numL n).length ≤ 6 by omega)]
  simp [val_num h0 h1]
/-- The pieces of a line of a net's text. -/
theorem split_line {w : List UInt8} {a b c : Int} (hw : (32 : UInt8) ∉ w) (ha : 0 ≤ a ∧ a ≤ 999) (hb : 0 ≤ b ∧ b ≤ 999) (hc : 0 ≤ c ∧ c ≤ 999) :
    splitB 32 (w ++ [32] ++ lineL [a, b, c]) = [w, numL a, numL b, numL c] := by
  rw [line3]
  have e : w ++ [32] ++ (numL a ++ [32] ++ numL b ++ [32] ++ numL c) = w ++ 32 :: (numL a ++ 32 :: (numL b ++ 32 :: numL c)) := by simp
  rw [e, splitB_cut _ hw, splitB_cut _ (num_no ha.1 ha.2 (by decide)), splitB_cut _ (num_no hb.1 hb.2 (by decide)), splitB_none (num_no hc.1 hc.2 (by decide))]
end Go.Proofs.YtmaaeemhbccpcaaGreatDoor
/- The net that a text says: plain. -/
namespace Go.Proofs.YtmaaeemhbccpcaaGreatDoor
def wTow : List UInt8 := [116, 111, 119, 101, 114]
def wLnk : List UInt8 := [108, 105, 110, 107]
def towF (t : TowerT) : List UInt8 := wTow ++ [32] ++ lineL [t.1, t.2.1, t.2.2]
def lnkF (y : LinkT) : List UInt8 := wLnk ++ [32] ++ lineL [y.1, y.2.1, y.2.2]
theorem towL_F (t : TowerT) : towL t = towF t ++ [10] := rfl
theorem lnkL_F (y : LinkT) : lnkL y = lnkF y ++ [10] := rfl
abbrev Small3 (t : Int × Int × Int) : Prop := (0 ≤ t.1 ∧ t.1 ≤ 999) ∧ (0 ≤ t.2.1 ∧ t.2.1 ≤ 999) ∧ (0 ≤ t.2.2 ∧ t.2.2 ≤ 999)
theorem line_no10 {a b c : Int} (ha : 0 ≤ a ∧ a ≤ 999) (hb : 0 ≤ b ∧ b ≤ 999) (hc : 0 ≤ c ∧ c ≤ 999) : (10 : UInt8) ∉ lineL [a, b, c] := by
  rw [line3]
  have h1 := num_no ha.1 ha.2 (b := 10) (by decide)
  have h2 := num_no hb.1 hb.2 (b := 10) (by decide)
  have h3 := num_no hc.1 hc.2 (b := 10) (by decide)
  simp [h1, h2, h3]
theorem towF_no10 {t : TowerT} (h : Small3 t) : (10 : UInt8) ∉ towF t := by
  have := line_no10 h.1 h.2.1 h.2.2
  unfold towF wTow
  simp [this]
theorem lnkF_no10 {t : LinkT} (h : Small3 t) : (10 : UInt8) ∉ lnkF t := by
  have := line_no10 h.1 h.2.1 h.2.2
  unfold lnkF wLnk
  simp [this]
theorem split_lines {α : Type} {f : α → List UInt8} : ∀ (L : List α) (r : List UInt8), (∀ x ∈ L, (10 : UInt8) ∉ f x) → splitB 10 (L.flatMap (fun x => f x ++ [10]) ++ r) = L.map f ++ splitB 10 r
  | [], r, _ => rfl
  | x :: L, r, h => by
    have e : (x :: L).flatMap (fun x => f x ++ [10]) ++ r = f x ++ 10 :: (L.flatMap (fun x => f x ++ [10]) ++ r) := by simp
    rw [e, splitB_cut _ (h x (by simp)), split_lines L r (fun y hy => h y (by simp [hy]))]
    rfl
theorem split_txt {x : NetT} (h : NumsOk x) : splitB 10 (txtL x) = x.1.map towF ++ (x.2.map lnkF ++ [[]]) := by
  have e : txtL x = x.1.flatMap (fun t => towF t ++ [10]) ++ (x.2.flatMap (fun t => lnkF t ++ [10]) ++ []) := by
    unfold txtL
    rw [List.append_nil]
    rfl
  rw [e, split_lines _ _ fun t ht => towF_no10 (h.1 t ht), split_lines _ _ fun t ht => lnkF_no10 (h.2.1 t ht)]
  rfl
/-- One line is read. -/
def stepS (n : NetT) (line : List UInt8) : NetT :=
  match splitB 32 line with
  | [w, a, b, c] => if w = wTow then (n.1 ++ [(rdL a, rdL b, rdL c)], n.2) else if w = wLnk then (n.1, n.2 ++ [(rdL a, rdL b, rdL c)]) else n
  | _ => n
def spParse (l : List UInt8) : NetT := (splitB 10 l).foldl stepS ([], [])
theorem step_tow {n : NetT} {t : TowerT} (h : Small3 t) : stepS n (towF t) = (n.1 ++ [t], n.2) := by
  unfold stepS towF
  rw [split_line (by decide) h.1 h.2.1 h.2.2]
  simp only [if_true]
  rw [rd_num h.1.1 h.1.2, rd_num h.2.1.1 h.2.1.2, rd_num h.2.2.1 h.2.2.2]
theorem step_lnk {n : NetT} {t : LinkT} (h : Small3 t) : stepS n (lnkF t) = (n.1, n.2 ++ [t]) := by
  unfold stepS lnkF
  rw [split_line (by decide) h.1 h.2.1 h.2.2]
  simp only [show ¬ wLnk = wTow by decide, if_false, if_true]
  rw [rd_num h.1.1 h.1.2, rd_num h.2.1.1 h.2.1.2, rd_num h.2.2.1 h.2.2.2]
theorem fold_tow : ∀ (L : List TowerT) (n : NetT), (∀ t ∈ L, Small3 t) → (L.map towF).foldl stepS n = (n.1 ++ L, n.2)
  | [], n, _ => by simp
  | t :: L, n, h => by
    rw [List.map_cons, List.foldl_cons, step_tow (h t (by simp)), fold_tow L _ fun u hu => h u (by simp [hu])]
    simp
theorem fold_lnk : ∀ (L : List LinkT) (n : NetT), (∀ t ∈ L, Small3 t) → (L.map lnkF).foldl stepS n = (n.1, n.2 ++ L)
  | [], n, _ => by simp
  | t :: L, n, h => by
    rw [List.map_cons, List.foldl_cons, step_lnk (h t (by simp)), fold_lnk L _ fun u hu => h u (by simp [hu])]
    simp
/-- A net's text says the net. -/
theorem sp_txt {x : NetT} (h : NumsOk x) : spParse (txtL x) = x := by
  unfold spParse
  rw [split_txt h, List.foldl_append, fold_tow _ _ h.1, List.foldl_append, fold_lnk _ _ h.2.1]
  simp [stepS, splitB]
def pnOk (l : List UInt8) : Bool := decide ((splitB 10 l).length ≤ 57) && (netB (spParse l) && decide (txtL (spParse l) = l))
def pnV (l : List UInt8) : NetT := if pnOk l then spParse l else ([], [])
/-- What is read where the text is a net's. -/
theorem pn_of {x : NetT} {l : List UInt8} (hx : netB x = true) (hl : txtL x = l) : pnOk l = true ∧ pnV l = x := by
  have hn := net_nums hx
  have e := sp_txt hn
  rw [hl] at e
  have hlen : (splitB 10 l).length ≤ 57 := by
    rw [← hl, split_txt hn]
    simp only [List.length_append, List.length_map, List.length_cons, List.length_nil]
    have := hn.2.2.1
    have := hn.2.2.2
    omega
  have ho : pnOk l = true := by
    unfold pnOk
    rw [e, hx, hl, decide_eq_true hlen]
    simp
  exact ⟨ho, by unfold pnV; rw [if_pos ho, e]⟩
/-- What is not read is no net's text. -/
theorem pn_not {l : List UInt8} (h : ∀ x : NetT, netB x = true → txtL x ≠ l) : pnOk l = false := by
  cases ho : pnOk l
  · rfl
  · simp only [pnOk, Bool.and_eq_true, decide_eq_true_eq] at ho
    exact absurd ho.2.2 (h _ ho.2.1)
theorem pnV_bound (l : List UInt8) : (pnV l).1.length + (pnV l).2.length ≤ 1048576 := by
  unfold pnV
  split
  · rename_i ho
    simp only [pnOk, Bool.and_eq_true, decide_eq_true_eq] at ho
    have hn := net_nums ho.2.1
    have := hn.2.2.1
    have := hn.2.2.2
    omega
  · simp
end Go.Proofs.YtmaaeemhbccpcaaGreatDoor
/- The program's parsing of a net: plain. -/
namespace Go.Proofs.YtmaaeemhbccpcaaGreatDoor
theorem index_one (b c : UInt8) (r : List UInt8) : Lib.index (c :: r) [b] = if c = b then 0 else if Lib.index r [b] = -1 then -1 else Lib.index r [b] + 1 := by
  rw [Lib.index]
  by_cases h : c = b
  · subst h; simp [List.isPrefixOf]
  · have h' : ¬ b = c := fun e => h e.symm
    simp [List.isPrefixOf, h, h']
/-- The library's splitting at one byte. -/
theorem splitK_one (b : UInt8) : ∀ l : List UInt8, Lib.splitK [b] 0 (Lib.count l [b]) l = splitB b l
  | [] => by
    rw [Lib.count_miss (by simp [Lib.index])]; rfl
  | c :: r => by
    have ih := splitK_one b r
    by_cases h : c = b
    · subst h
      rw [Lib.count_cons_eq, Nat.add_comm, Lib.splitK, index_one, if_pos rfl]
      rw [splitB_cons, if_pos rfl, ← ih]
      simp
    · rw [Lib.count_cons_ne _ _ _ h]
      obtain ⟨k, hk⟩ : ∃ k, k = Lib.count r [b] := ⟨_, rfl⟩
      rw [← hk] at ih ⊢
      rw [splitB_cons, if_neg h, ← ih]
      cases k with
      | zero => simp [Lib.splitK]
      | succ k =>
        by_cases hm : Lib.index r [b] = -1
        · rw [Lib.count_miss hm] at hk; omega
        · have hge := Lib.index_ge r [b]
          obtain ⟨i, hi⟩ : ∃ i : Nat, Lib.index r [b] = i := ⟨(Lib.index r [b]).toNat, by omega⟩
          have h1 : Lib.index (c :: r) [b] = ((i + 1 : Nat) : Int) := by
            rw [index_one, if_neg h, if_neg hm, hi]; omega
          unfold Lib.splitK
          rw [h1, hi, if_neg (by simp; omega), if_neg (by simp)]
          simp
theorem libSplit (b : UInt8) (l : List UInt8) : (Lib.splitB ⟨#[b]⟩ 0 (Lib.countB ⟨l.toArray⟩ ⟨#[b]⟩) ⟨l.toArray⟩).map Value.string = (splitB b l).map fun p => Value.string ⟨p.toArray⟩ := by
  have h := Lib.splitB_data ⟨#[b]⟩ 0 (Lib.countB ⟨l.toArray⟩ ⟨#[b]⟩) ⟨l.toArray⟩
  rw [show (⟨l.toArray⟩ : ByteArray).data.toList = l from by simp, show (⟨#[b]⟩ : ByteArray).data.toList = [b] from rfl] at h
  have hc : Lib.countB ⟨l.toArray⟩ ⟨#[b]⟩ = Lib.count l [b] := by
    show Lib.count _ _ = _
    simp
  rw [hc] at h ⊢
  rw [splitK_one] at h
  rw [← h, List.map_map]
  refine List.map_congr_left fun p _ => ?_
  obtain ⟨⟨q⟩⟩ := p
  rfl
/-- What stands before and behind the first byte b. -/
def cutP (b : UInt8) : List UInt8 → List UInt8 × List UInt8
  | [] => ([], [])
  | c :: r => if c = b then ([], r) else (c :: (cutP b r).1, (cutP b r).2)
theorem libCut (b : UInt8) : ∀ l, (Lib.cut l [b]).1 = (cutP b l).1 ∧ (Lib.cut l [b]).2.1 = (cutP b l).2
  | [] => by simp [Lib.cut, Lib.index, cutP]
  | c :: r => by
    have ih := libCut b r
    unfold Lib.cut at ih ⊢
    unfold cutP
    rw [index_one]
    by_cases h : c = b
    · simp [h]
    · rw [if_neg h, if_neg h]
      by_cases hm : Lib.index r [b] = -1
      · rw [hm] at ih
        rw [if_pos hm]
        simp at ih ⊢
        exact ih
      · have hge := Lib.index_ge r [b]
        obtain ⟨i, hi⟩ : ∃ i : Nat, Lib.index r [b] = i := ⟨(Lib.index r [b]).toNat, by omega⟩
        rw [hi] at ih
        rw [if_neg hm, hi, if_pos (by omega)]
        rw [if_pos (by omega)] at ih
        simp only [Int.toNat_natCast] at ih
        rw [show ((i : Int) + 1).toNat = i + 1 by omega]
        rw [← ih.1, ← ih.2]
        simp
theorem cutP_hit {b : UInt8} : ∀ {p : List UInt8} (r : List UInt8), b ∉ p → cutP b (p ++ b :: r) = (p, r)
  | [], r, _ => by
    show cutP b (b :: r) = _
    unfold cutP
    rw [if_pos rfl]
  | c :: q, r, h => by
    have h1 : c ≠ b := fun e => h (by simp [e])
    have h2 : b ∉ q := fun e => h (by simp [e])
    show cutP b (c :: (q ++ b :: r)) = _
    unfold cutP
    rw [if_neg h1, cutP_hit r h2]
theorem cutP_say (b : UInt8) : ∀ l, cutP b l = (l, []) ∨ l = (cutP b l).1 ++ b :: (cutP b l).2
  | [] => Or.inl rfl
  | c :: r => by
    unfold cutP
    by_cases h : c = b
    · rw [if_pos h]; exact Or.inr (by simp [h])
    · rw [if_neg h]
      rcases cutP_say b r with e | e
      · left; rw [e]
      · right
        show c :: r = c :: ((cutP b r).1 ++ b :: (cutP b r).2)
        rw [← e]
theorem cutP_len (b : UInt8) : ∀ l, (cutP b l).2.length ≤ l.length ∧ (cutP b l).1.length ≤ l.length
  | [] => by simp [cutP]
  | c :: r => by
    have := cutP_len b r
    unfold cutP
    split
    · simp
    · simp; omega
/-- A number as the program reads it. -/
def rnO (l : List UInt8) : Option Int :=
  match Lib.atoiAll l with
  | .ok v => if 0 ≤ v ∧ numL v = l then some v else none
  | _ => none
theorem rn_sound {l : List UInt8} {v : Int} (h : rnO l = some v) : 0 ≤ v ∧ numL v = l := by
  unfold rnO at h
  split at h
  · rename_i u e
    split at h
    · rename_i hu
      simp at h
      subst h
      exact hu
    · cases h
  · cases h
theorem rn_nil : rnO [] = none := rfl
theorem dig_toNat {m : Int} (h0 : 0 ≤ m) (h1 : m < 10) : (UInt8.ofNat (48 + m.toNat)).toNat = 48 + m.toNat := by
  rw [UInt8.toNat_ofNat']; omega
theorem pu_step (acc : Nat) (c : UInt8) (r : List UInt8) (d : Nat) (hd : d < 10) (hc : c.toNat = 48 + d) (ha : acc ≤ 999) : Lib.parseUint10 acc (c :: r) = Lib.parseUint10 (acc * 10 + d) r := by
  rw [Lib.parseUint10, if_pos (by omega), if_neg (by omega), if_neg (by omega)]
  congr 1; omega
theorem atoi_of {c : UInt8} {r : List UInt8} {u : Nat} (hc : 48 ≤ c.toNat) (hp : Lib.parseUint10 0 (c :: r) = .ok u) (hu : u ≤ 999) : Lib.atoiAll (c :: r) = .ok (u : Int) := by
  unfold Lib.atoiAll
  have h43 : ¬ (c.toNat = 43 ∨ c.toNat = 45) := by omega
  have h45 : ¬ c.toNat = 45 := by omega
  simp only [h43, if_false]
  have hm : Lib.parseMag (c :: r) = .ok u := by
    unfold Lib.parseMag
    rw [if_neg (by simp)]; exact hp
  rw [hm]
  simp only [h45, not_false_eq_true, true_and, false_and, if_false]
  rw [if_neg (by omega)]
theorem atoi_num {n : Int} (h0 : 0 ≤ n) (h1 : n ≤ 999) : Lib.atoiAll (numL n) = .ok n := by
  have fin : ∀ {m : Int} {u : Nat}, m = u → (Lib.NumEnd.ok (u : Int)) = .ok m := fun h => by rw [h]
  by_cases a : n < 10
  · rw [numL_small h0 a, atoi_of (u := n.toNat) (by rw [dig_toNat h0 a]; omega) ?_ (by omega)]
    · exact fin (by omega)
    · rw [pu_step 0 _ _ n.toNat (by omega) (dig_toNat h0 a) (by omega)]
      simp [Lib.parseUint10]
  · rw [numL_big (by omega)]
    by_cases b : n / 10 < 10
    · rw [numL_small (by omega) b]
      show Lib.atoiAll (UInt8.ofNat (48 + (n / 10).toNat) :: [UInt8.ofNat (48 + (n % 10).toNat)]) = _
      have d1 := dig_toNat (m := n / 10) (by omega) b
      have d2 := dig_toNat (m := n % 10) (by omega) (by omega)
      rw [atoi_of (u := (n / 10).toNat * 10 + (n % 10).toNat) (by omega) ?_ (by omega)]
      · exact fin (by omega)
      · rw [pu_step 0 _ _ (n / 10).toNat (by omega) d1 (by omega), pu_step _ _ _ (n % 10).toNat (by omega) d2 (by omega)]
        simp [Lib.parseUint10]
    · rw [numL_big (by omega), numL_small (by omega) (by omega)]
      show Lib.atoiAll (UInt8.ofNat (48 + (n / 10 / 10).toNat) :: UInt8.ofNat (48 + (n / 10 % 10).toNat) :: [UInt8.ofNat (48 + (n % 10).toNat)]) = _
      have d1 := dig_toNat (m := n / 10 / 10) (by omega) (by omega)
      have d2 := dig_toNat (m := n / 10 % 10) (by omega) (by omega)
      have d3 := dig_toNat (m := n % 10) (by omega) (by omega)
      rw [atoi_of (u := ((n / 10 / 10).toNat * 10 + (n / 10 % 10).toNat) * 10 + (n % 10).toNat) (by omega) ?_ (by omega)]
      · exact fin (by omega)
      · rw [pu_step 0 _ _ (n / 10 / 10).toNat (by omega) d1 (by omega), pu_step _ _ _ (n / 10 % 10).toNat (by omega) d2 (by omega), pu_step _ _ _ (n % 10).toNat (by omega) d3 (by omega)]
        simp [Lib.parseUint10]
theorem rn_num {n : Int} (h0 : 0 ≤ n) (h1 : n ≤ 999) : rnO (numL n) = some n := by
  unfold rnO
  rw [atoi_num h0 h1]
  simp [h0]
/-- Numbers with blanks between them, as the program reads them. -/
def snO : List (List UInt8) → Option (List Int)
  | [] => some []
  | p :: r => match rnO p with
    | none => none
    | some v => match snO r with
      | none => none
      | some q => some (v :: q)
/-- One line as the program reads it. -/
def imStep (n : NetT) (line : List UInt8) : Option NetT :=
  match snO (splitB 32 (cutP 32 line).2) with
  | some [a, b, c] => if (cutP 32 line).1 = wTow ∧ n.2 = [] then some (n.1 ++ [(a, b, c)], n.2) else if (cutP 32 line).1 = wLnk then some (n.1, n.2 ++ [(a, b, c)]) else none
  | _ => none
def imFold : NetT → List (List UInt8) → Option NetT
  | n, [] => some n
  | n, p :: r => match imStep n p with
    | none => none
    | some m => imFold m r
theorem imFold_cons (n : NetT) (p : List UInt8) (r : List (List UInt8)) : imFold n (p :: r) = match imStep n p with
    | none => none
    | some m => imFold m r := rfl
/-- The lines. -/
def linesO (l : List UInt8) : Option (List (List UInt8)) :=
  if l = [] then some [] else if Lib.hasSuffix l [10] then some (splitB 10 (Lib.trimSuffix l [10])) else none
def imOk (l : List UInt8) : Option NetT :=
  match linesO l with
  | none => none
  | some L => match imFold ([], []) L with
    | none => none
    | some n => if netB n then some n else none
theorem suf_iff {l : List UInt8} (h : Lib.hasSuffix l [10] = true) : l = Lib.trimSuffix l [10] ++ [10] := by
  unfold Lib.trimSuffix
  rw [if_pos h]
  unfold Lib.hasSuffix at h
  obtain ⟨q, hq⟩ := List.isSuffixOf_iff_suffix.1 h
  subst hq
  simp
theorem suf_app (q : List UInt8) : Lib.hasSuffix (q ++ [10]) [10] = true ∧ Lib.trimSuffix (q ++ [10]) [10] = q := by
  have h : Lib.hasSuffix (q ++ [10]) [10] = true := by
    unfold Lib.hasSuffix
    exact List.isSuffixOf_iff_suffix.2 ⟨q, rfl⟩
  refine ⟨h, ?_⟩
  unfold Lib.trimSuffix
  rw [if_pos h]
  simp
theorem join_flat (b : UInt8) : ∀ L : List (List UInt8), L ≠ [] → L.flatMap (fun p => p ++ [b]) = [b].intercalate L ++ [b]
  | [], h => absurd rfl h
  | [p], _ => by simp [List.intercalate]
  | p :: q :: r, _ => by
    have ih := join_flat b (q :: r) (by simp)
    rw [List.flatMap_cons, ih]
    simp [List.intercalate]
theorem lines_sound {l : List UInt8} {L : List (List UInt8)} (h : linesO l = some L) : L.flatMap (fun p => p ++ [10]) = l := by
  unfold linesO at h
  split at h
  · rename_i e
    simp at h
    subst h; subst e; rfl
  · split at h
    · rename_i hs
      simp at h
      rw [← h, join_flat _ _ (splitB_ne _ _), splitB_join]
      exact (suf_iff hs).symm
    · cases h
theorem sn_three {L : List (List UInt8)} {a b c : Int} (h : snO L = some [a, b, c]) : L = [numL a, numL b, numL c] := by
  have one : ∀ {L : List (List UInt8)} {v : Int} {q : List Int}, snO L = some (v :: q) → ∃ r, L = numL v :: r ∧ snO r = some q := by
    intro L v q h
    cases L with
    | nil => simp [snO] at h
    | cons p r =>
      unfold snO at h
      cases hp : rnO p with
      | none => rw [hp] at h; cases h
      | some u =>
        rw [hp] at h
        cases hr : snO r with
        | none => rw [hr] at h; cases h
        | some q' =>
          rw [hr] at h
          simp at h
          obtain ⟨rfl, rfl⟩ := h
          exact ⟨r, by rw [(rn_sound hp).2], hr⟩
  obtain ⟨r1, rfl, h1⟩ := one h
  obtain ⟨r2, rfl, h2⟩ := one h1
  obtain ⟨r3, rfl, h3⟩ := one h2
  cases r3 with
  | nil => rfl
  | cons p r =>
    unfold snO at h3
    cases hp : rnO p with
    | none => rw [hp] at h3; cases h3
    | some u =>
      rw [hp] at h3
      cases hr : snO r with
      | none => rw [hr] at h3; cases h3
      | some q' => rw [hr] at h3; simp at h3
theorem step_sound {n m : NetT} {line : List UInt8} (h : imStep n line = some m) :
    (∃ t, n.2 = [] ∧ line = towF t ∧ m = (n.1 ++ [t], [])) ∨ ∃ t, line = lnkF t ∧ m = (n.1, n.2 ++ [t]) := by
  unfold imStep at h
  split at h
  · rename_i a b c e
    have hs := sn_three e
    have hj := splitB_join 32 (cutP 32 line).2
    rw [hs] at hj
    have hline : line = (cutP 32 line).1 ++ [32] ++ lineL [a, b, c] := by
      rcases cutP_say 32 line with h9 | h9
      · rw [h9] at e
        simp [splitB, snO, rn_nil] at e
      · rw [line3]
        have : (cutP 32 line).2 = numL a ++ [32] ++ numL b ++ [32] ++ numL c := by
          rw [← hj]; simp [List.intercalate]
        rw [← this]
        simpa using h9
    split at h
    · rename_i hw
      simp at h
      left
      refine ⟨(a, b, c), hw.2, ?_, by rw [← h, hw.2]⟩
      rw [hw.1] at hline
      exact hline
    · split at h
      · rename_i hw
        simp at h
        right
        refine ⟨(a, b, c), ?_, h.symm⟩
        rw [hw] at hline
        exact hline
      · cases h
  · cases h
theorem fold_sound : ∀ {L : List (List UInt8)} {n m : NetT}, imFold n L = some m → txtL n ++ L.flatMap (fun p => p ++ [10]) = txtL m
  | [], n, m, h => by
    simp [imFold] at h
    subst h; simp
  | p :: r, n, m, h => by
    unfold imFold at h
    cases hp : imStep n p with
    | none => rw [hp] at h; cases h
    | some k =>
      rw [hp] at h
      have ih := fold_sound h
      rw [← ih, List.flatMap_cons]
      rcases step_sound hp with ⟨t, hn, hl, hk⟩ | ⟨t, hl, hk⟩
      · subst hk
        have e1 : txtL (n.1 ++ [t], []) = txtL n ++ towL t := by
          unfold txtL
          rw [hn]; simp
        rw [e1, towL_F, hl]
        simp
      · subst hk
        have e1 : txtL (n.1, n.2 ++ [t]) = txtL n ++ lnkL t := by
          unfold txtL
          simp
        rw [e1, lnkL_F, hl]
        simp
theorem im_sound {l : List UInt8} {n : NetT} (h : imOk l = some n) : netB n = true ∧ txtL n = l := by
  unfold imOk at h
  cases hl : linesO l with
  | none => rw [hl] at h; cases h
  | some L =>
    rw [hl] at h
    simp only at h
    cases hf : imFold ([], []) L with
    | none => rw [hf] at h; cases h
    | some m =>
      rw [hf] at h
      simp only at h
      split at h
      · rename_i hb
        simp at h
        subst h
        refine ⟨hb, ?_⟩
        have := fold_sound hf
        rw [lines_sound hl] at this
        rw [← this]
        rfl
      · cases h
theorem sn_num {a b c : Int} (ha : 0 ≤ a ∧ a ≤ 999) (hb : 0 ≤ b ∧ b ≤ 999) (hc : 0 ≤ c ∧ c ≤ 999) : snO (splitB 32 (lineL [a, b, c])) = some [a, b, c] := by
  have e : splitB 32 (lineL [a, b, c]) = [numL a, numL b, numL c] := by
    have := split_line (w := []) (by simp) ha hb hc
    simp only [List.nil_append] at this
    rw [show [32] ++ lineL [a, b, c] = [] ++ 32 :: lineL [a, b, c] from rfl, splitB_cut _ (by simp)] at this
    exact List.tail_eq_of_cons_eq this
  rw [e]
  simp [snO, rn_num ha.1 ha.2, rn_num hb.1 hb.2, rn_num hc.1 hc.2]
theorem im_tow {n : NetT} {t : TowerT} (h : Small3 t) (hn : n.2 = []) : imStep n (towF t) = some (n.1 ++ [t], []) := by
  have e : cutP 32 (towF t) = (wTow, lineL [t.1, t.2.1, t.2.2]) := by
    unfold towF
    rw [show wTow ++ [32] ++ lineL [t.1, t.2.1, t.2.2] = wTow ++ 32 :: lineL [t.1, t.2.1, t.2.2] by simp]
    exact cutP_hit _ (by decide)
  unfold imStep
  rw [e]
  simp only
  rw [sn_num h.1 h.2.1 h.2.2]
  simp [hn]
theorem im_lnk {n : NetT} {t : LinkT} (h : Small3 t) : imStep n (lnkF t) = some (n.1, n.2 ++ [t]) := by
  have e : cutP 32 (lnkF t) = (wLnk, lineL [t.1, t.2.1, t.2.2]) := by
    unfold lnkF
    rw [show wLnk ++ [32] ++ lineL [t.1, t.2.1, t.2.2] = wLnk ++ 32 :: lineL [t.1, t.2.1, t.2.2] by simp]
    exact cutP_hit _ (by decide)
  unfold imStep
  rw [e]
  simp only
  rw [sn_num h.1 h.2.1 h.2.2]
  simp [show ¬ wLnk = wTow by decide]
theorem imf_tow : ∀ (L : List TowerT) (r : List (List UInt8)) (n : List TowerT), (∀ t ∈ L, Small3 t) → imFold (n, []) (L.map towF ++ r) = imFold (n ++ L, []) r
  | [], r, n, _ => by simp
  | t :: L, r, n, h => by
    show imFold (n, []) (towF t :: (L.map towF ++ r)) = _
    rw [imFold_cons, im_tow (h t (by simp)) rfl]
    show imFold (n ++ [t], []) (L.map towF ++ r) = _
    rw [imf_tow L r _ fun u hu => h u (by simp [hu])]
    simp
theorem imf_lnk : ∀ (L : List LinkT) (n : NetT), (∀ t ∈ L, Small3 t) → imFold n (L.map lnkF) = some (n.1, n.2 ++ L)
  | [], n, _ => by simp [imFold]
  | t :: L, n, h => by
    show imFold n (lnkF t :: L.map lnkF) = _
    rw [imFold_cons, im_lnk (h t (by simp))]
    show imFold (n.1, n.2 ++ [t]) (L.map lnkF) = _
    rw [imf_lnk L _ fun u hu => h u (by simp [hu])]
    simp
theorem splitB_last (b : UInt8) : ∀ q : List UInt8, splitB b (q ++ [b]) = splitB b q ++ [[]]
  | [] => by simp [splitB]
  | c :: r => by
    have ih := splitB_last b r
    show splitB b (c :: (r ++ [b])) = _
    rw [splitB_cons, splitB_cons]
    by_cases h : c = b
    · rw [if_pos h, if_pos h, ih]; rfl
    · rw [if_neg h, if_neg h, ih]
      cases hs : splitB b r with
      | nil => exact absurd hs (splitB_ne _ _)
      | cons p q => rfl
theorem im_complete {x : NetT} (hx : netB x = true) : imOk (txtL x) = some x := by
  have hn := net_nums hx
  obtain ⟨q, hq⟩ : ∃ q, txtL x = q ++ [10] := by
    have e := splitB_join 10 (txtL x)
    rw [split_txt hn] at e
    have hne : x.1.map towF ++ x.2.map lnkF ≠ [] := by
      have hp : x.1 ≠ [] := by
        intro e
        unfold netB at hx
        rw [e] at hx
        simp [inB] at hx
      cases hx1 : x.1 with
      | nil => exact absurd hx1 hp
      | cons a r => simp
    rw [← List.append_assoc] at e
    refine ⟨[10].intercalate (x.1.map towF ++ x.2.map lnkF), ?_⟩
    rw [← e]
    have app : ∀ {L : List (List UInt8)}, L ≠ [] → [10].intercalate (L ++ [[]]) = [10].intercalate L ++ [10] := by
      intro L
      induction L with
      | nil => intro h; exact absurd rfl h
      | cons p r ih =>
        intro _
        cases r with
        | nil => simp [List.intercalate]
        | cons s t =>
          have := ih (by simp)
          simp [List.intercalate] at this ⊢
          exact this
    exact app hne
  have hs : splitB 10 q = x.1.map towF ++ x.2.map lnkF := by
    have h1 := splitB_last 10 q
    rw [← hq, split_txt hn, ← List.append_assoc] at h1
    exact (List.append_inj_left' h1 rfl).symm
  have hl : linesO (txtL x) = some (x.1.map towF ++ x.2.map lnkF) := by
    unfold linesO
    rw [hq, if_neg (by simp), (suf_app q).1, (suf_app q).2, if_pos rfl, hs]
  unfold imOk
  rw [hl]
  simp only
  rw [imf_tow _ _ _ hn.1, imf_lnk _ _ hn.2.1]
  simp [hx]
/-- Both say the same. -/
theorem im_pn (l : List UInt8) : imOk l = if pnOk l then some (pnV l) else none := by
  cases hi : imOk l with
  | some n =>
    have h := im_sound hi
    have p := pn_of h.1 h.2
    rw [p.1, p.2]; rfl
  | none =>
    have : pnOk l = false := pn_not fun x hx e => by
      have := im_complete hx
      rw [e, hi] at this
      cases this
    rw [this]; rfl
end Go.Proofs.YtmaaeemhbccpcaaGreatDoor
/- The library's notions at a separator of one byte: pieces, the part before it and the rest; plain. -/
namespace Go.Proofs.YtmaaeemhbccpcaaGreatDoor
theorem at_byte (b : UInt8) : ∀ l : List UInt8, b ∉ l ∨ ∃ p r, l = p ++ b :: r ∧ b ∉ p
  | [] => Or.inl (by simp)
  | c :: r => by
    by_cases h : c = b
    · exact Or.inr ⟨[], r, by rw [h]; rfl, by simp⟩
    · rcases at_byte b r with h2 | ⟨p, q, e, h2⟩
      · exact Or.inl (by simp [Ne.symm h, h2])
      · exact Or.inr ⟨c :: p, q, by rw [e]; rfl, by simp [Ne.symm h, h2]⟩
theorem idx_none {b : UInt8} : ∀ {l : List UInt8}, b ∉ l → Lib.index l [b] = -1
  | [], _ => by simp [Lib.index]
  | c :: r, h => by
    have h1 : c ≠ b := fun e => h (by simp [e])
    have h2 : b ∉ r := fun e => h (by simp [e])
    rw [Lib.index_one, Lib.indexByte, if_neg (by simpa using h1), ← Lib.index_one, idx_none h2]
    rfl
theorem idx_hit {b : UInt8} : ∀ {p : List UInt8} (r : List UInt8), b ∉ p → Lib.index (p ++ b :: r) [b] = (p.length : Int)
  | [], r, _ => by
    show Lib.index (b :: r) [b] = _
    rw [Lib.index_one, Lib.indexByte, if_pos (by simp)]
    rfl
  | c :: q, r, h => by
    have h1 : c ≠ b := fun e => h (by simp [e])
    have h2 : b ∉ q := fun e => h (by simp [e])
    show Lib.index (c :: (q ++ b :: r)) [b] = _
    rw [Lib.index_one, Lib.indexByte, if_neg (by simpa using h1), ← Lib.index_one, idx_hit r h2, if_neg (by simp)]
    simp
theorem splitK_b1 (b : UInt8) : ∀ (n : Nat) (l : List UInt8), l.length ≤ n → Lib.splitK [b] 0 (Lib.count l [b]) l = splitB b l
  | 0, l, h => by
    have : l = [] := by simpa using h
    subst this
    rw [Lib.count_miss (idx_none (by simp))]
    rfl
  | n + 1, l, h => by
    rcases at_byte b l with h2 | ⟨p, r, rfl, h2⟩
    · rw [Lib.count_miss (idx_none h2), splitB_none h2]
      rfl
    · have hi := idx_hit r h2
      have hd : (p ++ b :: r).drop (p.length + [b].length) = r := by
        rw [show (p ++ b :: r) = (p ++ [b]) ++ r by simp, show p.length + [b].length = (p ++ [b]).length by simp, List.drop_left]
      have hn : ¬ (((p.length : Int)) == -1) = true := by simp
      rw [Lib.count_hit (by simp) hi, hd, Nat.add_comm, Lib.splitK, hi, if_neg hn, splitB_cut r h2]
      have e : ((p.length : Int)).toNat = p.length := by omega
      rw [e, hd, splitK_b1 b n r (by simp at h; omega), Nat.add_zero, List.take_left]
theorem cut_one (b : UInt8) (l : List UInt8) : (Lib.cut l [b]).1 = (cutP b l).1 ∧ (Lib.cut l [b]).2.1 = (cutP b l).2 := by
  rcases at_byte b l with h2 | ⟨p, r, rfl, h2⟩
  · have e : cutP b l = (l, []) := by
      rcases cutP_say b l with e | e
      · exact e
      · exact absurd (by rw [e]; simp : b ∈ l) h2
    unfold Lib.cut
    rw [idx_none h2, e]
    exact ⟨rfl, rfl⟩
  · have hd : (p ++ b :: r).drop (p.length + [b].length) = r := by
      rw [show (p ++ b :: r) = (p ++ [b]) ++ r by simp, show p.length + [b].length = (p ++ [b]).length by simp, List.drop_left]
    unfold Lib.cut
    rw [idx_hit r h2, if_pos (by omega), cutP_hit r h2]
    have e : ((p.length : Int)).toNat = p.length := by omega
    simp only [e, hd, List.take_left]
    exact ⟨trivial, trivial⟩
theorem bytes_of (B : ByteArray) : B = ⟨(B.data.toList).toArray⟩ := by
  apply ByteArray.ext; simp
theorem splitLB (b : UInt8) (l : List UInt8) : Lib.splitB ⟨#[b]⟩ 0 (Lib.countB ⟨l.toArray⟩ ⟨#[b]⟩) ⟨l.toArray⟩ = (splitB b l).map fun p => ⟨p.toArray⟩ := by
  have h := Lib.splitB_data ⟨#[b]⟩ 0 (Lib.countB ⟨l.toArray⟩ ⟨#[b]⟩) ⟨l.toArray⟩
  have hc : Lib.countB ⟨l.toArray⟩ ⟨#[b]⟩ = Lib.count l [b] := rfl
  have h9 : (Lib.splitB ⟨#[b]⟩ 0 (Lib.countB ⟨l.toArray⟩ ⟨#[b]⟩) ⟨l.toArray⟩).map (·.data.toList) = splitB b l := by
    rw [h, hc]
    exact splitK_b1 b _ l (Nat.le_refl _)
  rw [← h9, List.map_map]
  conv => lhs; rw [← List.map_id (Lib.splitB ⟨#[b]⟩ 0 (Lib.countB ⟨l.toArray⟩ ⟨#[b]⟩) ⟨l.toArray⟩)]
  apply List.map_congr_left
  intro B _
  exact bytes_of B
theorem splitB_piece (b : UInt8) : ∀ (l : List UInt8), ∀ p ∈ splitB b l, p.length ≤ l.length
  | [], p, h => by simp [splitB] at h; rw [h]; simp
  | c :: r, p, h => by
    have ih := splitB_piece b r
    rw [splitB_cons] at h
    split at h
    · rcases List.mem_cons.1 h with rfl | h
      · simp
      · have := ih p h; simp; omega
    · split at h
      · simp at h; rw [h]; simp
      · rename_i q qs e
        rw [e] at ih
        rcases List.mem_cons.1 h with rfl | h
        · have := ih q (by simp); simp; omega
        · have := ih p (by simp [h]); simp; omega
end Go.Proofs.YtmaaeemhbccpcaaGreatDoor
