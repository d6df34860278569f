/- The net that a text says: plain. -/
import Derived.Test.YtmaaeemhbccpcaaDoorParP
import Derived.Test.YtmaaeemhbccpcaaDoorTextS
namespace Go.Proofs.YtmaaeemhbccpcaaDoor
def wTow : List UInt8 := [116, 111, 119, 101, 114]
def wLnk : List UInt8 := [108, 105, 110, 107]
def towF (t : TowerT) : List UInt8 := wTow ++ [32] ++ lineL [t.1, t.2.1, t.2.2]
def lnkF (y : LinkT) : List UInt8 := wLnk ++ [32] ++ lineL [y.1, y.2.1, y.2.2]
theorem towL_F (t : TowerT) : towL t = towF t ++ [10] := rfl
theorem lnkL_F (y : LinkT) : lnkL y = lnkF y ++ [10] := rfl
abbrev Small3 (t : Int × Int × Int) : Prop := (0 ≤ t.1 ∧ t.1 ≤ 999) ∧ (0 ≤ t.2.1 ∧ t.2.1 ≤ 999) ∧ (0 ≤ t.2.2 ∧ t.2.2 ≤ 999)
theorem line_no10 {a b c : Int} (ha : 0 ≤ a ∧ a ≤ 999) (hb : 0 ≤ b ∧ b ≤ 999) (hc : 0 ≤ c ∧ c ≤ 999) : (10 : UInt8) ∉ lineL [a, b, c] := by
  rw [line3]
  have h1 := num_no ha.1 ha.2 (b := 10) (by decide)
  have h2 := num_no hb.1 hb.2 (b := 10) (by decide)
  have h3 := num_no hc.1 hc.2 (b := 10) (by decide)
  simp [h1, h2, h3]
theorem towF_no10 {t : TowerT} (h : Small3 t) : (10 : UInt8) ∉ towF t := by
  have := line_no10 h.1 h.2.1 h.2.2
  unfold towF wTow
  simp [this]
theorem lnkF_no10 {t : LinkT} (h : Small3 t) : (10 : UInt8) ∉ lnkF t := by
  have := line_no10 h.1 h.2.1 h.2.2
  unfold lnkF wLnk
  simp [this]
theorem split_lines {α : Type} {f : α → List UInt8} : ∀ (L : List α) (r : List UInt8), (∀ x ∈ L, (10 : UInt8) ∉ f x) → splitB 10 (L.flatMap (fun x => f x ++ [10]) ++ r) = L.map f ++ splitB 10 r
  | [], r, _ => rfl
  | x :: L, r, h => by
    have e : (x :: L).flatMap (fun x => f x ++ [10]) ++ r = f x ++ 10 :: (L.flatMap (fun x => f x ++ [10]) ++ r) := by simp
    rw [e, splitB_cut _ (h x (by simp)), split_lines L r (fun y hy => h y (by simp [hy]))]
    rfl
theorem split_txt {x : NetT} (h : NumsOk x) : splitB 10 (txtL x) = x.1.map towF ++ (x.2.map lnkF ++ [[]]) := by
  have e : txtL x = x.1.flatMap (fun t => towF t ++ [10]) ++ (x.2.flatMap (fun t => lnkF t ++ [10]) ++ []) := by
    unfold txtL
    rw [List.append_nil]
    rfl
  rw [e, split_lines _ _ fun t ht => towF_no10 (h.1 t ht), split_lines _ _ fun t ht => lnkF_no10 (h.2.1 t ht)]
  rfl
/-- One line is read. -/
def stepS (n : NetT) (line : List UInt8) : NetT :=
  match splitB 32 line with
  | [w, a, b, c] => if w = wTow then (n.1 ++ [(rdL a, rdL b, rdL c)], n.2) else if w = wLnk then (n.1, n.2 ++ [(rdL a, rdL b, rdL c)]) else n
  | _ => n
def spParse (l : List UInt8) : NetT := (splitB 10 l).foldl stepS ([], [])
theorem step_tow {n : NetT} {t : TowerT} (h : Small3 t) : stepS n (towF t) = (n.1 ++ [t], n.2) := by
  unfold stepS towF
  rw [split_line (by decide) h.1 h.2.1 h.2.2]
  simp only [if_true]
  rw [rd_num h.1.1 h.1.2, rd_num h.2.1.1 h.2.1.2, rd_num h.2.2.1 h.2.2.2]
theorem step_lnk {n : NetT} {t : LinkT} (h : Small3 t) : stepS n (lnkF t) = (n.1, n.2 ++ [t]) := by
  unfold stepS lnkF
  rw [split_line (by decide) h.1 h.2.1 h.2.2]
  simp only [show ¬ wLnk = wTow by decide, if_false, if_true]
  rw [rd_num h.1.1 h.1.2, rd_num h.2.1.1 h.2.1.2, rd_num h.2.2.1 h.2.2.2]
theorem fold_tow : ∀ (L : List TowerT) (n : NetT), (∀ t ∈ L, Small3 t) → (L.map towF).foldl stepS n = (n.1 ++ L, n.2)
  | [], n, _ => by simp
  | t :: L, n, h => by
    rw [List.map_cons, List.foldl_cons, step_tow (h t (by simp)), fold_tow L _ fun u hu => h u (by simp [hu])]
    simp
theorem fold_lnk : ∀ (L : List LinkT) (n : NetT), (∀ t ∈ L, Small3 t) → (L.map lnkF).foldl stepS n = (n.1, n.2 ++ L)
  | [], n, _ => by simp
  | t :: L, n, h => by
    rw [List.map_cons, List.foldl_cons, step_lnk (h t (by simp)), fold_lnk L _ fun u hu => h u (by simp [hu])]
    simp
/-- A net's text says the net. -/
theorem sp_txt {x : NetT} (h : NumsOk x) : spParse (txtL x) = x := by
  unfold spParse
  rw [split_txt h, List.foldl_append, fold_tow _ _ h.1, List.foldl_append, fold_lnk _ _ h.2.1]
  simp [stepS, splitB]
def pnOk (l : List UInt8) : Bool := decide ((splitB 10 l).length ≤ 57) && (netB (spParse l) && decide (txtL (spParse l) = l))
def pnV (l : List UInt8) : NetT := if pnOk l then spParse l else ([], [])
/-- What is read where the text is a net's. -/
theorem pn_of {x : NetT} {l : List UInt8} (hx : netB x = true) (hl : txtL x = l) : pnOk l = true ∧ pnV l = x := by
  have hn := net_nums hx
  have e := sp_txt hn
  rw [hl] at e
  have hlen : (splitB 10 l).length ≤ 57 := by
    rw [← hl, split_txt hn]
    simp only [List.length_append, List.length_map, List.length_cons, List.length_nil]
    have := hn.2.2.1
    have := hn.2.2.2
    omega
  have ho : pnOk l = true := by
    unfold pnOk
    rw [e, hx, hl, decide_eq_true hlen]
    simp
  exact ⟨ho, by unfold pnV; rw [if_pos ho, e]⟩
/-- What is not read is no net's text. -/
theorem pn_not {l : List UInt8} (h : ∀ x : NetT, netB x = true → txtL x ≠ l) : pnOk l = false := by
  cases ho : pnOk l
  · rfl
  · simp only [pnOk, Bool.and_eq_true, decide_eq_true_eq] at ho
    exact absurd ho.2.2 (h _ ho.2.1)
theorem pnV_bound (l : List UInt8) : (pnV l).1.length + (pnV l).2.length ≤ 1048576 := by
  unfold pnV
  split
  · rename_i ho
    simp only [pnOk, Bool.and_eq_true, decide_eq_true_eq] at ho
    have hn := net_nums ho.2.1
    have := hn.2.2.1
    have := hn.2.2.2
    omega
  · simp
end Go.Proofs.YtmaaeemhbccpcaaDoor
