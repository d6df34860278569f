/- Appends of parts of a row. -/
import Derived.Test.YtmaaeemhbccpcaaGreatDoorNet
import Derived.Deep.RegionLaw
import Derived.Laws.AppendOwnNone
/- Appends of parts of a row to a row of the call's own: where the cells come from; a step of a region that draws. -/
namespace Go.Proofs.YtmaaeemhbccpcaaGreatDoor
open Go.RowKit
/-- append to a row of the call's own, as one step of a region that draws. -/
theorem step_append_own {P : Program} {ops : Array Oper} {o : Oper} {a : Act} {w : World} {K : Act → World → Prop} {Q : Exit → Act → World → Prop} {E : Prop}
    (hg : o.guard = none) (s x : Operand) (t : TypeId) (hop : o.op = Op.call { callee := Callee.builtin Builtin.append, args := #[s, x], argTypes := #[t, t] })
    (base : Nat) (e : TypeId) (i : TypeInfo) (z : Value) (size bytes : Nat) (ht : P.underlying t = some (.slice e)) (hi : P.info? e = some i) (hz : i.zero = some z)
    (hsize : i.size = size) (hby : i.bytes = bytes) (hzs : z.cells.size = size) (hsz : 0 < size)
    (v : Value) (n : Nat) (xs : List Value) (hs : a.eval s = v) (hown : w.ownsRow base e size v n xs)
    (ad : Addr) (m c : Nat) (news : List Value) (hx : a.eval x = .slice (some ad) m c) (hl : news.length = m * size) (hnews : ∀ j u, news[j]? = some u → w.cell? (ad.add j) = some u) (h1 : ∀ u ∈ news, u.oneCell' = true)
    (h63 : n + m ≤ maxLen) (hbytes : (n + m) * bytes ≤ 140737488355328) (hbase : base ≤ w.heap.size)
    (hK : ∀ v' w', w'.ownsRow base e size v' (n + m) (xs ++ news) → w.grownBy w' v.ownBlock → K (a.put o.dst v') w') :
    if Region.wanted o (yielded ops a.tmps) = true then Oper.wp P o a w K Q else E := by
  have hw : Region.wanted o (yielded ops a.tmps) = true := by simp [Region.wanted, hg]
  rw [if_pos hw]
  exact wp_append_own w s x t hop base e i z size bytes ht hi hz hsize hby hzs hsz v n xs hs hown ad m c news hx hl hnews h1 h63 hbytes hbase fun v' w' h2 h3 _ => hK v' w' h2 h3
section
variable {α : Type} {enc : α → List Value} {sz : Nat}
theorem flat_len (hen : ∀ x, (enc x).length = sz) : ∀ xs : List α, (xs.flatMap enc).length = xs.length * sz
  | [] => by simp
  | x :: r => by rw [List.flatMap_cons, List.length_append, hen, flat_len hen r, List.length_cons, Nat.succ_mul]; omega
theorem flat_take (hen : ∀ x, (enc x).length = sz) : ∀ (xs : List α) (k : Nat), (xs.take k).flatMap enc = (xs.flatMap enc).take (k * sz)
  | [], k => by simp
  | x :: r, 0 => by simp
  | x :: r, k + 1 => by
    rw [List.take_succ_cons, List.flatMap_cons, List.flatMap_cons, flat_take hen r k, Nat.succ_mul, Nat.add_comm, List.take_append, List.take_of_length_le (show (enc x).length ≤ sz + k * sz by rw [hen]; omega), hen, Nat.add_sub_cancel_left]
theorem flat_drop (hen : ∀ x, (enc x).length = sz) : ∀ (xs : List α) (k : Nat), (xs.drop k).flatMap enc = (xs.flatMap enc).drop (k * sz)
  | [], k => by simp
  | x :: r, 0 => by simp
  | x :: r, k + 1 => by
    rw [List.drop_succ_cons, List.flatMap_cons, flat_drop hen r k, Nat.succ_mul, Nat.add_comm, List.drop_append, List.drop_of_length_le (show (enc x).length ≤ sz + k * sz by rw [hen]; omega), hen, Nat.add_sub_cancel_left, List.nil_append]
theorem flat_at (hen : ∀ x, (enc x).length = sz) : ∀ (xs : List α) (t : Nat) (u : Value), (xs.flatMap enc)[t]? = some u → ∃ i x j, xs[i]? = some x ∧ (enc x)[j]? = some u ∧ t = i * sz + j
  | [], t, u, h => by simp at h
  | x :: r, t, u, h => by
    rw [List.flatMap_cons] at h
    by_cases ht : t < (enc x).length
    · rw [List.getElem?_append_left ht] at h
      exact ⟨0, x, t, by simp, h, by omega⟩
    · rw [List.getElem?_append_right (by omega)] at h
      obtain ⟨i, y, j, h1, h2, h3⟩ := flat_at hen r _ u h
      rw [hen] at h3 ht
      exact ⟨i + 1, y, j, by simpa using h1, h2, by rw [Nat.succ_mul]; omega⟩
/-- The cells of a row, in order. -/
theorem row_src (hen : ∀ x, (enc x).length = sz) {w : World} {lo hi b o n cap : Nat} {xs : List α} (h : Row enc sz w lo hi (.slice (some ⟨b, o, none⟩) n cap) xs) (h0 : 0 < n) :
    ∀ t u, (xs.flatMap enc)[t]? = some u → w.cell? ⟨b, o + t, none⟩ = some u := by
  obtain ⟨a', cap', hv, h1, h2, b', off, h3, h4⟩ := h
  simp only [Value.slice.injEq] at hv
  obtain ⟨ha, rfl, rfl⟩ := hv
  obtain ⟨h5, _, _⟩ := h3 h0
  rw [← ha] at h5
  simp only [Option.some.injEq, Addr.mk.injEq, and_true] at h5
  obtain ⟨rfl, rfl⟩ := h5
  intro t u hu
  obtain ⟨i, x, j, e1, e2, rfl⟩ := flat_at hen xs t u hu
  rw [← Nat.add_assoc]
  exact h4 i x j u e1 e2
end
theorem encLink_one (xs : List LinkT) : ∀ u ∈ xs.flatMap encLink, u.oneCell' = true := by
  intro u hu
  obtain ⟨x, _, hx⟩ := List.mem_flatMap.1 hu
  simp only [encLink, List.mem_cons, List.not_mem_nil, or_false] at hx
  rcases hx with rfl | rfl | rfl <;> rfl
theorem encTower_one (xs : List TowerT) : ∀ u ∈ xs.flatMap encTower, u.oneCell' = true := by
  intro u hu
  obtain ⟨x, _, hx⟩ := List.mem_flatMap.1 hu
  simp only [encTower, List.mem_cons, List.not_mem_nil, or_false] at hx
  rcases hx with rfl | rfl | rfl <;> rfl
theorem own_lit3 (w : World) (e : TypeId) : (w.alloc (.cells #[] e)).ownsRow w.heap.size e 3 (.slice (some ⟨w.heap.size, 0, none⟩) 0 0) 0 [] := by
  simpa using World.ownsRow_lit (size := 3) (e := e) w #[] 0 (Nat.le_refl _) (by unfold maxLen; omega) rfl
theorem new_cells3 (w : World) (x y z : Value) (t : TypeId) : ∀ j u, ([x, y, z] : List Value)[j]? = some u → (w.alloc (.cells #[x, y, z] t)).cell? ((⟨w.heap.size, 0, none⟩ : Addr).add j) = some u := by
  intro j u hj
  rw [add_lit1, Nat.zero_add]
  refine blk_cell (blk_alloc _ _) ?_
  match j, hj with
  | 0, hj => simpa using hj
  | 1, hj => simpa using hj
  | 2, hj => simpa using hj
  | j + 3, hj => simp at hj
theorem Tryz.info_link : (Tryz.prog.info? 42).map (fun i => (i.zero, i.size, i.bytes)) = some (some (.agg #[.int .i64 0, .int .i64 0, .int .i64 0]), 3, 24) := by kernel_rfl
theorem Tryz.info_tower : (Tryz.prog.info? 54).map (fun i => (i.zero, i.size, i.bytes)) = some (some (.agg #[.int .i64 0, .int .i64 0, .int .i64 0]), 3, 24) := by kernel_rfl
theorem link_snoc (U : List LinkT) (y : LinkT) : U.flatMap encLink ++ [.int .i64 y.1, .int .i64 y.2.1, .int .i64 y.2.2] = (U ++ [y]).flatMap encLink := by
  rw [List.flatMap_append]; simp [encLink]
end Go.Proofs.YtmaaeemhbccpcaaGreatDoor
/- append into a field of a struct of the call's own: what is kept. -/
namespace Go.Proofs.YtmaaeemhbccpcaaGreatDoor
open Go.RowKit
/-- A box that lies below the row is as it was behind an append. -/
theorem grown_box {w w6 : World} {b base sz n : Nat} {e t : TypeId} {v : Value} {xs : List Value} {C : Array Value} {o : Obj} (hb : w.heap[b]? = some (.cells C t (0, 0))) (hown : w.ownsRow base e sz v n xs)
    (hg : (w.alloc o).grownBy w6 v.ownBlock) (hlt : b < base) : w6.heap[b]? = some (.cells C t (0, 0)) := by
  have hs := (Array.getElem?_eq_some_iff.1 hb).1
  rw [hg.block b (by simp; omega) (fun e => by have := (hown.lt b e.symm).1; omega)]
  exact blk_old hb
theorem box_set1 {w : World} {b : Nat} {t : TypeId} {x y z : Value} (hb : w.heap[b]? = some (.cells #[x, y] t (0, 0))) : (w.setCell ⟨b, 1, none⟩ z).heap[b]? = some (.cells #[x, z] t (0, 0)) := by
  rw [heap_setCell_same _ _ _ _ _ _ hb]; rfl
theorem own_set_box {w : World} {b base sz n : Nat} {e : TypeId} {v z : Value} {j : Nat} {xs : List Value} (hown : w.ownsRow base e sz v n xs) (hlt : b < base) : (w.setCell ⟨b, j, none⟩ z).ownsRow base e sz v n xs :=
  ownsRow_setCell_below hown (by exact hlt) _
/-- The part below a box is as it was, behind an append and the store of its field. -/
theorem below_app {b base sz n : Nat} {w w5 w6 : World} {e : TypeId} {v z : Value} {xs : List Value} {o : Obj} {j : Nat} (h : Below b w w5) (hs : b ≤ w5.heap.size) (hown : w5.ownsRow base e sz v n xs) (hlt : b < base)
    (hg : (w5.alloc o).grownBy w6 v.ownBlock) : Below b w (w6.setCell ⟨b, j, none⟩ z) :=
  Below.setCell (Below.grown (Below.alloc h hs o) hg (by simp; omega) (fun k hk => by have := (hown.lt k hk).1; omega)) (Nat.le_refl _) z
end Go.Proofs.YtmaaeemhbccpcaaGreatDoor
