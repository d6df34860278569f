/- Slices of ints where append asks for their cells; sets; l1Has; appends; Booleans. -/
import Derived.Test.YtmaaeemhbccpcaaGreatDoorGA
import Derived.Laws.AppendOwnNone
/- Slices of ints where append asks for their cells. -/
namespace Go.Proofs.YtmaaeemhbccpcaaGreatDoor
open Go.RowKit

theorem Tryz.info_intC : (Tryz.prog.info? 3).map (fun i => (i.zero, i.size, i.bytes)) = some (some (.int .i64 0), 1, 8) := by kernel_rfl
theorem flat_map (xs : List Int) : xs.flatMap encI = xs.map (Value.int .i64) := by
  induction xs with
  | nil => rfl
  | cons x r ih => rw [List.flatMap_cons, ih]; rfl
/-- The cells of a slice of ints where append asks for them. -/
theorem Ints_cells {w : World} {la ha n : Nat} {ad : Addr} {cap : Nat} {xs : List Int} (h : Ints w la ha (.slice (some ad) n cap) xs) :
    ∀ j u, (xs.flatMap encI)[j]? = some u → w.cell? (ad.add j) = some u := by
  obtain ⟨a', cap', hv, h1, h2, b, off, h3, h4⟩ := h
  simp only [Value.slice.injEq] at hv
  obtain ⟨rfl, rfl, rfl⟩ := hv
  intro j u hu
  rw [flat_map] at hu
  have hj : j < xs.length := by have := (List.getElem?_eq_some_iff.1 hu).1; simpa using this
  obtain ⟨ha, _, _⟩ := h3 (by omega)
  simp only [Option.some.injEq] at ha
  subst ha
  have hx : xs[j]? = some xs[j] := List.getElem?_eq_getElem hj
  rw [List.getElem?_map, hx] at hu
  simp only [Option.map_some, Option.some.injEq] at hu
  subst hu
  rw [add_lit1]
  simpa using h4 j _ 0 _ hx rfl
theorem ints_one (xs : List Int) : ∀ u ∈ xs.flatMap encI, u.oneCell' = true := by
  rw [flat_map]; intro u hu; obtain ⟨_, _, rfl⟩ := List.mem_map.1 hu; rfl
theorem own_lit0 (w : World) (e : TypeId) : (w.alloc (.cells #[] e)).ownsRow w.heap.size e 1 (.slice (some ⟨w.heap.size, 0, none⟩) 0 0) 0 [] := by
  simpa using World.ownsRow_lit (size := 1) (e := e) w #[] 0 (Nat.le_refl _) (by unfold maxLen; omega) rfl
end Go.Proofs.YtmaaeemhbccpcaaGreatDoor
/- Is a number in a list: slices.Contains, l1Has. -/
namespace Go.Proofs.YtmaaeemhbccpcaaGreatDoor
open Go.RowKit
def idxP (x : Int) : Nat → List Int → Int
  | _, [] => -1
  | k, y :: r => if x == y then (k : Int) else idxP x (k + 1) r
theorem idxP_drop {xs : List Int} {k : Nat} {y : Int} (x : Int) (h : xs[k]? = some y) : idxP x k (xs.drop k) = if x == y then (k : Int) else idxP x (k + 1) (xs.drop (k + 1)) := by
  have hk : k < xs.length := (List.getElem?_eq_some_iff.1 h).1
  have e : xs.drop k = y :: xs.drop (k + 1) := by
    rw [List.drop_eq_getElem_cons hk]; congr 1; exact (List.getElem?_eq_some_iff.1 h).2
  rw [e]; rfl
theorem idxP_has (x : Int) : ∀ (xs : List Int) (k : Nat), decide (0 ≤ idxP x k xs) = xs.contains x
  | [], k => by simp [idxP]
  | y :: r, k => by
    unfold idxP
    rw [List.contains_cons, ← idxP_has x r (k + 1)]
    cases e : (x == y) <;> simp
set_option maxRecDepth 100000 in
theorem c_Index (v : Value) (la ha : Nat) (xs : List Int) (x : Int) (w : World) (h : Ints w la ha v xs) :
    Calls Tryz.prog 62 #[v, .int .i64 x] w fun e w' => e = .returned (.int .i64 (idxP x 0 xs)) ∧ w = w' := by
  obtain ⟨r, hr⟩ : ∃ r, r = idxP x 0 xs := ⟨_, rfl⟩
  rw [← hr]
  have HR := Lib.hid hr
  obtain ⟨a, cap, rfl, m1, m2⟩ := h.form
  have H := Lib.hid h
  obtain ⟨n, hn⟩ : ∃ n, n = xs.length := ⟨_, rfl⟩
  rw [← hn] at m1 H ⊢
  have HN := Lib.hid hn
  clear h hn hr
  go_enter Tryz.func62, Tryz.ntmps62
  go_wp2
  go_loop [5, 8] (fun _ t => ∃ k : Nat, k ≤ n ∧ t = .int .i64 k ∧ Hid (r = idxP x k (xs.drop k))) (fun _ t => n - (intOf t).toNat)
  case atStart => exact ⟨0, by omega, rfl, HR.out⟩
  case round =>
    obtain ⟨k, hk, rfl, hT⟩ := hrel
    by_cases hlt : k < n
    · obtain ⟨b, o, g, rfl, hg, c0⟩ := Ints_at H.out hlt
      have hs := hT.out.trans (idxP_drop x hg.out)
      have hltI : (k : Int) < (n : Int) := by omega
      cases e : (x == g)
      · rw [e] at hs
        have HS := Lib.hid hs
        clear hs
        go_wp2
        go_round
        case rel => exact ⟨k + 1, by omega, by go_num, HS.out⟩
        case measure => simp [intOf]; omega
      · rw [e] at hs
        have HS := Lib.hid hs
        clear hs
        go_wp2
        go_ret
        exact ⟨by rw [HS.out]; rfl, rfl⟩
    · have hge : ¬ ((k : Int) < (n : Int)) := by omega
      have HS : Hid (r = -1) := by
        have e := hT.out
        rw [List.drop_eq_nil_of_le (by rw [← HN.out]; omega)] at e
        exact e
      go_wp2
      go_ret
      exact ⟨by rw [HS.out]; rfl, rfl⟩
set_option maxRecDepth 100000 in
theorem c_Contains (v : Value) (la ha : Nat) (xs : List Int) (x : Int) (w : World) (h : Ints w la ha v xs) :
    Calls Tryz.prog 32 #[v, .int .i64 x] w fun e w' => e = .returned (.bool (xs.contains x)) ∧ w = w' := by
  have CI := Lib.hid (c_Index v la ha xs x w h)
  obtain ⟨r, hr⟩ : ∃ r, r = xs.contains x := ⟨_, rfl⟩
  rw [← hr]
  have HR := Lib.hid (hr.trans (idxP_has x xs 0).symm)
  obtain ⟨a, cap, rfl, m1, m2⟩ := h.form
  clear h hr
  rw [HR.out]
  go_enter Tryz.func32, Tryz.ntmps32
  go_wp2_with (go_at_call 62; refine CI.out.mono ?_; rintro e w' ⟨rfl, rfl⟩)
  go_ret
  exact ⟨rfl, rfl⟩
theorem has_drop {xs : List Int} {k : Nat} {y : Int} (x : Int) (h : xs[k]? = some y) : (xs.drop k).contains x = ((y == x) || (xs.drop (k + 1)).contains x) := by
  have hk : k < xs.length := (List.getElem?_eq_some_iff.1 h).1
  have e : xs.drop k = y :: xs.drop (k + 1) := by
    rw [List.drop_eq_getElem_cons hk]; congr 1; exact (List.getElem?_eq_some_iff.1 h).2
  rw [e, List.contains_cons]
  have h2 : (x == y) = (y == x) := by rw [Bool.eq_iff_iff, beq_iff_eq, beq_iff_eq]; exact ⟨fun h => h.symm, fun h => h.symm⟩
  rw [h2]
set_option maxRecDepth 100000 in
theorem c_l1Has (v : Value) (la ha : Nat) (xs : List Int) (x : Int) (w : World) (h : Ints w la ha v xs) :
    Calls Tryz.prog 35 #[v, .int .i64 x] w fun e w' => e = .returned (.bool (xs.contains x)) ∧ w = w' := by
  obtain ⟨r, hr⟩ : ∃ r, r = xs.contains x := ⟨_, rfl⟩
  rw [← hr]
  have HR := Lib.hid hr
  obtain ⟨a, cap, rfl, m1, m2⟩ := h.form
  have H := Lib.hid h
  obtain ⟨n, hn⟩ : ∃ n, n = xs.length := ⟨_, rfl⟩
  rw [← hn] at m1 H ⊢
  have HN := Lib.hid hn
  clear h hn hr
  go_enter Tryz.func35, Tryz.ntmps35
  go_wp2
  go_loop [9] (fun t => ∃ k : Nat, k ≤ n ∧ t = .int .i64 k ∧ Hid (r = (xs.drop k).contains x)) (fun t => n - (intOf t).toNat)
  case atStart => exact ⟨0, by omega, rfl, HR.out⟩
  case round =>
    obtain ⟨k, hk, rfl, hT⟩ := hrel
    by_cases hlt : k < n
    · obtain ⟨b, o, g, rfl, hg, c0⟩ := Ints_at H.out hlt
      have hs := hT.out.trans (has_drop x hg.out)
      have hltI : (k : Int) < (n : Int) := by omega
      cases e : (g == x)
      · rw [e] at hs
        have HS := Lib.hid hs
        clear hs
        go_wp2
        go_round
        case rel => exact ⟨k + 1, by omega, by go_num, HS.out.trans (Bool.false_or _)⟩
        case measure => simp [intOf]; omega
      · rw [e] at hs
        have HS := Lib.hid hs
        clear hs
        go_wp2
        go_ret
        exact ⟨by rw [HS.out]; rfl, rfl⟩
    · have hge : ¬ ((k : Int) < (n : Int)) := by omega
      have HS : Hid (r = false) := by
        have e := hT.out
        rw [List.drop_eq_nil_of_le (by rw [← HN.out]; omega)] at e
        exact e
      go_wp2
      go_ret
      exact ⟨by rw [HS.out]; rfl, rfl⟩
end Go.Proofs.YtmaaeemhbccpcaaGreatDoor
/- append to a row of the call's own: where the grown row lies: in its old block or in a new one. -/
namespace Go.Proofs.YtmaaeemhbccpcaaGreatDoor
open Go.RowKit
theorem append_own_block {P : Program} (w : World) (base : Nat) (t ty e : TypeId) (i : TypeInfo) (z : Value) (size bytes : Nat) (ht : P.underlying t = some (.slice e)) (hi : P.info? e = some i) (hz : i.zero = some z)
    (hsize : i.size = size) (hby : i.bytes = bytes) (hzs : z.cells.size = size) (hsz : 0 < size)
    (v : Value) (n : Nat) (xs : List Value) (hown : w.ownsRow base e size v n xs)
    (a : Addr) (m c : Nat) (news : List Value) (hl : news.length = m * size) (hnews : ∀ j u, news[j]? = some u → w.cell? (a.add j) = some u) (h1 : ∀ u ∈ news, u.oneCell' = true)
    (h63 : n + m ≤ maxLen) (hbytes : (n + m) * bytes ≤ 140737488355328) (hbase : base ≤ w.heap.size) :
    ∃ v' w', (Builtin.append_ #[t, t] ty #[v, .slice (some a) m c]).run P w = .ok v' w' ∧ w'.ownsRow base e size v' (n + m) (xs ++ news) ∧ w.grownBy w' v.ownBlock ∧
      ∀ k, v'.ownBlock = some k → v.ownBlock = some k ∨ w.heap.size ≤ k := by
  obtain ⟨v', w', hr, h2, h3, h4⟩ := run_append_own (P := P) w base t ty e i z size bytes ht hi hz hsize hby hzs hsz v n xs hown a m c news hl hnews h1 h63 hbytes hbase
  refine ⟨v', w', hr, h2, h3, ?_⟩
  subst hsize
  subst hby
  have hs : n + m ≤ 9223372036854775807 := by simp only [maxLen] at h63; omega
  rcases hown.2 with ⟨hv, hn⟩ | ⟨g, cap, cur, hv, hbg, hg, hnc, hcm, hcs, htake⟩
  · by_cases hm : m = 0
    · have e := h4.2 ⟨hv, hm⟩
      intro k hk
      rw [e] at hk
      simp [Value.ownBlock] at hk
    · have hr2 := run_append_nil (P := P) w t ty e i z ht hi hz a m c news hl hnews (by omega) (by omega) (by rw [hn] at hbytes; simp only [Nat.zero_add] at hbytes; omega)
      rw [hv, hr2] at hr
      simp only [Result.ok.injEq] at hr
      intro k hk
      rw [← hr.1] at hk
      simp only [Value.ownBlock, Option.some.injEq] at hk
      exact .inr (by omega)
  · by_cases hroom : n + m ≤ cap
    · have hfit : n * i.size + news.length ≤ cur.size := by rw [hl, hcs, ← Nat.add_mul]; exact Nat.mul_le_mul_right _ hroom
      have hr2 := run_append_room (P := P) w t ty e i ht hi g n cap cur hg a m c news hl hnews h1 hroom hfit
      rw [hv, hr2] at hr
      simp only [Result.ok.injEq] at hr
      intro k hk
      rw [← hr.1] at hk
      rw [hv]
      exact .inl hk
    · have holds : ∀ j u, xs[j]? = some u → w.cell? ((⟨g, 0, none⟩ : Addr).add j) = some u := hown.cells (g := g) (by rw [hv]; rfl)
      have hr2 := run_append_grow (P := P) w t ty e i z ht hi hz ⟨g, 0, none⟩ n cap xs hown.1 holds a m c news hl hnews (by omega) (by omega) (growslice_fits (by omega) hbytes)
      rw [hv, hr2] at hr
      simp only [Result.ok.injEq] at hr
      intro k hk
      rw [← hr.1] at hk
      simp only [Value.ownBlock, Option.some.injEq] at hk
      exact .inr (by omega)
/-- The step: as the kit's law, with the block told. -/
theorem wpList_append_at {P : Program} (w : World) {ops : Array Oper} {rest : List Oper} {o : Oper} {a : Act} {Q : Exit → Act → World → Prop} (hgd : o.guard = none) (s x : Operand) (t : TypeId)
    (ho : o.op = .call { callee := .builtin .append, args := #[s, x], argTypes := #[t, t] })
    (base : Nat) (e : TypeId) (i : TypeInfo) (z : Value) (size bytes : Nat) (ht : P.underlying t = some (.slice e)) (hi : P.info? e = some i) (hz : i.zero = some z)
    (hsize : i.size = size) (hby : i.bytes = bytes) (hzs : z.cells.size = size) (hsz : 0 < size)
    (v : Value) (n : Nat) (xs : List Value) (hs : a.eval s = v) (hown : w.ownsRow base e size v n xs)
    (ad : Addr) (m c : Nat) (news : List Value) (hx : a.eval x = .slice (some ad) m c) (hl : news.length = m * size) (hnews : ∀ j u, news[j]? = some u → w.cell? (ad.add j) = some u) (h1 : ∀ u ∈ news, u.oneCell' = true)
    (h63 : n + m ≤ maxLen) (hbytes : (n + m) * bytes ≤ 140737488355328) (hbase : base ≤ w.heap.size)
    (h : ∀ v' w', w'.ownsRow base e size v' (n + m) (xs ++ news) → w.grownBy w' v.ownBlock → (∀ k, v'.ownBlock = some k → v.ownBlock = some k ∨ w.heap.size ≤ k) → wpList P ops Q rest (a.put o.dst v') w') : wpList P ops Q (o :: rest) a w :=
  wpList_plain hgd fun K hK => by
    obtain ⟨v', w', hr, h2, h3, h4⟩ := append_own_block (P := P) w base t o.type e i z size bytes ht hi hz hsize hby hzs hsz v n xs hown ad m c news hl hnews h1 h63 hbytes hbase
    unfold Oper.wp execOp
    simp only [ho, resolve, invoke, builtin, Sem.run_bind, Sem.run_pure, Result.andThen_ok, List.map_toArray, List.map_cons, List.map_nil, hs, hx, hr]
    exact hK _ _ (h v' w' h2 h3 h4)
end Go.Proofs.YtmaaeemhbccpcaaGreatDoor
/- Stores into a slice of ints of the call's own. -/
namespace Go.Proofs.YtmaaeemhbccpcaaGreatDoor
open Go.RowKit
theorem flat_set (xs : List Int) (i : Nat) (x : Int) : (xs.set i x).flatMap encI = (xs.flatMap encI).set i (.int .i64 x) := by
  rw [flat_map, flat_map, List.map_set]
theorem own_at0 {w : World} {base sz n : Nat} {e : TypeId} {v : Value} {L : List Value} (h : w.ownsRow base e sz v n L) (hn : 0 < n) :
    ∃ g cap, v = .slice (some ⟨g, 0, none⟩) n cap ∧ base ≤ g ∧ g < w.heap.size := by
  rcases h.2 with ⟨_, h0⟩ | ⟨g, cap, cur, hv, hb, hg, _⟩
  · omega
  · exact ⟨g, cap, hv, hb, (Array.getElem?_eq_some_iff.1 hg).1⟩
theorem own_cellv {w : World} {base g n c : Nat} {e : TypeId} {xs : List Int} (h : w.ownsRow base e 1 (.slice (some ⟨g, 0, none⟩) n c) n (xs.flatMap encI)) {j : Nat} {x : Int} (hx : xs[j]? = some x) (hj : j < n) :
    w.cell? ⟨g, j, none⟩ = some (.int .i64 x) := by
  rw [h.cellAt j (by omega), flat_map, List.getElem?_map, hx]; rfl
theorem own_set {w : World} {base g n c : Nat} {xs : List Int} (h : w.ownsRow base 3 1 (.slice (some ⟨g, 0, none⟩) n c) n (xs.flatMap encI)) (k : Nat) (x : Int) :
    (w.setCell ⟨g, k, none⟩ (.int .i64 x)).ownsRow base 3 1 (.slice (some ⟨g, 0, none⟩) n c) n ((xs.set k x).flatMap encI) := by
  rw [flat_set]
  exact (h.stored k (.int .i64 x)).1
theorem made_ints (n : Nat) : (madeCells (Value.int .i64 0).cells (n * 1)).toList = (List.replicate n (0 : Int)).flatMap encI := by
  rw [flat_map]
  apply List.ext_getElem?
  intro i
  by_cases hi : i < n
  · simp [madeCells, hi, Nat.mod_one, Value.cells]
  · simp [madeCells, hi]
end Go.Proofs.YtmaaeemhbccpcaaGreatDoor
/- Rows of bools: written, read, made. -/
namespace Go.Proofs.YtmaaeemhbccpcaaGreatDoor
open Go.RowKit
def encB (b : Bool) : List Value := [.bool b]
theorem encB_len (g : Bool) : (encB g).length = 1 := rfl
theorem flat_mapB (xs : List Bool) : xs.flatMap encB = xs.map Value.bool := by
  induction xs with
  | nil => rfl
  | cons x r ih => rw [List.flatMap_cons, ih]; rfl
theorem own_cellB {w : World} {base g n c : Nat} {e : TypeId} {xs : List Bool} (h : w.ownsRow base e 1 (.slice (some ⟨g, 0, none⟩) n c) n (xs.flatMap encB)) {j : Nat} {x : Bool} (hx : xs[j]? = some x) (hj : j < n) :
    w.cell? ⟨g, j, none⟩ = some (.bool x) := by
  rw [h.cellAt j (by omega), flat_mapB, List.getElem?_map, hx]; rfl
theorem own_setB {w : World} {base g n c : Nat} {e : TypeId} {xs : List Bool} (h : w.ownsRow base e 1 (.slice (some ⟨g, 0, none⟩) n c) n (xs.flatMap encB)) (k : Nat) (x : Bool) :
    (w.setCell ⟨g, k, none⟩ (.bool x)).ownsRow base e 1 (.slice (some ⟨g, 0, none⟩) n c) n ((xs.set k x).flatMap encB) := by
  rw [flat_mapB, List.map_set, ← flat_mapB]
  exact (h.stored k (.bool x)).1
theorem made_bools (n : Nat) : (madeCells (Value.bool false).cells (n * 1)).toList = (List.replicate n false).flatMap encB := by
  rw [flat_mapB]
  apply List.ext_getElem?
  intro i
  by_cases hi : i < n
  · simp [madeCells, hi, Nat.mod_one, Value.cells]
  · simp [madeCells, hi]
theorem Tryz.info_bool : (Tryz.prog.info? 4).map (fun i => (i.zero, i.size, i.bytes)) = some (some (.bool false), 1, 1) := by kernel_rfl
end Go.Proofs.YtmaaeemhbccpcaaGreatDoor
