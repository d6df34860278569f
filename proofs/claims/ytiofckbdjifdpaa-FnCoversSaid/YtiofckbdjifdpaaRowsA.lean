
/- A list of lists that is being made. -/
import Derived.Test.YtiofckbdjifdpaaDrawM
import Derived.Test.YtiofckbdjifdpaaSS
import Derived.Test.YtiofckbdjifdpaaApp
import Derived.Test.YtiofckbdjifdpaaPutB
namespace Go.Proofs.Ytiofckbdjifdpaa
open Go.RowKit
/-- append to a row of the call's own, as one step of a region that draws; where the result lies. -/
theorem step_append_at {P : Program} {ops : Array Oper} {o : Oper} {a : Act} {w : World} {K : Act → World → Prop} {Q : Exit → Act → World → Prop} {E : Prop}
    (hg : o.guard = none) (s x : Operand) (t : TypeId) (ho : o.op = Op.call { callee := Callee.builtin Builtin.append, args := #[s, x], argTypes := #[t, t] })
    (base : Nat) (e : TypeId) (i : TypeInfo) (z : Value) (size bytes : Nat) (ht : P.underlying t = some (.slice e)) (hi : P.info? e = some i) (hz : i.zero = some z)
    (hsize : i.size = size) (hby : i.bytes = bytes) (hzs : z.cells.size = size) (hsz : 0 < size)
    (v : Value) (n : Nat) (xs : List Value) (hs : a.eval s = v) (hown : w.ownsRow base e size v n xs)
    (ad : Addr) (m c : Nat) (news : List Value) (hx : a.eval x = .slice (some ad) m c) (hl : news.length = m * size) (hnews : ∀ j u, news[j]? = some u → w.cell? (ad.add j) = some u) (h1 : ∀ u ∈ news, u.oneCell' = true)
    (h63 : n + m ≤ maxLen) (hbytes : (n + m) * bytes ≤ 140737488355328) (hbase : base ≤ w.heap.size)
    (hK : ∀ v' w', w'.ownsRow base e size v' (n + m) (xs ++ news) → w.grownBy w' v.ownBlock → (∀ k, v'.ownBlock = some k → v.ownBlock = some k ∨ w.heap.size ≤ k) → K (a.put o.dst v') w') :
    if Region.wanted o (yielded ops a.tmps) = true then Oper.wp P o a w K Q else E := by
  have hw : Region.wanted o (yielded ops a.tmps) = true := by simp [Region.wanted, hg]
  rw [if_pos hw]
  obtain ⟨v', w', hr, h2, h3, h4⟩ := append_own_block (P := P) w base t o.type e i z size bytes ht hi hz hsize hby hzs hsz v n xs hown ad m c news hl hnews h1 h63 hbytes hbase
  unfold Oper.wp execOp
  simp only [ho, resolve, invoke, builtin, Sem.run_bind, Sem.run_pure, Result.andThen_ok, List.map_toArray, List.map_cons, List.map_nil, hs, hx, hr]
  exact hK _ _ h2 h3 h4
/-- A list of lists that is being made: each list in a block of its own, none in the outer one's. -/
def RowsA (w : World) (base : Nat) (v : Value) (vs : List Value) (xss : List (List Int)) : Prop :=
  vs.length = xss.length ∧ w.ownsRow base 24 1 v vs.length vs ∧ ∀ (i : Nat) u xs, vs[i]? = some u → xss[i]? = some xs → w.ownsRow base 3 1 u xs.length (xs.flatMap encI) ∧ ∀ k, u.ownBlock = some k → v.ownBlock ≠ some k
theorem RowsA.nil (w : World) (base : Nat) : RowsA w base (.slice none 0 0) [] [] := ⟨rfl, World.ownsRow_nil _ _ _ _, by simp⟩
theorem RowsA.kc {w w' : World} {b base : Nat} {v : Value} {vs : List Value} {xss : List (List Int)} (h : RowsA w base v vs xss) (hk : Keep b (b + 1) w w') (hb : b < base) : RowsA w' base v vs xss :=
  ⟨h.1, own_kc h.2.1 hk hb, fun i u xs hu hx => ⟨own_kc (h.2.2 i u xs hu hx).1 hk hb, (h.2.2 i u xs hu hx).2⟩⟩
/-- .. is kept where a newer block is turned. -/
theorem RowsA.set {w w0 : World} {g j base : Nat} {x v : Value} {vs : List Value} {xss : List (List Int)} (h : RowsA w base v vs xss) (hs : ∀ k, (∃ (i : Nat) (u : Value) (xs : List Int), vs[i]? = some u ∧ xss[i]? = some xs ∧ u.ownBlock = some k) ∨ v.ownBlock = some k → k < w0.heap.size) (hg : w0.heap.size ≤ g) :
    RowsA (w.setCell ⟨g, j, none⟩ x) base v vs xss := by
  have hk : Keep g (g + 1) w (w.setCell ⟨g, j, none⟩ x) := keep_setj w g j x
  refine ⟨h.1, own_keep h.2.1 hk (fun k e => .inl (by have := hs k (.inr e); omega)), fun i u xs hu hx => ⟨own_keep (h.2.2 i u xs hu hx).1 hk (fun k e => .inl (by have := hs k (.inl ⟨i, u, xs, hu, hx, e⟩); omega)), (h.2.2 i u xs hu hx).2⟩⟩
theorem RowsA.lt {w : World} {base : Nat} {v : Value} {vs : List Value} {xss : List (List Int)} (h : RowsA w base v vs xss) : ∀ k, (∃ (i : Nat) (u : Value) (xs : List Int), vs[i]? = some u ∧ xss[i]? = some xs ∧ u.ownBlock = some k) ∨ v.ownBlock = some k → k < w.heap.size := by
  rintro k (⟨i, u, xs, hu, hx, e⟩ | e)
  · exact ((h.2.2 i u xs hu hx).1.lt k e).2
  · exact (h.2.1.lt k e).2
theorem RowsA.read {w : World} {base : Nat} {v : Value} {vs : List Value} {xss : List (List Int)} (h : RowsA w base v vs xss) : Intss w base w.heap.size v xss :=
  ⟨vs, h.1, Row.of_own encV_len (by rw [flat_encV]; exact h.2.1), fun i u xs hu hx => Row.of_own encI_len (h.2.2 i u xs hu hx).1⟩
theorem RowsA.push {w w7 : World} {base : Nat} {o : Obj} {v v' u : Value} {vs : List Value} {xss : List (List Int)} {xs : List Int} (h : RowsA w base v vs xss) (ho : w.ownsRow base 3 1 u xs.length (xs.flatMap encI)) (hd : ∀ k, u.ownBlock = some k → v.ownBlock ≠ some k)
    (h' : w7.ownsRow base 24 1 v' (vs.length + 1) (vs ++ [u])) (hg : (w.alloc o).grownBy w7 v.ownBlock) (hb : ∀ k, v'.ownBlock = some k → v.ownBlock = some k ∨ (w.alloc o).heap.size ≤ k) : RowsA w7 base v' (vs ++ [u]) (xss ++ [xs]) := by
  have key : ∀ (u : Value) (xs : List Int), w.ownsRow base 3 1 u xs.length (xs.flatMap encI) → (∀ k, u.ownBlock = some k → v.ownBlock ≠ some k) → w7.ownsRow base 3 1 u xs.length (xs.flatMap encI) ∧ ∀ k, u.ownBlock = some k → v'.ownBlock ≠ some k := by
    intro u xs ho hd
    refine ⟨(ho.alloc o).kept hg ?_, fun k hk e => ?_⟩
    · cases hb2 : u.ownBlock with
      | none => exact .inl rfl
      | some k => exact .inr (fun e => hd k hb2 e.symm)
    · rcases hb k e with h1 | h1
      · exact hd k hk h1
      · have := (ho.lt k hk).2
        simp at h1
        omega
  refine ⟨by simp [h.1], by rw [List.length_append]; exact h', fun i u' xs' hu hx => ?_⟩
  by_cases hi : i < vs.length
  · rw [List.getElem?_append_left hi] at hu
    rw [List.getElem?_append_left (by rw [← h.1]; exact hi)] at hx
    obtain ⟨h1, h2⟩ := h.2.2 i u' xs' hu hx
    exact key u' xs' h1 h2
  · rw [List.getElem?_append_right (by omega)] at hu
    rw [List.getElem?_append_right (by rw [← h.1]; omega)] at hx
    have hi2 := (List.getElem?_eq_some_iff.1 hu).1
    simp at hi2
    rw [show i - vs.length = 0 by omega] at hu
    rw [show i - xss.length = 0 by rw [← h.1]; omega] at hx
    simp at hu hx
    subst hu hx
    exact key _ _ ho hd
theorem size_set (w : World) (p : Addr) (v : Value) : (w.setCell p v).heap.size = w.heap.size := by simp [World.setCell]
theorem Intss.mono {w : World} {lo hi lo' : Nat} {v : Value} {xss : List (List Int)} (h : Intss w lo hi v xss) (h1 : lo' ≤ lo) : Intss w lo' hi v xss := by
  obtain ⟨vs, a, b, c⟩ := h
  exact ⟨vs, a, b.mono h1 (Nat.le_refl _), fun i u xs hu hx => (c i u xs hu hx).mono h1 (Nat.le_refl _)⟩
/-- .. and no two of the lists share a block. -/
def RowsB (w : World) (base : Nat) (v : Value) (vs : List Value) (xss : List (List Int)) : Prop :=
  RowsA w base v vs xss ∧ ∀ (i j : Nat) u u', i ≠ j → vs[i]? = some u → vs[j]? = some u' → ∀ k, u.ownBlock = some k → u'.ownBlock ≠ some k
theorem RowsB.nil (w : World) (base : Nat) : RowsB w base (.slice none 0 0) [] [] := ⟨RowsA.nil _ _, by simp⟩
theorem RowsB.kc {w w' : World} {b base : Nat} {v : Value} {vs : List Value} {xss : List (List Int)} (h : RowsB w base v vs xss) (hk : Keep b (b + 1) w w') (hb : b < base) : RowsB w' base v vs xss := ⟨h.1.kc hk hb, h.2⟩
theorem RowsB.ext {w w' : World} {base : Nat} {v : Value} {vs : List Value} {xss : List (List Int)} (h : RowsB w base v vs xss) (hx : Ext w w') : RowsB w' base v vs xss :=
  ⟨⟨h.1.1, own_ext h.1.2.1 hx, fun i u xs hu hx' => ⟨own_ext (h.1.2.2 i u xs hu hx').1 hx, (h.1.2.2 i u xs hu hx').2⟩⟩, h.2⟩
/-- A new list is put behind the others. -/
theorem RowsB.push {w w7 : World} {base : Nat} {o : Obj} {v v' u : Value} {vs : List Value} {xss : List (List Int)} {xs : List Int} (h : RowsB w base v vs xss) (ho : w.ownsRow base 3 1 u xs.length (xs.flatMap encI))
    (hd : ∀ k, u.ownBlock = some k → v.ownBlock ≠ some k ∧ ∀ (i : Nat) (u' : Value), vs[i]? = some u' → u'.ownBlock ≠ some k)
    (h' : w7.ownsRow base 24 1 v' (vs.length + 1) (vs ++ [u])) (hg : (w.alloc o).grownBy w7 v.ownBlock) (hb : ∀ k, v'.ownBlock = some k → v.ownBlock = some k ∨ (w.alloc o).heap.size ≤ k) : RowsB w7 base v' (vs ++ [u]) (xss ++ [xs]) := by
  refine ⟨h.1.push ho (fun k hk => (hd k hk).1) h' hg hb, fun i j u1 u2 hij hi hj k hk1 hk2 => ?_⟩
  by_cases h1 : i < vs.length
  · rw [List.getElem?_append_left h1] at hi
    by_cases h2 : j < vs.length
    · rw [List.getElem?_append_left h2] at hj
      exact h.2 i j u1 u2 hij hi hj k hk1 hk2
    · have hj2 := (List.getElem?_eq_some_iff.1 hj).1
      simp at hj2
      rw [List.getElem?_append_right (by omega), show j - vs.length = 0 by omega] at hj
      simp at hj
      subst hj
      exact (hd k hk2).2 i u1 hi hk1
  · have hi2 := (List.getElem?_eq_some_iff.1 hi).1
    simp at hi2
    rw [List.getElem?_append_right (by omega), show i - vs.length = 0 by omega] at hi
    simp at hi
    subst hi
    by_cases h2 : j < vs.length
    · rw [List.getElem?_append_left h2] at hj
      exact (hd k hk1).2 j u2 hj hk2
    · have hj2 := (List.getElem?_eq_some_iff.1 hj).1
      simp at hj2
      omega
theorem RowsB.outer {w w' : World} {base g c : Nat} {vs : List Value} {xss : List (List Int)} {i : Nat} {u : Value} {xs : List Int} (h : RowsB w base (.slice (some ⟨g, 0, none⟩) vs.length c) vs xss)
    (hu : vs[i]? = some u) (hx : xss[i]? = some xs) (hg : w.grownBy w' u.ownBlock) : w'.ownsRow base 24 1 (.slice (some ⟨g, 0, none⟩) vs.length c) vs.length vs :=
  h.1.2.1.kept hg (.inr (fun e => (h.1.2.2 i u xs hu hx).2 g (by first | exact e | exact e.symm) rfl))
/-- One of the lists is turned: the world may have been turned in that list's own block. -/
theorem RowsB.upd {w w' : World} {base g c : Nat} {vs : List Value} {xss : List (List Int)} {i : Nat} {u u' : Value} {xs xs' : List Int} (h : RowsB w base (.slice (some ⟨g, 0, none⟩) vs.length c) vs xss)
    (hu : vs[i]? = some u) (hx : xss[i]? = some xs) (hg : w.grownBy w' u.ownBlock) (ho : w'.ownsRow base 3 1 u' xs'.length (xs'.flatMap encI))
    (hb : ∀ k, u'.ownBlock = some k → u.ownBlock = some k ∨ w.heap.size ≤ k) :
    RowsB (w'.setCell ⟨g, i, none⟩ u') base (.slice (some ⟨g, 0, none⟩) vs.length c) (vs.set i u') (xss.set i xs') := by
  have hi := (List.getElem?_eq_some_iff.1 hu).1
  have hgl : g < w.heap.size := (h.1.2.1.lt g rfl).2
  have hug : ∀ k, u.ownBlock = some k → k ≠ g := fun k hk e => (h.1.2.2 i u xs hu hx).2 k hk (by rw [e]; rfl)
  have hug' : ∀ k, u'.ownBlock = some k → k ≠ g := fun k hk e => by
    rcases hb k hk with h1 | h1
    · exact hug k h1 e
    · omega
  have hout : w'.ownsRow base 24 1 (.slice (some ⟨g, 0, none⟩) vs.length c) vs.length vs := by
    exact h.1.2.1.kept hg (.inr (fun e => hug g (by first | exact e | exact e.symm) rfl))
  have hk9 : Keep g (g + 1) w' (w'.setCell ⟨g, i, none⟩ u') := keep_setj w' g i u'
  refine ⟨⟨by simp [h.1.1], by rw [List.length_set]; exact (hout.stored i u').1, fun j u1 xs1 hj hxj => ?_⟩, fun j1 j2 u1 u2 hne hj1 hj2 k hk1 hk2 => ?_⟩
  · by_cases hij : i = j
    · subst hij
      rw [List.getElem?_set_self hi] at hj
      rw [List.getElem?_set_self (by rw [← h.1.1]; exact hi)] at hxj
      simp only [Option.some.injEq] at hj hxj
      subst hj hxj
      refine ⟨own_keep ho hk9 (fun k e => by have := hug' k e; omega), fun k hk e => hug' k hk (by simpa [Value.ownBlock] using e.symm)⟩
    · rw [List.getElem?_set_ne hij] at hj hxj
      obtain ⟨h1, h2⟩ := h.1.2.2 j u1 xs1 hj hxj
      have hd := h.2 i j u u1 hij hu hj
      refine ⟨own_keep (h1.kept hg ?_) hk9 (fun k e => by
        have : k ≠ g := fun e2 => h2 k e (by rw [e2]; rfl)
        omega), h2⟩
      cases hb2 : u1.ownBlock with
      | none => exact .inl rfl
      | some k => exact .inr (fun e => hd k (by first | exact e | exact e.symm) hb2)
  · by_cases h1 : i = j1
    · subst h1
      rw [List.getElem?_set_self hi] at hj1
      simp only [Option.some.injEq] at hj1
      subst hj1
      rw [List.getElem?_set_ne hne] at hj2
      rcases hb k hk1 with h3 | h3
      · exact h.2 i j2 u u2 hne hu hj2 k h3 hk2
      · obtain ⟨xs2, hx2⟩ : ∃ x, xss[j2]? = some x := ⟨_, List.getElem?_eq_getElem (by have := (List.getElem?_eq_some_iff.1 hj2).1; rw [← h.1.1]; exact this)⟩
        have := ((h.1.2.2 j2 u2 xs2 hj2 hx2).1.lt k hk2).2
        omega
    · rw [List.getElem?_set_ne h1] at hj1
      by_cases h2 : i = j2
      · subst h2
        rw [List.getElem?_set_self hi] at hj2
        simp only [Option.some.injEq] at hj2
        subst hj2
        rcases hb k hk2 with h3 | h3
        · exact h.2 i j1 u u1 h1 hu hj1 k h3 hk1
        · obtain ⟨xs2, hx2⟩ : ∃ x, xss[j1]? = some x := ⟨_, List.getElem?_eq_getElem (by have := (List.getElem?_eq_some_iff.1 hj1).1; rw [← h.1.1]; exact this)⟩
          have := ((h.1.2.2 j1 u1 xs2 hj1 hx2).1.lt k hk1).2
          omega
      · rw [List.getElem?_set_ne h2] at hj2
        exact h.2 j1 j2 u1 u2 hne hj1 hj2 k hk1 hk2
theorem RowsB.at0 {w : World} {base n c : Nat} {a : Option Addr} {vs : List Value} {xss : List (List Int)} (h : RowsB w base (.slice a n c) vs xss) (hn : 0 < vs.length) : ∃ g, a = some ⟨g, 0, none⟩ ∧ n = vs.length ∧ base ≤ g ∧ g < w.heap.size := by
  rcases h.1.2.1.2 with ⟨_, h0⟩ | ⟨g, cap, cur, hv, hb, hg, _⟩
  · omega
  · simp only [Value.slice.injEq] at hv
    exact ⟨g, hv.1, hv.2.1, hb, (Array.getElem?_eq_some_iff.1 hg).1⟩
theorem RowsB.cell {w : World} {base g c : Nat} {vs : List Value} {xss : List (List Int)} {i : Nat} {u : Value} (h : RowsB w base (.slice (some ⟨g, 0, none⟩) vs.length c) vs xss) (hu : vs[i]? = some u) : w.cell? ⟨g, i, none⟩ = some u := by
  rw [h.1.2.1.cellAt i (by have := (List.getElem?_eq_some_iff.1 hu).1; omega), hu]
end Go.Proofs.Ytiofckbdjifdpaa
