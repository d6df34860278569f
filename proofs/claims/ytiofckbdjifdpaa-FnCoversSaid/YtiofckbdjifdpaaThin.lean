
/- ThinCover of the program and of the reference: their contracts. -/
import Derived.Test.YtiofckbdjifdpaaIsCover
import Derived.Test.YtiofckbdjifdpaaDelete
namespace Go.Proofs.Ytiofckbdjifdpaa
open Go.RowKit
/-- append to a row of the call's own, as one step of a region that draws. -/
theorem step_append_own {P : Program} {ops : Array Oper} {o : Oper} {a : Act} {w : World} {K : Act → World → Prop} {Q : Exit → Act → World → Prop} {E : Prop}
    (hg : o.guard = none) (s x : Operand) (t : TypeId) (hop : o.op = Op.call { callee := Callee.builtin Builtin.append, args := #[s, x], argTypes := #[t, t] })
    (base : Nat) (e : TypeId) (i : TypeInfo) (z : Value) (size bytes : Nat) (ht : P.underlying t = some (.slice e)) (hi : P.info? e = some i) (hz : i.zero = some z)
    (hsize : i.size = size) (hby : i.bytes = bytes) (hzs : z.cells.size = size) (hsz : 0 < size)
    (v : Value) (n : Nat) (xs : List Value) (hs : a.eval s = v) (hown : w.ownsRow base e size v n xs)
    (ad : Addr) (m c : Nat) (news : List Value) (hx : a.eval x = .slice (some ad) m c) (hl : news.length = m * size) (hnews : ∀ j u, news[j]? = some u → w.cell? (ad.add j) = some u) (h1 : ∀ u ∈ news, u.oneCell' = true)
    (h63 : n + m ≤ maxLen) (hbytes : (n + m) * bytes ≤ 140737488355328) (hbase : base ≤ w.heap.size)
    (hK : ∀ v' w', w'.ownsRow base e size v' (n + m) (xs ++ news) → w.grownBy w' v.ownBlock → K (a.put o.dst v') w') :
    if Region.wanted o (yielded ops a.tmps) = true then Oper.wp P o a w K Q else E := by
  have hw : Region.wanted o (yielded ops a.tmps) = true := by simp [Region.wanted, hg]
  rw [if_pos hw]
  exact wp_append_own w s x t hop base e i z size bytes ht hi hz hsize hby hzs hsz v n xs hs hown ad m c news hx hl hnews h1 h63 hbytes hbase fun v' w' h2 h3 _ => hK v' w' h2 h3
def thS (f : List Int → Bool) : Nat → List Int → List Int
  | 0, O => O
  | k + 1, O => thS f k (if f (O.eraseIdx k) then O.eraseIdx k else O)
theorem thS_len (f : List Int → Bool) : ∀ (k : Nat) (O : List Int), (thS f k O).length ≤ O.length
  | 0, O => Nat.le_refl _
  | k + 1, O => by
    have h1 := thS_len f k (if f (O.eraseIdx k) then O.eraseIdx k else O)
    unfold thS
    split at h1
    · rename_i h
      rw [if_pos h]
      have := List.length_eraseIdx_le O k
      omega
    · rename_i h
      rw [if_neg h]; exact h1
def tcOk (xss : List (List Int)) (n : Int) (ch : List Int) : Bool := chosenB xss n ch && coverB xss n.toNat ch 1
def tcV (xss : List (List Int)) (n : Int) (ch : List Int) : List Int := if tcOk xss n ch then thS (fun l => coverB xss n.toNat l 1) ch.length ch else []
theorem tcV_len (xss : List (List Int)) (n : Int) (ch : List Int) (h : ch.length ≤ 1048576) : (tcV xss n ch).length ≤ 1099511627776 := by
  unfold tcV
  split
  · have := thS_len (fun l => coverB xss n.toNat l 1) ch.length ch; omega
  · simp
theorem good_erase {s : Nat} {O : List Int} (h : GoodC s O) (k : Nat) : GoodC s (O.eraseIdx k) :=
  ⟨Nat.le_trans (List.length_eraseIdx_le O k) h.len, fun i hi => h.mem i (List.mem_of_mem_eraseIdx hi)⟩
theorem Ints.take {w : World} {lo hi n cap k : Nat} {a : Option Addr} {xs : List Int} (h : Ints w lo hi (.slice a n cap) xs) (hk : k ≤ n) : Ints w lo hi (.slice a k cap) (xs.take k) := by
  obtain ⟨a', cap', hv, h1, h2, b, off, h3, h4⟩ := h
  simp only [Value.slice.injEq] at hv
  obtain ⟨rfl, rfl, rfl⟩ := hv
  have hl : (xs.take k).length = k := by rw [List.length_take]; omega
  refine ⟨a, cap, by rw [hl], by rw [hl]; omega, h2, b, off, fun hp => h3 (by omega), fun i x j c hx hc => ?_⟩
  rw [List.getElem?_take] at hx
  split at hx
  · exact h4 i x j c hx hc
  · cases hx
theorem erase_app {O : List Int} {k : Nat} : O.eraseIdx k = O.take k ++ O.drop (k + 1) := List.eraseIdx_eq_take_drop_succ O k
end Go.Proofs.Ytiofckbdjifdpaa
