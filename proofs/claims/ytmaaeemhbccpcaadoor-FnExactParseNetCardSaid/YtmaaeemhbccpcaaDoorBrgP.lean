/- The library's notions at a separator of one byte: pieces, the part before it and the rest; plain. -/
import Derived.Test.YtmaaeemhbccpcaaDoorImpP
import Derived.Lib.SplitLaws
import Derived.Lib.IndexBytes
namespace Go.Proofs.YtmaaeemhbccpcaaDoor
theorem at_byte (b : UInt8) : ∀ l : List UInt8, b ∉ l ∨ ∃ p r, l = p ++ b :: r ∧ b ∉ p
  | [] => Or.inl (by simp)
  | c :: r => by
    by_cases h : c = b
    · exact Or.inr ⟨[], r, by rw [h]; rfl, by simp⟩
    · rcases at_byte b r with h2 | ⟨p, q, e, h2⟩
      · exact Or.inl (by simp [Ne.symm h, h2])
      · exact Or.inr ⟨c :: p, q, by rw [e]; rfl, by simp [Ne.symm h, h2]⟩
theorem idx_none {b : UInt8} : ∀ {l : List UInt8}, b ∉ l → Lib.index l [b] = -1
  | [], _ => by simp [Lib.index]
  | c :: r, h => by
    have h1 : c ≠ b := fun e => h (by simp [e])
    have h2 : b ∉ r := fun e => h (by simp [e])
    rw [Lib.index_one, Lib.indexByte, if_neg (by simpa using h1), ← Lib.index_one, idx_none h2]
    rfl
theorem idx_hit {b : UInt8} : ∀ {p : List UInt8} (r : List UInt8), b ∉ p → Lib.index (p ++ b :: r) [b] = (p.length : Int)
  | [], r, _ => by
    show Lib.index (b :: r) [b] = _
    rw [Lib.index_one, Lib.indexByte, if_pos (by simp)]
    rfl
  | c :: q, r, h => by
    have h1 : c ≠ b := fun e => h (by simp [e])
    have h2 : b ∉ q := fun e => h (by simp [e])
    show Lib.index (c :: (q ++ b :: r)) [b] = _
    rw [Lib.index_one, Lib.indexByte, if_neg (by simpa using h1), ← Lib.index_one, idx_hit r h2, if_neg (by simp)]
    simp
theorem splitK_b1 (b : UInt8) : ∀ (n : Nat) (l : List UInt8), l.length ≤ n → Lib.splitK [b] 0 (Lib.count l [b]) l = splitB b l
  | 0, l, h => by
    have : l = [] := by simpa using h
    subst this
    rw [Lib.count_miss (idx_none (by simp))]
    rfl
  | n + 1, l, h => by
    rcases at_byte b l with h2 | ⟨p, r, rfl, h2⟩
    · rw [Lib.count_miss (idx_none h2), splitB_none h2]
      rfl
    · have hi := idx_hit r h2
      have hd : (p ++ b :: r).drop (p.length + [b].length) = r := by
        rw [show (p ++ b :: r) = (p ++ [b]) ++ r by simp, show p.length + [b].length = (p ++ [b]).length by simp, List.drop_left]
      have hn : ¬ (((p.length : Int)) == -1) = true := by simp
      rw [Lib.count_hit (by simp) hi, hd, Nat.add_comm, Lib.splitK, hi, if_neg hn, splitB_cut r h2]
      have e : ((p.length : Int)).toNat = p.length := by omega
      rw [e, hd, splitK_b1 b n r (by simp at h; omega), Nat.add_zero, List.take_left]
theorem cut_one (b : UInt8) (l : List UInt8) : (Lib.cut l [b]).1 = (cutP b l).1 ∧ (Lib.cut l [b]).2.1 = (cutP b l).2 := by
  rcases at_byte b l with h2 | ⟨p, r, rfl, h2⟩
  · have e : cutP b l = (l, []) := by
      rcases cutP_say b l with e | e
      · exact e
      · exact absurd (by rw [e]; simp : b ∈ l) h2
    unfold Lib.cut
    rw [idx_none h2, e]
    exact ⟨rfl, rfl⟩
  · have hd : (p ++ b :: r).drop (p.length + [b].length) = r := by
      rw [show (p ++ b :: r) = (p ++ [b]) ++ r by simp, show p.length + [b].length = (p ++ [b]).length by simp, List.drop_left]
    unfold Lib.cut
    rw [idx_hit r h2, if_pos (by omega), cutP_hit r h2]
    have e : ((p.length : Int)).toNat = p.length := by omega
    simp only [e, hd, List.take_left]
    exact ⟨trivial, trivial⟩
theorem bytes_of (B : ByteArray) : B = ⟨(B.data.toList).toArray⟩ := by
  apply ByteArray.ext; simp
theorem splitLB (b : UInt8) (l : List UInt8) : Lib.splitB ⟨#[b]⟩ 0 (Lib.countB ⟨l.toArray⟩ ⟨#[b]⟩) ⟨l.toArray⟩ = (splitB b l).map fun p => ⟨p.toArray⟩ := by
  have h := Lib.splitB_data ⟨#[b]⟩ 0 (Lib.countB ⟨l.toArray⟩ ⟨#[b]⟩) ⟨l.toArray⟩
  have hc : Lib.countB ⟨l.toArray⟩ ⟨#[b]⟩ = Lib.count l [b] := rfl
  have h9 : (Lib.splitB ⟨#[b]⟩ 0 (Lib.countB ⟨l.toArray⟩ ⟨#[b]⟩) ⟨l.toArray⟩).map (·.data.toList) = splitB b l := by
    rw [h, hc]
    exact splitK_b1 b _ l (Nat.le_refl _)
  rw [← h9, List.map_map]
  conv => lhs; rw [← List.map_id (Lib.splitB ⟨#[b]⟩ 0 (Lib.countB ⟨l.toArray⟩ ⟨#[b]⟩) ⟨l.toArray⟩)]
  apply List.map_congr_left
  intro B _
  exact bytes_of B
theorem splitB_piece (b : UInt8) : ∀ (l : List UInt8), ∀ p ∈ splitB b l, p.length ≤ l.length
  | [], p, h => by simp [splitB] at h; rw [h]; simp
  | c :: r, p, h => by
    have ih := splitB_piece b r
    rw [splitB_cons] at h
    split at h
    · rcases List.mem_cons.1 h with rfl | h
      · simp
      · have := ih p h; simp; omega
    · split at h
      · simp at h; rw [h]; simp
      · rename_i q qs e
        rw [e] at ih
        rcases List.mem_cons.1 h with rfl | h
        · have := ih q (by simp); simp; omega
        · have := ih p (by simp [h]); simp; omega
end Go.Proofs.YtmaaeemhbccpcaaDoor
