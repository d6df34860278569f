/- Certificates, covers and their counts: plain laws. -/
import Derived.Test.YtiofckbdjifdpaaCertQ
namespace Go.Proofs.Ytiofckbdjifdpaa
open Go.RowKit
theorem cert_own {xss : List (List Int)} {n : Int} {sp : List Int} (h1 : apOk xss n sp = true) (h2 : apartB xss sp = true) : sitesB xss n = true ∧ ¬ ((maV xss n).length : Int) < (sp.length : Int) := by
  unfold apOk at h1
  rw [Bool.and_eq_true] at h1
  have := ma_most h1.1 h1.2 h2
  exact ⟨h1.1, by omega⟩
theorem lcA_of {xss : List (List Int)} {n : Int} (h : sitesB xss n = true) : lcA xss n 1 = true := by
  unfold lcA
  rw [h]
  rfl
theorem count_facts {xss : List (List Int)} {n k : Int} (h : ccOk xss n k = true) : 0 ≤ ccV xss n k ∧ (lcOk xss n 1 = false → ccV xss n k = 0) ∧
    (lcOk xss n 1 = true → (k < ((lcV xss n 1).length : Int) → ccV xss n k = 0) ∧ (k = ((lcV xss n 1).length : Int) → 1 ≤ ccV xss n k)) := by
  have h0 := h
  unfold ccOk at h0
  rw [Bool.and_eq_true, inB_iff] at h0
  obtain ⟨hs, hk0, hk1⟩ := h0
  have hl := lc_lst xss n 1 (lcA_of hs)
  have he : ccV xss n k = (((combs xss.length 0 k.toNat).countP fun c => coverB xss n.toNat c 1 : Nat) : Int) := by unfold ccV; rw [if_pos h]
  have hz : (∀ c ∈ combs xss.length 0 k.toNat, coverB xss n.toNat c 1 = false) → ccV xss n k = 0 := by
    intro hc
    rw [he, List.countP_eq_zero.2 (fun c hm => by rw [hc c hm]; simp)]
    rfl
  refine ⟨by rw [he]; omega, fun hn => ?_, fun hy => ⟨fun hlt => ?_, fun hq => ?_⟩⟩
  · unfold lcOk at hn
    cases e : lcR xss n 1 with
    | some V => rw [e] at hn; simp at hn
    | none =>
      rw [e] at hl
      exact hz fun c hm => hl c (bitsA_mem.1 hm).1
  · unfold lcOk at hy
    unfold lcV at hlt
    cases e : lcR xss n 1 with
    | none => rw [e] at hy; simp at hy
    | some V =>
      rw [e] at hl hlt
      simp only [Option.getD_some] at hlt
      refine hz fun c hm => ?_
      obtain ⟨h1, h2⟩ := bitsA_mem.1 hm
      cases hc : coverB xss n.toNat c 1 with
      | false => rfl
      | true =>
        rcases hl.min c h1 hc with h3 | h3
        · subst h3; omega
        · rw [betB_iff] at h3
          omega
  · unfold lcOk at hy
    unfold lcV at hq
    cases e : lcR xss n 1 with
    | none => rw [e] at hy; simp at hy
    | some V =>
      rw [e] at hl hq
      simp only [Option.getD_some] at hq
      have hm : V ∈ combs xss.length 0 k.toNat := bitsA_mem.2 ⟨hl.mem, by omega⟩
      have : 0 < (combs xss.length 0 k.toNat).countP fun c => coverB xss n.toNat c 1 := List.countP_pos_iff.2 ⟨V, hm, hl.ok⟩
      rw [he]
      omega
theorem cover_most {xss : List (List Int)} {n : Int} (hs : sitesB xss n = true) (h : lcOk xss n 1 = true) : ((maV xss n).length : Int) ≤ ((lcV xss n 1).length : Int) := by
  have hl := lc_lst xss n 1 (lcA_of hs)
  obtain ⟨h1, h2⟩ := ma_apart hs
  unfold lcOk at h
  unfold lcV
  cases e : lcR xss n 1 with
  | none => rw [e] at h; simp at h
  | some V =>
    rw [e] at hl
    obtain ⟨m, rfl, hg⟩ := GoodS.of hs
    have h3 := apart_cover hg h2 (by simpa using hl.ok) (fun s hm => by have := (risB_inc h1).2 s hm; omega)
    simp only [Option.getD_some]
    omega
theorem cert_apart {xss : List (List Int)} {n : Int} (hs : sitesB xss n = true) : apOk xss n (maV xss n) = true ∧ apartB xss (maV xss n) = true := by
  obtain ⟨h1, h2⟩ := ma_apart hs
  exact ⟨by unfold apOk; rw [hs, h1]; rfl, h2⟩
end Go.Proofs.Ytiofckbdjifdpaa
