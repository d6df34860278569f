
/- Tools of FnCovers: readings kept by whatever follows; lists with their flags; qHas. -/
import Derived.Test.YtiofckbdjifdpaaCovP
import Derived.Test.YtiofckbdjifdpaaDrawV
import Derived.Test.YtiofckbdjifdpaaHas
namespace Go.Proofs.Ytiofckbdjifdpaa
open Go.RowKit
set_option linter.unusedVariables false
abbrev SitesR (w : World) (v : Value) (xss : List (List Int)) : Prop := Intss w 0 w.heap.size v xss
abbrev IntsR (w : World) (v : Value) (xs : List Int) : Prop := Ints w 0 w.heap.size v xs
theorem SitesR.adv {w w' : World} {v : Value} {xss : List (List Int)} (h : SitesR w v xss) (hx : Ext w w') : SitesR w' v xss := (h.ext hx (Nat.le_refl _)).wide (Nat.le_refl _) hx.size
theorem IntsR.adv {w w' : World} {v : Value} {xs : List Int} (h : IntsR w v xs) (hx : Ext w w') : IntsR w' v xs := (h.ext hx (Nat.le_refl _)).mono (Nat.le_refl _) hx.size
theorem IntsR.of_own {w : World} {base : Nat} {v : Value} {xs : List Int} (h : w.ownsRow base 3 1 v xs.length (xs.flatMap encI)) : IntsR w v xs := (Row.of_own encI_len h).mono (Nat.zero_le _) (Nat.le_refl _)
/-- What a call gives that returns a list and whether it was asked rightly. -/
def LRet (V : List Int) (nV : Nat) (q : Bool) (w : World) (e : Ending) (w' : World) : Prop := ∃ a c, e = .returned (.tuple #[.slice a nV c, .bool q]) ∧ IntsR w' (.slice a nV c) V ∧ Ext w w'
theorem LRet.of {f : FuncId} {args : Array Value} {V : List Int} {q : Bool} {w : World}
    (h : Calls Try.prog f args w fun e w' => ∃ r, e = .returned (.tuple #[r, .bool q]) ∧ w'.ownsRow w.heap.size 3 1 r V.length (V.flatMap encI) ∧ Ext w w') : Calls Try.prog f args w (LRet V V.length q w) :=
  h.mono fun e w' ⟨r, he, ho, hx⟩ => by
    obtain ⟨a, c, rfl, _, _, _⟩ := own_form ho
    exact ⟨a, c, he, IntsR.of_own ho, hx⟩
set_option maxRecDepth 100000 in
theorem c_qHas (v : Value) (la ha : Nat) (xs : List Int) (x : Int) (w : World) (h : Ints w la ha v xs) :
    Calls Try.prog 40 #[v, .int .i64 x] w fun e w' => e = .returned (.bool (xs.contains x)) ∧ w = w' := by
  obtain ⟨r, hr⟩ : ∃ r, r = xs.contains x := ⟨_, rfl⟩
  rw [← hr]
  have HR := Lib.hid hr
  obtain ⟨a, cap, rfl, m1, m2⟩ := h.form
  have H := Lib.hid h
  obtain ⟨n, hn⟩ : ∃ n, n = xs.length := ⟨_, rfl⟩
  rw [← hn] at m1 H ⊢
  have HN := Lib.hid hn
  clear h hn hr
  go_enter Try.func40, Try.ntmps40
  go_wp2
  go_loop [9] (fun t => ∃ k : Nat, k ≤ n ∧ t = .int .i64 k ∧ Hid (r = (xs.drop k).contains x)) (fun t => n - (intOf t).toNat)
  case atStart => exact ⟨0, by omega, rfl, HR.out⟩
  case round =>
    obtain ⟨k, hk, rfl, hT⟩ := hrel
    by_cases hlt : k < n
    · obtain ⟨b, o, g, rfl, hg, c0⟩ := Ints_at H.out hlt
      have hs := hT.out.trans (has_drop x hg.out)
      have hltI : (k : Int) < (n : Int) := by omega
      cases e : (g == x)
      · rw [e] at hs
        have HS := Lib.hid hs
        clear hs
        go_wp2
        go_round
        case rel => exact ⟨k + 1, by omega, by go_num, HS.out.trans (Bool.false_or _)⟩
        case measure => simp [intOf]; omega
      · rw [e] at hs
        have HS := Lib.hid hs
        clear hs
        go_wp2
        go_ret
        exact ⟨by rw [HS.out]; rfl, rfl⟩
    · have hge : ¬ ((k : Int) < (n : Int)) := by omega
      have HS : Hid (r = false) := by
        have e := hT.out
        rw [List.drop_eq_nil_of_le (by rw [← HN.out]; omega)] at e
        exact e
      go_wp2
      go_ret
      exact ⟨by rw [HS.out]; rfl, rfl⟩
theorem ic_len {xss : List (List Int)} {n t : Int} {ch : List Int} (h : icOk xss n ch t = true) : ch.length ≤ 12 := by
  unfold icOk at h
  rw [Bool.and_eq_true] at h
  obtain ⟨_, _, _, gc⟩ := chosen_good h.1
  exact gc.len
theorem row_cap {w : World} {a : Option Addr} {n c : Nat} {xs : List Int} (h : IntsR w (.slice a n c) xs) : n ≤ c ∧ c ≤ 9223372036854775807 := by
  obtain ⟨_, _, e, h1, h2⟩ := Ints.form h
  simp only [Value.slice.injEq] at e
  omega
theorem ne_len {xss : List (List Int)} {n : Int} (h : sitesB xss n = true) : (neV xss n).length ≤ 12 := by
  unfold neV
  rw [if_pos h]
  obtain ⟨m, _, hg⟩ := GoodS.of h
  exact Nat.le_trans (ndL_len _ _ _) hg.s12
end Go.Proofs.Ytiofckbdjifdpaa
