/- The text of a net, as a list of bytes: plain. -/
import Derived.Test.YtmaaeemhbccpcaaGreatDoorIsNet
import Derived.Lib.ItoaNum
import Derived.Lib.Join
namespace Go.Proofs.YtmaaeemhbccpcaaGreatDoor
/-- A number that is not negative, in decimal. -/
def numL (n : Int) : List UInt8 := Lib.decDigits n.toNat
theorem numL_itoa {n : Int} (h : 0 ≤ n) : Lib.itoa n = numL n := by
  unfold Lib.itoa numL
  rw [if_neg (by omega)]
theorem numL_small {n : Int} (h0 : 0 ≤ n) (h : n < 10) : numL n = [UInt8.ofNat (48 + n.toNat)] := by
  unfold numL
  rw [Lib.decDigits, dif_pos (by omega)]
theorem numL_big {n : Int} (h : 10 ≤ n) : numL n = numL (n / 10) ++ [UInt8.ofNat (48 + (n % 10).toNat)] := by
  unfold numL
  rw [Lib.decDigits, dif_neg (by omega)]
  congr 2
  · congr 1; omega
  · congr 1; omega
/-- The numbers of a line, with blanks between them. -/
def lineL : List Int → List UInt8
  | [] => []
  | [n] => numL n
  | n :: m :: r => numL n ++ 32 :: lineL (m :: r)
theorem line3 (a b c : Int) : lineL [a, b, c] = numL a ++ [32] ++ numL b ++ [32] ++ numL c := by
  simp [lineL, List.append_assoc]
theorem join3 (a b c : List UInt8) : Lib.join [a, b, c] [32] = a ++ [32] ++ b ++ [32] ++ c := by
  simp [Lib.join, List.intercalate, List.append_assoc]
def towL (t : TowerT) : List UInt8 := [116, 111, 119, 101, 114, 32] ++ lineL [t.1, t.2.1, t.2.2] ++ [10]
def lnkL (y : LinkT) : List UInt8 := [108, 105, 110, 107, 32] ++ lineL [y.1, y.2.1, y.2.2] ++ [10]
/-- The text of a net. -/
def txtL (x : NetT) : List UInt8 := x.1.flatMap towL ++ x.2.flatMap lnkL
theorem numL_len {n : Int} (h0 : 0 ≤ n) (h1 : n ≤ 999) : (numL n).length ≤ 3 := by
  by_cases a : n < 10
  · rw [numL_small h0 a]; simp
  · rw [numL_big (by omega)]
    by_cases b : n / 10 < 10
    · rw [numL_small (by omega) b]; simp
    · rw [numL_big (by omega), numL_small (by omega) (by omega)]; simp
theorem towL_len {t : TowerT} (h : towB t = true) : (towL t).length ≤ 18 := by
  simp only [towB, Bool.and_eq_true] at h
  obtain ⟨h1, h2, h3⟩ := h
  have a1 := inB_t h1
  have a2 := inB_t h2
  have a3 := inB_t h3
  have b1 := numL_len a1.1 a1.2
  have b2 := numL_len a2.1 a2.2
  have b3 := numL_len a3.1 (by omega)
  unfold towL
  rw [line3]
  simp only [List.length_append, List.length_cons, List.length_nil]
  omega
theorem lnkL_len {m : Nat} {y : LinkT} (hm : m ≤ 16) (h : lkB m y = true) : (lnkL y).length ≤ 17 := by
  simp only [lkB, Bool.and_eq_true, decide_eq_true_eq] at h
  obtain ⟨h1, h2, h3, h4⟩ := h
  have a4 := inB_t h4
  have b1 := numL_len h1 (by omega)
  have b2 := numL_len (n := y.2.1) (by omega) (by omega)
  have b3 := numL_len (n := y.2.2) (by omega) (by omega)
  unfold lnkL
  rw [line3]
  simp only [List.length_append, List.length_cons, List.length_nil]
  omega
end Go.Proofs.YtmaaeemhbccpcaaGreatDoor
