/-
  The number's decimal text; a stock's text: in plain words. No program here.
-/
import Derived.Test.YtdkpncnkhnmidaaDoorR1
import Derived.Lib.AppendIntMem
import Derived.Lib.ItoaLen
set_option linter.unusedSimpArgs false
set_option linter.unusedVariables false
namespace Go.Proofs.YtdkpncnkhnmidaaDoor
open Go.Ab

def decS (n : Int) : List UInt8 := Lib.itoa n
theorem decS_small {n : Int} (h0 : 0 ≤ n) (h : n < 10) : decS n = [UInt8.ofNat (48 + n).toNat] := by
  rw [decS, Lib.itoa, if_neg (by omega), Lib.decDigits_one (by omega)]
  congr 2
  omega
theorem decS_big {n : Int} (h0 : 10 ≤ n) : decS n = decS (n / 10) ++ [UInt8.ofNat (48 + n % 10).toNat] := by
  rw [decS, decS, Lib.itoa, Lib.itoa, if_neg (by omega), if_neg (by omega), Lib.decDigits, dif_neg (by omega)]
  have e1 : n.toNat / 10 = (n / 10).toNat := by omega
  have e2 : 48 + n.toNat % 10 = (48 + n % 10).toNat := by omega
  rw [e1, e2]

def slT (x : List Int) : List UInt8 := decS (x.getD 1 0) ++ [120] ++ decS (x.getD 0 0) ++ [32]
def txS (l : List (List Int)) : List UInt8 := l.flatMap slT

theorem txS_succ (l : List (List Int)) (i : Nat) (h : i < l.length) : txS (l.take (i + 1)) = txS (l.take i) ++ slT (l.getD i []) := by
  rw [take_getD [] l i h, txS, List.flatMap_append]; simp [txS]
theorem txS_len {l : List (List Int)} (h : stB l = true) : ∀ i, i ≤ l.length → (txS (l.take i)).length ≤ 44 * i
  | 0, _ => by simp [txS]
  | i + 1, hi => by
    have hb := stB_at h (i := i) (by omega)
    have ih := txS_len h i (by omega)
    have l0 := Lib.itoa_length_le ((l.getD i []).getD 0 0) (by simp only [fL] at hb; omega) (by simp only [fL] at hb; omega)
    have l1 := Lib.itoa_length_le ((l.getD i []).getD 1 0) (by simp only [fC] at hb; omega) (by simp only [fC] at hb; omega)
    rw [txS_succ l i (by omega), List.length_append]
    simp only [slT, decS, List.length_append, List.length_cons, List.length_nil]
    omega
end Go.Proofs.YtdkpncnkhnmidaaDoor
