/-
  Hyphens: what a pattern says. No program here.
-/
import Derived.Test.YtcbfpkdcgbkfaaaDoorG0
set_option linter.unusedSimpArgs false
set_option linter.unusedVariables false
namespace Go.Proofs.YtcbfpkdcgbkfaaaDoor
open Go.Ab

def pStep (o : Option (List UInt8 × List Int)) (c : UInt8) : Option (List UInt8 × List Int) :=
  match o with
  | none => none
  | some (L, V) =>
    if 97 ≤ (c.toNat : Int) ∧ (c.toNat : Int) ≤ 122 then some (L ++ [c], V ++ [0])
    else if (49 ≤ (c.toNat : Int) ∧ (c.toNat : Int) ≤ 57) ∧ V.getD (V.length - 1) 0 = 0 then some (L, V.set (V.length - 1) ((c.toNat : Int) - 48))
    else none
def patF (p : List UInt8) : Option (List UInt8 × List Int) := p.foldl pStep (some ([], [0]))
theorem pStep_none (p : List UInt8) : p.foldl pStep none = none := by
  induction p with
  | nil => rfl
  | cons c p ih => rw [List.foldl_cons]; exact ih
def posB (V : List Int) : Bool := V.any fun v => decide (0 < v)
def patL (p : List UInt8) : List UInt8 := match patF p with | some x => x.1 | none => []
def patV (p : List UInt8) : List Int := match patF p with | some x => x.2 | none => []
def patB (p : List UInt8) : Bool := match patF p with | some x => posB x.2 && inR x.1.length 1 6 | none => false
theorem posB_app (V : List Int) : posB (V ++ [0]) = posB V := by simp [posB]
theorem posB_set (V : List Int) (i : Nat) (v : Int) (hi : i < V.length) (hv : 0 < v) : posB (V.set i v) = true := by
  simp only [posB, List.any_eq_true, decide_eq_true_eq]
  exact ⟨v, List.mem_set hi v, hv⟩
def smV (V : List Int) : Prop := ∀ v ∈ V, 0 ≤ v ∧ v ≤ 9
theorem smV_app {V : List Int} (h : smV V) : smV (V ++ [0]) := by
  intro v hv
  rcases List.mem_append.1 hv with h1 | h1
  · exact h v h1
  · simp at h1; omega
theorem smV_set {V : List Int} (h : smV V) (i : Nat) {x : Int} (hx : 0 ≤ x ∧ x ≤ 9) : smV (V.set i x) := by
  intro v hv
  rcases List.mem_or_eq_of_mem_set hv with h1 | h1
  · exact h v h1
  · omega
theorem sumF_pos : ∀ (V : List Int) (q : Int), smV V → 0 ≤ q → q + 9 * V.length ≤ 1000000000 → decide (0 < sumF V q) = (decide (0 < q) || posB V)
  | [], q, _, _, _ => by
    have : posB [] = false := rfl
    rw [this, Bool.or_false]; rfl
  | v :: V, q, h, hq, hb => by
    have hv := h v (by simp)
    have hw : w64 (q + v) = q + v := w64_id (by simp at hb; omega)
    have ih := sumF_pos V (q + v) (fun x hx => h x (by simp [hx])) (by omega) (by simp at hb; omega)
    have e : sumF (v :: V) q = sumF V (q + v) := by rw [sumF, List.foldl_cons, hw]; rfl
    have e2 : posB (v :: V) = (decide (0 < v) || posB V) := rfl
    have : decide (0 < q + v) = (decide (0 < q) || decide (0 < v)) := by
      rw [← Bool.decide_or, decide_eq_decide]; omega
    rw [e, ih, this, e2, Bool.or_assoc]
theorem pS_let {L : List UInt8} {V : List Int} {c : UInt8} (h : (97 : Int) ≤ (c.toNat : Int) ∧ (c.toNat : Int) ≤ 122) : pStep (some (L, V)) c = some (L ++ [c], V ++ [0]) := by
  simp only [pStep]; rw [if_pos h]
theorem pS_dig {L : List UInt8} {V : List Int} {c : UInt8} (h : (49 : Int) ≤ (c.toNat : Int) ∧ (c.toNat : Int) ≤ 57) (h0 : V.getD (V.length - 1) 0 = 0) : pStep (some (L, V)) c = some (L, V.set (V.length - 1) ((c.toNat : Int) - 48)) := by
  simp only [pStep]; rw [if_neg (by omega), if_pos ⟨h, h0⟩]
theorem pS_no {L : List UInt8} {V : List Int} {c : UInt8} (h : ¬ ((97 : Int) ≤ (c.toNat : Int) ∧ (c.toNat : Int) ≤ 122)) (h0 : ¬ (((49 : Int) ≤ (c.toNat : Int) ∧ (c.toNat : Int) ≤ 57) ∧ V.getD (V.length - 1) 0 = 0)) : pStep (some (L, V)) c = none := by
  simp only [pStep]; rw [if_neg h, if_neg h0]
theorem pat_end {p : List UInt8} {i : Nat} {L : List UInt8} {V : List Int} (h : patF p = (p.drop i).foldl pStep (some (L, V))) (hi : p.length ≤ i) : patF p = some (L, V) := by
  rw [h, List.drop_of_length_le hi]; rfl
theorem pat_step {p : List UInt8} {i : Nat} {o o' : Option (List UInt8 × List Int)} (h : patF p = (p.drop i).foldl pStep o) (hi : i < p.length) (e : pStep o (p.getD i 0) = o') : patF p = (p.drop (i + 1)).foldl pStep o' := by
  rw [h, drop_getD 0 p i hi, List.foldl_cons, e]
theorem pat_none {p : List UInt8} {i : Nat} {o : Option (List UInt8 × List Int)} (h : patF p = (p.drop i).foldl pStep o) (hi : i < p.length) (e : pStep o (p.getD i 0) = none) : patF p = none := by
  rw [pat_step h hi e, pStep_none]
theorem take_one (p : List UInt8) {i : Nat} (hi : i < p.length) : (p.take (i + 1)).drop i = [p.getD i 0] := by
  rw [List.drop_take, show i + 1 - i = 1 by omega, drop_getD 0 p i hi]; rfl
theorem wu8 (n : Int) : IntKind.wrap .u8 n = n % 256 := by simp [IntKind.wrap, IntKind.bits, IntKind.signed]
theorem byte_lt (c : UInt8) : (c.toNat : Int) < 256 := by have := c.toNat_lt; omega
end Go.Proofs.YtcbfpkdcgbkfaaaDoor
