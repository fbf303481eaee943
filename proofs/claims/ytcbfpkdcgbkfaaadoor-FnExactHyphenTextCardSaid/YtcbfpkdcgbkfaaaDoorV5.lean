/-
  Hyphens in words: the values between the letters.
-/
import Derived.Test.YtcbfpkdcgbkfaaaDoorV4
set_option linter.unusedSimpArgs false
set_option linter.unusedVariables false
namespace Go.Proofs.YtcbfpkdcgbkfaaaDoor
open Go.Ab Go.RowKit

def vS (V : List Int) (a : Nat) (o : List Int) (k : Nat) : List Int :=
  if inR ((a : Int) + k - 1) 0 ((o.length : Int) - 1) then o.set (a + k - 1) (mst (o.getD (a + k - 1) 0) (V.getD k 0)) else o
def vI (V : List Int) (a : Nat) (o : List Int) (n : Nat) : List Int := (List.range n).foldl (vS V a) o
theorem vI_succ (V : List Int) (a : Nat) (o : List Int) (n : Nat) : vI V a o (n + 1) = vS V a (vI V a o n) n := by
  simp [vI, List.range_succ, List.foldl_append]
def vA (w p : List UInt8) (o : List Int) (a : Nat) : List Int := if (patL p).isPrefixOf (w.drop a) then vI (patV p) a o (patV p).length else o
def vP (w p : List UInt8) (o : List Int) (n : Nat) : List Int := (List.range n).foldl (vA w p) o
theorem vP_succ (w p : List UInt8) (o : List Int) (n : Nat) : vP w p o (n + 1) = vA w p (vP w p o n) n := by
  simp [vP, List.range_succ, List.foldl_append]
def vals (ps : List (List UInt8)) (w : List UInt8) : List Int := ps.foldl (fun o p => vP w p o w.length) (List.replicate (w.length - 1) 0)
theorem vS_len (V : List Int) (a : Nat) (o : List Int) (k : Nat) : (vS V a o k).length = o.length := by unfold vS; split <;> simp
theorem vI_len (V : List Int) (a : Nat) (o : List Int) : ∀ n, (vI V a o n).length = o.length
  | 0 => rfl
  | n + 1 => by rw [vI_succ, vS_len, vI_len]
theorem vA_len (w p : List UInt8) (o : List Int) (a : Nat) : (vA w p o a).length = o.length := by unfold vA; split <;> simp [vI_len]
theorem vP_len (w p : List UInt8) (o : List Int) : ∀ n, (vP w p o n).length = o.length
  | 0 => rfl
  | n + 1 => by rw [vP_succ, vA_len, vP_len]
theorem vals_len (ps : List (List UInt8)) (w : List UInt8) : (vals ps w).length = w.length - 1 := by
  have : ∀ (ps : List (List UInt8)) (o : List Int), (ps.foldl (fun o p => vP w p o w.length) o).length = o.length := by
    intro ps
    induction ps with
    | nil => intro o; rfl
    | cons p ps ih => intro o; rw [List.foldl_cons, ih, vP_len]
  rw [vals, this]; simp
theorem mx_mst (a b : Int) : (if b > a then b else a) = mst a b := by
  unfold mst
  by_cases h : b < a
  · rw [if_neg (by omega), if_pos h]
  · rw [if_neg h]
    by_cases h2 : b > a
    · rw [if_pos h2]
    · rw [if_neg h2]; omega
/-- Behind the last place where the letters may stand nothing is written. -/
theorem vP_end (w p : List UInt8) (o : List Int) (n : Nat) (h1 : 1 ≤ (patL p).length) (h : w.length < n + (patL p).length) : ∀ m, n ≤ m → vP w p o m = vP w p o n
  | 0, hm => by rw [show n = 0 by omega]
  | m + 1, hm => by
    by_cases e : n = m + 1
    · rw [e]
    · rw [vP_succ, vA, if_neg, vP_end w p o n h1 h m (by omega)]
      intro hp
      have := (List.isPrefixOf_iff_prefix.1 hp).length_le
      rw [List.length_drop] at this
      omega
theorem pat_len {p : List UInt8} (h : patB p = true) : 1 ≤ (patL p).length ∧ (patL p).length ≤ 6 := by
  unfold patB at h
  unfold patL
  split at h
  · rename_i x hx
    simp only [Bool.and_eq_true, inR_iff] at h
    omega
  · cases h
theorem pStep_len : ∀ (q : List UInt8) (o : Option (List UInt8 × List Int)), (∀ x, o = some x → x.2.length = x.1.length + 1) → ∀ x, q.foldl pStep o = some x → x.2.length = x.1.length + 1
  | [], o, h, x, hx => h x hx
  | c :: q, o, h, x, hx => by
    refine pStep_len q (pStep o c) ?_ x hx
    intro y hy
    cases o with
    | none => cases hy
    | some z =>
      obtain ⟨Lz, Vz⟩ := z
      have hz := h _ rfl
      simp only at hz
      unfold pStep at hy
      simp only at hy
      split at hy
      · cases hy; simp [hz]
      · split at hy
        · cases hy; simpa using hz
        · cases hy
theorem patV_len {p : List UInt8} (h : patB p = true) : (patV p).length = (patL p).length + 1 := by
  unfold patB at h
  unfold patL patV
  split at h
  · rename_i x hx
    exact pStep_len p _ (fun y hy => by cases hy; rfl) x hx
  · cases h
end Go.Proofs.YtcbfpkdcgbkfaaaDoor
