/-
  Lines: what is computed. No program here.
-/
import Derived.Test.YtpkbblcnaecopaaG0
set_option linter.unusedSimpArgs false
set_option linter.unusedVariables false
namespace Go.Proofs.Ytpkbblcnaecopaa
open Go.Ab

def ruleB (r : List Int) : Bool := decide (1 ≤ r.getD 0 0) && decide (r.getD 0 0 ≤ r.getD 1 0) && decide (r.getD 1 0 ≤ r.getD 2 0) && decide (r.getD 2 0 ≤ 54)
def lineB (l : List Int) : Bool := inR l.length 1 20 && allR l 1 600
def askB (l r : List Int) (m : Int) : Bool := lineB l && ruleB r && inR m 1 2000
def natB (l r : List Int) : Bool := lineB l && ruleB r
def gap (l : List Int) : Int := w64 (l.length - 1)
def wid (l : List Int) (x : Int) : Int := w64 (sumF l 0 + w64 (gap l * x))
def natV (l r : List Int) : Int := if natB l r then wid l (r.getD 1 0) else 0
def lowV (l r : List Int) : Int := if natB l r then wid l (r.getD 0 0) else 0
def highV (l r : List Int) : Int := if natB l r then wid l (r.getD 2 0) else 0
def lft (l : List Int) (m : Int) : Int := w64 (m - sumF l 0)
def fitB (l r : List Int) (m : Int) : Bool := decide (w64 (gap l * r.getD 0 0) ≤ lft l m) && decide (lft l m ≤ w64 (gap l * r.getD 2 0))
def spc (g lf : Int) (i : Nat) : Int := if (i : Int) < lf.tmod g then w64 (w64 (lf.tdiv g) + 1) else w64 (lf.tdiv g)
def spL (l : List Int) (m : Int) : List Int := (List.range (gap l).toNat).map fun i => spc (gap l) (lft l m) i
def fitL (l r : List Int) (m : Int) : List Int := if fitB l r m then spL l m else []
def justB (l r : List Int) (m : Int) : Bool := askB l r m && fitB l r m
def justL (l r : List Int) (m : Int) : List Int := if justB l r m then spL l m else []
def why (l r : List Int) (m : Int) : Int :=
  if fitB l r m then 0 else if gap l = 0 then 3 else if lft l m < w64 (gap l * r.getD 0 0) then 1 else 2
def whyV (l r : List Int) (m : Int) : Int := if askB l r m then why l r m else 0
def nfC (l r : List Int) (m : Int) (n : Nat) : Bool := decide ((n : Int) < l.length) && decide (w64 (sumF (l.take (n + 1)) 0 + w64 (n * r.getD 0 0)) ≤ m)
def nfV (l r : List Int) (m : Int) : Int := if askB l r m then wh (nfC l r m) (l.length + 1) 0 else 0
def sq (r : List Int) (s : Int) : Int := w64 (w64 (s - r.getD 1 0) * w64 (s - r.getD 1 0))
def costF (l r : List Int) : Int := l.foldl (fun q s => w64 (q + sq r s)) 0
def costL (l r : List Int) (m : Int) : Int := costF (spL l m) r
def costV (l r : List Int) (m : Int) : Int := if justB l r m then costL l r m else 0

/-- The measures from n on: the first with the least cost. -/
def bmS (l r : List Int) (n : Int) (b : Option Int) : Option Int :=
  if fitB l r n then match b with | none => some n | some m => if costL l r n < costL l r m then some n else some m else b
def bmF (l r : List Int) : Nat → Int → Option Int → Option Int
  | 0, _, b => b
  | k + 1, n, b => bmF l r k (n + 1) (bmS l r n b)
def bmB (l r : List Int) (a z : Int) : Bool := askB l r a && inR z 1 2000
def bm (l r : List Int) (a z : Int) : Option Int := if bmB l r a z then bmF l r (z + 1 - a).toNat a none else none
def bmV (l r : List Int) (a z : Int) : Int := (bm l r a z).getD 0
def bmO (l r : List Int) (a z : Int) : Bool := (bm l r a z).isSome

theorem lineB_len {l : List Int} (h : lineB l = true) : 1 ≤ l.length ∧ l.length ≤ 20 := by
  simp only [lineB, Bool.and_eq_true, inR_iff] at h; omega
theorem lineB_gap {l : List Int} (h : lineB l = true) : gap l = (l.length : Int) - 1 := by
  have := lineB_len h
  exact w64_id (by omega)
theorem lineB_sum {l : List Int} (h : lineB l = true) : 0 ≤ sumF l 0 ∧ sumF l 0 ≤ 12000 := by
  have hl := lineB_len h
  simp only [lineB, Bool.and_eq_true] at h
  have h2 : allR l 0 600 = true := by
    have h3 := h.2
    simp only [allR, List.all_eq_true, inR_iff] at h3 ⊢
    intro x hx
    have := h3 x hx
    omega
  have := sumF_bd l 0 0 600 h2 (by omega) (by omega) (by omega) (by omega) (by omega) (by omega)
  omega
theorem ruleB_iff {r : List Int} : ruleB r = true ↔ 1 ≤ r.getD 0 0 ∧ r.getD 0 0 ≤ r.getD 1 0 ∧ r.getD 1 0 ≤ r.getD 2 0 ∧ r.getD 2 0 ≤ 54 := by
  simp [ruleB]; omega
theorem gap_mul {l : List Int} (h : lineB l = true) {x : Int} (hx : 0 ≤ x ∧ x ≤ 54) : w64 (gap l * x) = gap l * x ∧ 0 ≤ gap l * x ∧ gap l * x ≤ 1026 := by
  have h1 := lineB_gap h
  have h2 := lineB_len h
  have h3 : 0 ≤ gap l * x := Int.mul_nonneg (by omega) hx.1
  have h4 : gap l * x ≤ 19 * 54 := Int.mul_le_mul (by omega) hx.2 hx.1 (by omega)
  exact ⟨w64_id (by omega), h3, by omega⟩
theorem lft_eq {l : List Int} (h : lineB l = true) {m : Int} (hm : 1 ≤ m ∧ m ≤ 2000) : lft l m = m - sumF l 0 := by
  have := lineB_sum h
  exact w64_id (by omega)
theorem spc_bd {l r : List Int} (h : lineB l = true) (hr : ruleB r = true) {m : Int} (hm : 1 ≤ m ∧ m ≤ 2000) (hf : fitB l r m = true) (hg : gap l ≠ 0) (i : Nat) : 0 ≤ spc (gap l) (lft l m) i ∧ spc (gap l) (lft l m) i ≤ 2001 := by
  have h1 := lineB_gap h
  have h2 := lineB_len h
  have h3 := lft_eq h hm
  have h4 := lineB_sum h
  have hr := ruleB_iff.1 hr
  simp only [fitB, Bool.and_eq_true, decide_eq_true_eq] at hf
  have g1 := gap_mul h (x := r.getD 0 0) (by omega)
  have e1 : 0 ≤ (lft l m).tdiv (gap l) := Int.tdiv_nonneg (by omega) (by omega)
  have e2 : (lft l m).tdiv (gap l) ≤ lft l m := by
    rw [Int.tdiv_eq_ediv_of_nonneg (by omega)]
    exact Int.ediv_le_self _ (by omega)
  have e3 : w64 ((lft l m).tdiv (gap l)) = (lft l m).tdiv (gap l) := w64_id (by omega)
  unfold spc
  rw [e3]
  split
  · rw [w64_id (by omega)]; omega
  · omega
theorem costF_nn : ∀ (l r : List Int) (q : Int), ruleB r = true → (∀ x ∈ l, 0 ≤ x ∧ x ≤ 2001) → 0 ≤ q → q + 5000000 * l.length ≤ 1000000000000 → 0 ≤ l.foldl (fun q s => w64 (q + sq r s)) q
  | [], _, q, _, _, h, _ => h
  | x :: l, r, q, hr, hx, h, hq => by
    have hr' := ruleB_iff.1 hr
    have h1 := hx x (by simp)
    have e1 : w64 (x - r.getD 1 0) = x - r.getD 1 0 := w64_id (by omega)
    have e2 : 0 ≤ (x - r.getD 1 0) * (x - r.getD 1 0) := by
      rcases Int.le_total 0 (x - r.getD 1 0) with h | h
      · exact Int.mul_nonneg h h
      · exact Int.mul_nonneg_of_nonpos_of_nonpos h h
    have e3 : (x - r.getD 1 0) * (x - r.getD 1 0) ≤ 2001 * 2001 := by
      rcases Int.le_total 0 (x - r.getD 1 0) with h | h
      · exact Int.mul_le_mul (by omega) (by omega) h (by omega)
      · have : (x - r.getD 1 0) * (x - r.getD 1 0) = (r.getD 1 0 - x) * (r.getD 1 0 - x) := by
          rw [← Int.neg_mul_neg, Int.neg_sub]
        rw [this]
        exact Int.mul_le_mul (by omega) (by omega) (by omega) (by omega)
    have e4 : sq r x = (x - r.getD 1 0) * (x - r.getD 1 0) := by
      unfold sq; rw [e1]; exact w64_id (by omega)
    simp only [List.length_cons] at hq
    simp only [List.foldl_cons]
    refine costF_nn l r _ hr (fun y hy => hx y (by simp [hy])) ?_ ?_
    · rw [e4, w64_id (by omega)]; omega
    · rw [e4, w64_id (by omega)]; omega
theorem costL_nn {l r : List Int} {m : Int} (h : askB l r m = true) (hf : fitB l r m = true) : 0 ≤ costL l r m := by
  simp only [askB, Bool.and_eq_true, inR_iff] at h
  have h1 := lineB_gap h.1.1
  have h2 := lineB_len h.1.1
  refine costF_nn _ _ _ h.1.2 (fun x hx => ?_) (by omega) ?_
  · simp only [spL, List.mem_map, List.mem_range] at hx
    obtain ⟨i, hi, rfl⟩ := hx
    exact spc_bd h.1.1 h.1.2 h.2 hf (by omega) i
  · simp [spL]; omega
theorem bm_ask {l r : List Int} {m n : Int} (h : askB l r m = true) (hn : 1 ≤ n ∧ n ≤ 2000) : askB l r n = true := by
  simp only [askB, Bool.and_eq_true, inR_iff] at h ⊢
  exact ⟨h.1, hn⟩
theorem why_eq {l r : List Int} {m : Int} (h : askB l r m = true) :
    why l r m = if fitB l r m then 0 else if (l.length : Int) = 1 then 3 else if m < wid l (r.getD 0 0) then 1 else 2 := by
  simp only [askB, Bool.and_eq_true, inR_iff] at h
  have h1 := lineB_gap h.1.1
  have h2 := lineB_sum h.1.1
  have h3 := ruleB_iff.1 h.1.2
  have h4 := gap_mul h.1.1 (x := r.getD 0 0) (by omega)
  have h5 := lft_eq h.1.1 h.2
  have e : wid l (r.getD 0 0) = sumF l 0 + gap l * r.getD 0 0 := by unfold wid; rw [h4.1]; exact w64_id (by omega)
  unfold why
  rw [e, h4.1, h5]
  by_cases c1 : fitB l r m = true
  · simp [c1]
  · by_cases c2 : gap l = 0
    · have : (l.length : Int) = 1 := by omega
      simp [c1, c2, this]
    · have c4 : ¬ (l.length : Int) = 1 := by omega
      rw [if_neg c1, if_neg c1, if_neg c2, if_neg c4]
      by_cases c3 : m - sumF l 0 < gap l * r.getD 0 0
      · rw [if_pos c3, if_pos (by omega)]
      · rw [if_neg c3, if_neg (by omega)]

structure Sp extends Sb where
  ruleB : List Int → Bool
  lineB : List Int → Bool
  askB : List Int → List Int → Int → Bool
  natB : List Int → List Int → Bool
  natV : List Int → List Int → Int
  lowV : List Int → List Int → Int
  highV : List Int → List Int → Int
  fitB : List Int → List Int → Int → Bool
  fitL : List Int → List Int → Int → List Int
  spL : List Int → Int → List Int
  justB : List Int → List Int → Int → Bool
  justL : List Int → List Int → Int → List Int
  why : List Int → List Int → Int → Int
  whyV : List Int → List Int → Int → Int
  nfV : List Int → List Int → Int → Int
  costF : List Int → List Int → Int
  costL : List Int → List Int → Int → Int
  costV : List Int → List Int → Int → Int
  bmB : List Int → List Int → Int → Int → Bool
  bmV : List Int → List Int → Int → Int → Int
  bmO : List Int → List Int → Int → Int → Bool
  r3 : List Int → Prop
def sp : Sp := { sb with ruleB := ruleB, lineB := lineB, askB := askB, natB := natB, natV := natV, lowV := lowV, highV := highV, fitB := fitB, fitL := fitL, spL := spL, justB := justB, justL := justL, why := why, whyV := whyV, nfV := nfV, costF := costF, costL := costL, costV := costV, bmB := bmB, bmV := bmV, bmO := bmO, r3 := fun r => r.length = 3 }
end Go.Proofs.Ytpkbblcnaecopaa
