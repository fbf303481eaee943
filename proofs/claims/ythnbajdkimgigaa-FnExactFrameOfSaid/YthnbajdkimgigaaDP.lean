/-
  The fewest pieces for each width: tables row by row; the counts that they lead to. No program here.
-/
import Derived.Test.YthnbajdkimgigaaG0
set_option linter.unusedSimpArgs false
set_option linter.unusedVariables false
namespace Go.Proofs.Ythnbajdkimgigaa
open Go.Ab

/-- One more number m of pieces is looked at: c is the best so far, r what the rest needs. -/
def upd (c r : Int) (m : Nat) : Int := if 0 ≤ r ∧ (c < 0 ∨ r + m < c) then r + m else c
/-- How many pieces of width w may be taken for width k, s being there. -/
def mst (w s k : Nat) : Nat := min s (k / w)
def cellF (p : List Int) (w k : Nat) (j : Nat) : Int := (List.range j).foldl (fun c m => upd c (p.getD (k - m * w) 0) m) (-1)
def cell (p : List Int) (w s k : Nat) : Int := cellF p w k (mst w s k + 1)
theorem cellF_succ (p : List Int) (w k j : Nat) : cellF p w k (j + 1) = upd (cellF p w k j) (p.getD (k - j * w) 0) j := by
  simp [cellF, List.range_succ, List.foldl_append]
def row0 (n : Nat) : List Int := 0 :: List.replicate n (-1)
def rowS (n : Nat) (p : List Int) (w s : Nat) : List Int := (List.range (n + 1)).map (cell p w s)
/-- The row for the first i kinds. -/
def rowF (ws st : List Int) (n : Nat) : Nat → List Int
  | 0 => row0 n
  | i + 1 => rowS n (rowF ws st n i) (ws.getD i 0).toNat (st.getD i 0).toNat
def tabF (ws st : List Int) (n : Nat) : List (List Int) := (List.range (ws.length + 1)).map (rowF ws st n)
theorem rowF_len (ws st : List Int) (n i : Nat) : (rowF ws st n i).length = n + 1 := by
  cases i <;> simp [rowF, row0, rowS]

theorem mst_le {w s k m : Nat} (hw : 0 < w) : m ≤ mst w s k ↔ m ≤ s ∧ m * w ≤ k := by
  unfold mst
  rw [Nat.le_min, Nat.le_div_iff_mul_le hw]

/-- No row holds more than its width. -/
def fitR (p : List Int) : Prop := ∀ k, k < p.length → -1 ≤ p.getD k 0 ∧ p.getD k 0 ≤ k
theorem cellF_fit {p : List Int} {w k : Nat} (hp : fitR p) (hw : 0 < w) (hk : k < p.length) : ∀ j, (∀ m, m < j → m * w ≤ k) → -1 ≤ cellF p w k j ∧ cellF p w k j ≤ k
  | 0, _ => by simp [cellF]; try omega
  | j + 1, h => by
    have ih := cellF_fit hp hw hk j (fun m hm => h m (by omega))
    have hj := h j (by omega)
    have hr := hp (k - j * w) (by omega)
    have hjw : j ≤ j * w := Nat.le_mul_of_pos_right j hw
    rw [cellF_succ, upd]
    split <;> omega
theorem rowF_fit {ws st : List Int} (hw : ∀ i, i < ws.length → 1 ≤ ws.getD i 0) (n : Nat) : ∀ i, i ≤ ws.length → fitR (rowF ws st n i)
  | 0, _ => by
    intro k hk
    cases k with
    | zero => simp [rowF, row0]
    | succ k =>
      simp [rowF, row0] at hk
      simp only [rowF, row0, List.getD_cons_succ]
      rw [List.getD_eq_getElem?_getD, List.getElem?_replicate, if_pos (by omega)]
      simp; omega
  | i + 1, hi => by
    intro k hk
    have ih := rowF_fit hw (st := st) n i (by omega)
    have h1 := hw i (by omega)
    rw [rowF_len] at hk
    simp only [rowF, rowS]
    rw [range_getD 0 _ _ _ hk]
    exact cellF_fit ih (by omega) (by rw [rowF_len]; exact hk) _ (fun m hm => ((mst_le (by omega)).1 (show m ≤ mst (ws.getD i 0).toNat (st.getD i 0).toNat k by omega)).2)
theorem rowF_succ_get (ws st : List Int) (n i k : Nat) (hk : k ≤ n) : (rowF ws st n (i + 1)).getD k 0 = cell (rowF ws st n i) (ws.getD i 0).toNat (st.getD i 0).toNat k := by
  simp only [rowF, rowS]
  rw [range_getD 0 _ _ _ (by omega)]

/-! The same with a great number where there are none. -/
def big (v : Int) : Int := if v < 0 then 1048576 else v
theorem big_upd {c r : Int} {m : Nat} (hc : -1 ≤ c ∧ c ≤ 100000) (hr : -1 ≤ r) (hrm : r + m ≤ 100000) : big (upd c r m) = (if big r + m < big c then big r + m else big c) := by
  unfold upd big
  by_cases h : 0 ≤ r ∧ (c < 0 ∨ r + m < c)
  · rw [if_pos h]
    repeat' split
    all_goals omega
  · rw [if_neg h]
    repeat' split
    all_goals omega

/-! The counts. -/
/-- The greatest number from m down that is good. -/
def dn (c : Nat → Bool) : Nat → Nat
  | 0 => 0
  | m + 1 => if c (m + 1) then m + 1 else dn c m
theorem dn_le (c : Nat → Bool) : ∀ m, dn c m ≤ m
  | 0 => Nat.le_refl _
  | m + 1 => by
    have := dn_le c m
    unfold dn; split <;> omega
theorem dn_t {c : Nat → Bool} {m : Nat} (h : c m = true) : dn c m = m := by cases m <;> simp [dn, h]
theorem dn_f {c : Nat → Bool} {m : Nat} (h : c (m + 1) = false) : dn c (m + 1) = dn c m := by simp [dn, h]
theorem dn_ok {c : Nat → Bool} : ∀ {m : Nat}, (∃ j, j ≤ m ∧ c j = true) → c (dn c m) = true
  | 0, ⟨j, hj, hc⟩ => by
    have : j = 0 := by omega
    subst this; exact hc
  | m + 1, ⟨j, hj, hc⟩ => by
    unfold dn
    split
    · assumption
    · rename_i h
      refine dn_ok ⟨j, ?_, hc⟩
      rcases Nat.lt_or_ge m j with h1 | h1
      · have : j = m + 1 := by omega
        subst this; exact absurd hc h
      · exact h1
/-- Is m a number of pieces of kind i with which the fewest pieces for width k are reached? -/
def gd (ws st : List Int) (n i k : Nat) (m : Nat) : Bool :=
  decide (0 ≤ (rowF ws st n i).getD (k - m * (ws.getD i 0).toNat) 0) && decide ((rowF ws st n i).getD (k - m * (ws.getD i 0).toNat) 0 + m = (rowF ws st n (i + 1)).getD k 0)
def pk (ws st : List Int) (n i k : Nat) : Nat := dn (gd ws st n i k) (mst (ws.getD i 0).toNat (st.getD i 0).toNat k)
theorem cellF_hit {p : List Int} {w k : Nat} : ∀ j, 0 ≤ cellF p w k j → ∃ m, m < j ∧ 0 ≤ p.getD (k - m * w) 0 ∧ p.getD (k - m * w) 0 + m = cellF p w k j
  | 0, h => by simp [cellF] at h
  | j + 1, h => by
    rw [cellF_succ, upd] at h ⊢
    split
    · rename_i hc
      exact ⟨j, by omega, hc.1, rfl⟩
    · rename_i hc
      rw [if_neg hc] at h
      obtain ⟨m, hm, h1, h2⟩ := cellF_hit j h
      exact ⟨m, by omega, h1, h2⟩
theorem pk_le (ws st : List Int) (n i k : Nat) : pk ws st n i k ≤ mst (ws.getD i 0).toNat (st.getD i 0).toNat k := dn_le _ _
theorem pk_gd {ws st : List Int} {n i k : Nat} (hk : k ≤ n) (h : 0 ≤ (rowF ws st n (i + 1)).getD k 0) : gd ws st n i k (pk ws st n i k) = true := by
  refine dn_ok ?_
  rw [rowF_succ_get _ _ _ _ _ hk] at h
  obtain ⟨m, hm, h1, h2⟩ := cellF_hit _ h
  refine ⟨m, by omega, ?_⟩
  simp only [gd, Bool.and_eq_true, decide_eq_true_eq]
  refine ⟨h1, ?_⟩
  rw [rowF_succ_get _ _ _ _ _ hk]
  exact h2
/-- What is left when kind i has been taken. -/
def lf (ws st : List Int) (n i k : Nat) : Nat := k - pk ws st n i k * (ws.getD i 0).toNat
theorem lf_pos {ws st : List Int} {n i k : Nat} (hk : k ≤ n) (h : 0 ≤ (rowF ws st n (i + 1)).getD k 0) : 0 ≤ (rowF ws st n i).getD (lf ws st n i k) 0 := by
  have := pk_gd hk h
  simp only [gd, Bool.and_eq_true, decide_eq_true_eq] at this
  exact this.1
/-- The counts of the first i kinds for width k. -/
def bs (ws st : List Int) (n : Nat) : Nat → Nat → List Int
  | 0, _ => []
  | i + 1, k => bs ws st n i (lf ws st n i k) ++ [(pk ws st n i k : Int)]
theorem bs_len (ws st : List Int) (n : Nat) : ∀ i k, (bs ws st n i k).length = i
  | 0, _ => rfl
  | i + 1, k => by simp [bs, bs_len ws st n i]
def hasB (ws st : List Int) (n : Nat) : Bool := decide (0 ≤ (rowF ws st n ws.length).getD n 0)
def bestL (ws st : List Int) (n : Nat) : List Int := bs ws st n ws.length n
end Go.Proofs.Ythnbajdkimgigaa
