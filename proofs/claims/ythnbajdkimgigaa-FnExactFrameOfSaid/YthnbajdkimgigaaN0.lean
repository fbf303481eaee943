/-
  Rules one after the other: what is computed. No program here.
-/
import Derived.Test.YthnbajdkimgigaaR5
set_option linter.unusedSimpArgs false
set_option linter.unusedVariables false
namespace Go.Proofs.Ythnbajdkimgigaa
open Go.Ab

theorem bs_bd (ws st : List Int) (n : Nat) : ∀ (i k x : Nat), x < i → 0 ≤ (bs ws st n i k).getD x 0 ∧ (bs ws st n i k).getD x 0 ≤ ((st.getD x 0).toNat : Int)
  | 0, k, x, h => by omega
  | i + 1, k, x, h => by
    have hl := bs_len ws st n i (lf ws st n i k)
    by_cases hx : x < i
    · have := bs_bd ws st n i (lf ws st n i k) x hx
      rw [bs, List.getD_eq_getElem?_getD, List.getElem?_append_left (by omega), ← List.getD_eq_getElem?_getD]
      exact this
    · have hx : x = i := by omega
      subst hx
      have hp := pk_le ws st n x k
      have : mst (ws.getD x 0).toNat (st.getD x 0).toNat k ≤ (st.getD x 0).toNat := Nat.min_le_left _ _
      rw [bs, List.getD_eq_getElem?_getD, List.getElem?_append_right (by omega), hl]
      simp
      simp only [List.getD_eq_getElem?_getD] at *
      omega
/-- The counts of one rule; what is left. -/
def bstS (l : List (List Int)) (n : Int) : List Int := bestL (lsL l) (csL l) n.toNat
def nxS (l : List (List Int)) (n : Int) : List (List Int) := rsL l (bstS l n)
theorem bstS_len (l : List (List Int)) (n : Int) : (bstS l n).length = l.length := by rw [bstS, bestL, bs_len, lsL_len]
theorem bstS_bd {l : List (List Int)} {n : Int} {x : Nat} (hx : x < l.length) : 0 ≤ (bstS l n).getD x 0 ∧ (bstS l n).getD x 0 ≤ ((fC l x).toNat : Int) := by
  have := bs_bd (lsL l) (csL l) n.toNat (lsL l).length n.toNat x (by rw [lsL_len]; exact hx)
  rw [csL_get l hx] at this
  exact this
theorem nxS_len (l : List (List Int)) (n : Int) : (nxS l n).length = l.length := by
  rw [nxS, rsL, List.length_append, range_len, List.length_drop, bstS_len]; omega
theorem nxS_get {l : List (List Int)} {n : Int} {i : Nat} (hi : i < l.length) : (nxS l n).getD i [] = rsX l (bstS l n) i := by
  rw [nxS, rsL, List.getD_eq_getElem?_getD, List.getElem?_append_left (by rw [range_len, bstS_len]; exact hi), ← List.getD_eq_getElem?_getD, range_getD _ _ _ _ (by rw [bstS_len]; exact hi)]
theorem okS_nx {l : List (List Int)} {n : Int} (h : okS l) : okS (nxS l n) := by
  refine ⟨by rw [nxS_len]; exact h.1, fun i hi => ?_⟩
  rw [nxS_len] at hi
  obtain ⟨h1, h2⟩ := h.2 i hi
  have hb := bstS_bd (n := n) hi
  have hw : w64 (fC l i - (bstS l n).getD i 0) = fC l i - (bstS l n).getD i 0 := w64_id (by omega)
  have e1 : fL (nxS l n) i = fL l i := by
    unfold fL
    rw [nxS_get hi, rsX]
    simp [List.getD_eq_getElem?_getD, List.getElem?_set]
  refine ⟨by rw [e1]; exact h1, ?_⟩
  have e2 : fC (nxS l n) i = fC l i - (bstS l n).getD i 0 ∨ fC (nxS l n) i = 0 := by
    show ((nxS l n).getD i []).getD 1 0 = _ ∨ ((nxS l n).getD i []).getD 1 0 = _
    rw [nxS_get hi, rsX, hw]
    by_cases hlen : 1 < (l.getD i []).length
    · left
      rw [List.getD_eq_getElem?_getD, List.getElem?_set, if_pos rfl, if_pos hlen]
      rfl
    · right
      rw [List.getD_eq_getElem?_getD, List.getElem?_eq_none (by rw [List.length_set]; omega)]
      rfl
  rcases e2 with e2 | e2 <;> rw [e2] <;> omega
/-- The counts of rules one after the other; nothing if one cannot be made. -/
def ruA : List (List Int) → List Int → Option (List (List Int))
  | _, [] => some []
  | l, n :: ns => if hasS l n.toNat then (ruA (nxS l n) ns).map (bstS l n :: ·) else none
theorem ruA_drop (l : List (List Int)) (ns : List Int) (i : Nat) (h : i < ns.length) : ruA l (ns.drop i) = if hasS l (ns.getD i 0).toNat then (ruA (nxS l (ns.getD i 0)) (ns.drop (i + 1))).map (bstS l (ns.getD i 0) :: ·) else none := by
  rw [drop_getD 0 ns i h]; rfl
theorem ruA_len : ∀ (ns : List Int) (l : List (List Int)) (r : List (List Int)), ruA l ns = some r → r.length = ns.length ∧ ∀ x ∈ r, x.length = l.length
  | [], l, r, h => by simp [ruA] at h; subst h; simp
  | n :: ns, l, r, h => by
    rw [ruA] at h
    split at h
    · cases hr : ruA (nxS l n) ns with
      | none => rw [hr] at h; cases h
      | some q =>
        rw [hr] at h
        simp at h
        subst h
        obtain ⟨h1, h2⟩ := ruA_len ns (nxS l n) q hr
        refine ⟨by simp [h1], fun x hx => ?_⟩
        rcases List.mem_cons.1 hx with rfl | hx
        · exact bstS_len _ _
        · rw [h2 x hx, nxS_len]
    · cases h
/-- Is it reached, from what is there already? -/
def ruC (l : List (List Int)) (ns : List Int) (lk : List (List Int)) (out : List (List Int)) (j : Nat) : Prop := ruA l ns = (ruA lk (ns.drop j)).map (out ++ ·)
theorem ruC_0 (l : List (List Int)) (ns : List Int) : ruC l ns l [] 0 := by
  unfold ruC
  rw [List.drop_zero]
  cases ruA l ns <;> rfl
theorem ruC_y {l : List (List Int)} {ns : List Int} {lk out : List (List Int)} {j : Nat} (h : ruC l ns lk out j) (hj : j < ns.length) (hy : hasS lk (ns.getD j 0).toNat = true) : ruC l ns (nxS lk (ns.getD j 0)) (out ++ [bstS lk (ns.getD j 0)]) (j + 1) := by
  unfold ruC at *
  rw [h, ruA_drop _ _ _ hj, if_pos hy]
  cases ruA (nxS lk (ns.getD j 0)) (ns.drop (j + 1)) with
  | none => rfl
  | some q => simp
theorem ruC_n {l : List (List Int)} {ns : List Int} {lk out : List (List Int)} {j : Nat} (h : ruC l ns lk out j) (hj : j < ns.length) (hy : hasS lk (ns.getD j 0).toNat = false) : ruA l ns = none := by
  unfold ruC at *
  rw [h, ruA_drop _ _ _ hj, hy]; rfl
theorem ruC_e {l : List (List Int)} {ns : List Int} {lk out : List (List Int)} {j : Nat} (h : ruC l ns lk out j) (hj : ns.length ≤ j) : ruA l ns = some out := by
  unfold ruC at *
  rw [h, List.drop_of_length_le hj]; simp [ruA]
def ruB (l : List (List Int)) (ns : List Int) : Bool := (ruA l ns).isSome
def ruV (l : List (List Int)) (ns : List Int) : List (List Int) := (ruA l ns).getD []
/-- What may be asked. -/
def rkB (l : List (List Int)) (ns : List Int) : Bool := stB l && decide ((ns.length : Int) ≤ 6) && allR ns 1 400
def rzB (l : List (List Int)) (ns : List Int) : Bool := rkB l ns && ruB l ns
def rzV (l : List (List Int)) (ns : List Int) : List (List Int) := if rkB l ns then ruV l ns else []
/-- Tables of a few short rows. -/
def smT (a : List (List Int)) : Prop := a.length ≤ 6 ∧ ∀ i, i < a.length → (a.getD i []).length ≤ 8
theorem ruV_sm {l : List (List Int)} {ns : List Int} (h : okS l) (hn : ns.length ≤ 6) : smT (ruV l ns) := by
  unfold ruV
  cases hr : ruA l ns with
  | none => exact ⟨by simp, by simp⟩
  | some r =>
    obtain ⟨h1, h2⟩ := ruA_len ns l r hr
    refine ⟨by simp; omega, fun i hi => ?_⟩
    simp only [Option.getD_some] at hi ⊢
    have := h2 (r.getD i []) (by rw [List.getD_eq_getElem?_getD, List.getElem?_eq_getElem hi]; simp)
    have := h.1
    omega
theorem rzV_sm (l : List (List Int)) (ns : List Int) : smT (rzV l ns) := by
  unfold rzV
  split
  · rename_i h
    simp only [rkB, Bool.and_eq_true, decide_eq_true_eq] at h
    exact ruV_sm (stB_ok h.1.1) (by omega)
  · exact ⟨by simp, by simp⟩
/-! What the laws' own file does with tables. -/
def eqLL (a b : List (List Int)) : Bool := decide (a = b)
def totL : List (List Int) → Int
  | [] => 0
  | x :: r => x.length + totL r
def upLL : List (List Int) → Int → List (List Int)
  | [], _ => []
  | x :: r, k => upFrom x.length k :: upLL r (k + x.length)
def heldLL : List (List Int) → Int → Int
  | [], k => k
  | x :: r, k => if heldL x k < 0 then -1 else heldLL r (heldL x k)
theorem heldLL_drop (a : List (List Int)) (k : Int) (i : Nat) (h : i < a.length) : heldLL (a.drop i) k = if heldL (a.getD i []) k < 0 then -1 else heldLL (a.drop (i + 1)) (heldL (a.getD i []) k) := by
  rw [drop_getD [] a i h]; rfl
theorem heldL_val : ∀ (x : List Int) (k : Int), heldL x k = k + x.length ∨ heldL x k = -1
  | [], k => by simp [heldL]
  | y :: r, k => by
    by_cases hy : y = k
    · rcases heldL_val r (k + 1) with h | h
      · left; simp only [heldL, if_pos hy, h, List.length_cons]; omega
      · right; simp only [heldL, if_pos hy, h]
    · right; simp only [heldL, if_neg hy]
theorem heldLL_up : ∀ (a : List (List Int)) (k : Int), 0 ≤ k → heldLL (upLL a k) k = k + totL a
  | [], k, _ => by simp [heldLL, upLL, totL]
  | x :: r, k, h => by
    simp only [heldLL, upLL, totL, heldL_up]
    rw [if_neg (by omega), heldLL_up r _ (by omega)]; omega
theorem upLL_len : ∀ (a : List (List Int)) (k : Int), (upLL a k).length = a.length
  | [], _ => rfl
  | x :: r, k => by simp [upLL, upLL_len r]
theorem upLL_get : ∀ (a : List (List Int)) (k : Int) (i : Nat), ((upLL a k).getD i []).length = (a.getD i []).length
  | [], k, i => by simp [upLL]
  | x :: r, k, 0 => by simp [upLL, upFrom_len]
  | x :: r, k, i + 1 => by simpa [upLL] using upLL_get r (k + x.length) i
theorem smT_up {a : List (List Int)} {k : Int} (h : smT a) : smT (upLL a k) :=
  ⟨by rw [upLL_len]; exact h.1, fun i hi => by rw [upLL_get]; rw [upLL_len] at hi; exact h.2 i hi⟩
theorem totL_bd : ∀ (a : List (List Int)), (∀ i, i < a.length → (a.getD i []).length ≤ 8) → 0 ≤ totL a ∧ totL a ≤ 8 * a.length
  | [], _ => by simp [totL]
  | x :: r, h => by
    have h0 := h 0 (by simp)
    have := totL_bd r (fun i hi => by simpa using h (i + 1) (by simpa using hi))
    simp only [List.getD_cons_zero] at h0
    simp only [totL, List.length_cons]
    omega
end Go.Proofs.Ythnbajdkimgigaa
