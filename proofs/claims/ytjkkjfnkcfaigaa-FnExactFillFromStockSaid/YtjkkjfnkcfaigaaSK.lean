/-
  The greatest counts of the thickest kinds, from a stock. No program here.
-/
import Derived.Test.YtjkkjfnkcfaigaaDP
set_option linter.unusedSimpArgs false
set_option linter.unusedVariables false
namespace Go.Proofs.Ytjkkjfnkcfaigaa
open Go.Ab

def gs (ws st : List Int) (n i k : Nat) (m : Nat) : Bool := decide (0 ≤ (rowF ws st n i).getD (k - m * (ws.getD i 0).toNat) 0)
def ps (ws st : List Int) (n i k : Nat) : Nat := dn (gs ws st n i k) (mst (ws.getD i 0).toNat (st.getD i 0).toNat k)
theorem ps_le (ws st : List Int) (n i k : Nat) : ps ws st n i k ≤ mst (ws.getD i 0).toNat (st.getD i 0).toNat k := dn_le _ _
theorem gs_ex {ws st : List Int} {n i k : Nat} (hk : k ≤ n) (h : 0 ≤ (rowF ws st n (i + 1)).getD k 0) : ∃ m, m ≤ mst (ws.getD i 0).toNat (st.getD i 0).toNat k ∧ gs ws st n i k m = true := by
  rw [rowF_succ_get _ _ _ _ _ hk] at h
  obtain ⟨m, hm, h1, h2⟩ := cellF_hit _ h
  exact ⟨m, by omega, decide_eq_true h1⟩
theorem ps_gs {ws st : List Int} {n i k : Nat} (hk : k ≤ n) (h : 0 ≤ (rowF ws st n (i + 1)).getD k 0) : gs ws st n i k (ps ws st n i k) = true := dn_ok (gs_ex hk h)
def ls (ws st : List Int) (n i k : Nat) : Nat := k - ps ws st n i k * (ws.getD i 0).toNat
theorem ls_pos {ws st : List Int} {n i k : Nat} (hk : k ≤ n) (h : 0 ≤ (rowF ws st n (i + 1)).getD k 0) : 0 ≤ (rowF ws st n i).getD (ls ws st n i k) 0 := of_decide_eq_true (ps_gs hk h)
def bq (ws st : List Int) (n : Nat) : Nat → Nat → List Int
  | 0, _ => []
  | i + 1, k => bq ws st n i (ls ws st n i k) ++ [(ps ws st n i k : Int)]
theorem bq_len (ws st : List Int) (n : Nat) : ∀ i k, (bq ws st n i k).length = i
  | 0, _ => rfl
  | i + 1, k => by simp [bq, bq_len ws st n i]
def fsL (ws st : List Int) (n : Nat) : List Int := bq ws st n ws.length n
theorem cell_pos (p : List Int) (w k j : Nat) : decide (0 ≤ cellF p w k (j + 1)) = (decide (0 ≤ cellF p w k j) || decide (0 ≤ p.getD (k - j * w) 0)) := by
  rw [cellF_succ, upd, ← Bool.decide_or, decide_eq_decide]
  obtain ⟨r, hr⟩ : ∃ r, r = p.getD (k - j * w) 0 := ⟨_, rfl⟩
  rw [← hr]
  split <;> omega
/-- Which widths can be made with the first i kinds. -/
def cb (ws st : List Int) (n i : Nat) : List Bool := (rowF ws st n i).map fun v => decide (0 ≤ v)
theorem cb_len (ws st : List Int) (n i : Nat) : (cb ws st n i).length = n + 1 := by rw [cb, List.length_map, rowF_len]
theorem cb_get (ws st : List Int) (n i k : Nat) (hk : k ≤ n) : (cb ws st n i).getD k false = decide (0 ≤ (rowF ws st n i).getD k 0) := by
  have h : k < (rowF ws st n i).length := by rw [rowF_len]; omega
  rw [cb, List.getD_eq_getElem?_getD, List.getElem?_map, List.getElem?_eq_getElem h, List.getD_eq_getElem?_getD, List.getElem?_eq_getElem h]
  rfl
theorem cb0 (ws st : List Int) (n : Nat) : cb ws st n 0 = true :: List.replicate n false := by
  rw [cb, rowF, row0, List.map_cons, List.map_replicate]; rfl
def cbT (ws st : List Int) (n i : Nat) : List (List Bool) := (List.range (i + 1)).map (cb ws st n)
theorem cbT_succ (ws st : List Int) (n i : Nat) : cbT ws st n (i + 1) = cbT ws st n i ++ [cb ws st n (i + 1)] := by simp [cbT, List.range_succ]
theorem cbT_len (ws st : List Int) (n i : Nat) : (cbT ws st n i).length = i + 1 := by simp [cbT]
theorem cbT_get (ws st : List Int) (n i j : Nat) (h : j ≤ i) : (cbT ws st n i).getD j [] = cb ws st n j := by
  rw [cbT, range_getD _ _ _ _ (by omega)]
/-- A row that is known up to x. -/
theorem cb_take (ws st : List Int) (n i x : Nat) (hx : x ≤ n) : (cb ws st n i).take (x + 1) = (cb ws st n i).take x ++ [(cb ws st n i).getD x false] := by
  have h : x < (cb ws st n i).length := by rw [cb_len]; omega
  rw [List.take_add_one, List.getElem?_eq_getElem h, List.getD_eq_getElem?_getD, List.getElem?_eq_getElem h]
  rfl
end Go.Proofs.Ytjkkjfnkcfaigaa
