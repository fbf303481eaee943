/-
  The best counts with as many as one likes, as the one side finds them. No program here.
-/
import Derived.Test.YtjkkjfnkcfaigaaSM
set_option linter.unusedSimpArgs false
set_option linter.unusedVariables false
namespace Go.Proofs.Ytjkkjfnkcfaigaa
open Go.Ab

theorem Rp_mono {w : Nat → Nat} {i x c : Nat} (h : Rp w i x c) : Rp w (i + 1) x c := ⟨0, by simp, by simp, by simpa using h⟩
theorem Rp_up {w : Nat → Nat} {i j x c : Nat} (hij : i ≤ j) (h : Rp w i x c) : Rp w j x c := by
  induction hij with
  | refl => exact h
  | step _ ih => exact Rp_mono ih
theorem Rp_adds {w : Nat → Nat} {i j x c : Nat} (hj : j < i) (h : Rp w i x c) : ∀ m, Rp w i (x + m * w j) (c + m)
  | 0 => by simpa using h
  | m + 1 => by
    have := Rp_add hj (Rp_adds hj h m)
    have e1 : x + (m + 1) * w j = x + m * w j + w j := by rw [Nat.add_mul]; omega
    have e2 : c + (m + 1) = c + m + 1 := by omega
    rw [e1, e2]; exact this
theorem Rp_congr {w w' : Nat → Nat} : ∀ {i x c : Nat}, (∀ j, j < i → w j = w' j) → Rp w i x c → Rp w' i x c
  | 0, _, _, _, h => h
  | i + 1, x, c, e, ⟨m, h1, h2, h3⟩ => by
    have hi := e i (by omega)
    refine ⟨m, by rw [← hi]; exact h1, h2, ?_⟩
    rw [← hi]; exact Rp_congr (fun j hj => e j (by omega)) h3
theorem take_few {ws : List Int} (hw : ∀ i, i < ws.length → 1 ≤ ws.getD i 0) {n : Nat} (hn : n ≤ 400) {i y : Nat} (hi : i ≤ ws.length) (hy : y ≤ n) : (fwF (ws.take i) y).getD y 0 = (rowF ws (pl ws) n i).getD y 0 := by
  have hl : (ws.take i).length = i := by simp; omega
  have hg : ∀ j, j < i → (ws.take i).getD j 0 = ws.getD j 0 := fun j hj => by simp [List.getD_eq_getElem?_getD, List.getElem?_take, hj]
  have h1 := fwF_opt (ws := ws.take i) (fun j hj => by rw [hg j (by omega)]; exact hw j (by omega)) y y (Nat.le_refl _)
  rw [hl] at h1
  have h2 := rowF_opt hw hn i hi y hy
  have e : Rp (wN (ws.take i)) i y = Rp (wN ws) i y := by
    funext c; apply propext
    have hwn : ∀ j, j < i → wN (ws.take i) j = wN ws j := fun j hj => by unfold wN; rw [hg j hj]
    exact ⟨Rp_congr hwn, Rp_congr fun j hj => (hwn j hj).symm⟩
  rw [e] at h1
  exact h1.eq h2
theorem all_step {ws : List Int} (hw : ∀ i, i < ws.length → 1 ≤ ws.getD i 0) {n : Nat} (hn : n ≤ 400) {i k m : Nat} (hi : i < ws.length) (hk : k ≤ n) (hm : m * (ws.getD i 0).toNat ≤ k)
    (he : (fwF ws n).getD k 0 = (rowF ws (pl ws) n (i + 1)).getD k 0) (h0 : 0 ≤ (rowF ws (pl ws) n i).getD (k - m * (ws.getD i 0).toNat) 0)
    (h1 : (rowF ws (pl ws) n i).getD (k - m * (ws.getD i 0).toNat) 0 + m = (rowF ws (pl ws) n (i + 1)).getD k 0) :
    (fwF ws n).getD (k - m * (ws.getD i 0).toNat) 0 = (rowF ws (pl ws) n i).getD (k - m * (ws.getD i 0).toNat) 0 := by
  have hW := wN_eq (hw i hi)
  obtain ⟨X, hX⟩ : ∃ X, X = m * (ws.getD i 0).toNat := ⟨_, rfl⟩
  rw [← hX] at hm h0 h1 ⊢
  have ok := fwF_opt hw n k hk
  have ok' := fwF_opt hw n (k - X) (by omega)
  have or' := rowF_opt hw hn i (by omega) (k - X) (by omega)
  obtain ⟨a, ha⟩ : ∃ a, a = (fwF ws n).getD (k - X) 0 := ⟨_, rfl⟩
  obtain ⟨b, hb⟩ : ∃ b, b = (rowF ws (pl ws) n i).getD (k - X) 0 := ⟨_, rfl⟩
  rw [he, ← h1] at ok
  rw [← ha] at ok' ⊢
  rw [← hb] at or' ok h0 ⊢
  have hbP := Rp_up (Nat.le_of_lt hi) (or'.2 h0).1
  have ha0 : 0 ≤ a := by
    rcases Int.lt_or_le a 0 with h | h
    · exact absurd hbP ((ok'.1 h).2 _)
    · exact h
  have h2 := (ok'.2 ha0).2 _ hbP
  have h3 := Rp_adds hi (ok'.2 ha0).1 m
  rw [hW, ← hX] at h3
  have e : k - X + X = k := by omega
  rw [e] at h3
  have h4 := (ok.2 (by omega)).2 _ h3
  omega
def feB (l : List Int) (n : Nat) : Bool := hasB l (pl l) n
theorem feB_eq {ws : List Int} (hw : ∀ i, i < ws.length → 1 ≤ ws.getD i 0) {n : Nat} (hn : n ≤ 400) : feB ws n = decide (0 ≤ (fwF ws n).getD n 0) := by
  rw [feB, hasB, few_eq hw hn]
end Go.Proofs.Ytjkkjfnkcfaigaa
