/-
  Tables: what is computed. No program here.
-/
import Derived.Test.YtlfioonmofkpiaaG0
set_option linter.unusedSimpArgs false
set_option linter.unusedVariables false
namespace Go.Proofs.Ytlfioonmofkpiaa
open Go.Ab

def entB (n : Int) (x : List Int) : Bool := inR (x.getD 0 0) 0 (w64 (n - 1)) && inR (x.getD 1 0) 1 (w64 (n - x.getD 0 0)) && inR (x.getD 2 0) 0 600
def allE (n : Int) (l : List (List Int)) : Bool := l.all fun x => entB n x
def tabB (n : Int) (l : List (List Int)) : Bool := allE n l && (inR n 1 10 && decide ((l.length : Int) ≤ 20))
def gapB (n : Int) (l : List (List Int)) (g : Int) : Bool := tabB n l && inR g 0 36
def maxI (a b : Int) : Int := if a < b then b else a
def minI (a b : Int) : Int := if b < a then b else a

/-- One entry's part in the start of column k; o has the starts ahead of k. -/
def stX (o : List Int) (k g : Int) (s : Int) (x : List Int) : Int :=
  if w64 (x.getD 0 0 + x.getD 1 0) = k then maxI s (w64 (w64 (o.getD (x.getD 0 0).toNat 0 + x.getD 2 0) + g)) else s
/-- The starts of the columns 0 .. k. -/
def stF (l : List (List Int)) (g : Int) : Nat → List Int
  | 0 => [0]
  | k + 1 => stF l g k ++ [l.foldl (stX (stF l g k) (k + 1 : Nat) g) (w64 ((stF l g k).getD k 0 + g))]
theorem stF_len (l : List (List Int)) (g : Int) (k : Nat) : (stF l g k).length = k + 1 := by
  induction k with
  | zero => rfl
  | succ k ih => simp [stF, ih]
def stL (n : Int) (l : List (List Int)) (g : Int) : List Int := stF l g n.toNat
def wdV (n : Int) (l : List (List Int)) (g : Int) : Int := w64 ((stL n l g).getD n.toNat 0 - g)
def cwC (ss : List Int) (g : Int) (c : Nat) : Int := w64 (w64 (ss.getD (c + 1) 0 - ss.getD c 0) - g)
def cwOf (ss : List Int) (g : Int) : List Int := (List.range (ss.length - 1)).map (cwC ss g)
def cwL (n : Int) (l : List (List Int)) (g : Int) : List Int := cwOf (stL n l g) g
theorem stL_len (n : Int) (l : List (List Int)) (g : Int) : (stL n l g).length = n.toNat + 1 := stF_len _ _ _
theorem cwL_len (n : Int) (l : List (List Int)) (g : Int) : (cwL n l g).length = n.toNat := by simp [cwL, cwOf, stL_len]

/-- One entry's part in the greatest start of column c; o has the starts behind c. -/
def laX (o : List Int) (c g : Int) (s : Int) (x : List Int) : Int :=
  if x.getD 0 0 = c then minI s (w64 (w64 (o.getD (x.getD 1 0 - 1).toNat 0 - x.getD 2 0) - g)) else s
/-- The greatest starts of the last k columns and of the one behind. -/
def laF (n : Nat) (l : List (List Int)) (g t : Int) : Nat → List Int
  | 0 => [w64 (t + g)]
  | k + 1 => l.foldl (laX (laF n l g t k) ((n : Int) - (k + 1 : Nat)) g) (w64 ((laF n l g t k).getD 0 0 - g)) :: laF n l g t k
theorem laF_len (n : Nat) (l : List (List Int)) (g t : Int) (k : Nat) : (laF n l g t k).length = k + 1 := by
  induction k with
  | zero => rfl
  | succ k ih => simp [laF, ih]
/-- All of them; the first is 0. -/
def laL (n : Int) (l : List (List Int)) (g t : Int) : List Int := 0 :: laF n.toNat l g t (n.toNat - 1)
/-- With the first as it comes. -/
def laA (n : Int) (l : List (List Int)) (g t : Int) : List Int := laF n.toNat l g t n.toNat

def totB (n : Int) (l : List (List Int)) (g t : Int) : Bool := gapB n l g && inR t 0 5000 && decide (wdV n l g ≤ t)
def lsL (n : Int) (l : List (List Int)) (g : Int) : List Int := if gapB n l g then (stL n l g).take n.toNat else []
def twV (n : Int) (l : List (List Int)) (g : Int) : Int := if gapB n l g then wdV n l g else 0
def cwR (n : Int) (l : List (List Int)) (g : Int) : List Int := if gapB n l g then cwL n l g else []
def lcL (n : Int) (l : List (List Int)) (g t : Int) : List Int := if totB n l g t then (laL n l g t).take n.toNat else []
/-- By how much an entry could be wider. -/
def room (n : Int) (l : List (List Int)) (g : Int) (x : List Int) : Int :=
  w64 (w64 (w64 ((laL n l g (wdV n l g)).getD (x.getD 0 0 + x.getD 1 0).toNat 0 - g) - (stL n l g).getD (x.getD 0 0).toNat 0) - x.getD 2 0)
def idxB (l : List (List Int)) (i : Int) : Bool := inR i 0 (w64 (l.length - 1))
def roB (n : Int) (l : List (List Int)) (g i : Int) : Bool := gapB n l g && idxB l i
def roV (n : Int) (l : List (List Int)) (g i : Int) : Int := if roB n l g i then room n l g (l.getD i.toNat []) else 0
/-- The indices of the entries of a kind. -/
def idxF (p : List Int → Bool) : List (List Int) → Int → List Int
  | [], _ => []
  | x :: r, i => if p x then i :: idxF p r (i + 1) else idxF p r (i + 1)
theorem idxF_drop (p : List Int → Bool) (l : List (List Int)) (i : Nat) (q : Int) (h : i < l.length) : idxF p (l.drop i) q = if p (l.getD i []) then q :: idxF p (l.drop (i + 1)) (q + 1) else idxF p (l.drop (i + 1)) (q + 1) := by
  rw [drop_getD [] l i h]; rfl
theorem idxF_len (p : List Int → Bool) : ∀ (l : List (List Int)) (i : Int), (idxF p l i).length ≤ l.length
  | [], _ => by simp [idxF]
  | x :: r, i => by
    have := idxF_len p r (i + 1)
    unfold idxF; split <;> simp <;> omega
def tiL (n : Int) (l : List (List Int)) (g : Int) : List Int := if gapB n l g then idxF (fun x => decide (room n l g x = 0)) l 0 else []
def spC (n : Int) (m : Int) (w : Int) (c : Nat) : Int := if (c : Int) < m.tmod n then w64 (w64 (w + w64 (m.tdiv n)) + 1) else w64 (w + w64 (m.tdiv n))
def spT (n : Int) (l : List (List Int)) (g t : Int) : List Int :=
  (List.range n.toNat).map fun c => spC n (w64 (t - wdV n l g)) ((cwL n l g).getD c 0) c
def spR (n : Int) (l : List (List Int)) (g t : Int) : List Int := if totB n l g t then spT n l g t else []
def addB (n : Int) (l : List (List Int)) (x : List Int) : Bool := tabB n l && entB n x && decide (l.length < 20)
def addL (n : Int) (l : List (List Int)) (x : List Int) : List (List Int) := if addB n l x then l ++ [x] else []
def without (l : List (List Int)) (i : Int) : List (List Int) := l.take i.toNat ++ l.drop (i.toNat + 1)
def wwV (n : Int) (l : List (List Int)) (g i : Int) : Int := if roB n l g i then wdV n (without l i) g else 0
def eoB (n : Int) (l : List (List Int)) (c : Int) : Bool := tabB n l && inR c 0 (w64 (n - 1))
def overB (c : Int) (x : List Int) : Bool := inR c (x.getD 0 0) (w64 (w64 (x.getD 0 0 + x.getD 1 0) - 1))
def eoL (n : Int) (l : List (List Int)) (c : Int) : List Int := if eoB n l c then idxF (overB c) l 0 else []

theorem allE_drop (n : Int) (l : List (List Int)) (i : Nat) (h : i < l.length) : allE n (l.drop i) = (entB n (l.getD i []) && allE n (l.drop (i + 1))) := by
  rw [drop_getD [] l i h]; rfl
theorem allE_end (n : Int) (l : List (List Int)) (i : Nat) (h : l.length ≤ i) : allE n (l.drop i) = true := by rw [List.drop_of_length_le h]; rfl
theorem allE_get {n : Int} {l : List (List Int)} (h : allE n l = true) {i : Nat} (hi : i < l.length) : entB n (l.getD i []) = true := by
  simp only [allE, List.all_eq_true] at h
  exact h _ (by rw [List.getD_eq_getElem?_getD, List.getElem?_eq_getElem hi]; simp)
theorem tabB_n {n : Int} {l : List (List Int)} (h : tabB n l = true) : 1 ≤ n ∧ n ≤ 10 ∧ l.length ≤ 20 ∧ allE n l = true := by
  simp only [tabB, Bool.and_eq_true, inR_iff, decide_eq_true_eq] at h
  exact ⟨h.2.1.1, h.2.1.2, by omega, h.1⟩
theorem entB_iff {n : Int} (hn : 1 ≤ n ∧ n ≤ 10) {x : List Int} (h : entB n x = true) : 0 ≤ x.getD 0 0 ∧ x.getD 0 0 < n ∧ 1 ≤ x.getD 1 0 ∧ x.getD 0 0 + x.getD 1 0 ≤ n ∧ 0 ≤ x.getD 2 0 ∧ x.getD 2 0 ≤ 600 := by
  simp only [entB, Bool.and_eq_true, inR_iff] at h
  have e1 : w64 (n - 1) = n - 1 := w64_id (by omega)
  rw [e1] at h
  have e2 : w64 (n - x.getD 0 0) = n - x.getD 0 0 := w64_id (by omega)
  rw [e2] at h
  omega

/-- Records: what the laws' own file does with them. -/
def rec3 (l : List (List Int)) : Prop := ∀ x ∈ l, x.length = 3
def eqR (a b : List Int) : Bool := decide (a = b)
def eqRL (a b : List (List Int)) : Bool := decide (a = b)
def upR : Nat → Int → List (List Int)
  | 0, _ => []
  | n + 1, k => [k, k + 1, k + 2] :: upR n (k + 3)
theorem upR_len : ∀ (n : Nat) (k : Int), (upR n k).length = n
  | 0, _ => rfl
  | n + 1, k => by simp [upR, upR_len n]
theorem upR_get : ∀ (n : Nat) (k : Int) (i : Nat), i < n → (upR n k).getD i [] = [k + 3 * i, k + 3 * i + 1, k + 3 * i + 2]
  | 0, _, _, h => by omega
  | n + 1, k, 0, h => by simp [upR]
  | n + 1, k, i + 1, h => by
    have := upR_get n (k + 3) i (by omega)
    simp only [upR, List.getD_cons_succ, this]
    simp only [List.cons.injEq, and_true]
    omega
def heldR : List (List Int) → Int → Int
  | [], k => k
  | x :: r, k => if x = [k, k + 1, k + 2] then heldR r (k + 3) else -1
theorem heldR_drop (a : List (List Int)) (k : Int) (i : Nat) (h : i < a.length) : heldR (a.drop i) k = if a.getD i [] = [k, k + 1, k + 2] then heldR (a.drop (i + 1)) (k + 3) else -1 := by
  rw [drop_getD [] a i h]; rfl
theorem heldR_up : ∀ (n : Nat) (k : Int), heldR (upR n k) k = k + 3 * n
  | 0, k => by simp [heldR, upR]
  | n + 1, k => by simp only [heldR, upR, if_pos, heldR_up n]; omega
theorem rec3_get {l : List (List Int)} (h : rec3 l) {i : Nat} (hi : i < l.length) : ∃ a b c, l.getD i [] = [a, b, c] := by
  have := h (l.getD i []) (by rw [List.getD_eq_getElem?_getD, List.getElem?_eq_getElem hi]; simp)
  match hx : l.getD i [], this with
  | [a, b, c], _ => exact ⟨a, b, c, rfl⟩

theorem getD_set_eq {α : Type} (d v : α) (l : List α) (i : Nat) (h : i < l.length) : (l.set i v).getD i d = v := by
  simp [List.getD_eq_getElem?_getD, List.getElem?_set, h]
theorem mark3 (out : List (List Int)) (i : Nat) (hi : i < out.length) (hr : rec3 out) (x y z : Int) :
    ((out.set i ((out.getD i []).set 0 x)).set i (((out.set i ((out.getD i []).set 0 x)).getD i []).set 1 y)).set i
      ((((out.set i ((out.getD i []).set 0 x)).set i (((out.set i ((out.getD i []).set 0 x)).getD i []).set 1 y)).getD i []).set 2 z) = out.set i [x, y, z] := by
  obtain ⟨a, b, c, e⟩ := rec3_get hr hi
  rw [getD_set_eq _ _ _ _ hi, getD_set_eq _ _ _ _ (by simpa using hi), e]
  simp [List.set_set]
theorem rec3_set {l : List (List Int)} (h : rec3 l) (i : Nat) {v : List Int} (hv : v.length = 3) : rec3 (l.set i v) := by
  intro x hx
  rcases List.mem_or_eq_of_mem_set hx with h1 | h1
  · exact h x h1
  · rw [h1]; exact hv
def szV (k : Int) (n : Nat) : Int := if w64 (k - n) < 0 then -1 else w64 (k - n)
structure St0 extends Sb where
  szV : Int → List (List Int) → Int
  r3 : List Int → Prop
  rl : List (List Int) → Prop
  le : List (List Int) → Prop
  lm : List (List Int) → Prop
  eqR : List Int → List Int → Bool
  eqRL : List (List Int) → List (List Int) → Bool
  upR : List (List Int) → Int → List (List Int)
  upRK : List (List Int) → Int → Int
  heldR : List (List Int) → Int → Int
  entB : Int → List Int → Bool
  tabB : Int → List (List Int) → Bool
  gapB : Int → List (List Int) → Int → Bool
  maxI : Int → Int → Int
  minI : Int → Int → Int
  stL : Int → List (List Int) → Int → List Int
  wdV : Int → List (List Int) → Int → Int
  cwL : Int → List (List Int) → Int → List Int
  cwOf : List Int → Int → List Int
  laL : Int → List (List Int) → Int → Int → List Int
  laA : Int → List (List Int) → Int → Int → List Int
  totB : Int → List (List Int) → Int → Int → Bool
  tb : Int → List (List Int) → Prop
  lsL : Int → List (List Int) → Int → List Int
  twV : Int → List (List Int) → Int → Int
  cwR : Int → List (List Int) → Int → List Int
  lcL : Int → List (List Int) → Int → Int → List Int
  room : Int → List (List Int) → Int → List Int → Int
  roI : Int → List (List Int) → Int → Int → Int
  en : Int → List Int → Prop
  ix : List (List Int) → Int → Prop
  roB : Int → List (List Int) → Int → Int → Bool
  roV : Int → List (List Int) → Int → Int → Int
  tiL : Int → List (List Int) → Int → List Int
  spR : Int → List (List Int) → Int → Int → List Int
  addB : Int → List (List Int) → List Int → Bool
  addL : Int → List (List Int) → List Int → List (List Int)
  wwV : Int → List (List Int) → Int → Int → Int
  eoB : Int → List (List Int) → Int → Bool
  eoL : Int → List (List Int) → Int → List Int
def sp : St0 := { sb with szV := fun k l => szV k l.length, r3 := fun r => r.length = 3, rl := fun l => rec3 l ∧ l.length ≤ 1048576, le := fun l => l.length ≤ 1048577, lm := fun l => l.length ≤ 1048576, eqR := eqR, eqRL := eqRL, upR := fun l k => upR l.length k, upRK := fun l k => k + 3 * l.length, heldR := heldR, entB := entB, tabB := tabB, gapB := gapB, maxI := maxI, minI := minI, stL := stL, wdV := wdV, cwL := cwL, cwOf := cwOf, laL := laL, laA := laA, totB := totB, tb := fun n l => tabB n l = true, lsL := lsL, twV := twV, cwR := cwR, lcL := lcL, room := room, roI := fun n l g i => room n l g (l.getD i.toNat []), en := fun n x => entB n x = true, ix := fun l i => 0 ≤ i ∧ i < l.length, roB := roB, roV := roV, tiL := tiL, spR := spR, addB := addB, addL := addL, wwV := wwV, eoB := eoB, eoL := eoL }
end Go.Proofs.Ytlfioonmofkpiaa
