/-
  Stocks of rules: what is computed. No program here.
-/
import Derived.Test.YtdkpncnkhnmidaaDoorG0
set_option linter.unusedSimpArgs false
set_option linter.unusedVariables false
namespace Go.Proofs.YtdkpncnkhnmidaaDoor
open Go.Ab

theorem app_get_lt {α : Type} (d : α) (p z : List α) (i : Nat) (h : i < p.length) : (p ++ z).getD i d = p.getD i d := by
  simp [List.getD_eq_getElem?_getD, List.getElem?_append_left h]
theorem app_get_ge {α : Type} (d : α) (p z : List α) (i : Nat) (h : p.length ≤ i) : (p ++ z).getD i d = z.getD (i - p.length) d := by
  simp [List.getD_eq_getElem?_getD, List.getElem?_append_right h]
theorem app_set_eq {α : Type} (p z : List α) (s v : α) (i : Nat) (h : i = p.length) : (p ++ s :: z).set i v = p ++ v :: z := by
  subst h; simp
theorem getD_set_eq {α : Type} (d v : α) (l : List α) (i : Nat) (h : i < l.length) : (l.set i v).getD i d = v := by
  simp [List.getD_eq_getElem?_getD, List.getElem?_set, h]

/-! Records of two numbers: what the laws' own file does with them. -/
def rec2 (l : List (List Int)) : Prop := ∀ x ∈ l, x.length = 2
theorem rec2_get {l : List (List Int)} (h : rec2 l) {i : Nat} (hi : i < l.length) : ∃ a b, l.getD i [] = [a, b] := by
  have := h (l.getD i []) (by rw [List.getD_eq_getElem?_getD, List.getElem?_eq_getElem hi]; simp)
  match hx : l.getD i [], this with
  | [a, b], _ => exact ⟨a, b, rfl⟩
theorem rec2_set {l : List (List Int)} (h : rec2 l) (i : Nat) {v : List Int} (hv : v.length = 2) : rec2 (l.set i v) := by
  intro x hx
  rcases List.mem_or_eq_of_mem_set hx with h1 | h1
  · exact h x h1
  · rw [h1]; exact hv
def eqR (a b : List Int) : Bool := decide (a = b)
def eqRL (a b : List (List Int)) : Bool := decide (a = b)
def upR : Nat → Int → List (List Int)
  | 0, _ => []
  | n + 1, k => [k, k + 1] :: upR n (k + 2)
theorem upR_len : ∀ (n : Nat) (k : Int), (upR n k).length = n
  | 0, _ => rfl
  | n + 1, k => by simp [upR, upR_len n]
theorem upR_get : ∀ (n : Nat) (k : Int) (i : Nat), i < n → (upR n k).getD i [] = [k + 2 * i, k + 2 * i + 1]
  | 0, _, _, h => by omega
  | n + 1, k, 0, h => by simp [upR]
  | n + 1, k, i + 1, h => by
    have := upR_get n (k + 2) i (by omega)
    simp only [upR, List.getD_cons_succ, this]
    simp only [List.cons.injEq, and_true]
    omega
theorem upR_rec : ∀ (n : Nat) (k : Int), rec2 (upR n k)
  | 0, k => by intro y hy; simp [upR] at hy
  | n + 1, k => by
    intro y hy
    simp only [upR, List.mem_cons] at hy
    rcases hy with rfl | hy
    · rfl
    · exact upR_rec n _ y hy
def heldR : List (List Int) → Int → Int
  | [], k => k
  | x :: r, k => if x = [k, k + 1] then heldR r (k + 2) else -1
theorem heldR_drop (a : List (List Int)) (k : Int) (i : Nat) (h : i < a.length) : heldR (a.drop i) k = if a.getD i [] = [k, k + 1] then heldR (a.drop (i + 1)) (k + 2) else -1 := by
  rw [drop_getD [] a i h]; rfl
theorem heldR_up : ∀ (n : Nat) (k : Int), heldR (upR n k) k = k + 2 * n
  | 0, k => by simp [heldR, upR]
  | n + 1, k => by simp only [heldR, upR, if_pos, heldR_up n]; omega
theorem mark2 (out : List (List Int)) (i : Nat) (hi : i < out.length) (hr : rec2 out) (x y : Int) :
    (out.set i ((out.getD i []).set 0 x)).set i (((out.set i ((out.getD i []).set 0 x)).getD i []).set 1 y) = out.set i [x, y] := by
  obtain ⟨a, b, e⟩ := rec2_get hr hi
  rw [getD_set_eq _ _ _ _ hi, e]
  simp [List.set_set]
def szV (k : Int) (n : Nat) : Int := if w64 (k - n) < 0 then -1 else w64 (k - n)
theorem sz_pos {n : Nat} (hn : n ≤ 9223372036854775807) (h : ¬ szV 1048576 n < 0) : n ≤ 1048576 := by
  unfold szV at h
  rw [w64_id (by omega)] at h
  split at h <;> omega

/-! Stocks. -/
def fL (l : List (List Int)) (i : Nat) : Int := (l.getD i []).getD 0 0
def fC (l : List (List Int)) (i : Nat) : Int := (l.getD i []).getD 1 0
def slB (x : List Int) : Bool := inR (x.getD 0 0) 1 200 && inR (x.getD 1 0) 0 20
def badAt (l : List (List Int)) (i : Nat) : Bool := !(slB (l.getD i [])) || (decide (0 < (i : Int)) && decide (fL l i ≤ fL l (i - 1)))
def goodTo (l : List (List Int)) (n : Nat) : Bool := (List.range n).all fun i => !badAt l i
theorem goodTo_succ (l : List (List Int)) (n : Nat) : goodTo l (n + 1) = (goodTo l n && !badAt l n) := by
  simp [goodTo, List.range_succ, List.all_append]
theorem goodTo_get {l : List (List Int)} {n : Nat} (h : goodTo l n = true) {i : Nat} (hi : i < n) : badAt l i = false := by
  simp only [goodTo, List.all_eq_true, List.mem_range, Bool.not_eq_true'] at h
  exact h i hi
theorem goodTo_bad {l : List (List Int)} {n i : Nat} (hi : i < n) (h : badAt l i = true) : goodTo l n = false := by
  cases hb : goodTo l n with
  | false => rfl
  | true => rw [goodTo_get hb hi] at h; cases h
def stB (l : List (List Int)) : Bool := goodTo l l.length && decide ((l.length : Int) ≤ 8)
theorem stB_at {l : List (List Int)} (h : stB l = true) {i : Nat} (hi : i < l.length) : 1 ≤ fL l i ∧ fL l i ≤ 200 ∧ 0 ≤ fC l i ∧ fC l i ≤ 20 := by
  simp only [stB, Bool.and_eq_true] at h
  have := goodTo_get h.1 hi
  simp only [badAt, Bool.or_eq_false_iff, Bool.not_eq_false', slB, Bool.and_eq_true, inR_iff] at this
  exact ⟨this.1.1.1, this.1.1.2, this.1.2.1, this.1.2.2⟩
theorem stB_len {l : List (List Int)} (h : stB l = true) : l.length ≤ 8 := by
  simp only [stB, Bool.and_eq_true, decide_eq_true_eq] at h; omega
def lenF (l : List (List Int)) : Int := l.foldl (fun q x => w64 (q + w64 (x.getD 0 0 * x.getD 1 0))) 0
def lenV (l : List (List Int)) : Int := if stB l then lenF l else 0
/-- Counts of a stock. -/
def cAt (l : List (List Int)) (c : List Int) (i : Nat) : Bool := inR (c.getD i 0) 0 (fC l i)
def cTo (l : List (List Int)) (c : List Int) (n : Nat) : Bool := (List.range n).all fun i => cAt l c i
theorem cTo_succ (l : List (List Int)) (c : List Int) (n : Nat) : cTo l c (n + 1) = (cTo l c n && cAt l c n) := by
  simp [cTo, List.range_succ, List.all_append]
theorem cTo_get {l : List (List Int)} {c : List Int} {n : Nat} (h : cTo l c n = true) {i : Nat} (hi : i < n) : cAt l c i = true := by
  simp only [cTo, List.all_eq_true, List.mem_range] at h
  exact h i hi
theorem cTo_bad {l : List (List Int)} {c : List Int} {n i : Nat} (hi : i < n) (h : cAt l c i = false) : cTo l c n = false := by
  cases hb : cTo l c n with
  | false => rfl
  | true => rw [cTo_get hb hi] at h; cases h
def cB (l : List (List Int)) (c : List Int) : Bool := stB l && ((c.length : Int) == l.length) && cTo l c c.length
def pcF (l : List (List Int)) (c : List Int) (n : Nat) : Int := (List.range n).foldl (fun q i => w64 (q + w64 (c.getD i 0 * fL l i))) 0
theorem pcF_succ (l : List (List Int)) (c : List Int) (n : Nat) : pcF l c (n + 1) = w64 (pcF l c n + w64 (c.getD n 0 * fL l n)) := by
  simp [pcF, List.range_succ, List.foldl_append]
def pcN (l : List (List Int)) (c : List Int) : Int := if cB l c then sumF c 0 else 0
def pcL (l : List (List Int)) (c : List Int) : Int := if cB l c then pcF l c c.length else 0
def rsX (l : List (List Int)) (c : List Int) (i : Nat) : List Int := (l.getD i []).set 1 (w64 (fC l i - c.getD i 0))
def rsL (l : List (List Int)) (c : List Int) : List (List Int) := ((List.range c.length).map (rsX l c)) ++ l.drop c.length
def rsR (l : List (List Int)) (c : List Int) : List (List Int) := if cB l c then rsL l c else []
theorem cB_len {l : List (List Int)} {c : List Int} (h : cB l c = true) : c.length = l.length ∧ l.length ≤ 8 := by
  simp only [cB, Bool.and_eq_true, beq_iff_eq] at h
  have := stB_len h.1.1
  omega

structure Sp extends Sb where
  szV : Int → List (List Int) → Int
  r2 : List Int → Prop
  rl : List (List Int) → Prop
  lm : List (List Int) → Prop
  eqR : List Int → List Int → Bool
  eqRL : List (List Int) → List (List Int) → Bool
  upR : List (List Int) → Int → List (List Int)
  upRK : List (List Int) → Int → Int
  heldR : List (List Int) → Int → Int
  slB : List Int → Bool
  stB : List (List Int) → Bool
  lenV : List (List Int) → Int
  cB : List (List Int) → List Int → Bool
  pcN : List (List Int) → List Int → Int
  pcL : List (List Int) → List Int → Int
  rsL : List (List Int) → List Int → List (List Int)
  rsR : List (List Int) → List Int → List (List Int)
  cl : List (List Int) → List Int → Prop
def sp : Sp := { sb with szV := fun k l => szV k l.length, r2 := fun r => r.length = 2, rl := fun l => rec2 l ∧ l.length ≤ 1048576, lm := fun l => l.length ≤ 1048576, eqR := eqR, eqRL := eqRL, upR := fun l k => upR l.length k, upRK := fun l k => k + 2 * l.length, heldR := heldR, slB := slB, stB := stB, lenV := lenV, cB := cB, pcN := pcN, pcL := pcL, rsL := rsL, rsR := rsR, cl := fun l c => c.length ≤ l.length ∧ l.length ≤ 1048576 }
end Go.Proofs.YtdkpncnkhnmidaaDoor
