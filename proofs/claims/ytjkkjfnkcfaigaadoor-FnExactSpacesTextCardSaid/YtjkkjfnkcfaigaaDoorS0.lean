/-
  Spaces: what is computed. No program here.
-/
import Derived.Test.YtjkkjfnkcfaigaaDoorG0
set_option linter.unusedSimpArgs false
set_option linter.unusedVariables false
namespace Go.Proofs.YtjkkjfnkcfaigaaDoor
open Go.Ab

theorem app_get_lt {α : Type} (d : α) (p z : List α) (i : Nat) (h : i < p.length) : (p ++ z).getD i d = p.getD i d := by
  simp [List.getD_eq_getElem?_getD, List.getElem?_append_left h]
theorem app_get_ge {α : Type} (d : α) (p z : List α) (i : Nat) (h : p.length ≤ i) : (p ++ z).getD i d = z.getD (i - p.length) d := by
  simp [List.getD_eq_getElem?_getD, List.getElem?_append_right h]
theorem app_set_eq {α : Type} (p z : List α) (s v : α) (i : Nat) (h : i = p.length) : (p ++ s :: z).set i v = p ++ v :: z := by
  subst h; simp
theorem getD_set_eq {α : Type} (d v : α) (l : List α) (i : Nat) (h : i < l.length) : (l.set i v).getD i d = v := by
  simp [List.getD_eq_getElem?_getD, List.getElem?_set, h]

def badAt (l : List Int) (lo hi : Int) (i : Nat) : Bool := !(inR (l.getD i 0) lo hi) || (decide (0 < (i : Int)) && decide (l.getD i 0 ≤ l.getD (i - 1) 0))
def riseTo (l : List Int) (lo hi : Int) (n : Nat) : Bool := (List.range n).all fun i => !badAt l lo hi i
theorem riseTo_succ (l : List Int) (lo hi : Int) (n : Nat) : riseTo l lo hi (n + 1) = (riseTo l lo hi n && !badAt l lo hi n) := by
  simp [riseTo, List.range_succ, List.all_append]
theorem riseTo_get {l : List Int} {lo hi : Int} {n : Nat} (h : riseTo l lo hi n = true) {i : Nat} (hi' : i < n) : badAt l lo hi i = false := by
  simp only [riseTo, List.all_eq_true, List.mem_range, Bool.not_eq_true'] at h
  exact h i hi'
theorem riseTo_bad {l : List Int} {lo hi : Int} {n i : Nat} (hi' : i < n) (h : badAt l lo hi i = true) : riseTo l lo hi n = false := by
  cases hb : riseTo l lo hi n with
  | false => rfl
  | true => rw [riseTo_get hb hi'] at h; cases h
def rise (l : List Int) (lo hi : Int) : Bool := riseTo l lo hi l.length
def spB (l : List Int) : Bool := inR l.length 1 6 && rise l 1 54
def askB (l : List Int) (n : Int) : Bool := spB l && inR n 0 400
theorem spB_at {l : List Int} (h : spB l = true) {i : Nat} (hi : i < l.length) : 1 ≤ l.getD i 0 ∧ l.getD i 0 ≤ 54 := by
  simp only [spB, Bool.and_eq_true] at h
  have := riseTo_get h.2 hi
  simp only [badAt, Bool.or_eq_false_iff, Bool.not_eq_false', inR_iff] at this
  exact this.1
theorem spB_len {l : List Int} (h : spB l = true) : 1 ≤ l.length ∧ l.length ≤ 6 := by
  simp only [spB, Bool.and_eq_true, inR_iff] at h; omega

/-! In how many ways a width is filled. -/
def wyStep (w : Nat) (o : List Int) (k : Nat) : List Int := o.set k (w64 (o.getD k 0 + o.getD (k - w) 0))
def wyRow (n w : Nat) (o : List Int) (j : Nat) : List Int := (List.range j).foldl (fun o j => wyStep w o (w + j)) o
theorem wyRow_succ (n w : Nat) (o : List Int) (j : Nat) : wyRow n w o (j + 1) = wyStep w (wyRow n w o j) (w + j) := by
  simp [wyRow, List.range_succ, List.foldl_append]
theorem wyRow_len (n w : Nat) (o : List Int) : ∀ j, (wyRow n w o j).length = o.length
  | 0 => rfl
  | j + 1 => by rw [wyRow_succ, wyStep, List.length_set, wyRow_len]
def wyAll (n : Nat) (o : List Int) (w : Int) : List Int := wyRow n w.toNat o (n + 1 - w.toNat)
def wyI (n : Nat) : List Int := (List.replicate (n + 1) 0).set 0 1
def wyV (l : List Int) (n : Int) : Int := if askB l n then (l.foldl (wyAll n.toNat) (wyI n.toNat)).getD n.toNat 0 else 0

structure Sp extends Sb where
  rise : List Int → Int → Int → Bool
  spB : List Int → Bool
  askB : List Int → Int → Bool
  wyV : List Int → Int → Int
def sp : Sp := { sb with rise := rise, spB := spB, askB := askB, wyV := wyV }
end Go.Proofs.YtjkkjfnkcfaigaaDoor
