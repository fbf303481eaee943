/-
  Plain words on lists and integers: no program in them.
-/
import Derived.Test.YtdkpncnkhnmidaaDoorAb19
set_option linter.unusedSimpArgs false
set_option linter.unusedVariables false
namespace Go.Proofs.YtdkpncnkhnmidaaDoor
open Go.Ab

/-- A fact that evaluation is not to look into. -/
structure Hd (p : Prop) : Prop where
  h : p
/-- A Bool that the kernel computes. -/
structure KR (b : Bool) : Prop where
  h : b = true
theorem lexT (ops : Array Oper) (h : KR (Region.lexB .any ops)) : lexP ops = True := eq_true ⟨h.h⟩
theorem heldT (ops : Array Oper) (l : List Nat) (h : KR (Region.noSelect ops && decide (l.length = ops.size) && heldB ops l (Array.replicate ops.size false))) : heldP ops l = True := eq_true ⟨h.h⟩
theorem tailT (ops : Array Oper) (n : Nat) (h : KR (Region.lexTailB .any ops n)) : tailP ops n = True := eq_true ⟨h.h⟩
theorem planT (ops : Array Oper) (t : PT) (h : KR (Region.noSelect ops && chk ops ops.size true t (Array.replicate ops.size false))) : planP ops t = True := eq_true ⟨h.h⟩
theorem nb (a b : Bool) : (!a || !b) = !(a && b) := by cases a <;> cases b <;> rfl
def w64 (n : Int) : Int := IntKind.i64.wrap n
theorem wrap_w64 (n : Int) : IntKind.wrap .i64 n = w64 n := rfl
theorem w64_eq (n : Int) : w64 n = (n + 9223372036854775808) % 18446744073709551616 - 9223372036854775808 := by
  simp only [w64, IntKind.wrap_i64]
theorem w64_id {n : Int} (h : -9223372036854775808 ≤ n ∧ n < 9223372036854775808) : w64 n = n := by rw [w64_eq]; omega
def inR (n lo hi : Int) : Bool := decide (lo ≤ n) && decide (n ≤ hi)
theorem inR_iff {n lo hi : Int} : inR n lo hi = true ↔ lo ≤ n ∧ n ≤ hi := by simp [inR]
/-- All numbers lie between. -/
def allR (l : List Int) (lo hi : Int) : Bool := l.all fun n => inR n lo hi
theorem drop_getD {α : Type} (d : α) (l : List α) (i : Nat) (h : i < l.length) : l.drop i = l.getD i d :: l.drop (i + 1) := by
  rw [List.drop_eq_getElem_cons h, List.getD_eq_getElem?_getD, List.getElem?_eq_getElem h]; rfl
theorem allR_drop (l : List Int) (lo hi : Int) (i : Nat) (h : i < l.length) : allR (l.drop i) lo hi = (inR (l.getD i 0) lo hi && allR (l.drop (i + 1)) lo hi) := by
  rw [drop_getD 0 l i h]; rfl
theorem allR_end (l : List Int) (lo hi : Int) (i : Nat) (h : l.length ≤ i) : allR (l.drop i) lo hi = true := by rw [List.drop_of_length_le h]; rfl
theorem allR_get {l : List Int} {lo hi : Int} (h : allR l lo hi = true) {i : Nat} (hi' : i < l.length) : lo ≤ l.getD i 0 ∧ l.getD i 0 ≤ hi := by
  simp only [allR, List.all_eq_true] at h
  have := h (l.getD i 0) (by rw [List.getD_eq_getElem?_getD, List.getElem?_eq_getElem hi']; simp)
  exact inR_iff.1 this
theorem fold_drop {α β : Type} (d : α) (f : β → α → β) (l : List α) (i : Nat) (b : β) (h : i < l.length) : (l.drop i).foldl f b = (l.drop (i + 1)).foldl f (f b (l.getD i d)) := by
  rw [drop_getD d l i h]; rfl
theorem fold_end {α β : Type} (f : β → α → β) (l : List α) (i : Nat) (b : β) (h : l.length ≤ i) : (l.drop i).foldl f b = b := by rw [List.drop_of_length_le h]; rfl
theorem range_snoc {α : Type} (f : Nat → α) (i : Nat) : (List.range (i + 1)).map f = (List.range i).map f ++ [f i] := by
  rw [List.range_succ]; simp
theorem range_len {α : Type} (f : Nat → α) (n : Nat) : ((List.range n).map f).length = n := by simp
theorem range_getD {α : Type} (d : α) (f : Nat → α) (n i : Nat) (h : i < n) : ((List.range n).map f).getD i d = f i := by
  rw [List.getD_eq_getElem?_getD, List.getElem?_map, List.getElem?_range h]; rfl

/-- The first number from n on, k at most, at which c does not hold. -/
def wh (c : Nat → Bool) : Nat → Nat → Nat
  | 0, n => n
  | k + 1, n => if c n then wh c k (n + 1) else n
theorem wh_t {c : Nat → Bool} {k n : Nat} (h : c n = true) : wh c (k + 1) n = wh c k (n + 1) := by simp [wh, h]
theorem wh_f {c : Nat → Bool} {k n : Nat} (h : c n = false) : wh c k n = n := by cases k <;> simp [wh, h]

theorem set_step {α : Type} (d : α) (l out : List α) (i : Nat) (hl : out.length = l.length) (hi : i < l.length) (ho : out.take i = l.take i) :
    (out.set i (l.getD i d)).take (i + 1) = l.take (i + 1) := by
  apply List.ext_getElem?
  intro j
  have h0 := congrArg (·[j]?) ho
  simp only [List.getElem?_take] at *
  rw [List.getElem?_set]
  by_cases h1 : j < i + 1
  · simp only [h1, if_true]
    by_cases h2 : i = j
    · subst h2; simp [hl, hi, List.getD_eq_getElem?_getD]
    · have : j < i := by omega
      simp only [this, if_true] at h0
      simp [h2, h0]
  · simp [h1]
theorem take_all {α : Type} {l out : List α} {i : Nat} (hl : out.length = l.length) (hi : l.length ≤ i) (ho : out.take i = l.take i) : out = l := by
  rw [List.take_of_length_le (by omega), List.take_of_length_le hi] at ho; exact ho
theorem take_getD {α : Type} (d : α) (l : List α) (i : Nat) (hi : i < l.length) : l.take (i + 1) = l.take i ++ [l.getD i d] := by
  rw [List.take_add_one, List.getD_eq_getElem?_getD, List.getElem?_eq_getElem hi]; rfl

def eqL (a b : List Int) : Bool := decide (a = b)
/-- k, k+1, .. -/
def upFrom : Nat → Int → List Int
  | 0, _ => []
  | n + 1, k => k :: upFrom n (k + 1)
theorem upFrom_len : ∀ (n : Nat) (k : Int), (upFrom n k).length = n
  | 0, _ => rfl
  | n + 1, k => by simp [upFrom, upFrom_len n]
theorem upFrom_get : ∀ (n : Nat) (k : Int) (i : Nat), i < n → (upFrom n k).getD i 0 = k + i
  | 0, _, _, h => by omega
  | n + 1, k, 0, h => by simp [upFrom]
  | n + 1, k, i + 1, h => by
    have := upFrom_get n (k + 1) i (by omega)
    simp [upFrom] at this ⊢
    omega
/-- What 'heldIntS' answers. -/
def heldL : List Int → Int → Int
  | [], k => k
  | x :: r, k => if x = k then heldL r (k + 1) else -1
theorem heldL_drop (a : List Int) (k : Int) (i : Nat) (h : i < a.length) : heldL (a.drop i) k = if a.getD i 0 = k then heldL (a.drop (i + 1)) (k + 1) else -1 := by
  rw [drop_getD 0 a i h]; rfl
theorem heldL_up : ∀ (n : Nat) (k : Int), heldL (upFrom n k) k = k + n
  | 0, k => by simp [heldL, upFrom]
  | n + 1, k => by simp only [heldL, upFrom, if_pos, heldL_up n]; omega
/-- The sum, as the machine has it. -/
def sumF (l : List Int) (n : Int) : Int := l.foldl (fun n x => w64 (n + x)) n
theorem sumF_drop (l : List Int) (i : Nat) (q : Int) (h : i < l.length) : sumF (l.drop i) q = sumF (l.drop (i + 1)) (w64 (q + l.getD i 0)) := fold_drop 0 _ l i q h
theorem sumF_end (l : List Int) (i : Nat) (q : Int) (h : l.length ≤ i) : sumF (l.drop i) q = q := fold_end _ l i q h
theorem sumF_bd : ∀ (l : List Int) (n lo hi : Int), allR l lo hi = true → -1000000000 ≤ lo → lo ≤ 0 → 0 ≤ hi → hi ≤ 1000000000 → -4611686018427387904 ≤ n + lo * l.length → n + hi * l.length ≤ 4611686018427387904 → n + lo * l.length ≤ sumF l n ∧ sumF l n ≤ n + hi * l.length
  | [], n, _, _, _, _, _, _, _, _, _ => by simp [sumF]
  | x :: r, n, lo, hi, h, h0, h00, h11, h1, h2, h3 => by
    simp only [allR, List.all_cons, Bool.and_eq_true] at h
    have hx := inR_iff.1 h.1
    simp only [List.length_cons] at h2 h3 ⊢
    have e1 : lo * ((r.length + 1 : Nat) : Int) = lo * r.length + lo := by rw [Int.natCast_add, Int.mul_add]; simp
    have e2 : hi * ((r.length + 1 : Nat) : Int) = hi * r.length + hi := by rw [Int.natCast_add, Int.mul_add]; simp
    rw [e1] at h2 ⊢
    rw [e2] at h3 ⊢
    have g1 : lo * (r.length : Int) ≤ 0 := Int.mul_nonpos_of_nonpos_of_nonneg h00 (by omega)
    have g2 : 0 ≤ hi * (r.length : Int) := Int.mul_nonneg h11 (by omega)
    have e : w64 (n + x) = n + x := w64_id (by omega)
    have := sumF_bd r (n + x) lo hi h.2 h0 h00 h11 h1 (by omega) (by omega)
    simp only [sumF, List.foldl_cons] at this ⊢
    rw [e]
    omega

/-- What the contracts of every chapter speak of, behind one variable. -/
structure Sb where
  inR : Int → Int → Int → Bool
  allR : List Int → Int → Int → Bool
  eqL : List Int → List Int → Bool
  sm : List Int → Prop
  up : List Int → Int → List Int
  upK : List Int → Int → Int
  held : List Int → Int → Int
  kr : Int → Prop
  sumF : List Int → Int → Int
def sb : Sb := ⟨inR, allR, eqL, fun l => l.length ≤ 1048576, fun l k => upFrom l.length k, fun l k => k + l.length, heldL, fun k => 0 ≤ k ∧ k ≤ 4611686018427387904, sumF⟩
end Go.Proofs.YtdkpncnkhnmidaaDoor
