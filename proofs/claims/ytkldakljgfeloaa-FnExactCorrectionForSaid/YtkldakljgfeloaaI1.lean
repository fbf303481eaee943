/-
  Trials: the middle, the spread and the correction, both sides.
-/
import Derived.Test.YtkldakljgfeloaaI0
set_option linter.unusedSimpArgs false
set_option linter.unusedVariables false
namespace Go.Proofs.Ytkldakljgfeloaa
open Go.Ab

def good (l : List Int) : Bool := inR l.length 1 40 && allR l (-500) 500
/-! Insertion. -/
def ltK (out : List Int) (n : Int) (k : Nat) : Bool := decide ((k : Int) < out.length) && decide (out.getD k 0 < n)
def inK (out : List Int) (n : Int) : Nat := wh (ltK out n) (out.length + 1) 0
def insL (out : List Int) (n : Int) : List Int := out.take (inK out n) ++ n :: out.drop (inK out n)
def gsL (l : List Int) : List Int := l.foldl insL []
theorem insL_len (out : List Int) (n : Int) : (insL out n).length = out.length + 1 := by
  simp only [insL, List.length_append, List.length_cons, List.length_take, List.length_drop]; omega
theorem gs_fold (l : List Int) : ∀ out, (l.foldl insL out).length = out.length + l.length := by
  induction l with
  | nil => intro out; rfl
  | cons x l ih => intro out; rw [List.foldl_cons, ih, insL_len]; simp; omega
theorem gsL_len (l : List Int) : (gsL l).length = l.length := by rw [gsL, gs_fold]; simp
def sortedL (l : List Int) : Prop := l.Pairwise (· ≤ ·)
theorem wh_spec (c : Nat → Bool) : ∀ (k n : Nat), n ≤ wh c k n ∧ wh c k n ≤ n + k ∧ (∀ j, n ≤ j → j < wh c k n → c j = true) ∧ (wh c k n < n + k → c (wh c k n) = false)
  | 0, n => by simp [wh]; omega
  | k + 1, n => by
    unfold wh
    cases h : c n with
    | true =>
      obtain ⟨h1, h2, h3, h4⟩ := wh_spec c k (n + 1)
      simp only [if_true]
      refine ⟨by omega, by omega, fun j hj hl => ?_, fun hl => h4 (by omega)⟩
      rcases Nat.eq_or_lt_of_le hj with e | e
      · rw [← e]; exact h
      · exact h3 j e hl
    | false => exact ⟨by simp, by simp, (fun j hj hl => by simp at hl; omega), fun _ => by simpa using h⟩
theorem inK_le (out : List Int) (n : Int) : inK out n ≤ out.length ∧ (∀ j, j < inK out n → out.getD j 0 < n) ∧ (inK out n < out.length → n ≤ out.getD (inK out n) 0) := by
  obtain ⟨h1, h2, h3, h4⟩ := wh_spec (ltK out n) (out.length + 1) 0
  have e : inK out n = wh (ltK out n) (out.length + 1) 0 := rfl
  rw [← e] at h1 h2 h3 h4
  have hle : inK out n ≤ out.length := by
    rcases Nat.lt_or_ge out.length (inK out n) with h | h
    · have := h3 out.length (by omega) h
      simp [ltK] at this
    · exact h
  refine ⟨hle, fun j hj => ?_, fun hl => ?_⟩
  · have := h3 j (by omega) hj
    simp only [ltK, Bool.and_eq_true, decide_eq_true_eq] at this
    exact this.2
  · have := h4 (by omega)
    simp only [ltK, Bool.and_eq_false_iff, decide_eq_false_iff_not] at this
    rcases this with h | h <;> omega
theorem ins_sorted {out : List Int} (n : Int) (h : sortedL out) : sortedL (insL out n) := by
  obtain ⟨h1, h2, h3⟩ := inK_le out n
  unfold sortedL insL
  rw [List.pairwise_append]
  have hget : ∀ x ∈ out.take (inK out n), x < n := by
    intro x hx
    obtain ⟨j, hj, e⟩ := List.mem_iff_getElem.1 hx
    have hj' : j < inK out n := by simp at hj; omega
    have := h2 j hj'
    have e2 : out.getD j 0 = x := by rw [← e]; simp [List.getD, show j < out.length by omega]
    omega
  have hdrop : ∀ y ∈ out.drop (inK out n), n ≤ y := by
    intro y hy
    obtain ⟨j, hj, e⟩ := List.mem_iff_getElem.1 hy
    have hj' : inK out n + j < out.length := by simp at hj; omega
    have h4 := h3 (by omega)
    have e2 : out.getD (inK out n + j) 0 = y := by rw [← e]; simp [List.getD, hj']
    rcases Nat.eq_zero_or_pos j with h0 | h0
    · subst h0; simp only [Nat.add_zero] at e2; omega
    · have := (List.pairwise_iff_getElem.1 h) (inK out n) (inK out n + j) (by omega) hj' (by omega)
      have e3 : out.getD (inK out n) 0 = out[inK out n] := by simp [List.getD, show inK out n < out.length by omega]
      have e4 : out.getD (inK out n + j) 0 = out[inK out n + j] := by simp [List.getD, hj']
      omega
  refine ⟨h.sublist (List.take_sublist _ _), List.pairwise_cons.2 ⟨fun y hy => hdrop y hy, h.sublist (List.drop_sublist _ _)⟩, fun x hx y hy => ?_⟩
  have hx' := hget x hx
  rcases List.mem_cons.1 hy with rfl | hy
  · omega
  · have := hdrop y hy; omega
theorem ins_perm (out : List Int) (n : Int) : (insL out n).Perm (n :: out) := by
  unfold insL
  refine List.perm_middle.trans ?_
  rw [List.take_append_drop]
theorem gs_sorted (l : List Int) : ∀ out, sortedL out → sortedL (l.foldl insL out) := by
  induction l with
  | nil => intro out h; exact h
  | cons x l ih => intro out h; rw [List.foldl_cons]; exact ih _ (ins_sorted x h)
theorem gs_perm (l : List Int) : ∀ out, (l.foldl insL out).Perm (l ++ out) := by
  induction l with
  | nil => intro out; exact List.Perm.refl _
  | cons x l ih =>
    intro out
    rw [List.foldl_cons]
    refine (ih _).trans ?_
    refine (List.Perm.append_left l (ins_perm out x)).trans ?_
    exact List.perm_middle
theorem sorted_unique : ∀ {a b : List Int}, sortedL a → sortedL b → a.Perm b → a = b
  | [], b, _, _, h => by rw [List.nil_perm.1 h]
  | x :: a, [], _, _, h => by have := h.length_eq; simp at this
  | x :: a, y :: b, ha, hb, h => by
    have hx : x ∈ y :: b := h.mem_iff.1 (by simp)
    have hy : y ∈ x :: a := h.mem_iff.2 (by simp)
    have h1 := (List.pairwise_cons.1 ha)
    have h2 := (List.pairwise_cons.1 hb)
    have e : x = y := by
      rcases List.mem_cons.1 hx with e | hx
      · exact e
      · rcases List.mem_cons.1 hy with e | hy
        · exact e.symm
        · have := h1.1 y hy
          have := h2.1 x hx
          omega
    subst e
    rw [sorted_unique h1.2 h2.2 (List.Perm.cons_inv h)]
theorem gs_srt (l : List Int) : gsL l = srt l := by
  refine sorted_unique (gs_sorted l [] List.Pairwise.nil) ?_ ?_
  · have := List.pairwise_mergeSort (le := fun (x y : Int) => decide (x ≤ y)) (by intro a b c; simp; omega) (by intro a b; simp; omega) l
    exact this.imp (by simp)
  · have h1 := gs_perm l []
    rw [List.append_nil] at h1
    exact h1.trans (List.mergeSort_perm l _).symm
/-! What is asked for. -/
def mdV (l : List Int) : Int := if good l then (srt l).getD ((l.length - 1) / 2) 0 else 0
def spV (l : List Int) : Int := if good l then (srt l).getD (l.length - 1) 0 - (srt l).getD 0 0 else 0
def cfV (l : List Int) : Int := if good l then (let a := (srt l).getD ((l.length - 1) / 2) 0; let b := (srt l).getD (l.length / 2) 0; if 0 < a then -a else if b < 0 then -b else 0) else 0
theorem good_len {l : List Int} (h : good l = true) : 1 ≤ l.length ∧ l.length ≤ 40 := by
  simp only [good, Bool.and_eq_true, inR_iff] at h; omega
theorem srt_bd {l : List Int} (h : good l = true) {i : Nat} (hi : i < l.length) : -500 ≤ (srt l).getD i 0 ∧ (srt l).getD i 0 ≤ 500 := by
  have hm : (srt l).getD i 0 ∈ l := by
    have : (srt l).getD i 0 ∈ srt l := by
      have hl : i < (srt l).length := by rw [srt_len]; exact hi
      simp [List.getD, hl]
    exact (List.mergeSort_perm l _).mem_iff.1 this
  simp only [good, Bool.and_eq_true, allR, List.all_eq_true] at h
  exact inR_iff.1 (h.2 _ hm)
theorem srt_le (l : List Int) {i j : Nat} (hij : i ≤ j) (hj : j < l.length) : (srt l).getD i 0 ≤ (srt l).getD j 0 := by
  have hs : sortedL (srt l) := by rw [← gs_srt]; exact gs_sorted l [] List.Pairwise.nil
  have hl := srt_len l
  rcases Nat.eq_or_lt_of_le hij with e | e
  · subst e; exact Int.le_refl _
  · have := (List.pairwise_iff_getElem.1 hs) i j (by omega) (by omega) e
    have e3 : (srt l).getD i 0 = (srt l)[i] := by simp [List.getD, show i < (srt l).length by omega]
    have e4 : (srt l).getD j 0 = (srt l)[j] := by simp [List.getD, show j < (srt l).length by omega]
    rw [e3, e4]; exact this
end Go.Proofs.Ytkldakljgfeloaa
