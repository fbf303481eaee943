/-
  A stock's text cut and read: both sides answer as the text itself says. No program here.
-/
import Derived.Test.YtdkpncnkhnmidaaDoorU2
set_option linter.unusedSimpArgs false
set_option linter.unusedVariables false
namespace Go.Proofs.YtdkpncnkhnmidaaDoor
open Go.Ab

/-! Cut at a byte. -/
def spS (b : UInt8) : List UInt8 → List (List UInt8)
  | [] => [[]]
  | c :: r => if c = b then [] :: spS b r else match spS b r with | x :: xs => (c :: x) :: xs | [] => [[c]]
theorem spS_ne (b : UInt8) : ∀ s, spS b s ≠ []
  | [] => by simp [spS]
  | c :: r => by
    unfold spS
    split
    · simp
    · split <;> simp
theorem spS_cons {b c : UInt8} (h : c ≠ b) (r : List UInt8) : ∃ x xs, spS b r = x :: xs ∧ spS b (c :: r) = (c :: x) :: xs := by
  cases hr : spS b r with
  | nil => exact absurd hr (spS_ne b r)
  | cons x xs => exact ⟨x, xs, rfl, by simp [spS, h, hr]⟩
theorem spS_none {b : UInt8} : ∀ {a : List UInt8}, b ∉ a → spS b a = [a]
  | [], _ => rfl
  | c :: r, h => by
    simp at h
    obtain ⟨x, xs, h1, h2⟩ := spS_cons (fun e => h.1 e.symm) r
    rw [h2]
    rw [spS_none h.2] at h1
    cases h1; rfl
theorem spS_hit {b : UInt8} : ∀ {a : List UInt8} (r : List UInt8), b ∉ a → spS b (a ++ b :: r) = a :: spS b r
  | [], r, _ => by simp [spS]
  | c :: a, r, h => by
    simp at h
    obtain ⟨x, xs, h1, h2⟩ := spS_cons (fun e => h.1 e.symm) (a ++ b :: r)
    rw [spS_hit r h.2] at h1
    cases h1
    exact h2
/-- The last part grows, or a new one begins. -/
theorem spS_snoc (b : UInt8) : ∀ (s : List UInt8) (c : UInt8), ∃ xs x, spS b s = xs ++ [x] ∧ spS b (s ++ [c]) = if c = b then xs ++ [x] ++ [[]] else xs ++ [x ++ [c]]
  | [], c => ⟨[], [], rfl, by by_cases h : c = b <;> simp [spS, h]⟩
  | d :: s, c => by
    obtain ⟨xs, x, h1, h2⟩ := spS_snoc b s c
    by_cases hb : d = b
    · refine ⟨[] :: xs, x, by simp [spS, hb, h1], ?_⟩
      simp only [List.cons_append, spS, hb, if_true, h2]
      by_cases hc : c = b <;> simp [hc]
    · cases xs with
      | nil =>
        refine ⟨[], d :: x, by simp [spS, hb, h1], ?_⟩
        simp only [List.cons_append, spS, hb, if_false, h2]
        by_cases hc : c = b <;> simp [hc]
      | cons y ys =>
        refine ⟨(d :: y) :: ys, x, by simp [spS, hb, h1], ?_⟩
        simp only [List.cons_append, spS, hb, if_false, h2]
        by_cases hc : c = b <;> simp [hc]
theorem spS_join (b : UInt8) : ∀ s, ∃ xs x, spS b s = xs ++ [x] ∧ s = xs.flatMap (fun p => p ++ [b]) ++ x
  | [] => ⟨[], [], rfl, rfl⟩
  | c :: r => by
    obtain ⟨xs, x, h1, h2⟩ := spS_join b r
    by_cases hc : c = b
    · exact ⟨[] :: xs, x, by simp [spS, hc, h1], by simp [hc, ← h2]⟩
    · cases xs with
      | nil => exact ⟨[], c :: x, by simp [spS, hc, h1], by simp at h2; simp [h2]⟩
      | cons y ys =>
        refine ⟨(c :: y) :: ys, x, by simp [spS, hc, h1], ?_⟩
        simp only [List.flatMap_cons, List.cons_append] at h2 ⊢
        rw [← h2]
/-- Slips read off parts. -/
def pcs : List (List UInt8) → Option (List (List Int))
  | [] => some []
  | p :: r => match spS 120 p with
    | [a, c] => (pcs r).map ([rd c, rd a] :: ·)
    | _ => none
def psO (s : List UInt8) : Option (List (List Int)) := if 9 < (spS 32 s).length ∨ (spS 32 s).getLastD [] ≠ [] then none else pcs (spS 32 s).dropLast
/-- What the specification answers. -/
def qsO (s : List UInt8) : Option (List (List Int)) := match psO s with | some l => if stB l then some l else none | none => none

/-! Digits hold none of the marks. -/
theorem dec_mark {n : Nat} (h : n ≤ 200) {b : UInt8} (hb : b = 32 ∨ b = 120) : b ∉ decS (n : Int) := by
  rw [decS_3 (by omega)]
  intro hm
  have := digB_iff.1 ((okD_at h).2.2.1 b hm)
  rcases hb with rfl | rfl
  · have e : (32 : UInt8).toNat = 32 := rfl
    omega
  · have e : (120 : UInt8).toNat = 120 := rfl
    omega
theorem dec_rd {n : Nat} (h : n ≤ 200) : rd (decS (n : Int)) = n := by rw [decS_3 (by omega)]; exact (okD_at h).2.1
/-- A slip of a stock. -/
def slP (x : List Int) : Prop := ∃ a b : Nat, x = [(a : Int), (b : Int)] ∧ a ≤ 200 ∧ b ≤ 200
theorem slT_eq2 {a b : Nat} : slT [(a : Int), (b : Int)] = (decS b ++ 120 :: decS a) ++ [32] := by simp [slT]
theorem sp_slips : ∀ (l : List (List Int)), (∀ x ∈ l, slP x) → ∃ ps, spS 32 (txS l) = ps ++ [[]] ∧ ps.length = l.length ∧ pcs ps = some l
  | [], _ => ⟨[], rfl, rfl, rfl⟩
  | x :: l, h => by
    obtain ⟨a, b, rfl, ha, hb⟩ := h x (by simp)
    obtain ⟨ps, h1, h2, h3⟩ := sp_slips l (fun y hy => h y (by simp [hy]))
    have hno : (32 : UInt8) ∉ decS (b : Int) ++ 120 :: decS (a : Int) := by
      rw [List.mem_append, List.mem_cons]
      rintro (h | h | h)
      · exact dec_mark hb (.inl rfl) h
      · cases h
      · exact dec_mark ha (.inl rfl) h
    have e : txS ([(a : Int), (b : Int)] :: l) = (decS b ++ 120 :: decS a) ++ 32 :: txS l := by
      simp only [txS, List.flatMap_cons, slT_eq2]
      simp
    refine ⟨(decS b ++ 120 :: decS a) :: ps, ?_, by simp [h2], ?_⟩
    · rw [e, spS_hit _ hno, h1]; rfl
    · rw [pcs, spS_hit _ (dec_mark hb (.inr rfl)), spS_none (dec_mark ha (.inr rfl))]
      simp only [h3, Option.map_some, dec_rd ha, dec_rd hb]
theorem st_slips {l : List (List Int)} (h2 : rec2 l) (h : stB l = true) : ∀ x ∈ l, slP x := by
  intro x hx
  obtain ⟨i, hi, rfl⟩ := List.getElem_of_mem hx
  have hb := stB_at h (i := i) hi
  have hg : l.getD i [] = l[i] := by rw [List.getD_eq_getElem?_getD, List.getElem?_eq_getElem hi]; rfl
  obtain ⟨a, b, hab⟩ := rec2_get h2 hi
  simp only [fL, fC] at hb
  rw [hab] at hb
  simp only [List.getD_cons_zero, List.getD_cons_succ] at hb
  refine ⟨a.toNat, b.toNat, ?_, by omega, by omega⟩
  rw [← hg, hab]
  have e1 : ((a.toNat : Nat) : Int) = a := by omega
  have e2 : ((b.toNat : Nat) : Int) = b := by omega
  rw [e1, e2]
/-- The specification reads a stock off its text. -/
theorem qsO_tx {l : List (List Int)} (h2 : rec2 l) (h : stB l = true) : qsO (txS l) = some l := by
  obtain ⟨ps, h1, h3, h4⟩ := sp_slips l (st_slips h2 h)
  have hl := stB_len h
  have hp : psO (txS l) = some l := by
    unfold psO
    rw [h1, List.dropLast_concat, h4, if_neg]
    rintro (h | h)
    · simp at h; omega
    · exact h (by simp)
  unfold qsO
  rw [hp]
  simp [h]
theorem pcs_tx : ∀ (ps : List (List UInt8)) (l : List (List Int)), pcs ps = some l → (rec2 l ∧ l.length = ps.length) ∧ ((∀ x ∈ l, 0 ≤ x.getD 0 0 ∧ 0 ≤ x.getD 1 0) → txS l = ps.flatMap fun p => p ++ [32])
  | [], l, h => by simp [pcs] at h; subst h; exact ⟨⟨by intro x hx; simp at hx, rfl⟩, fun _ => rfl⟩
  | p :: r, l, h => by
    rw [pcs] at h
    split at h
    · rename_i a c hs
      cases hr : pcs r with
      | none => rw [hr] at h; cases h
      | some q =>
        rw [hr] at h
        simp at h
        subst h
        obtain ⟨h1, h2⟩ := pcs_tx r q hr
        refine ⟨⟨?_, by simp [h1.2]⟩, fun hx => ?_⟩
        · intro x hx
          rcases List.mem_cons.1 hx with rfl | hx
          · rfl
          · exact h1.1 x hx
        · have h0 := hx [rd c, rd a] (by simp)
          simp only [List.getD_cons_zero, List.getD_cons_succ] at h0
          obtain ⟨xs, x, j1, j2⟩ := spS_join 120 p
          rw [hs] at j1
          have hxs : xs = [a] ∧ x = c := by
            match xs, j1 with
            | [y], j1 => simp at j1; exact ⟨by rw [j1.1], j1.2.symm⟩
            | [], j1 => simp at j1
            | y :: z :: t, j1 => have := congrArg List.length j1; simp at this
          obtain ⟨rfl, rfl⟩ := hxs
          have ih := h2 (fun y hy => hx y (by simp [hy]))
          simp only [txS, List.flatMap_cons] at ih ⊢
          rw [ih]
          congr 1
          rw [j2]
          simp only [slT, List.getD_cons_zero, List.getD_cons_succ, rd_dec h0.1, rd_dec h0.2]
          simp
    · cases h
/-- And from nothing else. -/
theorem qsO_some {s : List UInt8} {l : List (List Int)} (h : qsO s = some l) : rec2 l ∧ stB l = true ∧ s = txS l := by
  unfold qsO at h
  split at h
  · rename_i l' hp
    split at h
    · rename_i hst
      cases h
      unfold psO at hp
      split at hp
      · cases hp
      · rename_i hn
        obtain ⟨⟨h2, _⟩, h3⟩ := pcs_tx _ _ hp
        refine ⟨h2, hst, ?_⟩
        rw [h3]
        · obtain ⟨xs, x, j1, j2⟩ := spS_join 32 s
          have hx : x = [] := by
            by_cases hx : x = []
            · exact hx
            · exact absurd (.inr (by rw [j1]; simpa using hx)) hn
          rw [j1, List.dropLast_concat]
          rw [hx, List.append_nil] at j2
          exact j2
        · intro x hx
          obtain ⟨a, b, rfl, _, _⟩ := st_slips h2 hst x hx
          simp
    · cases h
  · cases h
end Go.Proofs.YtdkpncnkhnmidaaDoor
