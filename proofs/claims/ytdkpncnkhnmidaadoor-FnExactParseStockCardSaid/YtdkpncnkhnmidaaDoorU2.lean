/-
  A stock's text read again: what is computed. No program here.
-/
import Derived.Test.YtdkpncnkhnmidaaDoorUd
import Derived.Lib.FieldsP
import Derived.Lib.AtoiAll
set_option linter.unusedSimpArgs false
set_option linter.unusedVariables false
namespace Go.Proofs.YtdkpncnkhnmidaaDoor
open Go.Ab

/-! Small numbers. -/
def dig (d : Nat) : UInt8 := UInt8.ofNat (48 + d)
def dec3 (n : Nat) : List UInt8 := if n < 10 then [dig n] else if n < 100 then [dig (n / 10), dig (n % 10)] else [dig (n / 10 / 10), dig (n / 10 % 10), dig (n % 10)]
theorem decS_3 {n : Nat} (h : n < 1000) : decS (n : Int) = dec3 n := by
  have one : ∀ m : Nat, m < 10 → decS (m : Int) = [dig m] := by
    intro m hm
    rw [decS_small (by omega) (by omega), dig]
    congr 2
  have two : ∀ m : Nat, 10 ≤ m → m < 100 → decS (m : Int) = [dig (m / 10), dig (m % 10)] := by
    intro m h1 h2
    rw [decS_big (by omega), show ((m : Int) / 10) = ((m / 10 : Nat) : Int) by omega, one _ (by omega)]
    have : (48 + (m : Int) % 10).toNat = 48 + m % 10 := by omega
    rw [this]; rfl
  unfold dec3
  by_cases h1 : n < 10
  · rw [if_pos h1, one n h1]
  · rw [if_neg h1]
    by_cases h2 : n < 100
    · rw [if_pos h2, two n (by omega) h2]
    · rw [if_neg h2, decS_big (by omega), show ((n : Int) / 10) = ((n / 10 : Nat) : Int) by omega, two _ (by omega) (by omega)]
      have : (48 + (n : Int) % 10).toNat = 48 + n % 10 := by omega
      rw [this]; rfl
/-! A numeral read. -/
def digB (c : UInt8) : Bool := decide (48 ≤ c.toNat) && decide (c.toNat ≤ 57)
def horn (a : List UInt8) (n : Int) : Int := a.foldl (fun n c => 10 * n + ((c.toNat : Int) - 48)) n
def badR (a : List UInt8) : Bool := !(inR (a.length : Int) 1 6) || ((((a.getD 0 0).toNat : Int) == 48) && decide (1 < (a.length : Int)))
def rd (a : List UInt8) : Int := if badR a then -1 else if a.all digB then horn a 0 else -1
def okD (n : Nat) : Bool := decide (Lib.atoiAll (dec3 n) = .ok (n : Int)) && decide (rd (dec3 n) = n) && (dec3 n).all digB && !(dec3 n).isEmpty
theorem okD_all : (List.range 201).all okD = true := by decide +kernel
theorem okD_at {n : Nat} (h : n ≤ 200) : Lib.atoiAll (dec3 n) = .ok (n : Int) ∧ rd (dec3 n) = n ∧ (∀ c ∈ dec3 n, digB c = true) ∧ dec3 n ≠ [] := by
  have := List.all_eq_true.1 okD_all n (by simp; omega)
  simp only [okD, Bool.and_eq_true, decide_eq_true_eq, List.all_eq_true] at this
  obtain ⟨⟨⟨h1, h2⟩, h3⟩, h4⟩ := this
  refine ⟨h1, h2, h3, fun e => ?_⟩
  rw [e] at h4; cases h4
theorem horn_snoc (a : List UInt8) (d : UInt8) (n : Int) : horn (a ++ [d]) n = 10 * horn a n + ((d.toNat : Int) - 48) := by simp [horn]
theorem digB_iff {c : UInt8} : digB c = true ↔ 48 ≤ c.toNat ∧ c.toNat ≤ 57 := by simp [digB]
theorem horn_pos : ∀ (a : List UInt8) (n : Int), 1 ≤ n → (∀ c ∈ a, digB c = true) → 1 ≤ horn a n
  | [], n, h, _ => h
  | c :: a, n, h, hd => by
    have := digB_iff.1 (hd c (by simp))
    simp only [horn, List.foldl_cons]
    exact horn_pos a _ (by omega) (fun x hx => hd x (by simp [hx]))
/-- A row of digits that does not begin with a nought, or is one digit, is the decimal text of its number. -/
theorem dec_horn : ∀ (k : Nat) (a : List UInt8), a.length = k → a ≠ [] → (∀ c ∈ a, digB c = true) → (a.getD 0 0 ≠ 48 ∨ a.length = 1) → decS (horn a 0) = a ∧ (a.getD 0 0 ≠ 48 → 1 ≤ horn a 0) ∧ 0 ≤ horn a 0
  | 0, a, h, hne, _, _ => absurd (List.eq_nil_of_length_eq_zero h) hne
  | k + 1, a, h, hne, hd, h0 => by
    obtain ⟨b, d, rfl⟩ : ∃ b d, a = b ++ [d] := by
      rcases List.eq_nil_or_concat a with h | ⟨b, d, h⟩
      · exact absurd h hne
      · exact ⟨b, d, by simpa using h⟩
    have hdd := digB_iff.1 (hd d (by simp))
    rw [horn_snoc]
    have ne48 : ∀ x : UInt8, x ≠ 48 → x.toNat ≠ 48 := by
      intro x hx e
      exact hx (UInt8.toNat_inj.1 (by rw [e]; rfl))
    have hud : ∀ m : Nat, 48 + m = d.toNat → UInt8.ofNat (48 + m) = d := by
      intro m hm
      rw [hm]; simp
    by_cases hb : b = []
    · subst hb
      simp only [horn, List.foldl_nil, List.nil_append, List.getD_cons_zero]
      refine ⟨?_, fun hx => ?_, by omega⟩
      · rw [decS_small (by omega) (by omega)]
        congr 1
        have : (48 + (10 * 0 + ((d.toNat : Int) - 48))).toNat = 48 + (d.toNat - 48) := by omega
        rw [this]; exact hud _ (by omega)
      · have := ne48 d hx; omega
    · have hbl : 0 < b.length := List.length_pos_iff.2 hb
      have e0 : (b ++ [d]).getD 0 0 = b.getD 0 0 := by
        rw [List.getD_eq_getElem?_getD, List.getElem?_append_left hbl, ← List.getD_eq_getElem?_getD]
      rw [e0] at h0 ⊢
      have hb48 : b.getD 0 0 ≠ 48 := by
        rcases h0 with h0 | h0
        · exact h0
        · simp at h0; exact absurd h0 hb
      obtain ⟨q1, q2, q3⟩ := dec_horn k b (by simp at h; exact h) hb (fun c hc => hd c (by simp [hc])) (.inl hb48)
      have hp := q2 hb48
      refine ⟨?_, fun _ => by omega, by omega⟩
      rw [decS_big (by omega)]
      have e1 : (10 * horn b 0 + ((d.toNat : Int) - 48)) / 10 = horn b 0 := by omega
      have e2 : (48 + (10 * horn b 0 + ((d.toNat : Int) - 48)) % 10).toNat = 48 + (d.toNat - 48) := by omega
      rw [e1, e2, q1, hud _ (by omega)]
theorem rd_dec {a : List UInt8} (h : 0 ≤ rd a) : decS (rd a) = a := by
  unfold rd at h ⊢
  by_cases hb : badR a = true
  · rw [if_pos hb] at h; omega
  · rw [if_neg hb] at h ⊢
    by_cases hd : a.all digB = true
    · rw [if_pos hd] at h ⊢
      have hb : badR a = false := by simpa using hb
      simp only [badR, Bool.or_eq_false_iff, Bool.not_eq_false', inR_iff, Bool.and_eq_false_iff, beq_eq_false_iff_ne, decide_eq_false_iff_not] at hb
      have hl := hb.1
      refine (dec_horn _ a rfl (fun e => by rw [e] at hl; simp at hl) (by simpa using hd) ?_).1
      rcases hb.2 with h2 | h2
      · left; intro e; rw [e] at h2; exact h2 rfl
      · right; omega
    · rw [if_neg hd] at h; omega
end Go.Proofs.YtdkpncnkhnmidaaDoor
