/-
  Hyphens in words: the places, in plain words.
-/
import Derived.Test.YtcbfpkdcgbkfaaaDoorV7
set_option linter.unusedSimpArgs false
set_option linter.unusedVariables false
namespace Go.Proofs.YtcbfpkdcgbkfaaaDoor
open Go.Ab Go.RowKit

/-- n + 1 for the n below N of which c holds. -/
def plT (c : Nat → Bool) : Nat → List Int
  | 0 => []
  | n + 1 => plT c n ++ if c n then [(n : Int) + 1] else []
theorem plT_congr {c d : Nat → Bool} : ∀ N, (∀ n, n < N → c n = d n) → plT c N = plT d N
  | 0, _ => rfl
  | N + 1, h => by simp only [plT]; rw [plT_congr N (fun n hn => h n (by omega)), h N (by omega)]
theorem plT_end {c : Nat → Bool} {M : Nat} (h : ∀ n, M ≤ n → c n = false) : ∀ N, M ≤ N → plT c N = plT c M
  | 0, hN => by rw [show M = 0 by omega]
  | N + 1, hN => by
    by_cases e : M = N + 1
    · rw [e]
    · simp only [plT]; rw [h N (by omega), plT_end h N (by omega)]; simp
theorem plT_mem {c : Nat → Bool} : ∀ N x, x ∈ plT c N ↔ ∃ n, n < N ∧ c n = true ∧ x = (n : Int) + 1
  | 0, x => by simp [plT]
  | N + 1, x => by
    simp only [plT, List.mem_append, plT_mem N x]
    constructor
    · rintro (⟨n, h1, h2, h3⟩ | h)
      · exact ⟨n, by omega, h2, h3⟩
      · by_cases hc : c N = true
        · rw [if_pos hc] at h; simp at h; exact ⟨N, by omega, hc, h⟩
        · rw [if_neg hc] at h; cases h
    · rintro ⟨n, h1, h2, h3⟩
      by_cases e : n = N
      · subst e; right; rw [if_pos h2]; simp [h3]
      · exact .inl ⟨n, by omega, h2, h3⟩
theorem plT_asc {c : Nat → Bool} : ∀ N, (plT c N).Pairwise (· < ·)
  | 0 => List.Pairwise.nil
  | N + 1 => by
    simp only [plT]
    rw [List.pairwise_append]
    refine ⟨plT_asc N, by split <;> simp, fun a ha b hb => ?_⟩
    obtain ⟨n, h1, _, h3⟩ := (plT_mem N a).1 ha
    split at hb
    · simp at hb; omega
    · cases hb
theorem asc_ext : ∀ {l l' : List Int}, l.Pairwise (· < ·) → l'.Pairwise (· < ·) → (∀ x, x ∈ l ↔ x ∈ l') → l = l'
  | [], [], _, _, _ => rfl
  | [], y :: l', _, _, h => absurd ((h y).2 (by simp)) (by simp)
  | x :: l, [], _, _, h => absurd ((h x).1 (by simp)) (by simp)
  | x :: l, y :: l', h1, h2, h => by
    rw [List.pairwise_cons] at h1 h2
    have e : x = y := by
      rcases List.mem_cons.1 ((h x).1 (by simp)) with e | hx
      · exact e
      · rcases List.mem_cons.1 ((h y).2 (by simp)) with e | hy
        · exact e.symm
        · have a := h1.1 y hy; have b := h2.1 x hx; omega
    subst e
    congr 1
    refine asc_ext h1.2 h2.2 fun z => ?_
    constructor
    · intro hz
      rcases List.mem_cons.1 ((h z).1 (by simp [hz])) with e | hz'
      · have := h1.1 z hz; omega
      · exact hz'
    · intro hz
      rcases List.mem_cons.1 ((h z).2 (by simp [hz])) with e | hz'
      · have := h2.1 z hz; omega
      · exact hz'

/-! Sums of lengths go up. -/
theorem cums_gt : ∀ (ps : List (List UInt8)) (n : Int), (∀ p ∈ ps, p ≠ []) → (∀ x ∈ cums n ps, n < x) ∧ (cums n ps).Pairwise (· < ·)
  | [], n, _ => by simp [cums]
  | p :: ps, n, h => by
    have hp : 0 < p.length := by
      have := h p (by simp)
      cases p with
      | nil => exact absurd rfl this
      | cons _ _ => simp
    obtain ⟨h1, h2⟩ := cums_gt ps (n + p.length) (fun q hq => h q (by simp [hq]))
    refine ⟨fun x hx => ?_, ?_⟩
    · rcases List.mem_cons.1 hx with rfl | hx
      · omega
      · have := h1 x hx; omega
    · exact List.pairwise_cons.2 ⟨h1, h2⟩
theorem cums_last {e : List UInt8} : ∃ q, cums 0 (spl e) = q ++ [((plainE e).length : Int)] := by
  obtain ⟨xs, x, hx⟩ : ∃ xs x, spl e = xs ++ [x] := by
    rcases List.eq_nil_or_concat (spl e) with h | ⟨xs, x, h⟩
    · exact absurd h (spl_ne e)
    · exact ⟨xs, x, by simpa using h⟩
  have ht := spl_tot e
  rw [hx, tot_app] at ht
  simp only [tot] at ht
  refine ⟨cums 0 xs, ?_⟩
  rw [hx, cums_app]
  congr 2
  omega

/-- The places of an exception; of values. -/
def inW (w : List UInt8) (n : Int) : Bool := inR n 2 ((w.length : Int) - 2)
def plE (x w : List UInt8) : List Int := (bP x).filter (inW w)
def odd (V : List Int) (n : Nat) : Bool := decide ((V.getD n 0).tmod 2 = 1)
def plV (V : List Int) (w : List UInt8) : List Int := plT (fun n => odd V n && inW w ((n : Int) + 1)) V.length
def plc (p e : List (List UInt8)) (w : List UInt8) : List Int := if 0 ≤ atE e w then plE (e.getD (atE e w).toNat []) w else plV (vals p w) w
/-- What the implementation marks, read off from place 2 on. -/
def mkP (m : Int → Bool) (n : Nat) : Bool := decide (1 ≤ n) && m ((n : Int) + 1)
def mkE (x : List UInt8) (n : Int) : Bool := decide (n ∈ cums 0 (spl x))
def mkV (V : List Int) (n : Int) : Bool := decide (1 ≤ n ∧ n ≤ V.length) && odd V (n - 1).toNat
def rdM (m : Int → Bool) (w : List UInt8) : List Int := plT (mkP m) (max 1 (w.length - 2))
theorem rd_V {V : List Int} {w : List UInt8} (hV : V.length = w.length - 1) : rdM (mkV V) w = plV V w := by
  have h1 : plV V w = plT (fun n => odd V n && inW w ((n : Int) + 1)) (max 1 (w.length - 2)) := by
    rw [plV]
    rcases Nat.lt_or_ge V.length (max 1 (w.length - 2)) with h | h
    · refine (plT_end (fun n hn => ?_) _ (by omega)).symm
      have : inW w ((n : Int) + 1) = false := by
        cases hb : inW w ((n : Int) + 1) with
        | false => rfl
        | true => have := inR_iff.1 hb; omega
      simp [this]
    · refine plT_end (fun n hn => ?_) _ h
      have : inW w ((n : Int) + 1) = false := by
        cases hb : inW w ((n : Int) + 1) with
        | false => rfl
        | true => have := inR_iff.1 hb; omega
      simp [this]
  rw [h1, rdM]
  refine plT_congr _ fun n hn => ?_
  simp only [mkP, mkV]
  have e1 : ((n : Int) + 1 - 1).toNat = n := by omega
  rw [e1]
  by_cases hn1 : 1 ≤ n
  · have i1 : inW w ((n : Int) + 1) = true := inR_iff.2 (by omega)
    rw [i1, decide_eq_true hn1, decide_eq_true (by omega)]; simp
  · have i1 : inW w ((n : Int) + 1) = false := by
      cases hb : inW w ((n : Int) + 1) with
      | false => rfl
      | true => have := inR_iff.1 hb; omega
    rw [i1, decide_eq_false hn1]; simp
theorem rd_E {x w : List UInt8} (hx : excB x = true) (hw : plainE x = w) : rdM (mkE x) w = plE x w := by
  have hne : ∀ p ∈ spl x, p ≠ [] := by
    intro p hp e
    simp only [excB, Bool.and_eq_true, List.all_eq_true] at hx
    have := (letB_iff p 1 16).1 (hx.1 p hp)
    rw [e] at this
    simp at this
  obtain ⟨hgt, hasc⟩ := cums_gt (spl x) 0 hne
  obtain ⟨q, hq⟩ := cums_last (e := x)
  have hbp : bP x = q := by
    rw [(bL_eq hx).2, hq, List.dropLast_concat]
  rw [hw] at hq
  refine asc_ext (plT_asc _) ?_ fun y => ?_
  · rw [plE, hbp]
    rw [hq, List.pairwise_append] at hasc
    exact hasc.1.filter _
  · rw [rdM, plT_mem, plE, hbp, List.mem_filter]
    constructor
    · rintro ⟨n, h1, h2, rfl⟩
      simp only [mkP, mkE, Bool.and_eq_true, decide_eq_true_eq] at h2
      have hr : inW w ((n : Int) + 1) = true := inR_iff.2 (by omega)
      refine ⟨?_, hr⟩
      have := h2.2
      rw [hq, List.mem_append, List.mem_singleton] at this
      rcases this with h | h
      · exact h
      · have := inR_iff.1 hr; omega
    · rintro ⟨h1, h2⟩
      have hr := inR_iff.1 h2
      refine ⟨(y - 1).toNat, by omega, ?_, by omega⟩
      simp only [mkP, mkE, Bool.and_eq_true, decide_eq_true_eq]
      refine ⟨by omega, ?_⟩
      rw [hq, List.mem_append]
      left
      rwa [show (((y - 1).toNat : Nat) : Int) + 1 = y by omega]
end Go.Proofs.YtcbfpkdcgbkfaaaDoor
