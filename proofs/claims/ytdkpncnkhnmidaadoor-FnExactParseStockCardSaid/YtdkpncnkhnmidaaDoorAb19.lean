/-
  From what a statement's frame knows of a slice of integers to the abstract value; from a contract to the frame's walk.
-/
import Derived.Test.YtdkpncnkhnmidaaDoorAb18
set_option linter.unusedSimpArgs false
set_option linter.unusedVariables false
namespace Go.Ab
open Go.RowKit

theorem blk_lt {w : World} {a : Addr} {v : Value} (h : w.cell? a = some v) : a.block < w.heap.size := by
  unfold World.cell? at h
  split at h
  · rename_i hb; exact (Array.getElem?_eq_some_iff.1 hb).1
  · cases h

/-- What the frame knows of a slice of integers that came in. -/
def IsRow (k : IntKind) (w : World) (a : Option Addr) (len cap : Nat) (zs : List Int) : Prop :=
  (a = none ∧ len = 0 ∧ cap = 0 ∧ zs = []) ∨
  ∃ x, a = some x ∧ len ≤ cap ∧ cap ≤ maxLen ∧ zs.length = cap ∧ (∀ i, i < zs.length → w.cell? (x.add i) = some (.int k (zs.getD i 0))) ∧ ∀ n ∈ zs, (Lit.int k n).wf = true

theorem IsRow.ro {k : IntKind} {w : World} {a : Option Addr} {len cap : Nat} {zs : List Int} (h : IsRow k w a len cap zs) : ROw w (fun _ => True) (.ints k (zs.take len)) (.slice a len cap) := by
  rcases h with ⟨rfl, rfl, rfl, rfl⟩ | ⟨x, rfl, hl, hm, hz, hc, _⟩
  · exact ⟨none, 0, [], rfl, Nat.le_refl _, by simp [maxLen], rfl, fun h => by simp [nl, Row.nlen, alg] at h⟩
  · have hn : nl (.ints k (zs.take len)) = len := by simp [nl, Row.nlen, alg]; omega
    refine ⟨some x, cap, (zs.take len).map (.int k), by rw [hn], by rw [hn]; exact hl, hm, rfl, fun h0 => ?_⟩
    rw [hn] at h0
    refine ⟨x, rfl, ?_, trivial, fun j u hj => ?_⟩
    · have := hc 0 (by omega)
      have := blk_lt this
      simpa [Addr.add] using this
    · simp only [List.getElem?_map, List.getElem?_take] at hj
      by_cases hjl : j < len
      · simp only [hjl, if_true] at hj
        have h1 := hc j (by omega)
        rw [List.getD_eq_getElem?_getD] at h1
        cases hz' : zs[j]? with
        | none => rw [hz'] at hj; simp at hj
        | some n => rw [hz'] at hj h1; simp at hj h1; rw [h1, hj]
      · simp [hjl] at hj

theorem IsRow.wf {w : World} {a : Option Addr} {len cap : Nat} {zs : List Int} (h : IsRow .i64 w a len cap zs) : ∀ n ∈ zs.take len, -9223372036854775808 ≤ n ∧ n ≤ 9223372036854775807 := by
  intro n hn
  have hn := List.mem_of_mem_take hn
  rcases h with ⟨rfl, rfl, rfl, rfl⟩ | ⟨x, rfl, hl, hm, hz, hc, hw⟩
  · simp at hn
  · have := hw n hn
    simp [Lit.wf, IntKind.min, IntKind.max, IntKind.bits, IntKind.signed] at this
    exact this

/-- The frame's walk, from a law's contract. -/
theorem law_walk {P : Program} {f : Nat} {args : List AV} {vals : List Value} {w : World} (h : FC P f args (.bool true) []) (hv : VRs w (fun _ => True) [] [] args vals) :
    Calls P f vals.toArray w fun e w' => e = .returned (.bool true) ∧ Below w.heap.size w w' := by
  refine (h.post w vals trivial hv).mono fun e w' hh => ?_
  obtain ⟨v, ρ', he, hb, hfr⟩ := hh
  have := hfr.val
  simp only [VR] at this
  exact ⟨by rw [he, this], hb⟩
theorem law_walkG {G : World → Prop} {P : Program} {f : Nat} {args : List AV} {vals : List Value} {w : World} (hG : G w) (h : FCG G P f args (.bool true) []) (hv : VRs w (fun _ => True) [] [] args vals) :
    Calls P f vals.toArray w fun e w' => e = .returned (.bool true) ∧ Below w.heap.size w w' := by
  refine (h.post w vals hG hv).mono fun e w' hh => ?_
  obtain ⟨v, ρ', he, hb, hfr⟩ := hh
  have := hfr.val
  simp only [VR] at this
  exact ⟨by rw [he, this], hb⟩
end Go.Ab
