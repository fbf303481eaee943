/-
  From what a statement's frame knows of a slice of strings to the abstract value.
-/
import Derived.Test.YtcbfpkdcgbkfaaaDoorAb20
import Derived.Deep.Strs
set_option linter.unusedSimpArgs false
set_option linter.unusedVariables false
namespace Go.Ab
open Go.RowKit Go.ChangeShapes Go.WideShapes Go.Deep

section
variable {H : Type} {enc : TypeId × Value → H} {P : Program} {w : World} {base : Nat} {spare : Nat → Bool} {held : Bool}

/-- What the frame knows of a slice of strings. -/
def IsStrs (w : World) (a : Option Addr) (len cap : Nat) (zs : List (List UInt8)) : Prop :=
  (a = none ∧ len = 0 ∧ cap = 0 ∧ zs = []) ∨
  ∃ x, a = some x ∧ len ≤ cap ∧ cap ≤ maxLen ∧ zs.length = len ∧ ∀ i, i < len → w.cell? (x.add i) = some (.string ⟨(zs.getD i []).toArray⟩) ∧ (zs.getD i []).length ≤ maxLen

theorem open_strsL {t e : TypeId} {a : Option Addr} {len cap : Nat} {d : DataW H} {p : List MemPlace} (ht : P.underlying t = some (.slice e)) (he : P.underlying e = some .string) (hC : P.cellsOf e = 1)
    (h : DataW.Trod enc P w base spare held t (.slice a len cap) d p) : ∃ zs, IsStrs w a len cap zs := by
  obtain ⟨fuel, hf⟩ := h
  rcases Deep.open_strs ht he hC hf with ⟨hcs, _⟩ | ⟨x, l, c, m, Sx, hcs, _, hl, hm, hmm, _, hx⟩
  · simp [Value.cells] at hcs
    obtain ⟨rfl, rfl, rfl⟩ := hcs
    exact ⟨[], .inl ⟨rfl, rfl, rfl, rfl⟩⟩
  · simp [Value.cells] at hcs
    obtain ⟨rfl, rfl, rfl⟩ := hcs
    have hlm : len ≤ m := by rw [hmm]; split <;> omega
    refine ⟨(List.range len).map fun i => (Sx i).data.toList, .inr ⟨x, rfl, hl, hm, by simp, fun i hi => ?_⟩⟩
    have e : ((List.range len).map fun i => (Sx i).data.toList).getD i [] = (Sx i).data.toList := by
      rw [List.getD_eq_getElem?_getD, List.getElem?_map, List.getElem?_range hi]; rfl
    obtain ⟨h1, h2⟩ := hx i (by omega)
    rw [e]
    refine ⟨by rw [h1], ?_⟩
    have : (Sx i).size = (Sx i).data.toList.length := by show (Sx i).data.size = _; simp
    omega

theorem IsStrs.wf {a : Option Addr} {len cap : Nat} {zs : List (List UInt8)} (h : IsStrs w a len cap zs) : zs.length ≤ maxLen ∧ ∀ i, i < zs.length → (zs.getD i []).length ≤ maxLen := by
  rcases h with ⟨rfl, rfl, rfl, rfl⟩ | ⟨x, rfl, hl, hm, hz, hc⟩
  · exact ⟨Nat.zero_le _, fun i hi => by simp at hi⟩
  · exact ⟨by omega, fun i hi => (hc i (by omega)).2⟩
theorem IsStrs.ro {a : Option Addr} {len cap : Nat} {zs : List (List UInt8)} (h : IsStrs w a len cap zs) : ROw w (fun _ => True) (.strs zs) (.slice a len cap) := by
  rcases h with ⟨rfl, rfl, rfl, rfl⟩ | ⟨x, rfl, hl, hm, hz, hc⟩
  · exact ⟨none, 0, [], rfl, Nat.le_refl _, by simp [maxLen], rfl, fun h => by simp [nl, Row.nlen, alg] at h⟩
  · have hn : nl (.strs zs) = len := by simp [nl, Row.nlen, alg]; omega
    refine ⟨some x, cap, zs.map (fun s : List UInt8 => Value.string ⟨s.toArray⟩), by rw [hn], by rw [hn]; exact hl, hm, rfl, fun h0 => ?_⟩
    rw [hn] at h0
    refine ⟨x, rfl, ?_, trivial, fun k u hk => ?_⟩
    · have := blk_lt (hc 0 (by omega)).1
      simpa [Addr.add] using this
    · have hkl : k < zs.length := by have := (List.getElem?_eq_some_iff.1 hk).1; simpa using this
      rw [List.getElem?_map, List.getElem?_eq_getElem hkl] at hk
      simp at hk
      have := (hc k (by omega)).1
      rw [List.getD_eq_getElem?_getD, List.getElem?_eq_getElem hkl] at this
      rw [this, ← hk]; rfl
end
end Go.Ab
