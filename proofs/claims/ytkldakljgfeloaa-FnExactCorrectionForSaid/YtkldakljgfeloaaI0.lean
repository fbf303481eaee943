/-
  The library's sort of integers, as a contract of a function that writes into the row that it is handed.
-/
import Derived.Test.YtkldakljgfeloaaB0
import Derived.Test.YtkldakljgfeloaaSh
set_option linter.unusedSimpArgs false
set_option linter.unusedVariables false
namespace Go.Proofs.Ytkldakljgfeloaa
open Go.Ab Go.RowKit

def srt (l : List Int) : List Int := l.mergeSort fun x y => decide (x ≤ y)
theorem srt_len (l : List Int) : (srt l).length = l.length := by simp [srt]
theorem sortI_ok (a : List Int) (h0 : 0 < a.length) (hl : a.length ≤ 1048576) : FCM Try.prog 23 [.ro (.ints .i64 a)] 0 .t0 (.ints .i64 (srt a)) := by
  have hbd : ¬ Try.f23.body = none := by
    intro h
    have h2 : Try.f23.body.isNone = false := by kernel_rfl
    rw [h] at h2
    cases h2
  refine ⟨⟨Try.f23, Try.func23, (by decide +kernel), hbd⟩, fun w vals loc E row ok hrow hfl hok hO hv => ?_⟩
  simp at hrow
  subst hrow
  match vals, hv with
  | [v], hv =>
    obtain ⟨hv, _⟩ := hv
    obtain ⟨_, hv⟩ := hv
    obtain ⟨loc', h1, h2⟩ := hv E (.ints .i64 a) rfl
    have : loc' = loc := by simpa using h1.symm
    subst this
    obtain ⟨hz, cap, rfl, c1, c2, c3⟩ := h2.resolve_left (fun h => by have := h.2.2.2; simp only [nl, Row.nlen, alg] at this; omega)
    obtain ⟨cur, cs, hg, hK, hrc, hcl, htk⟩ := hO.solid hz
    have hcs : cs = a.map (.int .i64) := hrc
    have hcsl : cs.length = a.length := by rw [hcs]; simp
    have hgs : loc'.g < w.heap.size := (Array.getElem?_eq_some_iff.1 hg).1
    have hcur : ∀ j, j < a.length → cur[j]? = some (.int .i64 (a.getD j 0)) := by
      intro j hj
      have h0 : (cur.toList.take cs.length)[j]? = cs[j]? := by rw [htk]
      rw [List.getElem?_take, if_pos (by omega), hcs, List.getElem?_map] at h0
      rw [← Array.getElem?_toList, h0]
      simp [List.getD, hj]
    have hH : Go.Sort.Holds (Value.int .i64) w loc'.g 0 a.toArray := by
      intro j hj
      have hj : j < a.length := by simpa using hj
      refine ⟨?_, ?_⟩
      · rw [Nat.zero_add, cell_of_row w loc'.g j cur E (0, 0) hg, hcur j hj]
        simp [List.getD, hj]
      · simp [World.frozen?, hg]
    have hc := Try.sort_Ints loc'.g 0 cap a w hH hgs (by omega)
    have hn : nl (.ints .i64 a) = a.length := rfl
    rw [hn]
    refine hc.mono ?_
    rintro e w' ⟨rfl, n, os, rfl⟩
    obtain ⟨d, hd⟩ : ∃ d, d = (srt a).toArray := ⟨_, rfl⟩
    have hds : d.size = a.length := by rw [hd]; simp [srt_len]
    have hd' : (a.mergeSort fun x y => decide (x ≤ y)).toArray = d := by rw [hd]; rfl
    rw [hd']
    have hm : ∀ k, k < w.heap.size → (Go.Sort.grow (Go.Sort.putRow (Value.int .i64) (Go.Sort.ahead w n) loc'.g 0 d) os).heap[k]? = (w.heap.modify loc'.g (Go.Sort.onCells (Go.Sort.putCells (Value.int .i64) 0 d)))[k]? := by
      intro k hk
      simp only [Go.Sort.grow, Go.Sort.putRow, Go.Sort.mapBlock, Go.Sort.ahead]
      rw [Array.getElem?_append_left (by simpa using hk)]
    refine ⟨_, rfl, ⟨rfl, rfl, rfl, by simp [Go.Sort.grow, Go.Sort.putRow, Go.Sort.mapBlock, Go.Sort.ahead], fun k hk hne => ?_⟩, ?_, rfl, by simp [nl, Row.nlen, alg, srt_len]⟩
    · rw [hm k hk, Array.getElem?_modify, if_neg (fun e => hne ⟨hz, e.symm⟩)]
    · refine .inr ⟨hz, Go.Sort.putCells (Value.int .i64) 0 d cur, (srt a).map (.int .i64), ?_, by simp [Go.Sort.putCells, hK], rfl, by simp [srt_len]; omega, ?_⟩
      · rw [hm _ hgs, Array.getElem?_modify, if_pos rfl, hg]; rfl
      · apply List.ext_getElem?
        intro j
        rw [List.length_map, srt_len, List.getElem?_take]
        by_cases hj : j < a.length
        · rw [if_pos hj, Array.getElem?_toList]
          simp only [Go.Sort.putCells, Array.getElem?_mapIdx]
          have hcj : j < cur.size := by omega
          rw [Array.getElem?_eq_getElem hcj]
          simp only [Option.map_some, Nat.zero_le, Nat.zero_add, true_and, hds, hj, if_true, Nat.sub_zero]
          have hjs : j < (srt a).length := by rw [srt_len]; exact hj
          rw [List.getElem?_map, List.getElem?_eq_getElem hjs, hd]
          simp [hjs]
        · rw [if_neg hj, List.getElem?_eq_none (by simp [srt_len]; omega)]
end Go.Proofs.Ytkldakljgfeloaa
