/-
  From what a statement's frame knows of structs of integers, of slices of them, and of slices of strings to the abstract values.
-/
import Derived.Test.YtdkpncnkhnmidaaDoorAb19
import Derived.Deep.Slices
import Derived.Deep.Fields
import Derived.ChangeSame
import Derived.ShutString
import Derived.OpenShut
set_option linter.unusedSimpArgs false
set_option linter.unusedVariables false
namespace Go.Ab
open Go.RowKit Go.ChangeShapes Go.WideShapes Go.Deep

section
variable {H : Type} {enc : TypeId × Value → H} {P : Program} {w : World} {base : Nat} {spare : Nat → Bool} {held : Bool}

def i64U (P : Program) (t : TypeId) : Bool := match P.underlying t with | some (.int .i64) => true | _ => false
theorem i64U_of {t : TypeId} (h : i64U P t = true) : P.underlying t = some (.int .i64) := by
  unfold i64U at h
  split at h
  · assumption
  · cases h
def i64Fields (P : Program) (fs : Array Field) : Bool := fs.toList.all fun f => i64U P f.type

theorem i64_of {fs : Array Field} (h : i64Fields P fs = true) {j : Nat} {f : Field} (hj : fs[j]? = some f) : P.underlying f.type = some (.int .i64) := by
  simp only [i64Fields, List.all_eq_true] at h
  refine i64U_of (h f ?_)
  rw [← Array.getElem?_toList] at hj
  exact List.mem_of_getElem? hj

def vi : Option Value → Int
  | some (Value.int _ n) => n
  | _ => 0
def i64w (n : Int) : Prop := -9223372036854775808 ≤ n ∧ n ≤ 9223372036854775807
theorem i64w_of {n : Int} (h : (Lit.int .i64 n).wf = true) : i64w n := by
  simp [Lit.wf, IntKind.min, IntKind.max, IntKind.bits, IntKind.signed] at h
  exact h

/-- A struct of integers that came in by value. -/
theorem open_rec {r : Reach} {b0 : Nat} {t : TypeId} {fs : Array Field} {v : Value} {d : DataW H} {p : List MemPlace} (hs : P.underlying t = some (.struct fs)) (hone : oneCellFields P fs = true) (hi : i64Fields P fs = true) (hC : P.cellsOf t = fs.size)
    (hv : Value.okWide P w r b0 t v) (h : DataW.Trod enc P w base spare held t v d p) : ∃ l : List Int, v = .agg (l.map (.int .i64)).toArray ∧ l.length = fs.size ∧ ∀ n ∈ l, i64w n := by
  obtain ⟨cs, rfl, hsz⟩ := okWide_struct hs hv
  obtain ⟨fuel, hf⟩ := h
  obtain ⟨ys, n', hn', hy, hlen, hyl, hg⟩ := DataW.trod_struct hs hf
  have key : ∀ j, j < fs.size → ∃ n, cs[j]? = some (.int .i64 n) ∧ i64w n := by
    intro j hj
    obtain ⟨f, hfj⟩ : ∃ f, fs[j]? = some f := ⟨_, Array.getElem?_eq_getElem hj⟩
    obtain ⟨ho, hk⟩ := hone_of hone j f hfj
    have h1 := hg j f hfj
    rw [ho, hk] at h1
    have hjc : j < cs.size := by omega
    have e : ((Value.agg cs).cells.toList.drop j).take 1 = [cs[j]] := by
      simp only [Value.cells]
      rw [List.drop_eq_getElem_cons (by simpa using hjc)]
      simp
    rw [e] at h1
    have hyj : ys[j]? = some (ys[j]'(by omega)) := List.getElem?_eq_getElem (by omega)
    rw [hyj] at h1
    obtain ⟨n, hn, _, hw⟩ := DataW.trod_int (i64_of hi hfj) h1
    refine ⟨n, ?_, i64w_of hw⟩
    rw [Array.getElem?_eq_getElem hjc]
    simpa using hn
  refine ⟨(List.range fs.size).map fun j => vi cs[j]?, ?_, by simp, ?_⟩
  · congr 1
    apply Array.ext_getElem?
    intro j
    by_cases hj : j < fs.size
    · obtain ⟨n, hn, _⟩ := key j hj
      simp [hn, List.getElem?_range hj, vi]
    · rw [Array.getElem?_eq_none (by omega)]
      rw [eq_comm]
      simp
      omega
  · intro n hn
    simp only [List.mem_map, List.mem_range] at hn
    obtain ⟨j, hj, rfl⟩ := hn
    obtain ⟨n, hn, hw⟩ := key j hj
    simp [hn, hw, vi]

theorem open_slice_fields {t e : TypeId} {fs : Array Field} {fuel : Nat} {cs : List Value} {x : DataW H × List MemPlace} (ht : P.underlying t = some (.slice e)) (he : P.underlying e = some (.struct fs))
    (hone : oneCellFields P fs = true) (hC : P.cellsOf e = fs.size) (h : DataW.trod enc P w base spare held fuel t cs = some x) :
    (cs = [.slice none 0 0] ∧ x = (.nil, [])) ∨
    ∃ (a : Addr) (len cap m : Nat), cs = [.slice (some a) len cap] ∧ len ≤ cap ∧ cap ≤ maxLen ∧ m = (if spare a.block then cap else len) ∧
      ∀ i, i < m → ∃ (ys : List (DataW H × List MemPlace)) (n : Nat), ys.length = fs.size ∧
        ∀ (j : Nat) (f : Field), fs[j]? = some f → ∃ (v : Value) (y : DataW H × List MemPlace), w.cell? (a.add (i * fs.size + j)) = some v ∧ ys[j]? = some y ∧ DataW.trod enc P w base spare held n f.type [v] = some y := by
  rcases open_slice ht h with h0 | ⟨a, len, cap, m, n, D, Pl, hcs, hb, hl, hm, hmm, hx, hi⟩
  · exact .inl h0
  · refine .inr ⟨a, len, cap, m, hcs, hl, hm, hmm, fun i him => ?_⟩
    obtain ⟨cs', hc, ht'⟩ := hi i him
    rw [hC] at hc
    obtain ⟨ys, n', hn', hy, hlen, hyl, hf⟩ := DataW.trod_struct he ht'
    obtain ⟨_, hcl, hat⟩ := World.cells?_some hc
    refine ⟨ys, n', hyl, fun j f hj => ?_⟩
    obtain ⟨ho, hk⟩ := hone_of hone j f hj
    have hjl : j < fs.size := (Array.getElem?_eq_some_iff.1 hj).1
    have hcell := hat j hjl
    have hv : cs'[j]? = some (cs'[j]'(by omega)) := List.getElem?_eq_getElem (by omega)
    have h1 := hf j f hj
    rw [ho, hk] at h1
    have hone' : (cs'.drop j).take 1 = [cs'[j]'(by omega)] := by
      rw [List.drop_eq_getElem_cons (by omega)]
      rfl
    rw [hone'] at h1
    have hys : ys[j]? = some (ys[j]'(by omega)) := List.getElem?_eq_getElem (by omega)
    refine ⟨_, _, ?_, hys, h1.trans hys⟩
    rw [← Go.Deep.add_add, hcell, hv]

/-- What the frame knows of a slice of structs of n integers. -/
def IsRecs (n : Nat) (w : World) (a : Option Addr) (len cap : Nat) (zs : List (List Int)) : Prop :=
  (a = none ∧ len = 0 ∧ cap = 0 ∧ zs = []) ∨
  ∃ x, a = some x ∧ len ≤ cap ∧ cap ≤ maxLen ∧ zs.length = len ∧ ∀ i, i < len → (zs.getD i []).length = n ∧ ∀ j, j < n → i64w ((zs.getD i []).getD j 0) ∧ w.cell? (x.add (i * n + j)) = some (.int .i64 ((zs.getD i []).getD j 0))

theorem open_recs {t e : TypeId} {fs : Array Field} {a : Option Addr} {len cap : Nat} {d : DataW H} {p : List MemPlace} (ht : P.underlying t = some (.slice e)) (he : P.underlying e = some (.struct fs))
    (hone : oneCellFields P fs = true) (hi : i64Fields P fs = true) (hC : P.cellsOf e = fs.size) (h : DataW.Trod enc P w base spare held t (.slice a len cap) d p) : ∃ zs, IsRecs fs.size w a len cap zs := by
  obtain ⟨fuel, hf⟩ := h
  rcases open_slice_fields ht he hone hC hf with ⟨hcs, _⟩ | ⟨x, l, c, m, hcs, hl, hm, hmm, hj⟩
  · simp [Value.cells] at hcs
    obtain ⟨rfl, rfl, rfl⟩ := hcs
    exact ⟨[], .inl ⟨rfl, rfl, rfl, rfl⟩⟩
  · simp [Value.cells] at hcs
    obtain ⟨rfl, rfl, rfl⟩ := hcs
    have hlm : len ≤ m := by rw [hmm]; split <;> omega
    have key : ∀ i, i < len → ∃ z : List Int, z.length = fs.size ∧ ∀ j, j < fs.size → i64w (z.getD j 0) ∧ w.cell? (x.add (i * fs.size + j)) = some (.int .i64 (z.getD j 0)) := by
      intro i hil
      obtain ⟨ys, n, hys, hk⟩ := hj i (by omega)
      have k2 : ∀ j, j < fs.size → ∃ n, w.cell? (x.add (i * fs.size + j)) = some (.int .i64 n) ∧ i64w n := by
        intro j hjs
        obtain ⟨f, hfj⟩ : ∃ f, fs[j]? = some f := ⟨_, Array.getElem?_eq_getElem hjs⟩
        obtain ⟨v, y, hc, _, htr⟩ := hk j f hfj
        obtain ⟨q, hq, _, hw⟩ := DataW.trod_int (i64_of hi hfj) htr
        simp only [List.cons.injEq, and_true] at hq
        subst hq
        exact ⟨q, hc, i64w_of hw⟩
      refine ⟨(List.range fs.size).map fun j => vi (w.cell? (x.add (i * fs.size + j))), by simp, fun j hjs => ?_⟩
      obtain ⟨q, hc, hw⟩ := k2 j hjs
      have : (((List.range fs.size).map fun j => vi (w.cell? (x.add (i * fs.size + j)))).getD j 0) = q := by
        rw [List.getD_eq_getElem?_getD, List.getElem?_map, List.getElem?_range hjs]
        simp [hc, vi]
      rw [this]
      exact ⟨hw, hc⟩
    refine ⟨(List.range len).map fun i => if h : i < len then (key i h).choose else [], .inr ⟨x, rfl, hl, hm, by simp, fun i hil => ?_⟩⟩
    have : (((List.range len).map fun i => if h : i < len then (key i h).choose else []).getD i []) = (key i hil).choose := by
      rw [List.getD_eq_getElem?_getD, List.getElem?_map, List.getElem?_range hil]
      simp [hil]
    rw [this]
    exact (key i hil).choose_spec

theorem recs_get {n : Nat} : ∀ (l : List (List Int)) (k : Nat) (u : Value), (∀ x ∈ l, x.length = n) → (l.flatMap (fun x => x.map (Value.int .i64)))[k]? = some u →
    ∃ i j, i < l.length ∧ j < n ∧ k = i * n + j ∧ u = .int .i64 ((l.getD i []).getD j 0)
  | [], k, u, _, h => by simp at h
  | x :: l, k, u, hx, h => by
    have hn : x.length = n := hx x (by simp)
    simp only [List.flatMap_cons] at h
    rw [List.getElem?_append] at h
    simp only [List.length_map, hn] at h
    by_cases hk : k < n
    · rw [if_pos hk] at h
      refine ⟨0, k, by simp, hk, by simp, ?_⟩
      simp only [List.getElem?_map] at h
      rw [List.getElem?_eq_getElem (by omega)] at h
      simp at h
      simp [List.getD_eq_getElem?_getD, List.getElem?_eq_getElem (show k < x.length by omega), h]
    · rw [if_neg hk] at h
      obtain ⟨i, j, hi, hj, he, hu⟩ := recs_get l (k - n) u (fun y hy => hx y (by simp [hy])) h
      refine ⟨i + 1, j, by simpa using hi, hj, ?_, by simpa using hu⟩
      rw [Nat.add_mul]; omega

theorem IsRecs.max {n : Nat} {a : Option Addr} {len cap : Nat} {zs : List (List Int)} (h : IsRecs n w a len cap zs) : zs.length ≤ 9223372036854775807 := by
  rcases h with ⟨rfl, rfl, rfl, rfl⟩ | ⟨x, rfl, hl, hm, hz, hc⟩
  · simp
  · unfold maxLen at hm; omega
theorem IsRecs.len {n : Nat} {a : Option Addr} {len cap : Nat} {zs : List (List Int)} (h : IsRecs n w a len cap zs) : ∀ x ∈ zs, x.length = n := by
  rcases h with ⟨rfl, rfl, rfl, rfl⟩ | ⟨x, rfl, hl, hm, hz, hc⟩
  · simp
  · intro y hy
    obtain ⟨i, hi⟩ := List.mem_iff_getElem?.1 hy
    have hil : i < zs.length := (List.getElem?_eq_some_iff.1 hi).1
    have := (hc i (by omega)).1
    rw [List.getD_eq_getElem?_getD, hi] at this
    exact this
theorem IsRecs.wf {n : Nat} {a : Option Addr} {len cap : Nat} {zs : List (List Int)} (h : IsRecs n w a len cap zs) : ∀ x ∈ zs, ∀ y ∈ x, i64w y := by
  intro x hx y hy
  have hxn := h.len x hx
  rcases h with ⟨rfl, rfl, rfl, rfl⟩ | ⟨ad, rfl, hl, hm, hz, hc⟩
  · simp at hx
  · obtain ⟨i, hi⟩ := List.mem_iff_getElem?.1 hx
    obtain ⟨j, hj⟩ := List.mem_iff_getElem?.1 hy
    have hil : i < zs.length := (List.getElem?_eq_some_iff.1 hi).1
    have hjl : j < x.length := (List.getElem?_eq_some_iff.1 hj).1
    have := ((hc i (by omega)).2 j (by omega)).1
    have e : zs.getD i [] = x := by rw [List.getD_eq_getElem?_getD, hi]; rfl
    rw [e, List.getD_eq_getElem?_getD, hj] at this
    exact this
theorem IsRecs.ro {n : Nat} {a : Option Addr} {len cap : Nat} {zs : List (List Int)} (hn0 : 0 < n) (h : IsRecs n w a len cap zs) : ROw w (fun _ => True) (.recs n zs) (.slice a len cap) := by
  have hln := h.len
  rcases h with ⟨rfl, rfl, rfl, rfl⟩ | ⟨x, rfl, hl, hm, hz, hc⟩
  · exact ⟨none, 0, [], rfl, Nat.le_refl _, by simp [maxLen], ⟨by simp, rfl⟩, fun h => by simp [nl, Row.nlen, alg] at h⟩
  · have hn : nl (.recs n zs) = len := by simp [nl, Row.nlen, alg]; omega
    refine ⟨some x, cap, zs.flatMap (fun x => x.map (.int .i64)), by rw [hn], by rw [hn]; exact hl, hm, ⟨hln, rfl⟩, fun h0 => ?_⟩
    rw [hn] at h0
    refine ⟨x, rfl, ?_, trivial, fun k u hk => ?_⟩
    · have := ((hc 0 (by omega)).2 0 hn0).2
      have := blk_lt this
      simpa [Addr.add] using this
    · obtain ⟨i, j, hi, hj, rfl, rfl⟩ := recs_get zs k u hln hk
      exact ((hc i (by omega)).2 j hj).2
end
end Go.Ab
