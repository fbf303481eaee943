/-
  SOUNDNESS, PART SIX: the operations that write or make memory.
-/
import Derived.Test.YtdkpncnkhnmidaaDoorAb7
set_option linter.unusedSimpArgs false
set_option linter.unusedVariables false
namespace Go.Ab
open Go.RowKit

section
variable {P : Program} {tt : Nat → TI} {w0 w : World} {S0 : Base} {ρ : List Loc} {s : St} {a : Act} {o : Oper} {K : AV → St → Prop}

theorem after_alloc (w : World) (ob : Obj) : After w (w.alloc ob) := ⟨by simp, fun k hk => Below.heap_alloc w _ k hk⟩

/-- The operation comes to a state that the abstract one describes. -/
def MS (P : Program) (o : Oper) (a : Act) (w : World) (w0 : World) (S0 : Base) (K : AV → St → Prop) : Prop :=
  ∃ x s' ρ' w' r, K x s' ∧ Inv w0 S0 ρ' s' a w' ∧ (execOp a.eval o).run P w = .ok r w' ∧ ((∃ v, r = .value v ∧ VR w' (okB ρ' s'.h) ρ' s'.h x v) ∨ (r = .skip ∧ x = .undef)) ∧ (wr o.op = false → After w w')

theorem run_alloc {t : Nat} {e : RK} (h : ElOK P t e) (w : World) : (Instr.alloc t true (.tuple #[])).run P w = .ok (.pointer (some ⟨w.heap.size, 0, none⟩)) (w.alloc (.cells (zv e).cells t)) := by
  obtain ⟨i, hi, _, _, hz⟩ := h.info
  simp [Instr.alloc, zeroValue, typeInfo, hi, hz, newVar, newRow]

theorem run_box {t : Nat} {v : Value} (w : World) : (Instr.box t v).run P w = .ok (.pointer (some ⟨w.heap.size, 0, none⟩)) (w.alloc (.cells v.cells t)) := by
  simp [Instr.box, newVar, newRow]

theorem po_new {r : Row} {E : Nat} {K0 : Nat} {w' : World} (hn : 0 < nl r) (hl : ρ.length = s.h.length) : VR w' (okB (ρ ++ [⟨w.heap.size, K0, false, []⟩]) (s.h ++ [.row E r])) (ρ ++ [⟨w.heap.size, K0, false, []⟩]) (s.h ++ [.row E r]) (.po s.h.length 0) (.pointer (some ⟨w.heap.size, 0, none⟩)) := by
  refine ⟨by simp, fun E' r' h => ?_⟩
  simp at h
  obtain ⟨rfl, rfl⟩ := h
  exact ⟨⟨w.heap.size, K0, false, []⟩, by rw [← hl]; simp, rfl, by simp, hn⟩

theorem ms_alloc (hT : TTok P tt) (hI : Inv w0 S0 ρ s a w) {t : Nat} (ho : o.op = .alloc t) (h : memOp alg tt s (.alloc t) K) : MS P o a w w0 S0 K := by
  simp only [memOp] at h
  have run : ∀ {e : RK}, (tt t).el = some e → (execOp a.eval o).run P w = .ok (.value (.pointer (some ⟨w.heap.size, 0, none⟩))) (w.alloc (.cells (zv e).cells t)) := by
    intro e he
    simp only [execOp, ho]
    exact (by simp [Sem.run_bind, run_alloc (hT.el _ _ he)])
  split at h
  · rename_i n he
    refine ⟨_, _, _, _, _, h, hI.alloc (cur := (zv (.rc n)).cells) (cs := (List.replicate n 0).map (Value.int .i64)) ⟨by simp, by simp⟩ (by simp [zv, Value.cells]) (by simp [zv, Value.cells]), run he, .inl ⟨_, rfl, po_new (by simp [nl, Row.nlen, alg]) hI.len⟩, fun _ => after_alloc _ _⟩
  · rename_i k he
    refine ⟨_, _, _, _, _, h, hI.alloc (cur := (zv (.i k)).cells) (cs := [Value.int k 0]) (by simp [RC]) (by simp [zv, Value.cells]) (by simp [zv, Value.cells]), run he, .inl ⟨_, rfl, po_new (by simp [nl, Row.nlen, alg]) hI.len⟩, fun _ => after_alloc _ _⟩
  · exact h.elim

theorem ms_box (hI : Inv w0 S0 ρ s a w) {t : Nat} {x : Operand} (ho : o.op = .box t x) (h : memOp alg tt s (.box t x) K) : MS P o a w w0 S0 K := by
  simp only [memOp] at h
  have run : (execOp a.eval o).run P w = .ok (.value (.pointer (some ⟨w.heap.size, 0, none⟩))) (w.alloc (.cells (a.eval x).cells t)) := by
    simp only [execOp, ho]
    exact (by simp [Sem.run_bind, run_box])
  have hx := ev_sound hI x
  split at h
  · rename_i n n' l _ he
    rw [he] at hx
    split at h
    · rename_i hn
      cases nbeq hn
      obtain ⟨h1, h2⟩ := hx
      rw [h2] at run
      refine ⟨_, _, _, _, _, h, hI.alloc (cur := (Value.agg (l.map (Value.int .i64)).toArray).cells) (cs := l.map (Value.int .i64)) ⟨by simp [h1], by simp⟩ (by simp [Value.cells]) (by simp only [Value.cells]; exact List.take_length), run, .inl ⟨_, rfl, po_new (by simp [nl, Row.nlen, alg]) hI.len⟩, fun _ => after_alloc _ _⟩
    · exact h.elim
  · rename_i k k' n _ he
    rw [he] at hx
    split at h
    · rename_i hk
      cases kb_eq hk
      have hx : a.eval x = .int k n := hx
      rw [hx] at run
      refine ⟨_, _, _, _, _, h, hI.alloc (cur := (Value.int k n).cells) (cs := [Value.int k n]) (by simp [RC]) (by simp [Value.cells]) (by simp [Value.cells]), run, .inl ⟨_, rfl, po_new (by simp [nl, Row.nlen, alg]) hI.len⟩, fun _ => after_alloc _ _⟩
    · exact h.elim
  · exact h.elim

/-! ### A store -/
theorem map_set {α β : Type} {l : List α} {f : α → β} {k : Nat} {x : α} (hk : k < l.length) : (l.set k x).map f = (l.map f).take k ++ [f x] ++ (l.map f).drop (k + 1) := by
  rw [List.set_eq_take_append_cons_drop, if_pos hk]
  simp [List.map_take, List.map_drop]

theorem flat_set {n : Nat} {l : List (List Int)} (h : ∀ x ∈ l, x.length = n) {k : Nat} (hk : k < l.length) {y : List Int} :
    (l.set k y).flatMap (fun x => x.map (Value.int .i64)) = (l.flatMap (fun x => x.map (Value.int .i64))).take (k * n) ++ y.map (Value.int .i64) ++ (l.flatMap (fun x => x.map (Value.int .i64))).drop (k * n + n) := by
  rw [List.set_eq_take_append_cons_drop, if_pos hk, List.flatMap_append, List.flatMap_cons, flat_take h, flat_drop h, Nat.add_mul, Nat.one_mul, List.append_assoc]

theorem mem_set {n : Nat} {l : List (List Int)} (h : ∀ x ∈ l, x.length = n) {k : Nat} {y : List Int} (hy : y.length = n) : ∀ x ∈ l.set k y, x.length = n := by
  intro x hx
  rcases List.mem_or_eq_of_mem_set hx with h1 | h1
  · exact h x h1
  · rw [h1]; exact hy

theorem RC.set {ok ok' : Nat → Prop} {h : List AO} {r r' : Row} {cs : List Value} {k : Nat} {x : AV} {v : Value} (hr : RC w ok r cs) (hs : r.set alg k x = some r') (hv : VR w ok' ρ h x v) (hk : k < nl r) :
    RC w ok r' (cs.take (k * wd r) ++ v.cells.toList ++ cs.drop (k * wd r + wd r)) ∧ nl r' = nl r ∧ wd r' = wd r ∧ r'.rk = r.rk ∧ v.cells.toList.length = wd r ∧ ∀ u ∈ v.cells.toList, u.oneCell' = true := by
  unfold Row.set at hs
  split at hs
  · rename_i kd l k' n
    split at hs
    · rename_i he
      cases kb_eq he
      simp at hs; subst hs
      have hv : v = .int kd n := hv
      subst hv
      simp only [RC] at hr; subst hr
      simp only [nl, Row.nlen, alg] at hk
      refine ⟨?_, by simp [nl, Row.nlen, alg], rfl, rfl, rfl, by simp [Value.cells, Value.oneCell']⟩
      simp only [RC, alg, wd, Nat.mul_one]
      rw [map_set hk]; rfl
    · cases hs
  · rename_i l b
    simp at hs; subst hs
    have hv : v = .bool b := hv
    subst hv
    simp only [RC] at hr; subst hr
    simp only [nl, Row.nlen, alg] at hk
    refine ⟨?_, by simp [nl, Row.nlen, alg], rfl, rfl, rfl, by simp [Value.cells, Value.oneCell']⟩
    simp only [RC, alg, wd, Nat.mul_one]
    rw [map_set hk]; rfl
  · rename_i l b
    simp at hs; subst hs
    have hv : v = .string ⟨b.toArray⟩ := hv
    subst hv
    simp only [RC] at hr; subst hr
    simp only [nl, Row.nlen, alg] at hk
    refine ⟨?_, by simp [nl, Row.nlen, alg], rfl, rfl, rfl, by simp [Value.cells, Value.oneCell']⟩
    simp only [RC, alg, wd, Nat.mul_one]
    rw [map_set hk]; rfl
  · rename_i n l n' y
    split at hs
    · rename_i he
      cases nbeq he
      simp at hs; subst hs
      obtain ⟨hy, rfl⟩ := hv
      obtain ⟨h1, rfl⟩ := hr
      simp only [nl, Row.nlen, alg] at hk
      refine ⟨⟨mem_set h1 hy, ?_⟩, by simp [nl, Row.nlen, alg], rfl, rfl, by simp [Value.cells, wd, hy], by simp [Value.cells, Value.oneCell']⟩
      simp only [alg, wd, Value.cells]
      rw [flat_set h1 hk]
    · cases hs
  · cases hs

theorem seg_set {c : List Value} {p n j : Nat} {v : Value} (hj : j < n) :
    c.take p ++ (((c.drop p).take n).take j ++ [v] ++ ((c.drop p).take n).drop (j + 1)) ++ c.drop (p + n) = c.take (p + j) ++ [v] ++ c.drop (p + j + 1) := by
  have e1 : ((c.drop p).take n).take j = (c.drop p).take j := by rw [List.take_take, Nat.min_eq_left (by omega)]
  have e2 : ((c.drop p).take n).drop (j + 1) ++ c.drop (p + n) = c.drop (p + j + 1) := by
    rw [List.drop_take, List.drop_drop]
    have : c.drop (p + n) = (c.drop (p + (j + 1))).drop (n - (j + 1)) := by rw [List.drop_drop]; congr 1; omega
    rw [this, List.take_append_drop]; rfl
  rw [e1, List.take_add, ← e2]
  simp [List.append_assoc]

theorem RC.setF {ok ok' : Nat → Prop} {h : List AO} {r r' : Row} {cs : List Value} {k j : Nat} {x : AV} {v : Value} (hr : RC w ok r cs) (hs : r.setF alg k j x = some r') (hv : VR w ok' ρ h x v) (hk : k < nl r) :
    RC w ok r' (cs.take (k * wd r + j) ++ v.cells.toList ++ cs.drop (k * wd r + j + 1)) ∧ nl r' = nl r ∧ wd r' = wd r ∧ j < wd r ∧ v.cells.toList.length = 1 ∧ ∀ u ∈ v.cells.toList, u.oneCell' = true := by
  unfold Row.setF at hs
  split at hs
  · rename_i n l m
    split at hs
    · rename_i hj
      have hj := nblt hj
      simp at hs; subst hs
      have hv : v = .int .i64 m := hv
      subst hv
      obtain ⟨h1, rfl⟩ := hr
      simp only [nl, Row.nlen, alg] at hk
      have hlk : (l.getD k []).length = n := h1 _ (get_mem hk)
      refine ⟨⟨mem_set h1 (by simp only [alg, List.length_set]; exact hlk), ?_⟩, by simp [nl, Row.nlen, alg], rfl, hj, rfl, by simp [Value.cells, Value.oneCell']⟩
      simp only [alg, wd]
      rw [flat_set h1 hk, map_set (by omega)]
      have hlen : (l.flatMap (fun x => x.map (Value.int .i64))).length = l.length * n := (RC.length (w := w) (ok := ok) (r := .recs n l) ⟨h1, rfl⟩)
      have hkn : k * n + n ≤ l.length * n := by rw [← Nat.succ_mul]; exact Nat.mul_le_mul_right _ hk
      -- the cells of row k
      have hrow : (l.getD k []).map (Value.int .i64) = ((l.flatMap (fun x => x.map (Value.int .i64))).drop (k * n)).take n := by
        apply List.ext_getElem?
        intro i
        rw [List.getElem?_take, List.getElem?_drop]
        by_cases hi : i < n
        · rw [if_pos hi, flat_get h1 hk hi]
          simp [List.getD, hlk ▸ hi] 
          have : i < (l[k]?.getD []).length := by have := hlk; simp [List.getD] at this; omega
          simp [this]
        · rw [if_neg hi, List.getElem?_eq_none (by simp only [List.length_map]; omega)]
      rw [hrow]
      exact (seg_set hj).symm
    · cases hs
  · cases hs

end
end Go.Ab
