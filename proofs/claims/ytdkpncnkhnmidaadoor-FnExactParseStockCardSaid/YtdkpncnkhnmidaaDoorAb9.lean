/-
  SOUNDNESS, PART SEVEN: stores, make, slice literals, append.
-/
import Derived.Test.YtdkpncnkhnmidaaDoorAb8
set_option linter.unusedSimpArgs false
set_option linter.unusedVariables false
namespace Go.Ab
open Go.RowKit

section
variable {P : Program} {tt : Nat → TI} {w0 w : World} {S0 : Base} {ρ : List Loc} {s : St} {a : Act} {o : Oper} {K : AV → St → Prop}

theorem splice {c cs vs : List Value} {off : Nat} (h : c.take cs.length = cs) (hb : off + vs.length ≤ cs.length) :
    (c.take off ++ vs ++ c.drop (off + vs.length)).take (cs.take off ++ vs ++ cs.drop (off + vs.length)).length = cs.take off ++ vs ++ cs.drop (off + vs.length) := by
  obtain ⟨d, rfl⟩ : ∃ d, c = cs ++ d := ⟨c.drop cs.length, by conv => lhs; rw [← List.take_append_drop cs.length c, h]⟩
  have e1 : (cs ++ d).take off = cs.take off := List.take_append_of_le_length (by omega)
  have e2 : (cs ++ d).drop (off + vs.length) = cs.drop (off + vs.length) ++ d := List.drop_append_of_le_length hb
  rw [e1, e2, ← List.append_assoc]
  exact List.take_left

theorem run_storeAt {t : Nat} {e : RK} {v : Value} {g off E : Nat} {cur : Array Value} (hE : ElOK P t e) (hs : v.cells.toList.length = sz e) (hg : w.heap[g]? = some (.cells cur E (0, 0))) (hl : off + v.cells.toList.length ≤ cur.size) (h1 : ∀ u ∈ v.cells.toList, u.oneCell' = true) :
    (Instr.storeAt t (.pointer (some ⟨g, off, none⟩)) v).run P w = .ok () (w.setRow g (cur.toList.take off ++ v.cells.toList ++ cur.toList.drop (off + v.cells.toList.length)).toArray) := by
  obtain ⟨i, hi, hz, _⟩ := hE.info
  have hst := run_storeCells_at P g off E v.cells.toList 0 cur w hg (by simpa using hl) h1
  simp only [Nat.add_zero] at hst
  have hne : ¬ v.cells.size ≠ i.size := by rw [hz, ← hs]; simp
  simp only [Instr.storeAt, Instr.sureAddr, storeVar, sizeOf, typeInfo, program, Sem.run_bind, Sem.run_pure, Sem.run, Result.andThen_ok, hi, hne, if_false]
  exact hst

theorem setRow_os (w : World) (g : Nat) (cs : Array Value) : (w.setRow g cs).os = w.os ∧ (w.setRow g cs).tape = w.tape ∧ (w.setRow g cs).output = w.output := ⟨rfl, rfl, rfl⟩

theorem run_u {q : Sem Unit} {w' : World} (h : q.run P w = .ok () w') : (do q; pure Next.skip : Sem Next).run P w = .ok .skip w' := by
  simp [Sem.run_bind, h]

theorem inv_store (hI : Inv w0 S0 ρ s a w) {ob E off : Nat} {loc : Loc} {r r' : Row} {cur : Array Value} {cs vs : List Value} (hl : live ρ s.h ob loc E r) (hz : loc.z = false) (hn : nl r' = nl r) (hw : wd r' = wd r)
    (hg : w.heap[loc.g]? = some (.cells cur E (0, 0))) (hK : cur.size = loc.K) (hcl : cs.length ≤ loc.K) (ht : cur.toList.take cs.length = cs) (hb : off + vs.length ≤ cs.length)
    (hr : RC w (okO w0 S0 ρ s.h) r' (cs.take off ++ vs ++ cs.drop (off + vs.length))) :
    Inv w0 S0 ρ ⟨s.t, s.h.set ob (.row E r')⟩ a (w.setRow loc.g (cur.toList.take off ++ vs ++ cur.toList.drop (off + vs.length)).toArray) := by
  refine hI.write hl hz hn hw rfl rfl rfl (by simp) (fun k hk => setRow_other w loc.g k _ hk) (setRow_heap w loc.g cur _ E _ hg) ?_ hr (by simpa using splice ht hb) ?_
  · simp only [List.size_toArray, List.length_append, List.length_take, List.length_drop, Array.length_toList]
    omega
  · simp only [List.length_append, List.length_take, List.length_drop]
    omega

theorem ms_store (hT : TTok P tt) (hI : Inv w0 S0 ρ s a w) {t : Nat} {p x : Operand} (ho : o.op = .store t p x) (h : memOp alg tt s (.store t p x) K) : MS P o a w w0 S0 K := by
  simp only [memOp] at h
  have hp := ev_sound hI p
  have hx := ev_sound hI x
  split at h
  · rename_i ob k hpe
    rw [hpe] at hp
    split at h
    · rename_i E r e hob he
      split at h
      · rename_i heq
        have her := RK.eqb_eq heq
        split at h
        · rename_i r' hset
          obtain ⟨_, hv⟩ := hp
          obtain ⟨loc, hl, hz, hv, hk⟩ := hv E r (gO hob)
          obtain ⟨cur, cs, hg, hK, hr, hcl, ht⟩ := (hI.obj ob loc E r ⟨gO hob, hl⟩).1.solid hz (eqb_x heq)
          obtain ⟨hr', hn, hw, _, hvl, h1⟩ := RC.set hr hset hx hk
          have hlen := hr.length
          have hkw : k * wd r + wd r ≤ nl r * wd r := by rw [← Nat.succ_mul]; exact Nat.mul_le_mul_right _ hk
          refine ⟨_, _, ρ, _, .skip, h, inv_store (off := k * wd r) (vs := (a.eval x).cells.toList) hI ⟨gO hob, hl⟩ hz hn hw hg hK hcl ht (by omega) (by rw [hvl]; exact hr'), ?_, .inr ⟨rfl, rfl⟩, fun hh => by simp [wr, ho] at hh⟩
          simp only [execOp, ho, hv]
          exact run_u (run_storeAt (hT.el _ _ he) (by rw [hvl, ← sz_wd, her]) hg (by omega) h1)
        · exact h.elim
      · exact h.elim
    · exact h.elim
  · rename_i ob k j hpe
    rw [hpe] at hp
    split at h
    · rename_i E r hob he
      split at h
      · rename_i r' hset
        obtain ⟨_, hv⟩ := hp
        obtain ⟨loc, hl, hz, hv, hk⟩ := hv E r (gO hob)
        obtain ⟨cur, cs, hg, hK, hr, hcl, ht⟩ := (hI.obj ob loc E r ⟨gO hob, hl⟩).1.solid hz (by intro e; cases r <;> first | (cases e; done) | (cases hset; done))
        obtain ⟨hr', hn, hw, hj, hvl, h1⟩ := RC.setF hr hset hx hk
        have hlen := hr.length
        have hkw : k * wd r + wd r ≤ nl r * wd r := by rw [← Nat.succ_mul]; exact Nat.mul_le_mul_right _ hk
        refine ⟨_, _, ρ, _, .skip, h, inv_store (off := k * wd r + j) (vs := (a.eval x).cells.toList) hI ⟨gO hob, hl⟩ hz hn hw hg hK hcl ht (by omega) (by rw [hvl]; exact hr'), ?_, .inr ⟨rfl, rfl⟩, fun hh => by simp [wr, ho] at hh⟩
        simp only [execOp, ho, hv]
        exact run_u (run_storeAt (hT.el _ _ he) (by rw [hvl]; rfl) hg (by omega) h1)
      · exact h.elim
    · exact h.elim
  · exact h.elim

/-! ### make -/
theorem zeros_sound {ok : Nat → Prop} {e : RK} {n : Nat} (hrk : e.rowk = true) (hp : 0 < sz e) : RC w ok (e.zeros alg n) (madeCells (zv e).cells (n * sz e)).toList ∧ nl (e.zeros alg n) = n ∧ wd (e.zeros alg n) = sz e := by
  have rep : ∀ (z : Value) (m : Nat), (madeCells #[z] m).toList = List.replicate m z := by
    intro z m
    apply List.ext_getElem?
    intro i
    simp only [madeCells, Array.toList_map, List.getElem?_map, Array.toList_range, List.getElem?_replicate]
    by_cases hi : i < m
    · simp [hi, Nat.mod_one]
    · simp [hi]
  cases e with
  | mp => cases hrk
  | ifc => cases hrk
  | nx => cases hrk
  | tab => cases hrk
  | i k => exact ⟨by simp only [RC, RK.zeros, alg, zv, Value.cells, sz, Nat.mul_one, rep]; simp, by simp [nl, Row.nlen, RK.zeros, alg], rfl⟩
  | b => exact ⟨by simp only [RC, RK.zeros, alg, zv, Value.cells, sz, Nat.mul_one, rep]; simp, by simp [nl, Row.nlen, RK.zeros, alg], rfl⟩
  | s => exact ⟨by simp only [RC, RK.zeros, alg, zv, Value.cells, sz, Nat.mul_one, rep]; simp; exact .inr rfl, by simp [nl, Row.nlen, RK.zeros, alg], rfl⟩
  | rc m =>
    refine ⟨⟨by simp [alg], ?_⟩, by simp [nl, Row.nlen, RK.zeros, alg], rfl⟩
    simp only [RK.zeros, alg, zv, Value.cells, sz]
    have e1 : (madeCells (List.replicate m (Value.int .i64 0)).toArray (n * m)).toList = List.replicate (n * m) (Value.int .i64 0) := by
      apply List.ext_getElem?
      intro i
      simp only [madeCells, Array.toList_map, List.getElem?_map, Array.toList_range, List.getElem?_replicate]
      by_cases hi : i < n * m
      · have hm : i % m < m := Nat.mod_lt _ hp
        simp [hi, hm]
      · simp [hi]
    rw [e1]
    clear e1
    induction n with
    | zero => simp
    | succ n ih =>
      rw [List.replicate_succ, List.flatMap_cons, ← ih, List.map_replicate, List.replicate_append_replicate]
      congr 1
      rw [Nat.succ_mul]; omega
  | sli =>
    refine ⟨⟨by simp only [RK.zeros, alg, zv, Value.cells, sz, Nat.mul_one, rep]; simp, fun i v hv => ?_⟩, by simp [nl, Row.nlen, RK.zeros, alg], rfl⟩
    simp only [zv, Value.cells, sz, Nat.mul_one, rep] at hv
    rw [List.getElem?_replicate] at hv
    split at hv
    · simp at hv; subst hv
      rename_i hi
      exact ⟨none, 0, by simp [alg, hi, List.getD], by simp [alg, hi, List.getD], by simp [maxLen], by simp [alg, hi, List.getD]⟩
    · cases hv
  | slb =>
    refine ⟨⟨by simp only [RK.zeros, alg, zv, Value.cells, sz, Nat.mul_one, rep]; simp, fun i v hv => ?_⟩, by simp [nl, Row.nlen, RK.zeros, alg], rfl⟩
    simp only [zv, Value.cells, sz, Nat.mul_one, rep] at hv
    rw [List.getElem?_replicate] at hv
    split at hv
    · simp at hv; subst hv
      rename_i hi
      exact ⟨none, 0, by simp [alg, hi, List.getD], by simp [alg, hi, List.getD], by simp [maxLen], by simp [alg, hi, List.getD]⟩
    · cases hv

end
end Go.Ab
