/-
  A CONTRACT of a function that begins with a table of one row of its own making and sets that row's first element through the table.
-/
import Derived.Test.YtjkkjfnkcfaigaaAb19
set_option linter.unusedSimpArgs false
set_option linter.unusedVariables false
namespace Go.Ab
open Go.RowKit

/-- What stands behind the two regions: the table, its row's first element set. -/
def gridS (A : Alg) (E m x8 x20 x21 x22 x23 x24 : Nat) (s : St) (o : Nat) (l : List Bool) : St :=
  ⟨put (put (put (put (put (put s.t (some x20) (.own s.h.length false)) (some x8) (.own s.h.length false)) (some x21) .undef) (some x22) .undef) (some x23) .undef) (some x24) .undef,
    (s.h.set o .dead) ++ [.row E (.boolss [A.set l 0 true])]⟩
def gridP (A : Alg) (E tE m x8 x20 x21 x22 x23 x24 : Nat) (K : St → Prop) (s : St) : Prop :=
  match Nat.blt x20 s.t.length, Nat.blt x8 s.t.length, Nat.blt x21 s.t.length, Nat.blt x22 s.t.length, Nat.blt x23 s.t.length, Nat.blt x24 s.t.length, ev s.t (.tmp m) with
  | true, true, true, true, true, true, .own o _ =>
    match getO s.h o with
    | some (E', .bools l) => match Nat.beq E' tE with | true => obP (A.inb 0 (A.len l)) (K (gridS A E m x8 x20 x21 x22 x23 x24 s o l)) | false => False
    | _ => False
  | _, _, _, _, _, _, _ => False

section
variable {P : Program} {tt : Nat → TI} {T : Nat → List AV → CR} {w0 w w' : World} {S0 : Base} {ρ ρ' : List Loc} {s s' : St} {a : Act}

theorem run_build1 {t E : Nat} {v : Value} (hu : P.underlying t = some (.slice E)) (hE : ElOK P E .slb) (h1 : ∃ A n c, v = .slice A n c) (w : World) :
    (Instr.buildSlice t 1 #[(0, v)]).run P w = .ok (.slice (some ⟨w.heap.size, 0, none⟩) 1 1) (w.alloc (.cells #[v] E)) := by
  obtain ⟨A, n, c, rfl⟩ := h1
  obtain ⟨i, hi, hsz, hby, hz⟩ := hE.info
  have hs : i.size = 1 := hsz
  refine run_buildSlice w t E 1 _ #[.slice A n c] i (zv .slb) hu hi hz (by rw [hs]; decide) (by rw [hs]; decide) ?_
  rw [hs]
  simp [Instr.fill, zv, Value.cells, List.zipIdx]
  apply Array.ext_getElem?
  intro j
  rw [Array.getElem?_setIfInBounds]
  by_cases hj : 0 = j
  · subst hj; simp
  · rw [if_neg hj, Array.getElem?_eq_none (by simp; omega), Array.getElem?_eq_none (by simp; omega)]

theorem put_get {d : Nat} {v : Value} (h : d < a.tmps.size) : (a.put (some d) v).eval (.tmp d) = v := by
  simp [Act.put, Act.eval, Array.getD_eq_getD_getElem?, h]
theorem put_none {v : Value} : a.put none v = a := rfl
theorem put_size {d : Option Nat} {v : Value} : (a.put d v).tmps.size = a.tmps.size := by
  cases d <;> simp [Act.put]

theorem setRow_alloc (w : World) (g : Nat) (cs : Array Value) (ob : Obj) (h : g < w.heap.size) : (w.alloc ob).setRow g cs = (w.setRow g cs).alloc ob := by
  unfold World.setRow World.alloc
  congr 1
  apply Array.ext_getElem?
  intro i
  simp only [Array.getElem?_modify, Array.getElem?_push, Array.size_modify]
  by_cases hi : i = w.heap.size
  · subst hi
    rw [if_pos rfl, if_neg (by omega), if_pos rfl]
  · rw [if_neg hi, if_neg hi]

set_option maxHeartbeats 1000000 in
/-- The two regions. -/
theorem grid_sound (hT : TTok P tt) (hI : Inv w0 S0 ρ s a w) {E tE t2 tB m x8 x20 x21 x22 x23 x24 id2 : Nat} {ops1 ops2 : Array Oper} {rest : Code} {p1 p2 q1 q2 q3 q4 q5 : Oper} {K : St → Prop} {Q : Exit → Act → World → Prop}
    (hp1 : p1.op = .buildSlice t2 1 #[(0, .tmp m)] ∧ p1.guard = none ∧ p1.dst = some x20) (hp2 : p2.op = .assign (.tmp x20) ∧ p2.guard = none ∧ p2.dst = some x8)
    (hops2 : ops2.toList = [q1, q2, q3, q4, q5]) (hq1 : q1.op = .move (.tmp x8) ∧ q1.guard = none ∧ q1.dst = some x21) (hq2 : q2.op = .indexAddr t2 (.tmp x21) (.const (.int .i64 0)) ∧ q2.guard = none ∧ q2.dst = some x22)
    (hq3 : q3.op = .load tB (.tmp x22) ∧ q3.guard = none ∧ q3.dst = some x23) (hq4 : q4.op = .indexAddr tB (.tmp x23) (.const (.int .i64 0)) ∧ q4.guard = none ∧ q4.dst = some x24) (hq5 : q5.op = .store tE (.tmp x24) (.const (.bool true)) ∧ q5.guard = none ∧ q5.dst = none)
    (h2 : (tt t2).sl = some (tB, .slb)) (hB : (tt tB).sl = some (tE, .b)) (hE0 : E = tB)
    (h : gridP alg E tE m x8 x20 x21 x22 x23 x24 K s) (hK : ∀ s' ρ' a' w', K s' → Inv w0 S0 ρ' s' a' w' → rest.wp P Q a' w') :
    wpList P ops1 (Exit.then ((Code.seq (.region id2 ops2 false) rest).wp P Q) Q) [p1, p2] a w := by
  unfold gridP at h
  split at h
  · rename_i o z b20 b8 b21 b22 b23 b24 hev
    split at h
    · rename_i E' l hob
      split at h
      · rename_i hEE
        have hEE := nbeq hEE
        subst hEE
        obtain ⟨⟨_, hlen⟩, hk⟩ := h
        have hlen : 0 < l.length := by simp only [alg] at hlen; omega
        obtain ⟨hu2, hE2⟩ := hT.sl _ _ _ h2
        obtain ⟨huB, hEB⟩ := hT.sl _ _ _ hB
        have hsz := hI.size
        have c20 : x20 < a.tmps.size := by rw [hsz]; exact nblt b20
        have c8 : x8 < a.tmps.size := by rw [hsz]; exact nblt b8
        have c21 : x21 < a.tmps.size := by rw [hsz]; exact nblt b21
        have c22 : x22 < a.tmps.size := by rw [hsz]; exact nblt b22
        have c23 : x23 < a.tmps.size := by rw [hsz]; exact nblt b23
        have c24 : x24 < a.tmps.size := by rw [hsz]; exact nblt b24
        -- the row
        have hv := ev_sound hI (.tmp m)
        rw [hev] at hv
        obtain ⟨_, hv⟩ := hv
        obtain ⟨loc, hl, hv⟩ := hv _ _ (gO hob)
        have hlive : live ρ s.h o loc E' (.bools l) := ⟨gO hob, hl⟩
        obtain ⟨hz, cap, hv, hc1, hc2, hc3⟩ := hv.resolve_left (fun h => by have := h.2.2.2; simp only [nl, Row.nlen, alg] at this; omega)
        obtain ⟨cur, cs, hg, hKK, hrc, hcl, htk⟩ := (hI.obj _ _ _ _ hlive).1.solid hz
        have hgs : loc.g < w.heap.size := (Array.getElem?_eq_some_iff.1 hg).1
        have hcs : cs = l.map .bool := hrc
        have hcsl : cs.length = l.length := by rw [hcs]; simp
        have hnl : nl (.bools l) = l.length := rfl
        obtain ⟨v, hvv⟩ : ∃ v : Value, v = .slice (some ⟨loc.g, 0, none⟩) (nl (.bools l)) cap := ⟨_, rfl⟩
        have hv1 : a.eval (.tmp m) = v := by rw [hvv]; exact hv
        have hvc : v.cells = #[v] := by rw [hvv]; rfl
        -- the table is made
        refine wpList_plain hp1.2.1 fun K1 hK1 => ?_
        have r1 : (execOp a.eval p1).run P w = .ok (.value (.slice (some ⟨w.heap.size, 0, none⟩) 1 1)) (w.alloc (.cells #[v] tB)) := by
          have := run_build1 (P := P) hu2 hE2 ⟨_, _, _, hvv⟩ w
          simp only [execOp, hp1.1]
          simp [Sem.run_bind, hv1, this]
        unfold Oper.wp
        rw [r1]
        obtain ⟨tv, htv⟩ : ∃ tv : Value, tv = .slice (some ⟨w.heap.size, 0, none⟩) 1 1 := ⟨_, rfl⟩
        rw [← htv] at r1 ⊢
        refine hK1 _ _ (wpList_plain hp2.2.1 fun K2 hK2 => ?_)
        rw [hp1.2.2]
        have r2 : (execOp (a.put (some x20) tv).eval p2).run P (w.alloc (.cells #[v] tB)) = .ok (.value tv) (w.alloc (.cells #[v] tB)) := by
          simp [execOp, hp2.1, put_get c20]
        unfold Oper.wp
        rw [r2]
        refine hK2 _ _ (wpList_nil ?_)
        rw [hp2.2.2]
        -- the row is written through the table
        refine wp_seq (wp_region_list ?_)
        rw [hops2]
        refine wpList_plain hq1.2.1 fun K3 hK3 => ?_
        have r3 : (execOp ((a.put (some x20) tv).put (some x8) tv).eval q1).run P (w.alloc (.cells #[v] tB)) = .ok (.value tv) (w.alloc (.cells #[v] tB)) := by
          simp [execOp, hq1.1, put_get (show x8 < (a.put (some x20) tv).tmps.size by rw [put_size]; exact c8)]
        unfold Oper.wp
        rw [r3]
        refine hK3 _ _ (wpList_plain hq2.2.1 fun K4 hK4 => ?_)
        rw [hq1.2.2]
        obtain ⟨a3, ha3⟩ : ∃ a3, a3 = ((a.put (some x20) tv).put (some x8) tv).put (some x21) tv := ⟨_, rfl⟩
        rw [← ha3]
        have s3 : a3.tmps.size = a.tmps.size := by rw [ha3, put_size, put_size, put_size]
        have e3 : a3.eval (.tmp x21) = tv := by rw [ha3]; exact put_get (by rw [put_size, put_size]; exact c21)
        obtain ⟨i2, hi2, hsz2, _, _⟩ := hE2.info
        obtain ⟨iB, hiB, hszB, _, _⟩ := hEB.info
        have hsz2 : i2.size = 1 := hsz2
        have hszB : iB.size = 1 := hszB
        have r4 : (execOp a3.eval q2).run P (w.alloc (.cells #[v] tB)) = .ok (.value (.pointer (some ⟨w.heap.size, 0, none⟩))) (w.alloc (.cells #[v] tB)) := by
          simp only [execOp, hq2.1, e3, htv]
          have := run_indexAt (P := P) (ad := ⟨w.heap.size, 0, none⟩) (len := 1) (cap := 1) (k := .i64) (n := 0) hu2 hi2 (by omega) (by omega) (w.alloc (.cells #[v] tB))
          rw [add_lit'] at this
          simp only [hsz2] at this
          exact run_v this
        unfold Oper.wp
        rw [r4]
        refine hK4 _ _ (wpList_plain hq3.2.1 fun K5 hK5 => ?_)
        rw [hq2.2.2]
        have hcell : (w.alloc (.cells #[v] tB)).cell? ⟨w.heap.size, 0, none⟩ = some v := by
          rw [cell_of_row _ w.heap.size 0 #[v] tB (0, 0) (heap_alloc_new w _)]; rfl
        have r5 : (execOp (a3.put (some x22) (.pointer (some ⟨w.heap.size, 0, none⟩))).eval q3).run P (w.alloc (.cells #[v] tB)) = .ok (.value v) (w.alloc (.cells #[v] tB)) := by
          simp only [execOp, hq3.1, put_get (show x22 < a3.tmps.size by rw [s3]; exact c22)]
          exact run_v (load_one hE2 (by simp) hcell)
        unfold Oper.wp
        rw [r5]
        refine hK5 _ _ (wpList_plain hq4.2.1 fun K6 hK6 => ?_)
        rw [hq3.2.2]
        obtain ⟨a4, ha4⟩ : ∃ a4, a4 = a3.put (some x22) (.pointer (some ⟨w.heap.size, 0, none⟩)) := ⟨_, rfl⟩
        rw [← ha4]
        have s4 : a4.tmps.size = a.tmps.size := by rw [ha4, put_size, s3]
        have r6 : (execOp (a4.put (some x23) v).eval q4).run P (w.alloc (.cells #[v] tB)) = .ok (.value (.pointer (some ⟨loc.g, 0, none⟩))) (w.alloc (.cells #[v] tB)) := by
          simp only [execOp, hq4.1, put_get (show x23 < a4.tmps.size by rw [s4]; exact c23), hvv]
          have := run_indexAt (P := P) (ad := ⟨loc.g, 0, none⟩) (len := nl (.bools l)) (cap := cap) (k := .i64) (n := 0) huB hiB (by omega) (by rw [hnl]; omega) (w.alloc (.cells #[v] tB))
          rw [add_lit'] at this
          simp only [hszB] at this
          rw [hvv] at this
          exact run_v this
        unfold Oper.wp
        rw [r6]
        refine hK6 _ _ (wpList_plain hq5.2.1 fun K7 hK7 => ?_)
        rw [hq4.2.2]
        obtain ⟨cur', hcur'⟩ : ∃ cur' : Array Value, cur' = (cur.toList.take 0 ++ [Value.bool true] ++ cur.toList.drop (0 + [Value.bool true].length)).toArray := ⟨_, rfl⟩
        have hg' : (w.alloc (.cells #[v] tB)).heap[loc.g]? = some (.cells cur E' (0, 0)) := by
          rw [Below.heap_alloc w _ loc.g hgs]; exact hg
        have r7 : (execOp ((a4.put (some x23) v).put (some x24) (.pointer (some ⟨loc.g, 0, none⟩))).eval q5).run P (w.alloc (.cells #[v] tB)) = .ok .skip ((w.setRow loc.g cur').alloc (.cells #[v] tB)) := by
          simp only [execOp, hq5.1, put_get (show x24 < (a4.put (some x23) v).tmps.size by rw [put_size, s4]; exact c24)]
          rw [← setRow_alloc w loc.g cur' _ hgs]
          refine run_u ?_
          rw [hcur']
          exact run_storeAt (v := .bool true) (off := 0) (by exact hEB) rfl hg' (by simp [Value.cells]; omega) (by simp [Value.cells, Value.oneCell'])
        unfold Oper.wp
        rw [r7]
        refine hK7 _ _ (wpList_nil ?_)
        rw [hq5.2.2, put_none]
        -- what that leaves
        have hIs := inv_store (r' := .bools (l.set 0 true)) (off := 0) (vs := [Value.bool true]) hI hlive hz (by simp [nl, Row.nlen, alg]) rfl hg hKK hcl htk (by simp; omega) (by
          simp only [RC]
          rw [hcs]
          cases l with
          | nil => simp at hlen
          | cons b l => simp)
        rw [← hcur'] at hIs
        have hIk := hIs.kill o
        have hIk : Inv w0 S0 ρ ⟨s.t, s.h.set o .dead⟩ a (w.setRow loc.g cur') := by
          simpa using hIk
        have hroi : ROi (w.setRow loc.g cur') (okO w0 S0 ρ (s.h.set o .dead)) ((l.set 0 true).map .bool) v := by
          refine ⟨some ⟨loc.g, 0, none⟩, cap, by rw [hvv]; simp [nl, Row.nlen, alg], by simpa [nl, Row.nlen, alg] using hc1, hc2, fun _ => ⟨_, rfl, by simpa using hgs, ⟨?_, (hI.obj _ _ _ _ hlive).2 hz⟩, fun j u hj => ?_⟩⟩
          · intro o' loc' E2 r2 hlv hz' e
            obtain ⟨hne, hlv⟩ := live_kill hlv
            exact hne (hI.inj _ _ _ _ _ _ _ _ hlv hlive hz' hz e)
          · rw [add_lit', Nat.zero_add, cell_of_row (w.setRow loc.g cur') loc.g j cur' E' (0, 0) (setRow_heap w loc.g cur _ E' _ hg)]
            have hjl : j < l.length := by have := (List.getElem?_eq_some_iff.1 hj).1; simpa using this
            have hcj : cur.toList[j]? = (l.map Value.bool)[j]? := by
              have h0 : (cur.toList.take cs.length)[j]? = cs[j]? := by rw [htk]
              rw [List.getElem?_take, if_pos (by omega), hcs] at h0
              exact h0
            rw [← Array.getElem?_toList, hcur']
            cases j with
            | zero =>
              simp at hj
              simp [← hj]
              cases l with
              | nil => simp at hlen
              | cons b l => simp
            | succ j =>
              simp only [List.take_zero, List.nil_append, List.length_singleton, Nat.zero_add, List.singleton_append, List.getElem?_cons_succ, List.getElem?_drop]
              rw [Nat.add_comm, hcj]
              rw [List.getElem?_map, List.getElem?_set_ne (by omega)] at hj
              rw [List.getElem?_map]; exact hj
        have hIa := hIk.alloc (cur := #[v]) (E := tB) (r := .boolss [l.set 0 true]) (cs := [v]) (by
          refine ⟨rfl, fun i u hu => ?_⟩
          cases i with
          | zero => simp at hu; subst hu; exact hroi
          | succ i => simp at hu) (by simp) (by simp)
        have hsw : (w.setRow loc.g cur').heap.size = w.heap.size := by simp
        have hown := own_new (z := false) (w := w.setRow loc.g cur') (w' := (w.setRow loc.g cur').alloc (.cells #[v] tB)) (r := .boolss [l.set 0 true]) (E := tB) (cap := 1) (K0 := (#[v] : Array Value).size) (ρ := ρ) (h := s.h.set o .dead) (by simp [nl, Row.nlen, alg]) (by simp [maxLen]) (by simp [wd]) hIk.len
        have e20 : VR ((w.setRow loc.g cur').alloc (.cells #[v] tB)) (okB (ρ ++ [⟨(w.setRow loc.g cur').heap.size, (#[v] : Array Value).size, false⟩]) (s.h.set o .dead ++ [.row tB (.boolss [l.set 0 true])])) (ρ ++ [⟨(w.setRow loc.g cur').heap.size, (#[v] : Array Value).size, false⟩]) (s.h.set o .dead ++ [.row tB (.boolss [l.set 0 true])]) (.own s.h.length false) tv := by
          rw [htv, ← hsw]
          simpa [nl, Row.nlen, alg] using hown
        subst hE0
        have hI1 := hIa.put e20 (some x20)
        have hI2 := hI1.put (x := .own s.h.length false) (v := tv) e20 (some x8)
        have hI3 := hI2.put (x := .undef) (v := tv) trivial (some x21)
        have hI4 := hI3.put (x := .undef) (v := .pointer (some ⟨w.heap.size, 0, none⟩)) trivial (some x22)
        have hI5 := hI4.put (x := .undef) (v := v) trivial (some x23)
        have hI6 := hI5.put (x := .undef) (v := .pointer (some ⟨loc.g, 0, none⟩)) trivial (some x24)
        rw [ha4, ha3]
        exact hK _ _ _ _ hk hI6
      · exact h.elim
    · exact h.elim
  · exact h.elim

theorem fc_grid {σ : Type} (S0 : σ) (L : σ → List (Nat × (List AV → CR))) (hTab : TabOK P (tfind (L S0))) (hT : TTok P tt) (hm : P.follows .mixedOrders = true) {f : Nat} {fn : Func} {c1 rest : Code} {id1 id2 : Nat} {ops1 ops2 : Array Oper} (n : Nat)
    {tE t2 tB m x8 x20 x21 x22 x23 x24 : Nat} {p1 p2 q1 q2 q3 q4 q5 : Oper} {args : List AV} {r : AV} {fr : List (Nat × Row)}
    (hf : P.funcs[f]? = some fn) (hb : fn.body = some (c1.seq ((Code.region id1 ops1 false).seq ((Code.region id2 ops2 false).seq rest)))) (hname : (fn.name == "runtime.NumGoroutine") = false) {res : List ResultVar} (hr : fn.results.toList = res) (h1 : Nat.blt 0 res.length && Nat.ble res.length 3 = true)
    (hops : ops1.toList.drop n = [p1, p2])
    (hp1 : p1.op = .buildSlice t2 1 #[(0, .tmp m)] ∧ p1.guard = none ∧ p1.dst = some x20) (hp2 : p2.op = .assign (.tmp x20) ∧ p2.guard = none ∧ p2.dst = some x8)
    (hops2 : ops2.toList = [q1, q2, q3, q4, q5]) (hq1 : q1.op = .move (.tmp x8) ∧ q1.guard = none ∧ q1.dst = some x21) (hq2 : q2.op = .indexAddr t2 (.tmp x21) (.const (.int .i64 0)) ∧ q2.guard = none ∧ q2.dst = some x22)
    (hq3 : q3.op = .load tB (.tmp x22) ∧ q3.guard = none ∧ q3.dst = some x23) (hq4 : q4.op = .indexAddr tB (.tmp x23) (.const (.int .i64 0)) ∧ q4.guard = none ∧ q4.dst = some x24) (hq5 : q5.op = .store tE (.tmp x24) (.const (.bool true)) ∧ q5.guard = none ∧ q5.dst = none)
    (h2 : (tt t2).sl = some (tB, .slb)) (hB : (tt tB).sl = some (tE, .b))
    (h : ∀ (A : Alg) (S : σ) (r0 : AV) (fr0 : List (Nat × Row)), A = alg → S = S0 → r0 = r → fr0 = fr →
      awp A tt (tfind (L S)) c1 (fun e s => match e with
        | .normal => regA A tt (tfind (L S)) false ops1 (ops1.toList.take n) s (gridP A tB tE m x8 x20 x21 x22 x23 x24 (fun s => awp A tt (tfind (L S)) rest (doneQ A tt res r0 fr0) s))
        | _ => False) ⟨args ++ undefs (fn.ntmps - args.length), [.dead]⟩) : FC P f args r fr := by
  simp only [Bool.and_eq_true] at h1
  have h1a := nblt h1.1
  have h3 : res.length ≤ 3 := by simpa using h1.2
  refine ⟨⟨fn, hf, by simpa using hname, by rw [hb]; simp⟩, fun w vals _ hv => ?_⟩
  refine calls_of_wp hf hb ?_
  have hnl : ∀ {o loc E r}, ¬ live [Loc.mk 0 0 true] [AO.dead] o loc E r := by
    rintro o loc E r ⟨h1, _⟩
    cases o <;> simp at h1
  have hv' : VRs w (okB [Loc.mk 0 0 true] [.dead]) [Loc.mk 0 0 true] [.dead] args vals := VRs_clean (VRs_weak (fun k _ o loc E r hl => (hnl hl).elim) hv)
  obtain ⟨i1, i2⟩ := init_slots (n := fn.ntmps) hv'
  have hTab' : TabIn P (tfind (L S0)) w ⟨fun _ => False, none⟩ := ⟨⟨GT, hTab, fun _ _ => trivial⟩⟩
  have hI : Inv w ⟨fun _ => False, none⟩ [Loc.mk 0 0 true] ⟨args ++ undefs (fn.ntmps - args.length), [.dead]⟩ { tmps := vals.toArray ++ Array.replicate (fn.ntmps - vals.toArray.size) undef, defers := [] } w :=
    ⟨Keeps.refl _ _, (fun _ h => by cases h), rfl, (fun o loc E r hl => (hnl hl).elim), (fun o o' loc loc' E E' r r' hl => (hnl hl).elim), i1, i2, rfl⟩
  have h := h alg S0 r fr rfl rfl rfl rfl
  refine wp_seq (wp_mono (awp_sound hT hTab' hm _ _ _ _ _ _ h hI) ?_)
  intro e a1 w1 hq
  cases e with
  | normal =>
    obtain ⟨s1, ρ1, q1', hI1⟩ := hq
    refine wp_seq (wp_region_list ?_)
    rw [← List.take_append_drop n ops1.toList, hops]
    refine reg_seqT hT hTab' ?_ _ _ _ _ _ q1' hI1
    intro s2 ρ2 a2 w2 hg hI2
    refine grid_sound hT hI2 hp1 hp2 hops2 hq1 hq2 hq3 hq4 hq5 h2 hB rfl hg ?_
    intro s3 ρ3 a3 w3 hk hI3
    refine wp_mono (awp_sound hT hTab' hm _ _ _ _ _ _ hk hI3) ?_
    intro e a' w' hq
    cases e with
    | normal =>
      obtain ⟨s', ρ', h1', h2'⟩ := hq
      obtain ⟨v, ρ2, g1, g2, g3⟩ := done_sound hT h2' hr h1a h3 h1'
      exact ⟨h2'.defers, v, g1, v, ρ2, rfl, g2, g3⟩
    | ret =>
      obtain ⟨s', ρ', h1', h2'⟩ := hq
      obtain ⟨v, ρ2, g1, g2, g3⟩ := done_sound hT h2' hr h1a h3 h1'
      exact ⟨h2'.defers, v, g1, v, ρ2, rfl, g2, g3⟩
    | exit i => obtain ⟨s', ρ', h1', _⟩ := hq; exact h1'.elim
    | goto l => exact hq.elim
    | panic l => exact hq.elim
    | outgrown => exact hq.elim
  | exit i => obtain ⟨_, _, q, _⟩ := hq; exact q.elim
  | ret => obtain ⟨_, _, q, _⟩ := hq; exact q.elim
  | goto l => exact hq.elim
  | panic l => exact hq.elim
  | outgrown => exact hq.elim
end
end Go.Ab
