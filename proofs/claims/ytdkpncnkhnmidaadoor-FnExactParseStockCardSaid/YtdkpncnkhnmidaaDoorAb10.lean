/-
  SOUNDNESS, PART EIGHT: make, slice literals, append; all operations that write or make memory.
-/
import Derived.Test.YtdkpncnkhnmidaaDoorAb9
import Derived.Great.BuildSlice
set_option linter.unusedSimpArgs false
set_option linter.unusedVariables false
namespace Go.Ab
open Go.RowKit

section
variable {P : Program} {tt : Nat → TI} {w0 w : World} {S0 : Base} {ρ : List Loc} {s : St} {a : Act} {o : Oper} {K : AV → St → Prop}

theorem own_new {r : Row} {E cap K0 : Nat} {z : Bool} {w' : World} {h : List AO} (h1 : nl r ≤ cap) (h2 : cap ≤ maxLen) (h3 : cap * wd r ≤ K0) (hl : ρ.length = h.length) :
    VR w' (okB (ρ ++ [⟨w.heap.size, K0, false, []⟩]) (h ++ [.row E r])) (ρ ++ [⟨w.heap.size, K0, false, []⟩]) (h ++ [.row E r]) (.own h.length z) (.slice (some ⟨w.heap.size, 0, none⟩) (nl r) cap) := by
  refine ⟨by simp, fun E' r' h => ?_⟩
  simp at h
  obtain ⟨rfl, rfl⟩ := h
  exact ⟨⟨w.heap.size, K0, false, []⟩, by rw [← hl]; simp, .inr ⟨rfl, cap, rfl, h1, h2, h3⟩⟩

theorem ms_make (hT : TTok P tt) (hI : Inv w0 S0 ρ s a w) {t : Nat} {l c : Operand} (ho : o.op = .makeSlice t l c) (h : memOp alg tt s (.makeSlice t l c) K) : MS P o a w w0 S0 K := by
  simp only [memOp] at h
  have hl := ev_sound hI l
  have hc := ev_sound hI c
  split at h
  · exact h.elim
  · rename_i E e n m hnt he hle hce
    rw [hle] at hl
    rw [hce] at hc
    obtain ⟨⟨n0, n1⟩, hm, hk⟩ := h
    have hm : m = n := by simpa [alg] using hm
    subst hm
    obtain ⟨hu, hE⟩ := hT.sl _ _ _ he
    obtain ⟨i, hi, hsz, hby, hz⟩ := hE.info
    obtain ⟨z1, z2, z3⟩ := zeros_sound (w := w) (ok := okO w0 S0 ρ s.h) (e := e) (n := m.toNat) (hT.slk _ _ _ he hnt) hE.pos
    have hrun := run_make (P := P) w t E i _ hu hi hz .i64 .i64 m m n0 (Int.le_refl _) (by
      have h1 : (i.bytes : Int) * m ≤ 64 * m := Int.mul_le_mul_of_nonneg_right (by omega) n0
      omega) (by omega)
    have e1 : a.eval l = .int .i64 m := hl
    have e2 : a.eval c = .int .i64 m := hc
    rw [hsz] at hrun
    refine ⟨_, _, _, _, _, hk, hI.alloc (cur := madeCells (zv e).cells (m.toNat * sz e)) z1 (by simp) List.take_length, ?_, .inl ⟨.slice (some ⟨w.heap.size, 0, none⟩) m.toNat m.toNat, rfl, ?_⟩, fun _ => after_alloc _ _⟩
    · simp only [execOp, ho, e1, e2]
      simp [Sem.run_bind, hrun]
    · have := own_new (z := false) (w := w) (w' := w.alloc (.cells (madeCells (zv e).cells (m.toNat * sz e)) E)) (r := e.zeros alg m.toNat) (E := E) (cap := m.toNat) (K0 := (madeCells (zv e).cells (m.toNat * sz e)).size) (by omega) (by simp [maxLen]; omega) (by rw [z3]; simp [size_madeCells]) hI.len
      rw [z2] at this
      exact this
  · exact h.elim

/-! ### slice literals -/
theorem fold_set (off : Nat) : ∀ (l : List Value) (k : Nat) (cs : Array Value), off + k + l.length ≤ cs.size →
    ((l.zipIdx k).foldl (fun (cs : Array Value) (x : Value × Nat) => cs.setIfInBounds (off + x.2) x.1) cs).toList = cs.toList.take (off + k) ++ l ++ cs.toList.drop (off + k + l.length)
  | [], k, cs, _ => by simp
  | x :: l, k, cs, h => by
    simp only [List.zipIdx_cons, List.foldl_cons]
    rw [fold_set off l (k + 1) _ (by simp at h ⊢; omega)]
    have e := list_seg_step cs.toList (off + k) x l (by simp at h ⊢; omega)
    simp only [List.length_cons] at h ⊢
    simpa [Array.toList_setIfInBounds, Nat.add_assoc, Nat.add_comm 1] using e

theorem fill_seq (size : Nat) : ∀ (l : List (Nat × Value)) (n : Nat) (cells : Array Value), l.map (·.1) = List.range' n l.length → (∀ p ∈ l, p.2.cells.toList.length = size) → (n + l.length) * size ≤ cells.size →
    ∃ c', Instr.fill (fun i => some (i * size, size)) cells l = some c' ∧ c'.size = cells.size ∧ c'.toList = cells.toList.take (n * size) ++ l.flatMap (fun p => p.2.cells.toList) ++ cells.toList.drop ((n + l.length) * size)
  | [], n, cells, _, _, _ => ⟨cells, rfl, rfl, by simp⟩
  | (i, v) :: l, n, cells, h1, h2, h3 => by
    simp only [List.map_cons, List.length_cons, List.range'_succ, List.cons.injEq] at h1
    obtain ⟨rfl, h1⟩ := h1
    have hv : v.cells.toList.length = size := h2 (i, v) (by simp)
    have hv' : v.cells.size = size := by simpa using hv
    have hle : i * size + size ≤ cells.size := by
      refine Nat.le_trans ?_ h3
      rw [← Nat.succ_mul]
      exact Nat.mul_le_mul_right _ (by simp)
    have hf := fold_set (i * size) v.cells.toList 0 cells (by rw [hv]; simpa using hle)
    obtain ⟨cells1, hc1⟩ : ∃ c1, c1 = v.cells.zipIdx.foldl (fun cs (c, j) => cs.setIfInBounds (i * size + j) c) cells := ⟨_, rfl⟩
    have hc1l : cells1.toList = cells.toList.take (i * size) ++ v.cells.toList ++ cells.toList.drop (i * size + size) := by
      rw [hc1, ← Array.foldl_toList]
      simpa [hv] using hf
    have hs1 : cells1.size = cells.size := by
      have := congrArg List.length hc1l
      simp at this
      omega
    obtain ⟨c', g1, g2, g3⟩ := fill_seq size l (i + 1) cells1 (by simpa using h1) (fun p hp => h2 p (by simp [hp])) (by simp at h3; rw [hs1]; simpa [Nat.add_assoc, Nat.add_comm 1] using h3)
    refine ⟨c', ?_, g2.trans hs1, ?_⟩
    · simp only [Instr.fill]
      rw [if_neg (by simp [hv']; omega), ← hc1]
      exact g1
    · rw [g3, hc1l]
      have t1 : (cells.toList.take (i * size) ++ v.cells.toList ++ cells.toList.drop (i * size + size)).take ((i + 1) * size) = cells.toList.take (i * size) ++ v.cells.toList := by
        apply List.take_left'
        simp only [List.length_append, List.length_take, hv, Array.length_toList]
        rw [Nat.succ_mul]; omega
      have t2 : (cells.toList.take (i * size) ++ v.cells.toList ++ cells.toList.drop (i * size + size)).drop ((i + 1 + l.length) * size) = cells.toList.drop ((i + (l.length + 1)) * size) := by
        rw [List.drop_append]
        have el : (cells.toList.take (i * size) ++ v.cells.toList).length = i * size + size := by
          simp only [List.length_append, List.length_take, hv, Array.length_toList]; omega
        have e3 : (i + 1 + l.length) * size = i * size + size + l.length * size := by rw [Nat.add_mul, Nat.add_mul]; omega
        have e4 : (i + (l.length + 1)) * size = i * size + size + l.length * size := by rw [Nat.add_mul, Nat.add_mul]; omega
        rw [List.drop_of_length_le (by rw [el, e3]; omega), List.nil_append, List.drop_drop, el, e3, e4]
        congr 1; omega
      rw [t1, t2]
      simp [List.append_assoc]

theorem RC.cons {ok : Nat → Prop} {h : List AO} {x : AV} {r r' : Row} {cs : List Value} {v : Value} (hs : Row.cons x r = some r') (hr : RC w ok r cs) (hv : VR w ok ρ h x v) :
    RC w ok r' (v.cells.toList ++ cs) ∧ r'.rk = r.rk ∧ nl r' = nl r + 1 ∧ v.cells.toList.length = wd r := by
  unfold Row.cons at hs
  split at hs
  · split at hs
    · rename_i he
      cases kb_eq he
      simp at hs; subst hs
      simp only [VR] at hv; subst hv
      simp only [RC] at hr; subst hr
      exact ⟨by simp [RC, Value.cells], rfl, by simp [nl, Row.nlen, alg], rfl⟩
    · cases hs
  · simp at hs; subst hs
    simp only [VR] at hv; subst hv
    simp only [RC] at hr; subst hr
    exact ⟨by simp [RC, Value.cells], rfl, by simp [nl, Row.nlen, alg], rfl⟩
  · simp at hs; subst hs
    simp only [VR] at hv; subst hv
    simp only [RC] at hr; subst hr
    exact ⟨by simp [RC, Value.cells], rfl, by simp [nl, Row.nlen, alg], rfl⟩
  · split at hs
    · rename_i he
      cases nbeq he
      simp at hs; subst hs
      obtain ⟨hl, rfl⟩ := hv
      obtain ⟨h1, rfl⟩ := hr
      refine ⟨⟨?_, by simp [Value.cells]⟩, rfl, by simp [nl, Row.nlen, alg], by simp [Value.cells, wd, hl]⟩
      intro y hy
      simp at hy
      rcases hy with rfl | hy
      · exact hl
      · exact h1 y hy
    · cases hs
  · rename_i l l'
    simp at hs; subst hs
    obtain ⟨A, cap, c1, rfl, g1, g2, g3, g4⟩ := hv
    simp only [RC] at g3; subst g3
    refine ⟨⟨by simp [Value.cells, hr.1], fun i v hv => ?_⟩, rfl, by simp [nl, Row.nlen, alg], rfl⟩
    cases i with
    | zero =>
      simp [Value.cells] at hv
      subst hv
      exact ⟨A, cap, by simp [nl, Row.nlen, alg], by simpa [nl, Row.nlen, alg] using g1, g2, fun hp => g4 (by simpa [nl, Row.nlen, alg] using hp)⟩
    | succ i => simp [Value.cells] at hv; simpa using hr.2 i v hv
  · rename_i l l'
    simp at hs; subst hs
    obtain ⟨A, cap, c1, rfl, g1, g2, g3, g4⟩ := hv
    simp only [RC] at g3; subst g3
    refine ⟨⟨by simp [Value.cells, hr.1], fun i v hv => ?_⟩, rfl, by simp [nl, Row.nlen, alg], rfl⟩
    cases i with
    | zero =>
      simp [Value.cells] at hv
      subst hv
      exact ⟨A, cap, by simp [nl, Row.nlen, alg], by simpa [nl, Row.nlen, alg] using g1, g2, fun hp => g4 (by simpa [nl, Row.nlen, alg] using hp)⟩
    | succ i => simp [Value.cells] at hv; simpa using hr.2 i v hv
  · cases hs

theorem RC.of_zero {ok : Nat → Prop} {r : Row} (hs : r.rk ≠ .nx) (h0 : nl r = 0) : RC w ok r [] := by
  cases r with
  | ints k l => simp [nl, Row.nlen, alg] at h0; subst h0; rfl
  | bools l => simp [nl, Row.nlen, alg] at h0; subst h0; rfl
  | strs l => simp [nl, Row.nlen, alg] at h0; subst h0; rfl
  | recs n l => simp [nl, Row.nlen, alg] at h0; subst h0; exact ⟨by simp, rfl⟩
  | intss l => simp [nl, Row.nlen, alg] at h0; subst h0; exact ⟨rfl, by simp⟩
  | boolss l => simp [nl, Row.nlen, alg] at h0; subst h0; exact ⟨rfl, by simp⟩
  | itr _ _ => cases h0
  | mpr _ => cases h0
  | tabs l => exact absurd rfl hs

theorem ro_nil {ok : Nat → Prop} {r : Row} (hs : r.rk ≠ .nx) (h0 : nl r = 0) : ROw w ok r (.slice none 0 0) :=
  ⟨none, 0, [], by rw [h0], by omega, by simp [maxLen], RC.of_zero hs h0, fun h => by omega⟩

/-- A slice of one's own, handed over to be read. -/
theorem own_ro {h : List AO} {t : List AV} (hI : Inv w0 S0 ρ ⟨t, h⟩ a w) {ob E : Nat} {r : Row} {v : Value} (hob : getO h ob = some (E, r)) (hs : r.rk ≠ .nx) {z : Bool} (hv : VR w (okB ρ h) ρ h (.own ob z) v) : ROw w (okO w0 S0 ρ (h.set ob .dead)) r v := by
  obtain ⟨_, hv⟩ := hv
  obtain ⟨loc, hl, hv⟩ := hv E r (gO hob)
  have hS : Same w w (okB ρ h) (okB ρ (h.set ob .dead)) := ⟨Nat.le_refl _, fun k _ hok => ⟨rfl, okB_kill hok⟩⟩
  rcases hv with ⟨hz, _, rfl, h0⟩ | ⟨hz, cap, rfl, c1, c2, c3⟩
  · exact ro_nil hs h0
  obtain ⟨hO, hF⟩ := hI.obj ob loc E r ⟨gO hob, hl⟩
  obtain ⟨hb, cs, hr, _, hc⟩ := hO.cell hz hs
  refine ⟨_, cap, cs, rfl, c1, c2, hr.same hS.o, fun _ => ⟨_, rfl, hb, ⟨?_, (hF _ (Loc.has_g hz)).1⟩, fun j u hu => ?_⟩⟩
  · intro o' loc' E' r' hlv hz'
    obtain ⟨hne, hlv⟩ := live_kill hlv
    exact hne (hI.inj _ _ _ _ _ _ _ _ _ hlv ⟨gO hob, hl⟩ hz' (Loc.has_g hz))
  · rw [add_lit', Nat.zero_add]; exact hc j u hu

theorem VR.any {ok ok' : Nat → Prop} {h h' : List AO} {ρ' : List Loc} {x : AV} {r r' : Row} {v : Value} (hs : Row.cons x r = some r') (hx : ∀ q, x ≠ .ro q) (hv : VR w ok ρ h x v) : VR w ok' ρ' h' x v := by
  unfold Row.cons at hs
  split at hs <;> first
    | exact hv
    | (exact absurd rfl (hx _))
    | (cases hs; done)

theorem lits_sound {t : List AV} : ∀ (l : List (Nat × Operand)) (n : Nat) (r : Row) (h : List AO) (K : Row → List AO → Prop), lits t n l r h K → Inv w0 S0 ρ ⟨t, h⟩ a w → RC w (okO w0 S0 ρ h) r [] → nl r = 0 →
    ∃ r' h', K r' h' ∧ Inv w0 S0 ρ ⟨t, h'⟩ a w ∧ RC w (okO w0 S0 ρ h') r' (l.flatMap fun p => (a.eval p.2).cells.toList) ∧ l.map (·.1) = List.range' n l.length ∧ r'.rk = r.rk ∧ nl r' = l.length ∧ (∀ p ∈ l, (a.eval p.2).cells.toList.length = wd r) ∧ h'.length = h.length
  | [], n, r, h, K, hk, hI, hr, h0 => ⟨r, h, hk, hI, by simpa using hr, by simp, rfl, h0, by simp, rfl⟩
  | (i, x) :: l, n, r, h, K, hk, hI, hr, h0 => by
    simp only [lits] at hk
    split at hk
    · exact hk.elim
    · rename_i hin
      have hin := nbeq hin
      subst hin
      obtain ⟨r1, h1, hk1, hI1, hr1, hm1, hrk1, hn1, hl1, hlen1⟩ := lits_sound l (i + 1) r h _ hk hI hr h0
      have hx := ev_sound hI1 x
      simp only at hx
      have hwd : wd r1 = wd r := by rw [← sz_wd, ← sz_wd, hrk1]
      have fin : ∀ {x' : AV} {r2 : Row} {h2 : List AO}, K r2 h2 → Row.cons x' r1 = some r2 → Inv w0 S0 ρ ⟨t, h2⟩ a w → RC w (okO w0 S0 ρ h2) r1 (l.flatMap fun p => (a.eval p.2).cells.toList) → VR w (okO w0 S0 ρ h2) ρ h2 x' (a.eval x) → h2.length = h.length →
          ∃ r' h', K r' h' ∧ Inv w0 S0 ρ ⟨t, h'⟩ a w ∧ RC w (okO w0 S0 ρ h') r' (((i, x) :: l).flatMap fun p => (a.eval p.2).cells.toList) ∧ ((i, x) :: l).map (·.1) = List.range' i ((i, x) :: l).length ∧ r'.rk = r.rk ∧ nl r' = ((i, x) :: l).length ∧ (∀ p ∈ (i, x) :: l, (a.eval p.2).cells.toList.length = wd r) ∧ h'.length = h.length := by
        intro x' r2 h2 hk2 hc hI2 hr2 hv2 hlen2
        obtain ⟨q1, q2, q3, q4⟩ := RC.cons hc hr2 hv2
        refine ⟨r2, h2, hk2, hI2, by simpa using q1, by simp [hm1, List.range'_succ], q2.trans hrk1, by simp [q3, hn1], ?_, hlen2⟩
        intro p hp
        simp at hp
        rcases hp with rfl | hp
        · rw [← hwd]; exact q4
        · exact hl1 p hp
      split at hk1
      · rename_i ob z heq
        rw [heq] at hx
        split at hk1
        · rename_i E row hob
          split at hk1
          · rename_i r2 hc
            have hS : Same w w (okB ρ h1) (okB ρ (h1.set ob .dead)) := ⟨Nat.le_refl _, fun k _ hok => ⟨rfl, okB_kill hok⟩⟩
            refine fin hk1 hc (hI1.kill ob) (hr1.same hS.o) (own_ro hI1 hob (by intro e; cases row <;> first | (cases e; done) | (cases hc; done)) hx) (by simp [hlen1])
          · exact hk1.elim
        · exact hk1.elim
      · exact hk1.elim
      · exact hk1.elim
      · rename_i hnr
        split at hk1
        · rename_i r2 hc
          exact fin hk1 hc hI1 hr1 (VR.any hc (fun q e => hnr q e) hx) hlen1
        · exact hk1.elim

theorem nil_sound {ok : Nat → Prop} (e : RK) (hrk : e.rowk = true) : RC w ok e.nil [] ∧ nl e.nil = 0 ∧ e.nil.rk = e := by
  cases e <;> first | (cases hrk; done) | simp [RC, RK.nil, nl, Row.nlen, alg, Row.rk]

theorem zv_len (e : RK) : (zv e).cells.size = sz e := by cases e <;> simp [zv, Value.cells, sz]

theorem oneOwn_some {e : RK} {n ob : Nat} {ps : List (Nat × Operand)} {l : List Int} (h : oneOwn s e n ps = some (ob, l)) : e = .sli ∧ n = 1 ∧ ∃ x z E0, ps = [(0, x)] ∧ ev s.t x = .own ob z ∧ getO s.h ob = some (E0, .ints .i64 l) := by
  unfold oneOwn at h
  split at h
  · rename_i x
    split at h
    · rename_i o z he
      split at h
      · rename_i E0 l0 hob
        simp at h
        obtain ⟨rfl, rfl⟩ := h
        exact ⟨rfl, rfl, x, z, E0, rfl, he, hob⟩
      · cases h
    · cases h
  · cases h

/-- An object is handed over for good; its handles are read alone. -/
theorem Inv.freeze {h : List AO} {t : List AV} (hI : Inv w0 S0 ρ ⟨t, h⟩ a w) {ob E : Nat} {r : Row} (hob : getO h ob = some (E, r)) (hs : r.rk ≠ .nx) : Inv w0 S0 ρ ⟨t.map (frz ob r), h.set ob .dead⟩ a w := by
  have hK := hI.kill ob
  refine ⟨hK.keep, hK.pin, hK.len, hK.obj, hK.inj, by rw [hK.size]; simp, fun i x hx => ?_, hK.defers⟩
  rw [List.getElem?_map] at hx
  cases hy : t[i]? with
  | none => rw [hy] at hx; cases hx
  | some y =>
    rw [hy] at hx
    simp at hx
    subst hx
    have h1 := hK.slot i y hy
    cases y with
    | own o z =>
      simp only [frz]
      split
      · rename_i hb
        have := nbeq hb
        subst this
        exact VR.weak (fun k hk => hk.1) (show VR w (okO w0 S0 ρ (h.set ob .dead)) ρ (h.set ob .dead) (.ro r) _ from own_ro hI hob hs (hI.slot i _ hy))
      · exact h1
    | _ => exact h1

/-- A slice literal of one's own elements, in order. -/
theorem run_lit {t n E : Nat} {e : RK} {parts : Array (Nat × Operand)} (hu : P.underlying t = some (.slice E)) (hE : ElOK P E e) (hpl : parts.size = n) (hn2 : n < 1000) (hm : parts.toList.map (·.1) = List.range' 0 parts.toList.length)
    (hlen0 : ∀ p ∈ parts.toList, (a.eval p.2).cells.toList.length = sz e) :
    ∃ c', (Instr.buildSlice t n (parts.map fun (i, x) => (i, a.eval x))).run P w = .ok (.slice (some ⟨w.heap.size, 0, none⟩) n n) (w.alloc (.cells c' E)) ∧ c'.toList = (parts.toList.flatMap fun p => (a.eval p.2).cells.toList) ∧ c'.size = n * sz e := by
  have hn1 := hpl
  obtain ⟨i, hi, hsz, _, hz⟩ := hE.info
  have hle := hE.le
  have hnb : n * sz e ≤ n * 64 := Nat.mul_le_mul_left _ hle
  have hfill := fill_seq (sz e) (parts.map fun (i, x) => (i, a.eval x)).toList 0 (madeCells (zv e).cells (n * sz e))
    (by rw [Array.toList_map, List.map_map]; simpa [Function.comp_def] using hm)
    (by intro p hp; simp at hp; obtain ⟨i, x, hx, rfl⟩ := hp; exact hlen0 (i, x) (by simpa using hx))
    (by simp [size_madeCells, hn1])
  obtain ⟨c', f1, f2, f3⟩ := hfill
  have hc' : c'.toList = parts.toList.flatMap fun p => (a.eval p.2).cells.toList := by
    rw [f3]
    simp only [Nat.zero_mul, List.take_zero, List.nil_append, Nat.zero_add]
    rw [List.drop_of_length_le (by simp [size_madeCells, hn1]), List.append_nil, Array.toList_map, List.flatMap_map]
  have hrun : (Instr.buildSlice t n (parts.map fun (i, x) => (i, a.eval x))).run P w = .ok (.slice (some ⟨w.heap.size, 0, none⟩) n n) (w.alloc (.cells c' E)) := by
    have hsmall : ¬ n * i.size > 2 ^ 24 := by rw [hsz]; omega
    by_cases h0 : n * i.size = 0
    · have hp := hE.pos
      have hn0 : n = 0 := by
        rcases Nat.mul_eq_zero.1 h0 with h | h
        · exact h
        · omega
      subst hn0
      obtain rfl : parts = #[] := by simpa using hn1
      have hc0 : c' = #[] := by
        apply Array.toList_inj.1
        rw [hc']; rfl
      subst hc0
      simp [Instr.buildSlice, run_underlying hu, sizeOf, typeInfo, hi, Instr.fill, newRow, Array.range_zero']
    · have f1' : Instr.fill (fun j => some (j * i.size, i.size)) ((Array.range (n * i.size)).map ((zv e).cells[· % (zv e).cells.size]!)) (parts.map fun (i, x) => (i, a.eval x)).toList = some c' := by
        rw [hsz]; exact f1
      exact run_buildSlice w t E n _ c' i (zv e) hu hi hz hsmall h0 f1'
  exact ⟨c', hrun, hc', by rw [f2]; simp [size_madeCells]⟩

theorem ms_lit (hT : TTok P tt) (hI : Inv w0 S0 ρ s a w) {t n : Nat} {parts : Array (Nat × Operand)} (ho : o.op = .buildSlice t n parts) (h : memOp alg tt s (.buildSlice t n parts) K) : MS P o a w w0 S0 K := by
  simp only [memOp] at h
  split at h
  · rename_i E he
    obtain ⟨hu, hE⟩ := hT.sl _ _ _ he
    split at h
    · rename_i hp
      obtain ⟨c', hrun, hc', hcs⟩ := run_lit (w := w) (a := a) (parts := parts) (n := 0) hu hE (by have := congrArg List.length hp; simpa using this) (by omega) (by rw [hp]; rfl) (by rw [hp]; simp)
      rw [hp] at hc'
      refine ⟨_, _, _, _, _, h, hI.allocX (ob := .cells c' E) (K := 0) (fun ok' _ => .inr ⟨rfl, .inr ⟨by simp, by simp, by simp, c', [], heap_alloc_new w _, by simpa using hcs, rfl, by simp, rfl, fun i k hi => by simp at hi⟩⟩), ?_, .inl ⟨.slice (some ⟨w.heap.size, 0, none⟩) 0 0, rfl, ?_⟩, fun _ => after_alloc _ _⟩
      · simp only [execOp, ho]
        simp [Sem.run_bind, hrun]
      · exact own_new (z := false) (w := w) (w' := w.alloc (.cells c' E)) (r := .tabs []) (E := E) (cap := 0) (K0 := 0) (by simp [nl, Row.nlen, alg]) (by simp [maxLen]) (by simp) hI.len
    · rename_i x hp
      have hx := ev_sound hI x
      split at h
      · rename_i ob hxe
        rw [hxe] at hx
        split at h
        · rename_i E2 l hob
          obtain ⟨_, hv⟩ := hx
          obtain ⟨loc, hl, hv⟩ := hv E2 _ (gO hob)
          rcases hv with ⟨_, hf, _⟩ | ⟨hz, cap, hv, c1, c2, c3⟩
          · cases hf
          have hlive : live ρ s.h ob loc E2 (.ints .i64 l) := ⟨gO hob, hl⟩
          obtain ⟨cur, cs, p1, p2, p3, p4, p5⟩ := (hI.obj _ _ _ _ hlive).1.solid hz (by simp [Row.rk])
          simp only [RC] at p3
          subst p3
          have hlt : loc.g < w.heap.size := (Array.getElem?_eq_some_iff.1 p1).1
          obtain ⟨c', hrun, hc', hcs⟩ := run_lit (w := w) (a := a) (parts := parts) (n := 1) hu hE (by have := congrArg List.length hp; simpa using this) (by omega) (by rw [hp]; rfl) (by rw [hp]; simp [hv, Value.cells, sz])
          rw [hp] at hc'
          have hc1 : c'.toList = [.slice (some ⟨loc.g, 0, none⟩) l.length cap] := by
            rw [hc']; simp [hv, Value.cells, nl, Row.nlen, alg]
          have hsz1 : c'.size = 1 := by simpa [sz] using hcs
          refine ⟨_, _, _, _, _, h, hI.allocK hlive (ob := .cells c' E) (K := 1) (ks := [loc.g]) (fun k hk => by simp at hk; subst hk; exact Loc.has_g hz) (fun ok' => .inr ⟨rfl, .inr ⟨by simp, by simp; omega, by simp, c', c'.toList, heap_alloc_new w _, hsz1, by rw [hc1]; rfl, by rw [hc1]; simp, List.take_length, fun i k hi hk => ?_⟩⟩), ?_, .inl ⟨.slice (some ⟨w.heap.size, 0, none⟩) 1 1, rfl, ?_⟩, fun _ => after_alloc _ _⟩
          · have hi0 : i = 0 := by simp at hi; omega
            subst hi0
            simp at hk
            subst hk
            refine ⟨cap, cur, E2, by rw [hc1]; rfl, by simpa [nl, Row.nlen, alg] using c1, c2, by rw [p2]; simpa [wd] using c3, (Below.heap_alloc w _ _ hlt).trans p1, by simpa using p5⟩
          · simp only [execOp, ho]
            simp [Sem.run_bind, hrun]
          · refine ⟨by simp, fun E' r' h => ?_⟩
            have e0 : (s.h.set ob .dead ++ [AO.row E (.tabs [l])])[s.h.length]? = some (.row E (.tabs [l])) := by
              rw [List.getElem?_append_right (by simp)]; simp
            rw [e0] at h
            simp at h
            obtain ⟨rfl, rfl⟩ := h
            exact ⟨⟨w.heap.size, 1, false, [loc.g]⟩, by rw [← hI.len]; simp, .inr ⟨rfl, 1, rfl, by simp [nl, Row.nlen, alg], by simp [maxLen], by simp [wd]⟩⟩
        · exact h.elim
      · exact h.elim
    · exact h.elim
  · rename_i E e hnt he
    split at h
    · rename_i ob l hone
      obtain ⟨rfl, rfl, x, z, E0, hp, hxe, hob⟩ := oneOwn_some hone
      obtain ⟨hu, hE⟩ := hT.sl _ _ _ he
      have hx := ev_sound hI x
      rw [hxe] at hx
      have hro := own_ro (h := s.h) (t := s.t) hI hob (by simp [Row.rk]) hx
      obtain ⟨A, cap, cs, hv, q1, q2, q3, q4⟩ := hro
      obtain ⟨c', hrun, hc', hcs⟩ := run_lit (w := w) (a := a) (parts := parts) (n := 1) hu hE (by have := congrArg List.length hp; simpa using this) (by omega) (by rw [hp]; rfl) (by rw [hp]; simp [hv, Value.cells, sz])
      rw [hp] at hc'
      have hc1 : c'.toList = [a.eval x] := by rw [hc']; simp only [List.flatMap_cons, List.flatMap_nil, List.append_nil, hv]; rfl
      have hIf : Inv w0 S0 ρ ⟨s.t.map (frz ob (.ints .i64 l)), s.h.set ob .dead⟩ a w := Inv.freeze hI hob (by simp [Row.rk])
      have hrc : RC w (okO w0 S0 ρ (s.h.set ob .dead)) (.intss [l]) c'.toList := by
        rw [hc1]
        refine ⟨rfl, fun i v hiv => ?_⟩
        cases i with
        | zero =>
          simp at hiv
          subst hiv
          simp only [RC] at q3
          subst q3
          exact ⟨A, cap, by simpa [nl, Row.nlen, alg] using hv, by simpa [nl, Row.nlen, alg] using q1, q2, fun hp => q4 (by simpa [nl, Row.nlen, alg] using hp)⟩
        | succ i => simp at hiv
      refine ⟨_, _, _, _, _, h, hIf.alloc (cur := c') hrc (by simp) List.take_length, ?_, .inl ⟨.slice (some ⟨w.heap.size, 0, none⟩) 1 1, rfl, ?_⟩, fun _ => after_alloc _ _⟩
      · simp only [execOp, ho]
        simp [Sem.run_bind, hrun]
      · have := own_new (z := false) (w := w) (w' := w.alloc (.cells c' E)) (r := .intss [l]) (E := E) (cap := 1) (K0 := c'.size) (ρ := ρ) (h := s.h.set ob .dead) (by simp [nl, Row.nlen, alg]) (by simp [maxLen]) (by rw [hcs]; simp [sz, wd]) hIf.len
        have e1 : nl (.intss [l]) = 1 := rfl
        rw [e1] at this
        simpa using this
    split at h
    · rename_i hn1 hn2
      have hn1 := nbeq hn1
      have hn2 := nblt hn2
      obtain ⟨hu, hE⟩ := hT.sl _ _ _ he
      obtain ⟨z1, z2, z3⟩ := nil_sound (w := w) (ok := okO w0 S0 ρ s.h) e (hT.slk _ _ _ he hnt)
      obtain ⟨r', h', hk, hI', hr, hm, hrk, hnl, hlen, hhl⟩ := lits_sound parts.toList 0 e.nil s.h _ h hI z1 z2
      have hwd : wd r' = sz e := by rw [← sz_wd, hrk, z3]
      have hpl : parts.toList.length = n := by simpa using hn1
      have hlen0 : ∀ p ∈ parts.toList, (a.eval p.2).cells.toList.length = sz e := by
        intro p hp
        rw [hlen p hp, ← sz_wd, z3]
      obtain ⟨c', hrun, hc', hcs⟩ := run_lit (w := w) hu hE hn1 hn2 hm hlen0
      refine ⟨_, _, _, _, _, hk, hI'.alloc (cur := c') hr (by rw [← hc']; simp) (by rw [← hc']; exact List.take_length), ?_, .inl ⟨.slice (some ⟨w.heap.size, 0, none⟩) n n, rfl, ?_⟩, fun _ => after_alloc _ _⟩
      · simp only [execOp, ho]
        simp [Sem.run_bind, hrun]
      · have := own_new (z := false) (w := w) (w' := w.alloc (.cells c' E)) (r := r') (E := E) (cap := n) (K0 := c'.size) (ρ := ρ) (h := h') (by omega) (by simp [maxLen]; omega) (by rw [hwd, hcs]; exact Nat.le_refl _) hI'.len
        rw [hnl, hpl] at this
        exact this
    · exact h.elim
  · exact h.elim

end
end Go.Ab
