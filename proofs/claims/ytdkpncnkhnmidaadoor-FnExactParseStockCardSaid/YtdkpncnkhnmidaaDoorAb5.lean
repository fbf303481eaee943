/-
  SOUNDNESS, PART THREE: addresses, slices, lengths; all operations that only read.
-/
import Derived.Test.YtdkpncnkhnmidaaDoorAb4
set_option linter.unusedSimpArgs false
set_option linter.unusedVariables false
namespace Go.Ab
open Go.RowKit

section
variable {P : Program} {tt : Nat → TI} {w0 w : World} {S0 : Base} {ρ : List Loc} {s : St} {a : Act} {g : Option Bool} {o : Oper} {K : AV → Prop}

theorem run_fieldAt {t n j : Nat} {ad : Addr} (h : ElOK P t (.rc n)) (hj : j < n) (w : World) : (Instr.fieldAt t (.pointer (some ad)) j).run P w = .ok (.pointer (some (ad.add j))) w := by
  obtain ⟨fs, hd, hn, hf⟩ := h.desc
  have hj' : j < fs.size := by omega
  obtain ⟨ho, i, hi, hs⟩ := hf j fs[j] (Array.getElem?_eq_getElem hj')
  simp [Instr.fieldAt, run_underlying hd, hj', Instr.sureAddr, fieldPlace, sizeOf, typeInfo, hi, hs, ho]

theorem sz_wd {r : Row} : sz r.rk = wd r := by cases r <;> rfl
theorem len_nl {r : Row} : r.len alg = (nl r : Int) := by cases r <;> rfl

theorem run_indexAt {t E : Nat} {i : TypeInfo} {ad : Addr} {len cap : Nat} {k : IntKind} {n : Int} (hu : P.underlying t = some (.slice E)) (hi : P.info? E = some i) (h0 : 0 ≤ n) (h1 : n < len) (w : World) :
    (Instr.indexAt t (.slice (some ad) len cap) (.int k n)).run P w = .ok (.pointer (some (ad.add (n.toNat * i.size)))) w := by
  simp [Instr.indexAt, asIntOf, run_underlying hu, h0, h1, sizeOf, typeInfo, hi]

theorem ps_fieldAddr (hT : TTok P tt) (hI : Inv w0 S0 ρ s a w) {t j : Nat} {x : Operand} (ho : o.op = .fieldAddr t x j) (h : pureOp alg tt g s (.fieldAddr t x j) K) : PS P o a w ρ s.h g K := by
  simp only [pureOp] at h
  obtain ⟨xv, h1, hx⟩ := op1_sound h (ev_sound hI x)
  clear h
  split at h1
  · rename_i n l n' he
    split at h1
    · rename_i hn hj
      cases nbeq hn
      have hj := nblt hj
      refine ⟨_, h1, fun hg => ?_⟩
      obtain ⟨ad, hv, hb, hok, hp⟩ := hx hg
      refine ⟨.pointer (some (ad.add j)), ⟨_, rfl, by rw [add_block]; exact hb, by rw [add_block]; exact hok, ?_⟩, fun w' _ => ?_⟩
      · have : l[j]? = some (l.getD j 0) := by simp [List.getD, hp.1, hj]
        exact hp.2 j _ this
      · simp only [execOp, ho, hv]
        exact run_v (run_fieldAt (hT.el _ _ he) hj w')
    · exact h1.elim
  · rename_i ob k n' he
    split at h1
    · rename_i E n l hob
      split at h1
      · rename_i hn hj
        have hn2 := nbeq hn
        have hj := nblt hj
        subst hn2
        refine ⟨_, h1, fun hg => ?_⟩
        obtain ⟨hlt, hv⟩ := hx hg
        obtain ⟨loc, hl, hz, hv, hk⟩ := hv E _ (gO hob)
        refine ⟨.pointer (some ⟨loc.g, k * wd (.recs n l) + j, none⟩), ⟨hlt, fun E' r' hr' => ?_⟩, fun w' _ => ?_⟩
        · rw [gO hob] at hr'
          cases hr'
          exact ⟨loc, hl, hz, rfl, hk⟩
        · simp only [execOp, ho, hv]
          have := run_fieldAt (ad := ⟨loc.g, k * wd (.recs n l), none⟩) (hT.el _ _ he) hj w'
          rw [add_lit'] at this
          exact run_v this
      · exact h1.elim
    · exact h1.elim
  · exact h1.elim

/-- A pointer to element k of a row that is only read. -/
theorem PV_get {ok : Nat → Prop} {r : Row} {cs : List Value} {ad : Addr} {k : Nat} (hr : RC w ok r cs) (hc : ∀ j u, cs[j]? = some u → w.cell? (ad.add j) = some u) (hk : k < nl r) : PV w ok (r.get alg k) (ad.add (k * wd r)) := by
  by_cases hrec : ∃ n l, r = .recs n l
  · obtain ⟨n, l, rfl⟩ := hrec
    simp only [nl, Row.nlen, alg] at hk
    have hlk : (l.getD k []).length = n := hr.1 _ (get_mem hk)
    refine ⟨hlk, fun j u hu => ?_⟩
    have hj : j < n := by
      rcases Nat.lt_or_ge j n with h | h
      · exact h
      · rw [List.getElem?_eq_none (by simp only [alg]; omega)] at hu; cases hu
    rw [add_add]
    simp only [wd]
    rw [hc _ _ (by rw [hr.2]; exact flat_get hr.1 hk hj)]
    simp [List.getD, alg] at hu ⊢
    simp [hu]
  · have h1 : ∀ n l, r ≠ .recs n l := fun n l e => hrec ⟨n, l, e⟩
    obtain ⟨u, hu, hv⟩ := hr.at1 h1 hk
    have hw : wd r = 1 := by cases r <;> first | rfl | exact absurd rfl (h1 _ _)
    have hcell := hc k u hu
    rw [hw, Nat.mul_one]
    have hv' := hv (ρ := []) (hp := [])
    cases r <;> simp only [Row.get, VR, PV] at hv' ⊢
    case ints => rw [hcell, hv']
    case bools => rw [hcell, hv']
    case strs => rw [hcell, hv']
    case recs n l => exact absurd rfl (h1 n l)
    case intss => exact ⟨u, hcell, hv'⟩
    case boolss => exact ⟨u, hcell, hv'⟩
    case itr => exact hr.elim
    case mpr => exact hr.elim
    case tabs => exact hr.elim

theorem ps_indexAddr (hT : TTok P tt) (hI : Inv w0 S0 ρ s a w) {t : Nat} {x y : Operand} (ho : o.op = .indexAddr t x y) (h : pureOp alg tt g s (.indexAddr t x y) K) : PS P o a w ρ s.h g K := by
  simp only [pureOp] at h
  obtain ⟨xv, h1, hx⟩ := op1_sound h (ev_sound hI x)
  obtain ⟨yv, h2, hy⟩ := op1_sound h1 (ev_sound hI y)
  clear h h1
  split at h2
  · rename_i k n E e he
    obtain ⟨hu, hE⟩ := hT.sl _ _ _ he
    obtain ⟨i, hi, hsz, _⟩ := hE.info
    split at h2
    · rename_i r
      split at h2
      · rename_i heq
        have her := RK.eqb_eq heq
        obtain ⟨h3, hn⟩ := ob_sound h2
        refine ⟨_, h3, fun hg => ?_⟩
        obtain ⟨p, q⟩ := hn hg
        rw [len_nl] at q
        obtain ⟨A, cap, cs, hv, _, _, hr, hc⟩ := hx hg
        have hk : n.toNat < nl r := by omega
        obtain ⟨ad, rfl, hb, hok, hc⟩ := hc (by omega)
        refine ⟨.pointer (some (ad.add (n.toNat * i.size))), ⟨_, rfl, by rw [add_block]; exact hb, by rw [add_block]; exact hok, ?_⟩, fun w' _ => ?_⟩
        · rw [hsz, ← her, sz_wd]
          exact PV_get hr hc hk
        · have e2 : a.eval y = .int k n := hy hg
          simp only [execOp, ho, hv, e2]
          exact run_v (run_indexAt hu hi p q w')
      · exact h2.elim
    · rename_i ob z
      split at h2
      · rename_i E' r hob
        split at h2
        · rename_i heq
          have her := RK.eqb_eq heq
          obtain ⟨h3, hn⟩ := ob_sound h2
          refine ⟨_, h3, fun hg => ?_⟩
          obtain ⟨p, q⟩ := hn hg
          rw [len_nl] at q
          obtain ⟨hlt, hv⟩ := hx hg
          obtain ⟨loc, hl, hv⟩ := hv E' r (gO hob)
          obtain ⟨hz, cap, hv, _⟩ := hv.resolve_left (fun h => by have := h.2.2.2; omega)
          refine ⟨.pointer (some ⟨loc.g, n.toNat * wd r, none⟩), ⟨hlt, fun E2 r2 hr2 => ?_⟩, fun w' _ => ?_⟩
          · rw [gO hob] at hr2
            cases hr2
            exact ⟨loc, hl, hz, rfl, by simp only [alg]; omega⟩
          · have e2 : a.eval y = .int k n := hy hg
            simp only [execOp, ho, hv, e2]
            have := run_indexAt (ad := ⟨loc.g, 0, none⟩) (cap := cap) (k := k) hu hi p q w'
            rw [add_lit', Nat.zero_add, hsz, ← her, sz_wd] at this
            exact run_v this
        · exact h2.elim
      · exact h2.elim
    · rename_i ob b m
      split at h2
      · rename_i E' r hob
        split at h2
        · rename_i heq
          have her := RK.eqb_eq heq
          obtain ⟨h3, hn⟩ := ob_sound h2
          refine ⟨_, h3, fun hg => ?_⟩
          obtain ⟨p, q⟩ := hn hg
          simp only [alg] at p q
          obtain ⟨hlt, hv⟩ := hx hg
          obtain ⟨loc, hl, hv⟩ := hv E' r (gO hob)
          obtain ⟨hz, cap, ad, hv, _, _, _, h6, h7⟩ := hv.resolve_left (fun h => by have := h.2.2.1; omega)
          have had := h7 (.inl (by omega))
          subst had
          refine ⟨.pointer (some ⟨loc.g, (b + n.toNat) * wd r, none⟩), ⟨hlt, fun E2 r2 hr2 => ?_⟩, fun w' _ => ?_⟩
          · rw [gO hob] at hr2
            cases hr2
            exact ⟨loc, hl, hz, rfl, by simp only [alg]; omega⟩
          · have e2 : a.eval y = .int k n := hy hg
            simp only [execOp, ho, hv, e2]
            have := run_indexAt (ad := ⟨loc.g, b * wd r, none⟩) (cap := cap) (k := k) hu hi p q w'
            rw [add_lit', hsz, ← her, sz_wd, ← Nat.add_mul] at this
            exact run_v this
        · exact h2.elim
      · exact h2.elim
    · exact h2.elim
  · exact h2.elim

theorem ps_index (hT : TTok P tt) (hI : Inv w0 S0 ρ s a w) {t : Nat} {x y : Operand} (ho : o.op = .index t x y) (h : pureOp alg tt g s (.index t x y) K) : PS P o a w ρ s.h g K := by
  simp only [pureOp] at h
  obtain ⟨xv, h1, hx⟩ := op1_sound h (ev_sound hI x)
  obtain ⟨yv, h2, hy⟩ := op1_sound h1 (ev_sound hI y)
  clear h h1
  split at h2
  · rename_i b k n he
    have hu : P.underlying t = some .string := (hT.el _ _ he).desc
    obtain ⟨h3, hn⟩ := ob_sound h2
    refine ⟨_, h3, fun hg => ?_⟩
    obtain ⟨p, q⟩ := hn hg
    simp only [alg] at q
    have hk : n.toNat < b.length := by omega
    refine ⟨_, rfl, fun w' _ => ?_⟩
    have e1 : a.eval x = .string ⟨b.toArray⟩ := hx hg
    have e2 : a.eval y = .int k n := hy hg
    simp only [execOp, ho, e1, e2]
    refine run_v ?_
    have hb : (⟨b.toArray⟩ : ByteArray)[n.toNat]? = some (b.getD n.toNat 0) := by
      have hs : n.toNat < (⟨b.toArray⟩ : ByteArray).size := by show _ < b.toArray.size; simpa using hk
      rw [getElem?_pos (⟨b.toArray⟩ : ByteArray) n.toNat hs]
      congr 1
      simp [ByteArray.getElem_eq_getElem_data, List.getD, hk]
    simp [Instr.index, asIntOf, run_underlying hu, p, hb, alg]
  · exact h2.elim

theorem ps_extract (hI : Inv w0 S0 ρ s a w) {i : Nat} {x : Operand} (ho : o.op = .extract x i) (h : pureOp alg tt g s (.extract x i) K) : PS P o a w ρ s.h g K := by
  simp only [pureOp] at h
  obtain ⟨xv, h1, hx⟩ := op1_sound h (ev_sound hI x)
  clear h
  split at h1
  · refine ⟨_, h1, fun hg => ?_⟩
    obtain ⟨u, hv, h2⟩ := hx hg
    exact ⟨u, h2, fun w' _ => by simp only [execOp, ho, hv]; exact run_v rfl⟩
  · refine ⟨_, h1, fun hg => ?_⟩
    obtain ⟨u, v, hv, h2, h3⟩ := hx hg
    exact ⟨u, h2, fun w' _ => by simp only [execOp, ho, hv]; exact run_v rfl⟩
  · refine ⟨_, h1, fun hg => ?_⟩
    obtain ⟨u, v, hv, h2, h3⟩ := hx hg
    exact ⟨v, h3, fun w' _ => by simp only [execOp, ho, hv]; exact run_v rfl⟩
  · refine ⟨_, h1, fun hg => ?_⟩
    obtain ⟨u, v, z, hv, h2, h3, h4⟩ := hx hg
    exact ⟨u, h2, fun w' _ => by simp only [execOp, ho, hv]; exact run_v rfl⟩
  · refine ⟨_, h1, fun hg => ?_⟩
    obtain ⟨u, v, z, hv, h2, h3, h4⟩ := hx hg
    exact ⟨v, h3, fun w' _ => by simp only [execOp, ho, hv]; exact run_v rfl⟩
  · refine ⟨_, h1, fun hg => ?_⟩
    obtain ⟨u, v, z, hv, h2, h3, h4⟩ := hx hg
    exact ⟨z, h4, fun w' _ => by simp only [execOp, ho, hv]; exact run_v rfl⟩
  · exact h1.elim

/-! Maps from integers to Booleans. -/
theorem findNow_int {q : IntKind} {n : Int} : ∀ (l : List (Int × Bool)) (es : List MapEntry) (i : Nat), es.map (fun e => (e.key, e.val)) = l.map (fun p => (Value.int .i64 p.1, Value.bool p.2)) →
    (Instr.findNow (.int q) (.int .i64 n) es i = some none ∧ mgetF l n = false ∧ ∀ v, msetF l n v = l ++ [(n, v)]) ∨
    (∃ j e, Instr.findNow (.int q) (.int .i64 n) es i = some (some (i + j, .bool (mgetF l n))) ∧ es[j]? = some e ∧ e.key = .int .i64 n ∧ ∀ v, msetF l n v = l.set j (n, v))
  | [], [], i, _ => .inl ⟨rfl, rfl, fun _ => rfl⟩
  | (k, b) :: l, e :: es, i, h => by
    simp only [List.map_cons, List.cons.injEq, Prod.mk.injEq] at h
    obtain ⟨⟨hk, hv⟩, hr⟩ := h
    by_cases hn : n = k
    · refine .inr ⟨0, e, ?_, rfl, by rw [hk, hn], fun v => by simp [msetF, hn]⟩
      simp [Instr.findNow, Instr.sameNow, hk, hn, mgetF, hv]
    · have hs : Instr.sameNow (.int q) (.int .i64 n) e.key = some false := by
        simp [Instr.sameNow, hk, hn]
      rcases findNow_int (q := q) (n := n) l es (i + 1) hr with ⟨h1, h2, h3⟩ | ⟨j, e', h1, h2, h3, h4⟩
      · exact .inl ⟨by simp [Instr.findNow, hs, h1], by simp [mgetF, hn, h2], fun v => by simp [msetF, hn, h3]⟩
      · refine .inr ⟨j + 1, e', ?_, by simpa using h2, h3, fun v => by simp [msetF, hn, h4]⟩
        have e2 : mgetF ((k, b) :: l) n = mgetF l n := by simp [mgetF, hn]
        rw [e2]
        simp only [Instr.findNow, hs, h1]
        rw [show i + 1 + j = i + (j + 1) by omega]
  | [], e :: es, i, h => by simp at h
  | p :: l, [], i, h => by simp at h

theorem run_lookup_int {t k e b : Nat} {ti : TypeInfo} {es : Array MapEntry} {c : Nat} {l : List (Int × Bool)} {n : Int} (ht : P.underlying t = some (.map k e)) (hk : P.underlying k = some (.int .i64)) (hz : P.info? e = some ti) (hzz : ti.zero = some (.bool false))
    (hb : w.heap[b]? = some (.map es c)) (he : es.toList.map (fun e => (e.key, e.val)) = l.map (fun p => (Value.int .i64 p.1, Value.bool p.2))) :
    (Instr.lookup t (.map (some b)) (.int .i64 n) false).run P w = .ok (.bool (mgetF l n)) w := by
  have hck : ∀ em, (Instr.checkKey em 10000 k (.int .i64 n)).run P w = .ok () w := fun em => by
    have : ∀ d : Nat, (Instr.checkKey em (d + 1) k (.int .i64 n)).run P w = .ok () w := fun d => by
      simp only [Instr.checkKey, Sem.run_bind, run_underlying hk, Result.andThen_ok]; rfl
    exact this 9999
  have hzv : (zeroValue e).run P w = .ok (.bool false) w := by
    simp [zeroValue, typeInfo, hz, hzz]
  rcases findNow_int (q := .i64) (n := n) l es.toList 0 he with ⟨h1, h2, _⟩ | ⟨j, e', h1, _, _, _⟩
  · have hf : (Instr.findKey k (.int .i64 n) es.toList).run P w = .ok none w := by
      simp only [Instr.findKey, Sem.run_bind, run_underlying hk, Result.andThen_ok, h1]; rfl
    simp [Instr.lookup, run_underlying ht, getObj, Sem.run, hb, hck, hf, hzv, h2]
  · have hf : (Instr.findKey k (.int .i64 n) es.toList).run P w = .ok (some (0 + j, .bool (mgetF l n))) w := by
      simp only [Instr.findKey, Sem.run_bind, run_underlying hk, Result.andThen_ok, h1]; rfl
    simp [Instr.lookup, run_underlying ht, getObj, Sem.run, hb, hck, hf]

theorem ps_lookup (hT : TTok P tt) (hI : Inv w0 S0 ρ s a w) {t : Nat} {m x : Operand} (ho : o.op = .lookup t m x false) (h : pureOp alg tt g s (.lookup t m x false) K) : PS P o a w ρ s.h g K := by
  simp only [pureOp] at h
  obtain ⟨mv, h1, hm⟩ := op1_sound h (ev_sound hI m)
  obtain ⟨xv, h2, hx⟩ := op1_sound h1 (ev_sound hI x)
  clear h h1
  split at h2
  · rename_i ob n he
    split at h2
    · rename_i E l hob
      refine ⟨_, h2, fun hg => ?_⟩
      obtain ⟨_, hv⟩ := hm hg
      obtain ⟨loc, hl, hz, hv⟩ := hv _ _ (gO hob)
      have e2 : a.eval x = .int .i64 n := hx hg
      obtain ⟨hO, _⟩ := hI.obj ob loc E _ ⟨gO hob, hl⟩
      obtain ⟨es, c, h3, h4⟩ : SpOK w loc E (.mpr l) := by
        rcases hO with ⟨h, _⟩ | ⟨_, ⟨_, _, _, _, h, _⟩ | h⟩
        · rw [hz] at h; cases h
        · exact h.elim
        · exact h
      obtain ⟨k, e, i, d1, d2, d3, d4, d5⟩ := (hT.el t _ he).desc
      refine ⟨.bool (mgetF l n), rfl, fun w' hw0 => ?_⟩
      have hw := hw0 (by rw [ho]; rfl)
      have hlt : loc.g < w.heap.size := (Array.getElem?_eq_some_iff.1 h3).1
      simp only [execOp, ho, hv, e2]
      exact run_v (run_lookup_int d1 d2 d4 d5 ((hw.block _ hlt).trans h3) h4)
    · exact h2.elim
  · exact h2.elim

theorem ps_nilCheck (hI : Inv w0 S0 ρ s a w) {x : Operand} (ho : o.op = .nilCheck x) (h : pureOp alg tt g s (.nilCheck x) K) : PS P o a w ρ s.h g K := by
  simp only [pureOp] at h
  obtain ⟨xv, h1, hx⟩ := op1_sound h (ev_sound hI x)
  clear h
  split at h1
  · refine ⟨_, h1, fun hg => ?_⟩
    have hv := hx hg
    obtain ⟨ad, e, hh⟩ := hv
    exact ⟨.pointer (some ad), ⟨ad, rfl, hh⟩, fun w' _ => by simp [execOp, ho, e]⟩
  · rename_i ob k
    split at h1
    · rename_i p hob
      refine ⟨_, h1, fun hg => ?_⟩
      obtain ⟨E, r⟩ := p
      have hv := hx hg
      obtain ⟨loc, _, _, e, _⟩ := hv.2 E r (gO hob)
      rw [e] at hv
      exact ⟨_, hv, fun w' _ => by simp [execOp, ho, e]⟩
    · exact h1.elim
  · exact h1.elim

end
end Go.Ab
