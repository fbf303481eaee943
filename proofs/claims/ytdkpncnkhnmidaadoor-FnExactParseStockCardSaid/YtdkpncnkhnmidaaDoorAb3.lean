/-
  SOUNDNESS, PART ONE: an operation that only reads yields what the abstract evaluator says.
-/
import Derived.Test.YtdkpncnkhnmidaaDoorAb2
set_option linter.unusedSimpArgs false
set_option linter.unusedVariables false
namespace Go.Ab
open Go.RowKit

def sz : RK → Nat
  | .rc w => w
  | _ => 1
def zv : RK → Value
  | .i k => .int k 0
  | .b => .bool false
  | .s => .string .empty
  | .rc w => .agg (List.replicate w (Value.int .i64 0)).toArray
  | .sli => .slice none 0 0
  | .slb => .slice none 0 0
  | .mp => .map none
  | .ifc => .nilIface
  | .nx => .map none
  | .tab => .slice none 0 0

def descOK (P : Program) (t : TypeId) : RK → Prop
  | .i k => P.underlying t = some (.int k)
  | .b => P.underlying t = some .bool
  | .s => P.underlying t = some .string
  | .rc w => ∃ fs, P.underlying t = some (.struct fs) ∧ fs.size = w ∧ ∀ (j : Nat) (f : Field), fs[j]? = some f → f.offset = j ∧ ∃ i, P.info? f.type = some i ∧ i.size = 1
  | .sli => ∃ E, P.underlying t = some (.slice E)
  | .slb => ∃ E, P.underlying t = some (.slice E)
  | .mp => ∃ k e i, P.underlying t = some (.map k e) ∧ P.underlying k = some (.int .i64) ∧ P.underlying e = some .bool ∧ P.info? e = some i ∧ i.zero = some (.bool false)
  | .ifc => ∃ ms, P.underlying t = some (.interface ms)
  | .nx => False
  | .tab => ∃ E, P.underlying t = some (.slice E)

structure ElOK (P : Program) (t : TypeId) (e : RK) : Prop where
  desc : descOK P t e
  pos : 0 < sz e
  le : sz e ≤ 64
  info : ∃ i, P.info? t = some i ∧ i.size = sz e ∧ i.bytes ≤ 64 ∧ i.zero = some (zv e)

structure TTok (P : Program) (tt : Nat → TI) : Prop where
  el : ∀ t e, (tt t).el = some e → ElOK P t e
  sl : ∀ t E e, (tt t).sl = some (E, e) → P.underlying t = some (.slice E) ∧ ElOK P E e
  slk : ∀ t E e, (tt t).sl = some (E, e) → e ≠ .tab → e.rowk = true

def gt : Option Bool → Prop
  | none => True
  | some b => b = true

/-- What was there is as it was. -/
structure After (w w' : World) : Prop where
  size : w.heap.size ≤ w'.heap.size
  block : ∀ k, k < w.heap.size → w'.heap[k]? = w.heap[k]?
theorem After.refl (w : World) : After w w := ⟨Nat.le_refl _, fun _ _ => rfl⟩
theorem After.cell {w w' : World} (h : After w w') {ad : Addr} (hb : ad.block < w.heap.size) : w'.cell? ad = w.cell? ad := World.cell?_of_block (w := w) (h.block _ hb)

section
variable {P : Program} {tt : Nat → TI} {w0 w : World} {S0 : Base} {ρ : List Loc} {s : St} {a : Act} {g : Option Bool}

theorem kb_eq {k k' : IntKind} (h : kb k k' = true) : k = k' := by cases k <;> cases k' <;> first | rfl | cases h
theorem RK.eqb_eq {x y : RK} (h : x.eqb y = true) : x = y := by
  cases x <;> cases y <;> simp only [RK.eqb] at h <;> first | rfl | (cases h; done) | (rw [kb_eq h]) | (rw [Nat.eq_of_beq_eq_true h])
theorem nbeq {a b : Nat} (h : Nat.beq a b = true) : a = b := Nat.eq_of_beq_eq_true h
theorem nblt {a b : Nat} (h : Nat.blt a b = true) : a < b := by simpa using h

theorem op1_sound {ok : Nat → Prop} {h : List AO} {x : AV} {k : AV → Prop} {v : Value} (hk : op1 alg g x k) (hv : VR w ok ρ h x v) : ∃ x', k x' ∧ (gt g → VR w ok ρ h x' v) := by
  cases x with
  | gd g' y =>
    cases g with
    | none => simp only [op1] at hk
    | some b =>
      simp only [op1] at hk
      exact ⟨y, hk.k, fun hg => hv.1 (hk.p hg)⟩
  | _ => exact ⟨_, by cases g <;> exact hk, fun _ => hv⟩

theorem ob_sound {p k : Prop} (h : ob alg g p k) : k ∧ (gt g → p) := by
  cases g with
  | none => exact ⟨h.k, fun _ => h.p⟩
  | some b => exact ⟨h.k, fun hg => h.p hg⟩

theorem ofConst_sound {ok : Nat → Prop} {h : List AO} (v : Value) : VR w ok ρ h (ofConst v) v := by
  unfold ofConst
  split
  · rfl
  · rfl
  · simp [VR]
  · rfl
  · exact .inl ⟨rfl, rfl⟩
  · trivial

theorem ev_sound (hI : Inv w0 S0 ρ s a w) (x : Operand) : VR w (okB ρ s.h) ρ s.h (ev s.t x) (a.eval x) := by
  cases x with
  | tmp i =>
    simp only [ev, Act.eval]
    by_cases hi : i < s.t.length
    · have : s.t[i]? = some (s.t[i]) := List.getElem?_eq_getElem hi
      have h := hI.slot i _ this
      simpa [List.getD, this] using h
    · have : s.t[i]? = none := List.getElem?_eq_none (Nat.le_of_not_lt hi)
      simp [List.getD, this, VR]
  | const v => exact ofConst_sound v
  | global _ => trivial
  | func _ => rfl

theorem inv_live (hI : Inv w0 S0 ρ s a w) {o E : Nat} {r : Row} (h : getO s.h o = some (E, r)) : ∃ loc, live ρ s.h o loc E r := by
  unfold getO at h
  split at h
  · rename_i E' r' he
    simp only [Option.some.injEq, Prod.mk.injEq] at h
    obtain ⟨rfl, rfl⟩ := h
    have hl : o < s.h.length := by
      rcases Nat.lt_or_ge o s.h.length with h | h
      · exact h
      · simp [List.getD, List.getElem?_eq_none h] at he
    have hh : s.h[o]? = some (.row E' r') := by
      rw [List.getElem?_eq_getElem hl]; simpa [List.getD, List.getElem?_eq_getElem hl] using he
    exact ⟨ρ[o]'(by rw [hI.len]; exact hl), hh, List.getElem?_eq_getElem _⟩
  · cases h

theorem gO {h : List AO} {o E : Nat} {r : Row} (hh : getO h o = some (E, r)) : h[o]? = some (.row E r) := by
  unfold getO at hh
  split at hh
  · rename_i E' r' he
    simp only [Option.some.injEq, Prod.mk.injEq] at hh
    obtain ⟨rfl, rfl⟩ := hh
    rcases Nat.lt_or_ge o h.length with hl | hl
    · rw [List.getElem?_eq_getElem hl]; simpa [List.getD, List.getElem?_eq_getElem hl] using he
    · simp [List.getD, List.getElem?_eq_none hl] at he
  · cases hh

/-- A cell of an object. -/
theorem ObjOK.solid {ok : Nat → Prop} {loc : Loc} {E : Nat} {r : Row} (h : ObjOK w ok loc E r) (hz : loc.z = false) (hs : r.rk ≠ .nx) : ∃ cur cs, w.heap[loc.g]? = some (.cells cur E (0, 0)) ∧ cur.size = loc.K ∧ RC w ok r cs ∧ cs.length ≤ loc.K ∧ cur.toList.take cs.length = cs := by
  rcases h with ⟨h, _⟩ | ⟨_, h | h⟩
  · rw [hz] at h; cases h
  · exact h
  · cases r <;> first | exact h.elim | exact absurd rfl hs
theorem eqb_rowk {x y : RK} (h : x.eqb y = true) : y.rowk = true := by
  cases x <;> cases y <;> first | rfl | (cases h; done)
theorem rowk_x {r : Row} (h : r.rk.rowk = true) : r.rk ≠ .nx := by
  intro hx; rw [hx] at h; cases h
theorem eqb_x {r : Row} {e : RK} (h : r.rk.eqb e = true) : r.rk ≠ .nx := by
  intro hx; rw [hx] at h; cases e <;> cases h

theorem ObjOK.cell {ok : Nat → Prop} {loc : Loc} {E : Nat} {r : Row} (h : ObjOK w ok loc E r) (hz : loc.z = false) (hs : r.rk ≠ .nx) : loc.g < w.heap.size ∧ ∃ cs, RC w ok r cs ∧ cs.length = nl r * wd r ∧ ∀ j u, cs[j]? = some u → w.cell? ⟨loc.g, j, none⟩ = some u := by
  obtain ⟨cur, cs, hg, hK, hr, hl, ht⟩ := h.solid hz hs
  refine ⟨(Array.getElem?_eq_some_iff.1 hg).1, cs, hr, hr.length, fun j u hu => ?_⟩
  rw [cell_of_row w loc.g j cur E (0, 0) hg]
  have : (cur.toList.take cs.length)[j]? = some u := by rw [ht]; exact hu
  rw [List.getElem?_take] at this
  split at this
  · simpa using this
  · cases this

/-- Element k of a row that holds no structs, at its cell. -/
theorem RC.at1 {ok : Nat → Prop} {r : Row} {cs : List Value} (h : RC w ok r cs) (h1 : ∀ n l, r ≠ .recs n l) {k : Nat} (hk : k < nl r) : ∃ u, cs[k]? = some u ∧ ∀ {ρ : List Loc} {hp : List AO}, VR w ok ρ hp (r.get alg k) u := by
  cases r with
  | ints kd l =>
    simp only [RC] at h; subst h
    simp only [nl, Row.nlen, alg] at hk
    exact ⟨_, by simp [hk]; rfl, by intros; simp [VR, Row.get, alg, List.getD, hk]⟩
  | bools l =>
    simp only [RC] at h; subst h
    simp only [nl, Row.nlen, alg] at hk
    exact ⟨_, by simp [hk]; rfl, by intros; simp [VR, Row.get, alg, List.getD, hk]⟩
  | strs l =>
    simp only [RC] at h; subst h
    simp only [nl, Row.nlen, alg] at hk
    exact ⟨_, by simp [hk]; rfl, by intros; simp [VR, Row.get, alg, List.getD, hk]⟩
  | recs n l => exact absurd rfl (h1 n l)
  | itr _ _ => exact h.elim
  | mpr _ => exact h.elim
  | tabs _ => exact h.elim
  | intss l =>
    simp only [nl, Row.nlen, alg] at hk
    have hk' : k < cs.length := by rw [h.1]; exact hk
    refine ⟨cs[k], List.getElem?_eq_getElem hk', fun {_ _} => ?_⟩
    obtain ⟨a, cap, e1, e2, e3, e4⟩ := h.2 k _ (List.getElem?_eq_getElem hk')
    refine ⟨a, cap, _, by simpa [nl, Row.nlen, alg, Row.get] using e1, by simpa [nl, Row.nlen, alg] using e2, e3, rfl, fun hp => e4 (by simpa [nl, Row.nlen, alg] using hp)⟩
  | boolss l =>
    simp only [nl, Row.nlen, alg] at hk
    have hk' : k < cs.length := by rw [h.1]; exact hk
    refine ⟨cs[k], List.getElem?_eq_getElem hk', fun {_ _} => ?_⟩
    obtain ⟨a, cap, e1, e2, e3, e4⟩ := h.2 k _ (List.getElem?_eq_getElem hk')
    refine ⟨a, cap, _, by simpa [nl, Row.nlen, alg, Row.get] using e1, by simpa [nl, Row.nlen, alg] using e2, e3, rfl, fun hp => e4 (by simpa [nl, Row.nlen, alg] using hp)⟩

theorem flat_get {n : Nat} : ∀ {l : List (List Int)}, (∀ x ∈ l, x.length = n) → ∀ {k j : Nat}, k < l.length → j < n →
    (l.flatMap (fun x => x.map (Value.int .i64)))[k * n + j]? = some (.int .i64 ((l.getD k []).getD j 0)) := by
  intro l
  induction l with
  | nil => intro _ k j hk; simp at hk
  | cons x l ih =>
    intro h k j hk hj
    have hx : x.length = n := h x (by simp)
    rw [List.flatMap_cons]
    cases k with
    | zero =>
      rw [Nat.zero_mul, Nat.zero_add, List.getElem?_append_left (by simp [hx]; exact hj)]
      simp [List.getD, hx, hj]
    | succ k =>
      have e : (k + 1) * n + j = x.length + (k * n + j) := by rw [hx, Nat.add_mul]; omega
      rw [e, List.getElem?_append_right (by simp), show x.length + (k * n + j) - (x.map (Value.int .i64)).length = k * n + j by simp]
      have := ih (fun y hy => h y (by simp [hy])) (k := k) (j := j) (by simpa using hk) hj
      simpa [List.getD] using this

theorem run_load1 {t : TypeId} {d : TypeDesc} {ad : Addr} {v : Value} (hd : P.underlying t = some d) (hs : ∀ fs, d ≠ .struct fs) (ha : ∀ n e, d ≠ .array n e) (hc : w.cell? ad = some v) :
    (Instr.loadAt t (.pointer (some ad))).run P w = .ok v w := by
  have hag : (isAgg t).run P w = .ok false w := by
    simp only [isAgg, Sem.run_bind, run_underlying hd, Result.andThen_ok]
    cases d <;> first | rfl | exact absurd rfl (hs _) | exact absurd rfl (ha _ _)
  simp [Instr.loadAt, Instr.sureAddr, loadVar, hag, load, Sem.run, hc]

theorem run_loadN {t : TypeId} {fs : Array Field} {i : TypeInfo} {ad : Addr} {cs : List Value} (hd : P.underlying t = some (.struct fs)) (hi : P.info? t = some i) (hn : cs.length = i.size)
    (hc : ∀ j u, cs[j]? = some u → w.cell? (ad.add j) = some u) : (Instr.loadAt t (.pointer (some ad))).run P w = .ok (.agg cs.toArray) w := by
  have hag : (isAgg t).run P w = .ok true w := by
    simp only [isAgg, Sem.run_bind, run_underlying hd, Result.andThen_ok]; rfl
  have hl := run_loadCells_list (P := P) w ad cs hc
  rw [hn] at hl
  simp [Instr.loadAt, Instr.sureAddr, loadVar, hag, sizeOf, typeInfo, hi, hl]

end
end Go.Ab
