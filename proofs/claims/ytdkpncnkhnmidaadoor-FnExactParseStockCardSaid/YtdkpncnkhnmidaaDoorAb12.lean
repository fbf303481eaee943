/-
  CONTRACTS of functions in the abstract values, and what a call by contract does to a state.
-/
import Derived.Test.YtdkpncnkhnmidaaDoorAb11
set_option linter.unusedSimpArgs false
set_option linter.unusedVariables false
namespace Go.Ab
open Go.RowKit

def VRs (w : World) (ok : Nat → Prop) (ρ : List Loc) (h : List AO) : List AV → List Value → Prop
  | [], [] => True
  | x :: xs, v :: vs => VR w ok ρ h x v ∧ VRs w ok ρ h xs vs
  | _, _ => False

/-- What a call hands back: a value, and the rows that it made. -/
structure Fresh (w' : World) (n : Nat) (r : AV) (fr : List (Nat × Row)) (v : Value) (ρ' : List Loc) : Prop where
  len : ρ'.length = fr.length
  obj : ∀ o loc E row, live ρ' (rowsOf fr) o loc E row → ObjOK w' (fun k => okB ρ' (rowsOf fr) k ∧ n ≤ k) loc E row ∧ ∀ k, loc.has k → n ≤ k ∧ k < w'.heap.size
  inj : ∀ o o' loc loc' E E' r r' k, live ρ' (rowsOf fr) o loc E r → live ρ' (rowsOf fr) o' loc' E' r' → loc.has k → loc'.has k → o = o'
  val : VR w' (fun k => okB ρ' (rowsOf fr) k ∧ n ≤ k) ρ' (rowsOf fr) r v

/-- A function that can be called. -/
structure Callable (P : Program) (f : Nat) : Prop where
  fn : ∃ fn, P.funcs[f]? = some fn ∧ (¬ fn.name = "runtime.NumGoroutine") ∧ ¬ fn.body = none

/-- CONTRACT: with such arguments, in a world that fits, the function returns such a result, rows of its own making among it, and has written nothing that was there. -/
structure FCG (G : World → Prop) (P : Program) (f : Nat) (args : List AV) (r : AV) (fr : List (Nat × Row)) : Prop where
  call : Callable P f
  post : ∀ (w : World) (vals : List Value), G w → VRs w (fun _ => True) [] [] args vals →
    Calls P f vals.toArray w fun e w' => ∃ v ρ', e = .returned v ∧ Below w.heap.size w w' ∧ Fresh w' w.heap.size r fr v ρ'

/-- A row as a callee sees it. -/
def Row.seen : Row → Row
  | .tabs l => .intss l
  | r => r

/-- CONTRACT of a function that writes into the row that it is handed at place i: what it returns, and what becomes of the row. -/
structure FCM (P : Program) (f : Nat) (args : List AV) (i : Nat) (r : AV) (row' : Row) : Prop where
  call : Callable P f
  post : ∀ (w : World) (vals : List Value) (loc : Loc) (E : Nat) (row : Row) (ok : Nat → Prop), args[i]? = some (.ro row.seen) → flat row = true → sameK row' row = true → (∀ k, loc.has k → k < w.heap.size) →
    (∀ k, ok k → ¬ loc.has k) → ObjOK w ok loc E row →
    VRs w ok [loc] [.row E row] (args.set i (.own 0 true)) vals →
    Calls P f vals.toArray w fun e w' => ∃ v, e = .returned v ∧ Keeps (fun k => loc.has k) w w' ∧ ObjOK w' ok loc E row' ∧ VR w' ok [loc] [.row E row'] r v ∧ nl row' = nl row

/-- CONTRACT of a function that hands its argument at place i back, and a value beside it. -/
structure FCS (G : World → Prop) (P : Program) (f : Nat) (args : List AV) (i : Nat) (b : AV) : Prop where
  call : Callable P f
  post : ∀ (w : World) (vals : List Value), G w → VRs w (fun _ => True) [] [] args vals →
    Calls P f vals.toArray w fun e w' => ∃ v vb, vals[i]? = some v ∧ e = .returned (.tuple #[v, vb]) ∧ Below w.heap.size w w' ∧ VR w' (fun _ => True) [] [] b vb

abbrev GT : World → Prop := fun _ => True
abbrev FC (P : Program) (f : Nat) (args : List AV) (r : AV) (fr : List (Nat × Row)) : Prop := FCG GT P f args r fr
theorem FC.toG {G : World → Prop} {P : Program} {f : Nat} {args : List AV} {r : AV} {fr : List (Nat × Row)} (h : FC P f args r fr) : FCG G P f args r fr := ⟨h.call, fun w vals _ hv => h.post w vals trivial hv⟩

def TabG (G : World → Prop) (P : Program) (T : Nat → List AV → CR) : Prop :=
  ∀ f args, (∀ p r fr, T f args = .pure p r fr → p → FCG G P f args r fr) ∧ (∀ i p r row, T f args = .mut i p r row → p → FCM P f args i r row) ∧
    (∀ i p r E row, T f args = .pat i p r E row → p → FCG G P f args r [(E, row)]) ∧ (∀ i p b, T f args = .same i p b → p → FCS G P f args i b)
abbrev TabOK (P : Program) (T : Nat → List AV → CR) : Prop := TabG GT P T
theorem TabOK.toG {G : World → Prop} {P : Program} {T : Nat → List AV → CR} (h : TabOK P T) : TabG G P T := fun f args =>
  ⟨fun p r fr e hp => FC.toG ((h f args).1 p r fr e hp), (h f args).2.1, fun i p r E row e hp => FC.toG ((h f args).2.2.1 i p r E row e hp),
    fun i p b e hp => ⟨((h f args).2.2.2 i p b e hp).call, fun w vals _ hv => ((h f args).2.2.2 i p b e hp).post w vals trivial hv⟩⟩

/-- A table, for a body that began in the world w0. -/
structure TabIn (P : Program) (T : Nat → List AV → CR) (w0 : World) (S0 : Base) : Prop where
  ex : ∃ G, TabG G P T ∧ ∀ w, Keeps S0.blk w0 w → G w

structure FCat (w0 : World) (S0 : Base) (P : Program) (f : Nat) (args : List AV) (r : AV) (fr : List (Nat × Row)) : Prop where
  call : Callable P f
  post : ∀ (w : World) (vals : List Value), Keeps S0.blk w0 w → VRs w (fun _ => True) [] [] args vals →
    Calls P f vals.toArray w fun e w' => ∃ v ρ', e = .returned v ∧ Below w.heap.size w w' ∧ Fresh w' w.heap.size r fr v ρ'
theorem TabIn.fc {P : Program} {T : Nat → List AV → CR} {w0 : World} {S0 : Base} (h : TabIn P T w0 S0) {f : Nat} {args : List AV} {p : Prop} {r : AV} {fr : List (Nat × Row)} (e : T f args = .pure p r fr) (hp : p) : FCat w0 S0 P f args r fr := by
  obtain ⟨G, h1, h2⟩ := h.ex
  have := (h1 f args).1 p r fr e hp
  exact ⟨this.call, fun w vals hk hv => this.post w vals (h2 w hk) hv⟩
theorem TabIn.pat {P : Program} {T : Nat → List AV → CR} {w0 : World} {S0 : Base} (h : TabIn P T w0 S0) {f : Nat} {args : List AV} {p : Prop} {i : Nat} {r : AV} {E : Nat} {row : Row} (e : T f args = .pat i p r E row) (hp : p) : FCat w0 S0 P f args r [(E, row)] := by
  obtain ⟨G, h1, h2⟩ := h.ex
  have := (h1 f args).2.2.1 i p r E row e hp
  exact ⟨this.call, fun w vals hk hv => this.post w vals (h2 w hk) hv⟩
theorem TabIn.mut {P : Program} {T : Nat → List AV → CR} {w0 : World} {S0 : Base} (h : TabIn P T w0 S0) {f : Nat} {args : List AV} {p : Prop} {i : Nat} {r : AV} {row : Row} (e : T f args = .mut i p r row) (hp : p) : FCM P f args i r row := by
  obtain ⟨G, h1, h2⟩ := h.ex
  exact (h1 f args).2.1 i p r row e hp
structure FCSat (w0 : World) (S0 : Base) (P : Program) (f : Nat) (args : List AV) (i : Nat) (b : AV) : Prop where
  call : Callable P f
  post : ∀ (w : World) (vals : List Value), Keeps S0.blk w0 w → VRs w (fun _ => True) [] [] args vals →
    Calls P f vals.toArray w fun e w' => ∃ v vb, vals[i]? = some v ∧ e = .returned (.tuple #[v, vb]) ∧ Below w.heap.size w w' ∧ VR w' (fun _ => True) [] [] b vb
theorem TabIn.same {P : Program} {T : Nat → List AV → CR} {w0 : World} {S0 : Base} (h : TabIn P T w0 S0) {f : Nat} {args : List AV} {p : Prop} {i : Nat} {b : AV} (e : T f args = .same i p b) (hp : p) : FCSat w0 S0 P f args i b := by
  obtain ⟨G, h1, h2⟩ := h.ex
  have := (h1 f args).2.2.2 i p b e hp
  exact ⟨this.call, fun w vals hk hv => this.post w vals (h2 w hk) hv⟩

section
variable {P : Program} {tt : Nat → TI} {T : Nat → List AV → CR} {w0 w w' : World} {S0 : Base} {ρ ρ' : List Loc} {s : St} {a : Act} {o : Oper} {g : Option Bool}

theorem exec_call {f : Nat} {args ts : Array _} (hc : Callable P f) (ho : o.op = .call { callee := .value (.func f), args := args, argTypes := ts }) (w : World) :
    (execOp a.eval o).run P w = .ok (.enter f (args.map a.eval)) w := by
  obtain ⟨fn, hf, hn, hb⟩ := hc.fn
  simp [execOp, ho, resolve, Act.eval, Deferred.ofValue, invoke, callFunc, program, Sem.run, hf, hn, hb]

theorem rows_get : ∀ (fr : List (Nat × Row)) (o : Nat), (rowsOf fr)[o]? = (fr[o]?).map (fun p => AO.row p.1 p.2)
  | [], o => by simp [rowsOf]
  | (E, r) :: x, 0 => by simp [rowsOf]
  | (E, r) :: x, o + 1 => by simpa [rowsOf] using rows_get x o
theorem rows_len (fr : List (Nat × Row)) : (rowsOf fr).length = fr.length := by
  induction fr with
  | nil => rfl
  | cons p x ih => obtain ⟨E, r⟩ := p; simp [rowsOf, ih]

/-- A result, its rows laid behind the caller's own. -/
theorem VR.shift {ok ok' : Nat → Prop} {h fr : List AO} (hS : Same w w ok ok') (hl : ρ.length = h.length) : ∀ {x : AV} {v : Value}, VR w ok ρ' fr x v → VR w ok' (ρ ++ ρ') (h ++ fr) (Ab.shift h.length x) v := by
  intro x
  have ge : ∀ o, (h ++ fr)[h.length + o]? = fr[o]? := fun o => by rw [List.getElem?_append_right (by omega)]; congr 1; omega
  have gl : ∀ o, (ρ ++ ρ')[h.length + o]? = ρ'[o]? := fun o => by rw [← hl, List.getElem?_append_right (by omega)]; congr 1; omega
  induction x with
  | undef => intros; trivial
  | int k n => intro v hv; exact hv
  | bool b => intro v hv; exact hv
  | str b => intro v hv; exact hv
  | nilS => intro v hv; exact hv
  | ro r => intro v hv; exact ROw.same hS hv
  | own o z =>
    intro v hv
    refine ⟨by simp; exact hv.1, fun E r hr => ?_⟩
    rw [ge] at hr
    obtain ⟨loc, h1, h2⟩ := hv.2 E r hr
    exact ⟨loc, by rw [gl]; exact h1, h2⟩
  | win o a n => intros; trivial
  | pv x _ =>
    intro v hv
    obtain ⟨ad, h1, h2, h3, h4⟩ := hv
    exact ⟨ad, h1, h2, (hS.block _ h2 h3).2, PV.same hS h2 h3 h4⟩
  | po o k => intros; trivial
  | pf o k j => intros; trivial
  | rc n l => intro v hv; exact hv
  | t2 a b iha ihb =>
    intro v hv
    obtain ⟨x, y, h1, h2, h3⟩ := hv
    exact ⟨x, y, h1, iha h2, ihb h3⟩
  | t3 a b c iha ihb ihc =>
    intro v hv
    obtain ⟨x, y, z, h1, h2, h3, h4⟩ := hv
    exact ⟨x, y, z, h1, iha h2, ihb h3, ihc h4⟩
  | gd g x _ => intros; trivial
  | sm v0 r => intro v hv; exact ⟨hv.1, ROw.same hS hv.2⟩
  | t0 => intro v hv; exact hv
  | t1 a _ => intros; trivial
  | ifc b => intro v hv; exact hv
  | fn f => intro v hv; exact hv
  | it o => intros; trivial
  | mp o => intros; trivial

/-- The state behind a call by contract. -/
theorem Inv.call (hI : Inv w0 S0 ρ s a w) {r : AV} {fr : List (Nat × Row)} {v : Value} (hb : Below w.heap.size w w') (hF : Fresh w' w.heap.size r fr v ρ') :
    Inv w0 S0 (ρ ++ ρ') ⟨s.t, s.h ++ rowsOf fr⟩ a w' ∧ VR w' (okB (ρ ++ ρ') (s.h ++ rowsOf fr)) (ρ ++ ρ') (s.h ++ rowsOf fr) (shift s.h.length r) v := by
  have cases' : ∀ {o loc E r'}, live (ρ ++ ρ') (s.h ++ rowsOf fr) o loc E r' → live ρ s.h o loc E r' ∨ ∃ d, o = s.h.length + d ∧ live ρ' (rowsOf fr) d loc E r' := by
    intro o loc E r' ⟨h1, h2⟩
    rcases Nat.lt_or_ge o s.h.length with ho | ho
    · rw [List.getElem?_append_left ho] at h1
      rw [List.getElem?_append_left (by rw [hI.len]; exact ho)] at h2
      exact .inl ⟨h1, h2⟩
    · rw [List.getElem?_append_right ho] at h1
      rw [List.getElem?_append_right (by rw [hI.len]; exact ho), hI.len] at h2
      exact .inr ⟨o - s.h.length, by omega, h1, h2⟩
  have hblk : ∀ k, k < w.heap.size → w'.heap[k]? = w.heap[k]? := fun k hk => hb.block k hk
  have hS : Same w w' (okB ρ s.h) (okB (ρ ++ ρ') (s.h ++ rowsOf fr)) := by
    refine ⟨hb.size, fun k hk hok => ⟨hblk k hk, fun o loc E r' hlv hz => ?_⟩⟩
    rcases cases' hlv with h | ⟨d, _, h⟩
    · exact hok _ _ _ _ h hz
    · have := (hF.obj _ _ _ _ h).2 _ hz; omega
  have hok3 : ∀ k, (okB ρ' (rowsOf fr) k ∧ w.heap.size ≤ k) → okB (ρ ++ ρ') (s.h ++ rowsOf fr) k := by
    intro k hk o loc E r' hlv hz
    rcases cases' hlv with h | ⟨d, _, h⟩
    · have := hI.block h hz; have := hk.2; omega
    · exact hk.1 _ _ _ _ h hz
  have hS2 : Same w' w' (fun k => okB ρ' (rowsOf fr) k ∧ w.heap.size ≤ k) (okO w0 S0 (ρ ++ ρ') (s.h ++ rowsOf fr)) :=
    same_weak fun k hk => ⟨hok3 k hk, .inr (Nat.le_trans hI.keep.size hk.2)⟩
  refine ⟨hI.step ⟨hb.os, hb.tape, hb.output, hb.size, fun k hk _ => hblk k hk⟩ hS hI.pin_app (by simp [hI.len, hF.len, rows_len]) ?_ ?_ rfl ?_, ?_⟩
  · intro o loc E r' hlv
    rcases cases' hlv with h | ⟨d, _, h⟩
    · obtain ⟨h1, h2⟩ := hI.obj _ _ _ _ h
      exact ⟨h1.same hS.o (fun k hz => hblk _ (hI.block h hz)), fun k hk => ⟨(h2 k hk).1, Nat.lt_of_lt_of_le (h2 k hk).2 hb.size⟩⟩
    · obtain ⟨h1, h2⟩ := hF.obj _ _ _ _ h
      exact ⟨h1.same hS2 (fun _ _ => rfl), fun k hk => ⟨.inr (Nat.le_trans hI.keep.size (h2 k hk).1), (h2 k hk).2⟩⟩
  · intro o o' loc loc' E E' r1 r2 k h1 h2 z1 z2
    rcases cases' h1 with q1 | ⟨d1, e1, q1⟩ <;> rcases cases' h2 with q2 | ⟨d2, e2, q2⟩
    · exact hI.inj _ _ _ _ _ _ _ _ k q1 q2 z1 z2
    · have := hI.block q1 z1; have := (hF.obj _ _ _ _ q2).2 _ z2; omega
    · have := hI.block q2 z2; have := (hF.obj _ _ _ _ q1).2 _ z1; omega
    · have := hF.inj _ _ _ _ _ _ _ _ k q1 q2 z1 z2; omega
  · intro i x hx
    refine .inr ⟨hx, ⟨by simp, fun o' _ ho E' r2 hr2 => ?_⟩⟩
    rw [List.getElem?_append_left ho] at hr2
    exact ⟨List.getElem?_append_left (by rw [hI.len]; exact ho), E', r2, hr2, rfl, rfl⟩
  · exact VR.shift (same_weak hok3) hI.len hF.val

/-- A result without memory is one value. -/
theorem scalar_val : ∀ {x : AV}, scalar x = true → ∃ v0, (∀ w ok ρ h, VR w ok ρ h x v0) ∧ ∀ w ok ρ h v, VR w ok ρ h x v → v = v0 := by
  intro x
  induction x with
  | int k n => intro _; exact ⟨_, fun _ _ _ _ => rfl, fun _ _ _ _ _ h => h⟩
  | bool b => intro _; exact ⟨_, fun _ _ _ _ => rfl, fun _ _ _ _ _ h => h⟩
  | str b => intro _; exact ⟨_, fun _ _ _ _ => rfl, fun _ _ _ _ _ h => h⟩
  | nilS => intro _; exact ⟨_, fun _ _ _ _ => rfl, fun _ _ _ _ _ h => h⟩
  | t0 => intro _; exact ⟨_, fun _ _ _ _ => rfl, fun _ _ _ _ _ h => h⟩
  | t2 a b iha ihb =>
    intro h
    simp only [scalar, Bool.and_eq_true] at h
    obtain ⟨x, x1, x2⟩ := iha h.1
    obtain ⟨y, y1, y2⟩ := ihb h.2
    refine ⟨.tuple #[x, y], fun w ok ρ hp => ⟨x, y, rfl, x1 _ _ _ _, y1 _ _ _ _⟩, fun w ok ρ hp v hv => ?_⟩
    obtain ⟨x', y', rfl, q1, q2⟩ := hv
    rw [x2 _ _ _ _ _ q1, y2 _ _ _ _ _ q2]
  | t3 a b c iha ihb ihc =>
    intro h
    simp only [scalar, Bool.and_eq_true] at h
    obtain ⟨x, x1, x2⟩ := iha h.1.1
    obtain ⟨y, y1, y2⟩ := ihb h.1.2
    obtain ⟨z, z1, z2⟩ := ihc h.2
    refine ⟨.tuple #[x, y, z], fun w ok ρ hp => ⟨x, y, z, rfl, x1 _ _ _ _, y1 _ _ _ _, z1 _ _ _ _⟩, fun w ok ρ hp v hv => ?_⟩
    obtain ⟨x', y', z', rfl, q1, q2, q3⟩ := hv
    rw [x2 _ _ _ _ _ q1, y2 _ _ _ _ _ q2, z2 _ _ _ _ _ q3]
  | _ => intro h; cases h

/-- A table of one's own, read. -/
theorem tab_seen {loc : Loc} {E cap : Nat} {l : List (List Int)} (h : TabObj w loc E l) (h1 : l.length ≤ cap) (h2 : cap ≤ maxLen) : ROw w (fun _ => True) (.intss l) (.slice (some ⟨loc.g, 0, none⟩) l.length cap) := by
  obtain ⟨nd, gk, kl, cur, cs, a1, a2, a3, a4, a5, a6⟩ := h
  refine ⟨_, cap, cs, rfl, h1, h2, ⟨a3, fun i v hv => ?_⟩, fun _ => ⟨_, rfl, (Array.getElem?_eq_some_iff.1 a1).1, trivial, fun j u hu => ?_⟩⟩
  · have hi : i < l.length := by rw [← a3]; exact (List.getElem?_eq_some_iff.1 hv).1
    obtain ⟨kk, hkk⟩ : ∃ kk, loc.ks[i]? = some kk := ⟨_, List.getElem?_eq_getElem (by omega)⟩
    obtain ⟨cp, cu, E', p1, p2, p3, p4, p5, p6⟩ := a6 i kk hi hkk
    rw [hv] at p1
    cases p1
    refine ⟨some ⟨kk, 0, none⟩, cp, by rw [List.length_map], by rw [List.length_map]; exact p2, p3, fun _ => ⟨_, rfl, (Array.getElem?_eq_some_iff.1 p5).1, trivial, fun j u hu => ?_⟩⟩
    rw [add_lit', Nat.zero_add, cell_of_row w _ j cu E' (0, 0) p5]
    have : (cu.toList.take (l.getD i []).length)[j]? = some u := by rw [p6]; exact hu
    rw [List.getElem?_take] at this
    split at this
    · simpa using this
    · cases this
  · rw [add_lit', Nat.zero_add, cell_of_row w loc.g j cur E (0, 0) a1]
    have : (cur.toList.take cs.length)[j]? = some u := by rw [a5]; exact hu
    rw [List.getElem?_take] at this
    split at this
    · simpa using this
    · cases this

/-- The arguments, as the callee sees them. -/
theorem borrow_sound (hI : Inv w0 S0 ρ s a w) {x : AV} {v : Value} (hv : VR w (okB ρ s.h) ρ s.h x v) (hw : After w w') : VR w' (fun _ => True) [] [] (borrow alg s.h x) v := by
  have hS : ∀ ok, Same w w' ok (fun _ => True) := fun ok => ⟨hw.size, fun k hk _ => ⟨hw.block k hk, trivial⟩⟩
  cases x with
  | undef => trivial
  | int k n => exact hv
  | bool b => exact hv
  | str b => exact hv
  | nilS => exact hv
  | ro r => exact ROw.same (hS _) hv
  | own o z =>
    simp only [borrow]
    split
    · rename_i E l hob
      obtain ⟨_, hv⟩ := hv
      obtain ⟨loc, hl, hv⟩ := hv E _ (gO hob)
      rcases hv with ⟨_, _, rfl, h0⟩ | ⟨hz, cap, rfl, c1, c2, _⟩
      · exact ro_nil (by simp [Row.rk]) h0
      · have hO : TabObj w loc E l := by
          rcases (hI.obj o loc E _ ⟨gO hob, hl⟩).1 with ⟨h, _⟩ | ⟨_, ⟨_, _, _, _, h, _⟩ | h⟩
          · rw [hz] at h; cases h
          · exact h.elim
          · exact h
        exact ROw.same (hS _) (tab_seen hO c1 c2)
    · rename_i E r _ hob
      split
      case h_2 => trivial
      rename_i hrk
      obtain ⟨_, hv⟩ := hv
      obtain ⟨loc, hl, hv⟩ := hv E r (gO hob)
      rcases hv with ⟨_, _, rfl, h0⟩ | ⟨hz, cap, rfl, c1, c2, _⟩
      · exact ro_nil (rowk_x hrk) h0
      · obtain ⟨hb, cs, hr, _, hc⟩ := (hI.obj o loc E r ⟨gO hob, hl⟩).1.cell hz (rowk_x hrk)
        refine ⟨_, cap, cs, rfl, c1, c2, hr.same (hS _), fun _ => ⟨_, rfl, Nat.lt_of_lt_of_le hb hw.size, trivial, fun j u hu => ?_⟩⟩
        rw [add_lit', Nat.zero_add, hw.cell (ad := ⟨loc.g, j, none⟩) hb]
        exact hc j u hu
    · trivial
  | win o b n =>
    simp only [borrow]
    split
    · rename_i E r hob
      split
      case h_2 => trivial
      rename_i hrk
      obtain ⟨_, hv⟩ := hv
      obtain ⟨loc, hl, hv⟩ := hv E r (gO hob)
      rcases hv with ⟨_, rfl, rfl, rfl, h0⟩ | ⟨hz, cap, ad, rfl, c1, c2, _, c4, c5⟩
      · exact ro_nil (by rw [show (r.win alg 0 (alg.nadd 0 0)).rk = r.rk by cases r <;> first | rfl | cases hrk]; exact rowk_x hrk) (by rw [nl_win _ _ (by simp [alg])]; rfl)
      · obtain ⟨hb, cs, hr, _, hc⟩ := (hI.obj o loc E r ⟨gO hob, hl⟩).1.cell hz (rowk_x hrk)
        have e : nl (r.win alg b (alg.nadd b n)) = n := by rw [nl_win _ _ (by simp only [alg]; omega)]; simp [alg]
        refine ⟨_, cap, _, by rw [e], by rw [e]; exact c1, c2, (hr.win _ _).same (hS _), fun hp => ⟨ad, rfl, ?_, trivial, fun j u hu => ?_⟩⟩
        · rw [e] at hp
          rw [c5 (.inl hp)]; exact Nat.lt_of_lt_of_le hb hw.size
        · rw [e] at hp
          have had := c5 (.inl hp)
          subst had
          rw [List.getElem?_drop, List.getElem?_take] at hu
          split at hu
          · rw [add_lit', hw.cell (ad := ⟨loc.g, b * wd r + j, none⟩) hb]
            exact hc _ _ hu
          · cases hu
    · trivial
  | pv x =>
    obtain ⟨ad, h1, h2, h3, h4⟩ := hv
    exact ⟨ad, h1, Nat.lt_of_lt_of_le h2 hw.size, trivial, PV.same (hS _) h2 h3 h4⟩
  | po o k => trivial
  | pf o k j => trivial
  | rc n l => exact hv
  | t2 a b => trivial
  | t3 a b c => trivial
  | gd g x => trivial
  | sm v0 r => exact ROw.same (hS _) hv.2
  | t0 => exact hv
  | t1 a => trivial
  | ifc b => exact hv
  | fn f => exact hv
  | it o => trivial
  | mp o => trivial

theorem opL_sound (hI : Inv w0 S0 ρ s a w) : ∀ (l : List Operand) {K : List AV → Prop}, opL alg g s.t l K → ∃ vs, K vs ∧ (gt g → VRs w (okB ρ s.h) ρ s.h vs (l.map a.eval))
  | [], K, h => ⟨[], h, fun _ => trivial⟩
  | x :: r, K, h => by
    simp only [opL] at h
    obtain ⟨x', h1, hx⟩ := op1_sound h (ev_sound hI x)
    obtain ⟨vs, h2, hvs⟩ := opL_sound hI r h1
    exact ⟨x' :: vs, h2, fun hg => ⟨hx hg, hvs hg⟩⟩

theorem borrows_sound (hI : Inv w0 S0 ρ s a w) (hw : After w w') : ∀ {xs : List AV} {vs : List Value}, VRs w (okB ρ s.h) ρ s.h xs vs → VRs w' (fun _ => True) [] [] (xs.map (borrow alg s.h)) vs
  | [], [], _ => trivial
  | _ :: _, _ :: _, h => ⟨borrow_sound hI h.1 hw, borrows_sound hI hw h.2⟩
  | [], _ :: _, h => h.elim
  | _ :: _, [], h => h.elim

end
end Go.Ab
