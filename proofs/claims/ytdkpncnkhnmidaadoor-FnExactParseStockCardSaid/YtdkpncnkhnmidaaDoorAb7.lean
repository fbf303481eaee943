/-
  SOUNDNESS, PART FIVE: how a state is carried over a step that writes or makes memory.
-/
import Derived.Test.YtdkpncnkhnmidaaDoorAb6
set_option linter.unusedSimpArgs false
set_option linter.unusedVariables false
namespace Go.Ab
open Go.RowKit

section
variable {P : Program} {tt : Nat → TI} {w0 w w' : World} {S0 : Base} {ρ ρ' : List Loc} {s : St} {a : Act} {h' : List AO} {t' : List AV}

theorem TabObj.same {loc : Loc} {E : Nat} {l : List (List Int)} (hz : loc.z = false) (hb : ∀ k, loc.has k → w'.heap[k]? = w.heap[k]?) (h : TabObj w loc E l) : TabObj w' loc E l := by
  obtain ⟨nd, gk, kl, cur, cs, h1, h2, h3, h4, h5, h6⟩ := h
  refine ⟨nd, gk, kl, cur, cs, (hb _ (Loc.has_g hz)).trans h1, h2, h3, h4, h5, fun i k hi hk => ?_⟩
  obtain ⟨cap, cu, E', q1, q2, q3, q4, q5, q6⟩ := h6 i k hi hk
  exact ⟨cap, cu, E', q1, q2, q3, q4, (hb k ⟨hz, .inr (List.mem_of_getElem? hk)⟩).trans q5, q6⟩
theorem SpOK.same {loc : Loc} {E : Nat} {r : Row} (hz : loc.z = false) (hb : ∀ k, loc.has k → w'.heap[k]? = w.heap[k]?) (h : SpOK w loc E r) : SpOK w' loc E r := by
  have hg := hb _ (Loc.has_g hz)
  cases r with
  | itr s p => exact hg.trans h
  | mpr l => obtain ⟨es, c, h1, h2⟩ := h; exact ⟨es, c, hg.trans h1, h2⟩
  | tabs l => exact TabObj.same hz hb h
  | _ => exact h.elim
theorem ObjOK.same {ok ok' : Nat → Prop} {loc : Loc} {E : Nat} {r : Row} (hS : Same w w' ok ok') (hb : ∀ k, loc.has k → w'.heap[k]? = w.heap[k]?) (h : ObjOK w ok loc E r) : ObjOK w' ok' loc E r := by
  rcases h with h | ⟨hz, ⟨cur, cs, h1, h2, h3, h4, h5⟩ | h⟩
  · exact .inl h
  · exact .inr ⟨hz, .inl ⟨cur, cs, (hb _ (Loc.has_g hz)).trans h1, h2, h3.same hS, h4, h5⟩⟩
  · exact .inr ⟨hz, .inr (h.same hz hb)⟩

theorem Inv.step (hI : Inv w0 S0 ρ s a w) (hk : Keeps (fun k => S0 k ∨ w0.heap.size ≤ k) w w') (hS : Same w w' (okB ρ s.h) (okB ρ' h')) (hpin : ∀ loc, S0.pin = some loc → ρ'[0]? = some loc) (hlen : ρ'.length = h'.length)
    (hobj : ∀ o loc E r, live ρ' h' o loc E r → ObjOK w' (okO w0 S0 ρ' h') loc E r ∧ ∀ k, loc.has k → (S0 k ∨ w0.heap.size ≤ k) ∧ k < w'.heap.size)
    (hinj : ∀ o o' loc loc' E E' r r' k, live ρ' h' o loc E r → live ρ' h' o' loc' E' r' → loc.has k → loc'.has k → o = o')
    (ht : t'.length = s.t.length) (hslot : ∀ (i : Nat) (x : AV), t'[i]? = some x → x = .undef ∨ (s.t[i]? = some x ∧ Heaps (uses x) ρ ρ' s.h h')) : Inv w0 S0 ρ' ⟨t', h'⟩ a w' where
  keep := hI.keep.trans hk
  pin := hpin
  len := hlen
  obj := hobj
  inj := hinj
  size := by rw [hI.size]; exact ht.symm
  slot := fun i x hx => by
    rcases hslot i x hx with rfl | ⟨h1, h2⟩
    · trivial
    · exact VR.same hS h2 (hI.slot i x h1)
  defers := hI.defers

theorem Inv.block (hI : Inv w0 S0 ρ s a w) {o E k : Nat} {loc : Loc} {r : Row} (h : live ρ s.h o loc E r) (hk : loc.has k) : k < w.heap.size :=
  ((hI.obj o loc E r h).2 k hk).2

theorem Inv.pin_app (hI : Inv w0 S0 ρ s a w) {x : List Loc} : ∀ loc, S0.pin = some loc → (ρ ++ x)[0]? = some loc := by
  intro loc h
  have := hI.pin loc h
  rw [List.getElem?_append_left (List.getElem?_eq_some_iff.1 this).1]
  exact this

theorem Inv.lt (hI : Inv w0 S0 ρ s a w) {o E : Nat} {loc : Loc} {r : Row} (h : live ρ s.h o loc E r) : o < s.h.length := (List.getElem?_eq_some_iff.1 h.1).1

/-- A value is put into a slot. -/
theorem Inv.put (hI : Inv w0 S0 ρ s a w) {x : AV} {v : Value} (hv : VR w (okB ρ s.h) ρ s.h x v) (d : Option Nat) : Inv w0 S0 ρ ⟨put s.t d x, s.h⟩ (a.put d v) w := by
  cases d with
  | none => exact hI
  | some d =>
    refine ⟨hI.keep, hI.pin, hI.len, hI.obj, hI.inj, ?_, ?_, hI.defers⟩
    · simp [Act.put, Ab.put, hI.size]
    · intro i y hy
      simp only [Ab.put] at hy
      simp only [Act.put]
      rw [List.getElem?_set] at hy
      by_cases hd : d = i
      · subst hd
        simp only [if_true] at hy
        split at hy
        · rename_i hl
          simp at hy; subst hy
          have : d < a.tmps.size := by rw [hI.size]; exact hl
          simp [this, hv]
        · cases hy
      · rw [if_neg hd] at hy
        have := hI.slot i y hy
        simpa [hd] using this

/-- A new object. -/
theorem Inv.allocX (hI : Inv w0 S0 ρ s a w) {ob : Obj} {K E : Nat} {r : Row} (hX : ∀ ok', Same w (w.alloc ob) (okO w0 S0 ρ s.h) ok' → ObjOK (w.alloc ob) ok' ⟨w.heap.size, K, false, []⟩ E r) :
    Inv w0 S0 (ρ ++ [⟨w.heap.size, K, false, []⟩]) ⟨s.t, s.h ++ [.row E r]⟩ a (w.alloc ob) := by
  have live_old : ∀ {o loc E' r'}, live (ρ ++ [⟨w.heap.size, K, false, []⟩]) (s.h ++ [.row E r]) o loc E' r' → (live ρ s.h o loc E' r') ∨ (o = s.h.length ∧ loc = ⟨w.heap.size, K, false, []⟩ ∧ E' = E ∧ r' = r) := by
    intro o loc E' r' ⟨h1, h2⟩
    rcases Nat.lt_or_ge o s.h.length with ho | ho
    · rw [List.getElem?_append_left ho] at h1
      rw [List.getElem?_append_left (by rw [hI.len]; exact ho)] at h2
      exact .inl ⟨h1, h2⟩
    · rw [List.getElem?_append_right ho] at h1
      rw [List.getElem?_append_right (by rw [hI.len]; exact ho)] at h2
      obtain ⟨d, hd⟩ : ∃ d, o = s.h.length + d := ⟨o - s.h.length, by omega⟩
      subst hd
      rw [hI.len] at h2
      simp only [Nat.add_sub_cancel_left] at h1 h2
      cases d with
      | zero => simp at h1 h2; exact .inr ⟨rfl, h2.symm, h1.1.symm, h1.2.symm⟩
      | succ d => simp at h1
  have hS : Same w (w.alloc ob) (okB ρ s.h) (okB (ρ ++ [⟨w.heap.size, K, false, []⟩]) (s.h ++ [.row E r])) := by
    refine ⟨by simp, fun k hk hok => ⟨Below.heap_alloc w _ k hk, fun o loc E' r' hlv hz => ?_⟩⟩
    rcases live_old hlv with h | ⟨_, rfl, _⟩
    · exact hok o loc E' r' h hz
    · have := (Loc.has_one hz).2; omega
  refine hI.step ⟨rfl, rfl, rfl, by simp, fun k hk _ => Below.heap_alloc w _ k hk⟩ hS hI.pin_app (by simp [hI.len]) ?_ ?_ rfl ?_
  · intro o loc E' r' hlv
    rcases live_old hlv with h | ⟨_, rfl, rfl, rfl⟩
    · obtain ⟨h1, h2⟩ := hI.obj o loc E' r' h
      exact ⟨h1.same hS.o (fun k hz => Below.heap_alloc w _ _ (hI.block h hz)), fun k hk => ⟨(h2 k hk).1, by have := (h2 k hk).2; simp; omega⟩⟩
    · refine ⟨hX _ hS.o, fun k hk => ?_⟩
      obtain ⟨_, rfl⟩ := Loc.has_one hk
      exact ⟨.inr hI.keep.size, by simp⟩
  · intro o o' loc loc' E1 E2 r1 r2 k h1 h2 hz hz'
    rcases live_old h1 with h1 | ⟨rfl, rfl, _⟩ <;> rcases live_old h2 with h2 | ⟨rfl, rfl, _⟩
    · exact hI.inj _ _ _ _ _ _ _ _ _ h1 h2 hz hz'
    · have := hI.block h1 hz; have := (Loc.has_one hz').2; omega
    · have := hI.block h2 hz'; have := (Loc.has_one hz).2; omega
    · rfl
  · intro i x hx
    refine .inr ⟨hx, ⟨by simp, fun o _ ho E' r' hr' => ?_⟩⟩
    rw [List.getElem?_append_left ho] at hr'
    exact ⟨List.getElem?_append_left (by rw [hI.len]; exact ho), E', r', hr', rfl, rfl⟩

theorem Inv.alloc (hI : Inv w0 S0 ρ s a w) {cur : Array Value} {E : Nat} {r : Row} {cs : List Value} (hr : RC w (okO w0 S0 ρ s.h) r cs) (hl : cs.length ≤ cur.size) (ht : cur.toList.take cs.length = cs) :
    Inv w0 S0 (ρ ++ [⟨w.heap.size, cur.size, false, []⟩]) ⟨s.t, s.h ++ [.row E r]⟩ a (w.alloc (.cells cur E)) :=
  hI.allocX fun _ hS => .inr ⟨rfl, .inl ⟨cur, cs, heap_alloc_new w _, rfl, hr.same hS, hl, ht⟩⟩

/-- An object is handed over to be read alone. -/
theorem okB_kill {hp : List AO} {o k : Nat} (h : okB ρ hp k) : okB ρ (hp.set o .dead) k := by
  intro o' loc E r ⟨h1, h2⟩ hz
  rw [List.getElem?_set] at h1
  split at h1
  · split at h1 <;> cases h1
  · exact h o' loc E r ⟨h1, h2⟩ hz

theorem live_kill {h : List AO} {o o' E : Nat} {loc : Loc} {r : Row} (hl : live ρ (h.set o .dead) o' loc E r) : o' ≠ o ∧ live ρ h o' loc E r := by
  obtain ⟨h1, h2⟩ := hl
  rw [List.getElem?_set] at h1
  split at h1
  · split at h1 <;> cases h1
  · rename_i hne
    exact ⟨fun e => hne e.symm, h1, h2⟩

theorem Inv.kill (hI : Inv w0 S0 ρ s a w) (o : Nat) : Inv w0 S0 ρ ⟨s.t, s.h.set o .dead⟩ a w := by
  have hS : Same w w (okB ρ s.h) (okB ρ (s.h.set o .dead)) := ⟨Nat.le_refl _, fun k _ hok => ⟨rfl, okB_kill hok⟩⟩
  refine hI.step (Keeps.refl _ _) hS hI.pin (by simp [hI.len]) ?_ ?_ rfl ?_
  · intro o' loc E r hl
    obtain ⟨_, hl⟩ := live_kill hl
    obtain ⟨h1, h2⟩ := hI.obj _ _ _ _ hl
    exact ⟨h1.same hS.o (fun _ _ => rfl), h2⟩
  · intro o1 o2 l1 l2 E1 E2 r1 r2 k h1 h2 hz hz'
    exact hI.inj _ _ _ _ _ _ _ _ _ (live_kill h1).2 (live_kill h2).2 hz hz'
  · intro i x hx
    refine .inr ⟨hx, ⟨by simp, fun o' _ ho E' r' hr' => ?_⟩⟩
    rw [List.getElem?_set] at hr'
    split at hr'
    · split at hr' <;> cases hr'
    · exact ⟨rfl, E', r', hr', rfl, rfl⟩

theorem live_set {h : List AO} {o o' E E' : Nat} {loc : Loc} {r r' : Row} (hl : live ρ (h.set o (.row E r)) o' loc E' r') : (o' = o ∧ E' = E ∧ r' = r ∧ ρ[o]? = some loc) ∨ (o' ≠ o ∧ live ρ h o' loc E' r') := by
  obtain ⟨h1, h2⟩ := hl
  rw [List.getElem?_set] at h1
  split at h1
  · rename_i he
    subst he
    split at h1
    · simp at h1; exact .inl ⟨rfl, h1.1.symm, h1.2.symm, h2⟩
    · cases h1
  · rename_i hne
    exact .inr ⟨fun e => hne e.symm, h1, h2⟩

/-- An object is written in place. -/
theorem Inv.writeX (hI : Inv w0 S0 ρ s a w) {o E : Nat} {loc : Loc} {r r' : Row} (hl : live ρ s.h o loc E r) (hz : loc.z = false) (hn : nl r' = nl r) (hw : wd r' = wd r)
    (h1 : w'.os = w.os) (h2 : w'.tape = w.tape) (h3 : w'.output = w.output) (h4 : w'.heap.size = w.heap.size) (h5 : ∀ k, k ≠ loc.g → w'.heap[k]? = w.heap[k]?)
    (h6 : ∀ ok', Same w w' (okO w0 S0 ρ s.h) ok' → ObjOK w' ok' loc E r') :
    Inv w0 S0 ρ ⟨s.t, s.h.set o (.row E r')⟩ a w' := by
  have hold := hI.obj _ _ _ _ hl
  have hok : ∀ k, okB ρ s.h k → okB ρ (s.h.set o (.row E r')) k := by
    intro k hk o' loc' E' r2 hlv hz'
    rcases live_set hlv with ⟨rfl, _, _, he⟩ | ⟨_, hlv⟩
    · have : loc' = loc := by have := he.symm.trans hl.2; simpa using this
      subst this
      exact hk _ _ _ _ hl hz'
    · exact hk _ _ _ _ hlv hz'
  have hS : Same w w' (okB ρ s.h) (okB ρ (s.h.set o (.row E r'))) :=
    ⟨by omega, fun k _ hk => ⟨h5 k (fun e => hk _ _ _ _ hl ⟨hz, .inl e⟩), hok k hk⟩⟩
  refine hI.step ⟨h1, h2, h3, by omega, fun k _ hk => h5 k (fun e => hk (hold.2 k ⟨hz, .inl e⟩).1)⟩ hS hI.pin (by simp [hI.len]) ?_ ?_ rfl ?_
  · intro o' loc' E' r2 hlv
    rcases live_set hlv with ⟨rfl, rfl, rfl, he⟩ | ⟨hne, hlv⟩
    · have : loc' = loc := by have := he.symm.trans hl.2; simpa using this
      subst this
      exact ⟨h6 _ hS.o, fun k hk => ⟨(hold.2 k hk).1, by have := (hold.2 k hk).2; omega⟩⟩
    · obtain ⟨g1, g2⟩ := hI.obj _ _ _ _ hlv
      exact ⟨g1.same hS.o (fun k hz' => h5 _ (fun e => hne (hI.inj _ _ _ _ _ _ _ _ k hlv hl hz' ⟨hz, .inl e⟩))), fun k hk => ⟨(g2 k hk).1, by have := (g2 k hk).2; omega⟩⟩
  · intro o1 o2 l1 l2 E1 E2 r1 r2 k g1 g2 z1 z2
    have back : ∀ {o' loc' E' r2}, live ρ (s.h.set o (.row E r')) o' loc' E' r2 → ∃ E3 r3, live ρ s.h o' loc' E3 r3 := by
      intro o' loc' E' r2 hlv
      rcases live_set hlv with ⟨rfl, rfl, rfl, he⟩ | ⟨hne, hlv⟩
      · exact ⟨_, _, hl.1, he⟩
      · exact ⟨_, _, hlv⟩
    obtain ⟨_, _, g1⟩ := back g1
    obtain ⟨_, _, g2⟩ := back g2
    exact hI.inj _ _ _ _ _ _ _ _ _ g1 g2 z1 z2
  · intro i x hx
    refine .inr ⟨hx, ⟨by simp, fun o' _ ho E' r2 hr2 => ⟨rfl, ?_⟩⟩⟩
    rw [List.getElem?_set] at hr2
    split at hr2
    · rename_i he
      subst he
      split at hr2
      · simp at hr2
        obtain ⟨rfl, rfl⟩ := hr2
        exact ⟨_, _, hl.1, hn.symm, hw.symm⟩
      · rename_i hh; exact absurd ho hh
    · exact ⟨E', r2, hr2, rfl, rfl⟩

theorem Inv.write (hI : Inv w0 S0 ρ s a w) {o E : Nat} {loc : Loc} {r r' : Row} {cur' : Array Value} {cs' : List Value} (hl : live ρ s.h o loc E r) (hz : loc.z = false) (hn : nl r' = nl r) (hw : wd r' = wd r)
    (h1 : w'.os = w.os) (h2 : w'.tape = w.tape) (h3 : w'.output = w.output) (h4 : w'.heap.size = w.heap.size) (h5 : ∀ k, k ≠ loc.g → w'.heap[k]? = w.heap[k]?)
    (h6 : w'.heap[loc.g]? = some (.cells cur' E (0, 0))) (h7 : cur'.size = loc.K) (h8 : RC w (okO w0 S0 ρ s.h) r' cs') (h9 : cur'.toList.take cs'.length = cs') (h10 : cs'.length ≤ loc.K) :
    Inv w0 S0 ρ ⟨s.t, s.h.set o (.row E r')⟩ a w' :=
  hI.writeX hl hz hn hw h1 h2 h3 h4 h5 fun _ hS => .inr ⟨hz, .inl ⟨cur', cs', h6, h7, h8.same hS, h10, h9⟩⟩

/-- The block that an append may write. -/
def rowOf (loc : Loc) : Option Nat := if loc.z then none else some loc.g

/-- An object is moved, its old handles forgotten. -/
theorem Inv.moveX (hI : Inv w0 S0 ρ s a w) {o E E0 : Nat} (hp : o ≠ 0) {loc loc' : Loc} {r r' : Row} (hl : live ρ s.h o loc E0 r)
    (hg : w.grownBy w' (rowOf loc)) (hnew : ∀ k, loc'.has k → loc.has k ∨ (w.heap.size ≤ k ∧ k < w'.heap.size))
    (h6 : ∀ ok', Same w w' (okO w0 S0 ρ s.h) ok' → ObjOK w' ok' loc' E r') :
    Inv w0 S0 (ρ.set o loc') ⟨s.t.map (clr o), s.h.set o (.row E r')⟩ a w' := by
  have hold := hI.obj _ _ _ _ hl
  have hol : o < ρ.length := by rw [hI.len]; exact hI.lt hl
  have hrow : ∀ k, some k = rowOf loc → loc.has k := by
    intro k hk
    unfold rowOf at hk
    split at hk
    · cases hk
    · rename_i h; exact ⟨by simpa using h, .inl (by simpa using hk)⟩
  have cases' : ∀ {o' l E' r2}, live (ρ.set o loc') (s.h.set o (.row E r')) o' l E' r2 → (o' = o ∧ l = loc' ∧ E' = E ∧ r2 = r') ∨ (o' ≠ o ∧ live ρ s.h o' l E' r2) := by
    intro o' l E' r2 hlv
    rcases live_set hlv with ⟨rfl, rfl, rfl, he⟩ | ⟨hne, h1, h2⟩
    · rw [List.getElem?_set_self hol] at he
      simp at he
      exact .inl ⟨rfl, he.symm, rfl, rfl⟩
    · rw [List.getElem?_set_ne (fun e => hne e.symm)] at h2
      exact .inr ⟨hne, h1, h2⟩
  have hok : ∀ k, k < w.heap.size → okB ρ s.h k → okB (ρ.set o loc') (s.h.set o (.row E r')) k := by
    intro k hk1 hk o' l E' r2 hlv hlz
    rcases cases' hlv with ⟨rfl, rfl, rfl, rfl⟩ | ⟨_, hlv⟩
    · rcases hnew k hlz with e | ⟨e, _⟩
      · exact hk _ _ _ _ hl e
      · omega
    · exact hk _ _ _ _ hlv hlz
  have hS : Same w w' (okB ρ s.h) (okB (ρ.set o loc') (s.h.set o (.row E r'))) :=
    ⟨hg.size, fun k hk1 hk => ⟨hg.block k hk1 (fun e => hk _ _ _ _ hl (hrow k e)), hok k hk1 hk⟩⟩
  refine hI.step ⟨hg.os, hg.tape, hg.output, hg.size, fun k hk1 hk => hg.block k hk1 (fun e => hk (hold.2 k (hrow k e)).1)⟩ hS (fun l hl' => by rw [List.getElem?_set_ne hp]; exact hI.pin l hl') (by simp [hI.len]) ?_ ?_ (by simp) ?_
  · intro o' l E' r2 hlv
    rcases cases' hlv with ⟨rfl, rfl, rfl, rfl⟩ | ⟨hne, hlv⟩
    · refine ⟨h6 _ hS.o, fun k hk => ?_⟩
      rcases hnew k hk with e | ⟨e, e2⟩
      · have := hold.2 k e
        exact ⟨this.1, Nat.lt_of_lt_of_le this.2 hg.size⟩
      · exact ⟨.inr (Nat.le_trans hI.keep.size e), e2⟩
    · obtain ⟨g1, g2⟩ := hI.obj _ _ _ _ hlv
      exact ⟨g1.same hS.o (fun k hlz => hg.block _ (hI.block hlv hlz) (fun e => hne (hI.inj _ _ _ _ _ _ _ _ k hlv hl hlz (hrow k e)))), fun k hk => ⟨(g2 k hk).1, Nat.lt_of_lt_of_le (g2 k hk).2 hg.size⟩⟩
  · intro o1 o2 l1 l2 E1 E2 r1 r2 k g1 g2 z1 z2
    rcases cases' g1 with ⟨rfl, rfl, rfl, rfl⟩ | ⟨hne1, q1⟩ <;> rcases cases' g2 with ⟨rfl, rfl, rfl, rfl⟩ | ⟨hne2, q2⟩
    · rfl
    · rcases hnew k z1 with e | ⟨e, _⟩
      · exact absurd (hI.inj _ _ _ _ _ _ _ _ k q2 hl z2 e) hne2
      · have := hI.block q2 z2; omega
    · rcases hnew k z2 with e | ⟨e, _⟩
      · exact absurd (hI.inj _ _ _ _ _ _ _ _ k q1 hl z1 e) hne1
      · have := hI.block q1 z1; omega
    · exact hI.inj _ _ _ _ _ _ _ _ k q1 q2 z1 z2
  · intro i x hx
    rw [List.getElem?_map] at hx
    cases hsx : s.t[i]? with
    | none => rw [hsx] at hx; cases hx
    | some y =>
      rw [hsx] at hx
      simp at hx
      have key : clr o y = .undef ∨ (clr o y = y ∧ ¬ uses y o) := by
        cases y <;> simp only [clr, uses, not_false_eq_true, and_self, or_true, true_or, and_true] <;> try (first | exact .inl trivial | exact .inr trivial)
        all_goals
          split
          · exact .inl rfl
          · rename_i hb
            refine .inr ⟨rfl, fun e => ?_⟩
            subst e
            simp at hb
      rcases key with k1 | ⟨k1, k2⟩
      · exact .inl (by rw [← hx]; exact k1)
      · rw [k1] at hx
        subst hx
        refine .inr ⟨rfl, ⟨by simp, fun o' hu ho E' r2 hr2 => ?_⟩⟩
        have hne : o ≠ o' := fun e => k2 (e ▸ hu)
        rw [List.getElem?_set_ne hne] at hr2
        exact ⟨List.getElem?_set_ne hne, E', r2, hr2, rfl, rfl⟩

/-- As 'moveX'; another object's blocks are taken along. -/
theorem Inv.moveK (hI : Inv w0 S0 ρ s a w) {o E E0 : Nat} (hp : o ≠ 0) {loc loc' : Loc} {r r' : Row} (hl : live ρ s.h o loc E0 r) {o2 E2 : Nat} (hne2 : o ≠ o2) {loc2 : Loc} {q2 : Row} (hl2 : live ρ s.h o2 loc2 E2 q2)
    (hg : w.grownBy w' (rowOf loc)) (hnew : ∀ k, loc'.has k → loc.has k ∨ loc2.has k ∨ (w.heap.size ≤ k ∧ k < w'.heap.size))
    (h6 : ∀ ok', Same w w' (okO w0 S0 ρ s.h) ok' → ObjOK w' ok' loc' E r') :
    Inv w0 S0 (ρ.set o loc') ⟨s.t.map (clr o), (s.h.set o2 .dead).set o (.row E r')⟩ a w' := by
  have hold := hI.obj _ _ _ _ hl
  have hold2 := hI.obj _ _ _ _ hl2
  have hol : o < ρ.length := by rw [hI.len]; exact hI.lt hl
  have hrow : ∀ k, some k = rowOf loc → loc.has k := by
    intro k hk
    unfold rowOf at hk
    split at hk
    · cases hk
    · rename_i h; exact ⟨by simpa using h, .inl (by simpa using hk)⟩
  have cases' : ∀ {o' l E' r2}, live (ρ.set o loc') ((s.h.set o2 .dead).set o (.row E r')) o' l E' r2 → (o' = o ∧ l = loc' ∧ E' = E ∧ r2 = r') ∨ (o' ≠ o ∧ o' ≠ o2 ∧ live ρ s.h o' l E' r2) := by
    intro o' l E' r2 hlv
    rcases live_set hlv with ⟨rfl, rfl, rfl, he⟩ | ⟨hne, h1, h2⟩
    · rw [List.getElem?_set_self hol] at he
      simp at he
      exact .inl ⟨rfl, he.symm, rfl, rfl⟩
    · rw [List.getElem?_set_ne (fun e => hne e.symm)] at h2
      obtain ⟨h3, h4⟩ := live_kill ⟨h1, h2⟩
      exact .inr ⟨hne, h3, h4⟩
  have hok : ∀ k, k < w.heap.size → okB ρ s.h k → okB (ρ.set o loc') ((s.h.set o2 .dead).set o (.row E r')) k := by
    intro k hk1 hk o' l E' r2 hlv hlz
    rcases cases' hlv with ⟨rfl, rfl, rfl, rfl⟩ | ⟨_, _, hlv⟩
    · rcases hnew k hlz with e | e | ⟨e, _⟩
      · exact hk _ _ _ _ hl e
      · exact hk _ _ _ _ hl2 e
      · omega
    · exact hk _ _ _ _ hlv hlz
  have hS : Same w w' (okB ρ s.h) (okB (ρ.set o loc') ((s.h.set o2 .dead).set o (.row E r'))) :=
    ⟨hg.size, fun k hk1 hk => ⟨hg.block k hk1 (fun e => hk _ _ _ _ hl (hrow k e)), hok k hk1 hk⟩⟩
  refine hI.step ⟨hg.os, hg.tape, hg.output, hg.size, fun k hk1 hk => hg.block k hk1 (fun e => hk (hold.2 k (hrow k e)).1)⟩ hS (fun l hl' => by rw [List.getElem?_set_ne hp]; exact hI.pin l hl') (by simp [hI.len]) ?_ ?_ (by simp) ?_
  · intro o' l E' r2 hlv
    rcases cases' hlv with ⟨rfl, rfl, rfl, rfl⟩ | ⟨hne, _, hlv⟩
    · refine ⟨h6 _ hS.o, fun k hk => ?_⟩
      rcases hnew k hk with e | e | ⟨e, e2⟩
      · have := hold.2 k e
        exact ⟨this.1, Nat.lt_of_lt_of_le this.2 hg.size⟩
      · have := hold2.2 k e
        exact ⟨this.1, Nat.lt_of_lt_of_le this.2 hg.size⟩
      · exact ⟨.inr (Nat.le_trans hI.keep.size e), e2⟩
    · obtain ⟨g1, g2⟩ := hI.obj _ _ _ _ hlv
      exact ⟨g1.same hS.o (fun k hlz => hg.block _ (hI.block hlv hlz) (fun e => hne (hI.inj _ _ _ _ _ _ _ _ k hlv hl hlz (hrow k e)))), fun k hk => ⟨(g2 k hk).1, Nat.lt_of_lt_of_le (g2 k hk).2 hg.size⟩⟩
  · intro o1 o2 l1 l2 E1 E2 r1 r2 k g1 g2 z1 z2
    rcases cases' g1 with ⟨rfl, rfl, rfl, rfl⟩ | ⟨hne1, hme1, q1⟩ <;> rcases cases' g2 with ⟨rfl, rfl, rfl, rfl⟩ | ⟨hne2', hme2, q2⟩
    · rfl
    · rcases hnew k z1 with e | e | ⟨e, _⟩
      · exact absurd (hI.inj _ _ _ _ _ _ _ _ k q2 hl z2 e) hne2'
      · exact absurd (hI.inj _ _ _ _ _ _ _ _ k q2 hl2 z2 e) hme2
      · have := hI.block q2 z2; omega
    · rcases hnew k z2 with e | e | ⟨e, _⟩
      · exact absurd (hI.inj _ _ _ _ _ _ _ _ k q1 hl z1 e) hne1
      · exact absurd (hI.inj _ _ _ _ _ _ _ _ k q1 hl2 z1 e) hme1
      · have := hI.block q1 z1; omega
    · exact hI.inj _ _ _ _ _ _ _ _ k q1 q2 z1 z2
  · intro i x hx
    rw [List.getElem?_map] at hx
    cases hsx : s.t[i]? with
    | none => rw [hsx] at hx; cases hx
    | some y =>
      rw [hsx] at hx
      simp at hx
      have key : clr o y = .undef ∨ (clr o y = y ∧ ¬ uses y o) := by
        cases y <;> simp only [clr, uses, not_false_eq_true, and_self, or_true, true_or, and_true] <;> try (first | exact .inl trivial | exact .inr trivial)
        all_goals
          split
          · exact .inl rfl
          · rename_i hb
            refine .inr ⟨rfl, fun e => ?_⟩
            subst e
            simp at hb
      rcases key with k1 | ⟨k1, k2⟩
      · exact .inl (by rw [← hx]; exact k1)
      · rw [k1] at hx
        subst hx
        refine .inr ⟨rfl, ⟨by simp, fun o' hu ho E' r2 hr2 => ?_⟩⟩
        have hne : o ≠ o' := fun e => k2 (e ▸ hu)
        rw [List.getElem?_set_ne hne, List.getElem?_set] at hr2
        split at hr2
        · split at hr2 <;> cases hr2
        · exact ⟨List.getElem?_set_ne hne, E', r2, hr2, rfl, rfl⟩

/-- A new object that takes an object's blocks along. -/
theorem Inv.allocK (hI : Inv w0 S0 ρ s a w) {o1 E1 : Nat} {l1 : Loc} {q1 : Row} (hl : live ρ s.h o1 l1 E1 q1) {ob : Obj} {K E : Nat} {r : Row} {ks : List Nat} (hks : ∀ k ∈ ks, l1.has k)
    (hX : ∀ ok', ObjOK (w.alloc ob) ok' ⟨w.heap.size, K, false, ks⟩ E r) :
    Inv w0 S0 (ρ ++ [⟨w.heap.size, K, false, ks⟩]) ⟨s.t, s.h.set o1 .dead ++ [.row E r]⟩ a (w.alloc ob) := by
  have hold := hI.obj _ _ _ _ hl
  have hln : (s.h.set o1 .dead).length = s.h.length := by simp
  have live_old : ∀ {o loc E' r'}, live (ρ ++ [⟨w.heap.size, K, false, ks⟩]) (s.h.set o1 .dead ++ [.row E r]) o loc E' r' → (o ≠ o1 ∧ live ρ s.h o loc E' r') ∨ (o = s.h.length ∧ loc = ⟨w.heap.size, K, false, ks⟩ ∧ E' = E ∧ r' = r) := by
    intro o loc E' r' ⟨h1, h2⟩
    rcases Nat.lt_or_ge o s.h.length with ho | ho
    · rw [List.getElem?_append_left (by rw [hln]; exact ho)] at h1
      rw [List.getElem?_append_left (by rw [hI.len]; exact ho)] at h2
      exact .inl (live_kill ⟨h1, h2⟩)
    · rw [List.getElem?_append_right (by rw [hln]; exact ho), hln] at h1
      rw [List.getElem?_append_right (by rw [hI.len]; exact ho)] at h2
      obtain ⟨d, hd⟩ : ∃ d, o = s.h.length + d := ⟨o - s.h.length, by omega⟩
      subst hd
      rw [hI.len] at h2
      simp only [Nat.add_sub_cancel_left] at h1 h2
      cases d with
      | zero => simp at h1 h2; exact .inr ⟨rfl, h2.symm, h1.1.symm, h1.2.symm⟩
      | succ d => simp at h1
  have hhas : ∀ {k}, (Loc.mk w.heap.size K false ks).has k → k = w.heap.size ∨ l1.has k := by
    rintro k ⟨_, h | h⟩
    · exact .inl h
    · exact .inr (hks k h)
  have hS : Same w (w.alloc ob) (okB ρ s.h) (okB (ρ ++ [⟨w.heap.size, K, false, ks⟩]) (s.h.set o1 .dead ++ [.row E r])) := by
    refine ⟨by simp, fun k hk hok => ⟨Below.heap_alloc w _ k hk, fun o loc E' r' hlv hz => ?_⟩⟩
    rcases live_old hlv with ⟨_, h⟩ | ⟨_, rfl, _⟩
    · exact hok o loc E' r' h hz
    · rcases hhas hz with h | h
      · omega
      · exact hok _ _ _ _ hl h
  refine hI.step ⟨rfl, rfl, rfl, by simp, fun k hk _ => Below.heap_alloc w _ k hk⟩ hS hI.pin_app (by simp [hI.len]) ?_ ?_ rfl ?_
  · intro o loc E' r' hlv
    rcases live_old hlv with ⟨_, h⟩ | ⟨_, rfl, rfl, rfl⟩
    · obtain ⟨h1, h2⟩ := hI.obj o loc E' r' h
      exact ⟨h1.same hS.o (fun k hz => Below.heap_alloc w _ _ (hI.block h hz)), fun k hk => ⟨(h2 k hk).1, by have := (h2 k hk).2; simp; omega⟩⟩
    · refine ⟨hX _, fun k hk => ?_⟩
      rcases hhas hk with rfl | h
      · exact ⟨.inr hI.keep.size, by simp⟩
      · exact ⟨(hold.2 k h).1, by have := (hold.2 k h).2; simp; omega⟩
  · intro o o' loc loc' E1 E2 r1 r2 k h1 h2 hz hz'
    rcases live_old h1 with ⟨n1, h1⟩ | ⟨rfl, rfl, _⟩ <;> rcases live_old h2 with ⟨n2, h2⟩ | ⟨rfl, rfl, _⟩
    · exact hI.inj _ _ _ _ _ _ _ _ _ h1 h2 hz hz'
    · rcases hhas hz' with e | e
      · have := hI.block h1 hz; omega
      · exact absurd (hI.inj _ _ _ _ _ _ _ _ _ h1 hl hz e) n1
    · rcases hhas hz with e | e
      · have := hI.block h2 hz'; omega
      · exact absurd (hI.inj _ _ _ _ _ _ _ _ _ h2 hl hz' e) n2
    · rfl
  · intro i x hx
    refine .inr ⟨hx, ⟨by simp, fun o _ ho E' r' hr' => ?_⟩⟩
    rw [List.getElem?_append_left (by rw [hln]; exact ho), List.getElem?_set] at hr'
    split at hr'
    · split at hr' <;> cases hr'
    · exact ⟨List.getElem?_append_left (by rw [hI.len]; exact ho), E', r', hr', rfl, rfl⟩

theorem Inv.move (hI : Inv w0 S0 ρ s a w) {o E : Nat} (hp : o ≠ 0) {loc loc' : Loc} {r r' : Row} (hl : live ρ s.h o loc E r)
    (hg : w.grownBy w' (rowOf loc)) (hks : loc'.ks = []) (hnew : loc'.z = false → (loc.z = false ∧ loc'.g = loc.g) ∨ loc'.g = w.heap.size)
    (hz' : loc'.z = true → nl r' = 0)
    (h6 : loc'.z = false → ∃ cur' cs', w'.heap[loc'.g]? = some (.cells cur' E (0, 0)) ∧ cur'.size = loc'.K ∧ RC w (okO w0 S0 ρ s.h) r' cs' ∧ cur'.toList.take cs'.length = cs' ∧ cs'.length ≤ loc'.K) :
    Inv w0 S0 (ρ.set o loc') ⟨s.t.map (clr o), s.h.set o (.row E r')⟩ a w' := by
  refine hI.moveX hp hl hg (fun k hk => ?_) (fun ok' hS => ?_)
  · obtain ⟨hz, h1 | h1⟩ := hk
    · subst h1
      rcases hnew hz with ⟨e1, e⟩ | e
      · rw [e]; exact .inl (Loc.has_g e1)
      · obtain ⟨_, _, q, _⟩ := h6 hz
        exact .inr ⟨by omega, (Array.getElem?_eq_some_iff.1 q).1⟩
    · rw [hks] at h1; cases h1
  · cases hzz : loc'.z with
    | true => exact .inl ⟨hzz, hz' hzz⟩
    | false =>
      obtain ⟨cur', cs', q1, q2, q3, q4, q5⟩ := h6 hzz
      exact .inr ⟨hzz, .inl ⟨cur', cs', q1, q2, q3.same hS, q5, q4⟩⟩

/-- A row that a call made takes the place of object o. -/
theorem Inv.place {o : Nat} {loc' : Loc} {E : Nat} {r' : Row} (hp : o ≠ 0) (ho : o < s.h.length) (hI0 : Inv w0 S0 ρ s a w) (hb : Below w.heap.size w w') (hnew : ∀ k, loc'.has k → w.heap.size ≤ k)
    (hI : Inv w0 S0 (ρ ++ [loc']) ⟨s.t, s.h ++ [.row E r']⟩ a w') :
    Inv w0 S0 (ρ.set o loc') ⟨s.t.map (clr o), s.h.set o (.row E r')⟩ a w' := by
  have hρ := hI0.len
  have new : live (ρ ++ [loc']) (s.h ++ [.row E r']) s.h.length loc' E r' := ⟨by simp, by rw [← hρ]; simp⟩
  have old : ∀ {o' l E' r2}, live ρ s.h o' l E' r2 → live (ρ ++ [loc']) (s.h ++ [.row E r']) o' l E' r2 := by
    intro o' l E' r2 ⟨h1, h2⟩
    have hl : o' < s.h.length := (List.getElem?_eq_some_iff.1 h1).1
    exact ⟨by rw [List.getElem?_append_left hl]; exact h1, by rw [List.getElem?_append_left (by omega)]; exact h2⟩
  have cases' : ∀ {o' l E' r2}, live (ρ.set o loc') (s.h.set o (.row E r')) o' l E' r2 → (o' = o ∧ l = loc' ∧ E' = E ∧ r2 = r') ∨ (o' ≠ o ∧ live ρ s.h o' l E' r2) := by
    intro o' l E' r2 hlv
    rcases live_set hlv with ⟨rfl, rfl, rfl, he⟩ | ⟨hne, h1, h2⟩
    · rw [List.getElem?_set_self (by omega)] at he
      simp at he
      exact .inl ⟨rfl, he.symm, rfl, rfl⟩
    · rw [List.getElem?_set_ne (fun e => hne e.symm)] at h2
      exact .inr ⟨hne, h1, h2⟩
  have hok : ∀ k, okB (ρ ++ [loc']) (s.h ++ [.row E r']) k → okB (ρ.set o loc') (s.h.set o (.row E r')) k := by
    intro k hk o' l E' r2 hlv hlz
    rcases cases' hlv with ⟨rfl, rfl, rfl, rfl⟩ | ⟨_, hlv⟩
    · exact hk _ _ _ _ new hlz
    · exact hk _ _ _ _ (old hlv) hlz
  have hS1 : Same w' w' (okB (ρ ++ [loc']) (s.h ++ [.row E r'])) (okB (ρ.set o loc') (s.h.set o (.row E r'))) := same_weak hok
  have hS : Same w w' (okB ρ s.h) (okB (ρ.set o loc') (s.h.set o (.row E r'))) := by
    refine ⟨hb.size, fun k hk hok => ⟨hb.block k hk, fun o' l E' r2 hlv hlz => ?_⟩⟩
    rcases cases' hlv with ⟨rfl, rfl, rfl, rfl⟩ | ⟨_, hlv⟩
    · have := hnew _ hlz; omega
    · exact hok _ _ _ _ hlv hlz
  refine hI0.step ⟨hb.os, hb.tape, hb.output, hb.size, fun k hk _ => hb.block k hk⟩ hS (fun l hl' => ?_) (by simp [hρ]) ?_ ?_ (by simp) ?_
  · rw [List.getElem?_set_ne hp]; exact hI0.pin l hl'
  · intro o' l E' r2 hlv
    rcases cases' hlv with ⟨rfl, rfl, rfl, rfl⟩ | ⟨_, hlv⟩
    · obtain ⟨g1, g2⟩ := hI.obj _ _ _ _ new
      exact ⟨g1.same hS1.o (fun _ _ => rfl), g2⟩
    · obtain ⟨g1, g2⟩ := hI.obj _ _ _ _ (old hlv)
      exact ⟨g1.same hS1.o (fun _ _ => rfl), g2⟩
  · intro o1 o2 l1 l2 E1 E2 r1 r2 k g1 g2 z1 z2
    rcases cases' g1 with ⟨rfl, rfl, rfl, rfl⟩ | ⟨hne1, q1⟩ <;> rcases cases' g2 with ⟨rfl, rfl, rfl, rfl⟩ | ⟨hne2, q2⟩
    · rfl
    · have := hI.inj _ _ _ _ _ _ _ _ k new (old q2) z1 z2
      have h1 := (List.getElem?_eq_some_iff.1 q2.1).1
      omega
    · have := hI.inj _ _ _ _ _ _ _ _ k (old q1) new z1 z2
      have h1 := (List.getElem?_eq_some_iff.1 q1.1).1
      omega
    · exact hI.inj _ _ _ _ _ _ _ _ k (old q1) (old q2) z1 z2
  · intro i x hx
    rw [List.getElem?_map] at hx
    cases hsx : s.t[i]? with
    | none => rw [hsx] at hx; cases hx
    | some y =>
      rw [hsx] at hx
      simp at hx
      have key : clr o y = .undef ∨ (clr o y = y ∧ ¬ uses y o) := by
        cases y <;> simp only [clr, uses, not_false_eq_true, and_self, or_true, true_or, and_true] <;> try (first | exact .inl trivial | exact .inr trivial)
        all_goals
          split
          · exact .inl rfl
          · rename_i hb
            refine .inr ⟨rfl, fun e => ?_⟩
            subst e
            simp at hb
      rcases key with k1 | ⟨k1, k2⟩
      · exact .inl (by rw [← hx]; exact k1)
      · rw [k1] at hx
        subst hx
        refine .inr ⟨rfl, ⟨by simp, fun o' hu ho E' r2 hr2 => ?_⟩⟩
        have hne : o ≠ o' := fun e => k2 (e ▸ hu)
        rw [List.getElem?_set_ne hne] at hr2
        exact ⟨List.getElem?_set_ne hne, E', r2, hr2, rfl, rfl⟩

end
end Go.Ab
