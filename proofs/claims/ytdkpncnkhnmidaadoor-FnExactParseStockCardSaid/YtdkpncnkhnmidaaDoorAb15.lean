/-
  SOUNDNESS: weakening, loops, bodies; a contract from the abstract evaluation of a body.
-/
import Derived.Test.YtdkpncnkhnmidaaDoorAb14
import Derived.Deep.LoopGhost
set_option linter.unusedSimpArgs false
set_option linter.unusedVariables false
namespace Go.Ab
open Go.RowKit

section
variable {P : Program} {tt : Nat → TI} {T : Nat → List AV → CR} {w0 w w' : World} {S0 : Base} {ρ ρ' : List Loc} {s s' : St} {a : Act}

theorem wkH_spec : ∀ {x y : List AO}, wkH x y → ∀ o E r, y[o]? = some (.row E r) → x[o]? = some (.row E r) ∨ (x.length ≤ o ∧ nl r = 0)
  | _, [], _, o, E, r, h => by simp at h
  | a :: x, .dead :: y, hw, 0, E, r, h => by simp at h
  | a :: x, .dead :: y, hw, o + 1, E, r, h => by
    have := wkH_spec (x := x) (y := y) hw o E r (by simpa using h)
    simpa using this
  | [], .dead :: y, hw, 0, E, r, h => by simp at h
  | [], .dead :: y, hw, o + 1, E, r, h => by
    have := wkH_spec (x := []) (y := y) hw o E r (by simpa using h)
    rcases this with h1 | h1
    · simp at h1
    · exact .inr ⟨by simp, h1.2⟩
  | a :: x, .row E' r' :: y, hw, 0, E, r, h => by
    obtain ⟨rfl, _⟩ := hw
    simp at h
    exact .inl (by simp [h])
  | a :: x, .row E' r' :: y, hw, o + 1, E, r, h => by
    have := wkH_spec (x := x) (y := y) hw.2 o E r (by simpa using h)
    simpa using this
  | [], .row E' r' :: y, hw, 0, E, r, h => by
    simp at h
    obtain ⟨rfl, rfl⟩ := h
    exact .inr ⟨by simp, hw.1⟩
  | [], .row E' r' :: y, hw, o + 1, E, r, h => by
    have := wkH_spec (x := []) (y := y) hw.2 o E r (by simpa using h)
    rcases this with h1 | h1
    · simp at h1
    · exact .inr ⟨by simp, h1.2⟩

theorem wkT_spec {h h' : List AO} : ∀ {x y : List AV}, wkT h h' x y → x.length = y.length ∧ ∀ (i : Nat) (b : AV), y[i]? = some b → ∃ c, x[i]? = some c ∧ wkV h h' c b
  | [], [], _ => ⟨rfl, fun i b hb => by simp at hb⟩
  | c :: x, d :: y, hw => by
    obtain ⟨h1, h2⟩ := hw
    obtain ⟨h3, h4⟩ := wkT_spec h2
    refine ⟨by simp [h3], fun i b hb => ?_⟩
    cases i with
    | zero => simp at hb; subst hb; exact ⟨c, rfl, h1⟩
    | succ i => simpa using h4 i b (by simpa using hb)
  | [], _ :: _, hw => hw.elim
  | _ :: _, [], hw => hw.elim

theorem wk_sound (hI : Inv w0 S0 ρ s a w) (hw : Wk s s') : ∃ ρ', Inv w0 S0 ρ' s' a w := by
  have hH := wkH_spec hw.h
  obtain ⟨hlen, hT⟩ := wkT_spec hw.t
  obtain ⟨ρ', hρ⟩ : ∃ ρ' : List Loc, ρ' = (ρ ++ List.replicate s'.h.length (Loc.mk 0 0 true [])).take s'.h.length := ⟨_, rfl⟩
  have hρl : ρ'.length = s'.h.length := by rw [hρ]; simp
  have hold : ∀ o, o < s'.h.length → o < s.h.length → ρ'[o]? = ρ[o]? := by
    intro o h1 h2
    rw [hρ, List.getElem?_take, if_pos h1, List.getElem?_append_left (by rw [hI.len]; exact h2)]
  have hnil : ∀ o, o < s'.h.length → s.h.length ≤ o → ρ'[o]? = some ⟨0, 0, true, []⟩ := by
    intro o h1 h2
    rw [hρ, List.getElem?_take, if_pos h1, List.getElem?_append_right (by rw [hI.len]; exact h2), List.getElem?_replicate, if_pos (by omega)]
  have lv : ∀ {o loc E r}, live ρ' s'.h o loc E r → live ρ s.h o loc E r ∨ (s.h.length ≤ o ∧ loc = ⟨0, 0, true, []⟩ ∧ nl r = 0) := by
    intro o loc E r ⟨h1, h2⟩
    have ho : o < s'.h.length := (List.getElem?_eq_some_iff.1 h1).1
    rcases hH o E r h1 with h | ⟨h, h0⟩
    · have hl : o < s.h.length := (List.getElem?_eq_some_iff.1 h).1
      exact .inl ⟨h, (hold o ho hl) ▸ h2⟩
    · rw [hnil o ho h] at h2
      exact .inr ⟨h, by simpa using h2.symm, h0⟩
  have hok : ∀ k, okB ρ s.h k → okB ρ' s'.h k := by
    intro k hk o loc E r hl hz
    rcases lv hl with h | ⟨_, rfl, _⟩
    · exact hk _ _ _ _ h hz
    · cases hz.1
  have hS : Same w w (okB ρ s.h) (okB ρ' s'.h) := same_weak hok
  -- a value with its names below the new length
  have keep : ∀ {x : AV} {v : Value}, okid s'.h.length x = true → VR w (okB ρ s.h) ρ s.h x v → VR w (okB ρ' s'.h) ρ' s'.h x v := by
    intro x v hid hv
    have one : ∀ {o E r}, o < s.h.length → s'.h[o]? = some (.row E r) → ρ'[o]? = ρ[o]? ∧ s.h[o]? = some (.row E r) := by
      intro o E r ho hr
      rcases hH o E r hr with h | ⟨h, _⟩
      · exact ⟨hold o (List.getElem?_eq_some_iff.1 hr).1 ho, h⟩
      · omega
    cases x with
    | own o z =>
      refine ⟨nblt hid, fun E r hr => ?_⟩
      obtain ⟨h1, h2⟩ := one hv.1 hr
      obtain ⟨loc, h3, h4⟩ := hv.2 E r h2
      exact ⟨loc, h1.trans h3, h4⟩
    | win o b n =>
      refine ⟨nblt hid, fun E r hr => ?_⟩
      obtain ⟨h1, h2⟩ := one hv.1 hr
      obtain ⟨loc, h3, h4⟩ := hv.2 E r h2
      exact ⟨loc, h1.trans h3, h4⟩
    | po o k =>
      refine ⟨nblt hid, fun E r hr => ?_⟩
      obtain ⟨h1, h2⟩ := one hv.1 hr
      obtain ⟨loc, h3, h4⟩ := hv.2 E r h2
      exact ⟨loc, h1.trans h3, h4⟩
    | pf o k j =>
      refine ⟨nblt hid, fun E r hr => ?_⟩
      obtain ⟨h1, h2⟩ := one hv.1 hr
      obtain ⟨loc, h3, h4⟩ := hv.2 E r h2
      exact ⟨loc, h1.trans h3, h4⟩
    | it o =>
      refine ⟨nblt hid, fun E r hr => ?_⟩
      obtain ⟨h1, h2⟩ := one hv.1 hr
      obtain ⟨loc, h3, h4⟩ := hv.2 E r h2
      exact ⟨loc, h1.trans h3, h4⟩
    | mp o =>
      refine ⟨nblt hid, fun E r hr => ?_⟩
      obtain ⟨h1, h2⟩ := one hv.1 hr
      obtain ⟨loc, h3, h4⟩ := hv.2 E r h2
      exact ⟨loc, h1.trans h3, h4⟩
    | t1 x => cases hid
    | t2 x y => cases hid
    | t3 x y z => cases hid
    | gd g x => cases hid
    | ro r => exact ROw.same hS hv
    | sm v0 r => exact ⟨hv.1, ROw.same hS hv.2⟩
    | pv x =>
      obtain ⟨ad, h1, h2, h3, h4⟩ := hv
      exact ⟨ad, h1, h2, hok _ h3, PV.same hS h2 h3 h4⟩
    | _ => exact hv
  refine ⟨ρ', hI.keep, ?_, hρl, ?_, ?_, by rw [hI.size, hlen], ?_, hI.defers⟩
  · intro loc hp
    have h0 := hI.pin loc hp
    rw [hold 0 (nblt hw.l) (by rw [← hI.len]; exact (List.getElem?_eq_some_iff.1 h0).1)]
    exact h0
  · intro o loc E r hl
    rcases lv hl with h | ⟨_, rfl, h0⟩
    · obtain ⟨h1, h2⟩ := hI.obj _ _ _ _ h
      exact ⟨h1.same hS.o (fun _ _ => rfl), h2⟩
    · exact ⟨.inl ⟨rfl, h0⟩, fun k h => by cases h.1⟩
  · intro o o' loc loc' E E' r r' k h1 h2 z1 z2
    rcases lv h1 with q1 | ⟨_, rfl, _⟩
    · rcases lv h2 with q2 | ⟨_, rfl, _⟩
      · exact hI.inj _ _ _ _ _ _ _ _ k q1 q2 z1 z2
      · cases z2.1
    · cases z1.1
  · intro i x hx
    obtain ⟨c, hc, hwk⟩ := hT i x hx
    have hv := hI.slot i c hc
    unfold wkV at hwk
    split at hwk
    · trivial
    · rename_i o z r'
      obtain ⟨E, r, hob, rfl, hrk, hd⟩ := hwk
      obtain ⟨_, hv⟩ := hv
      obtain ⟨loc, hl, hv⟩ := hv E r (gO hob)
      rcases hv with ⟨hz, _, e, h0⟩ | ⟨hz, cap, e, c1, c2, c3⟩
      · rw [e]; exact ro_nil (rowk_x hrk) h0
      · obtain ⟨hb, cs, hr, _, hcell⟩ := (hI.obj o loc E r ⟨gO hob, hl⟩).1.cell hz (rowk_x hrk)
        refine ⟨_, cap, cs, e, c1, c2, (hr.same (same_weak fun k h => h.1)).same hS, fun _ => ⟨_, rfl, hb, ?_, fun j u hu => ?_⟩⟩
        · intro o' loc' E' r' hlv hz'
          rcases lv hlv with h | ⟨_, rfl, _⟩
          · have := hI.inj _ _ _ _ _ _ _ _ _ h ⟨gO hob, hl⟩ hz' (Loc.has_g hz)
            subst this
            unfold getO at hd
            have h1 := hlv.1
            simp [List.getD, h1] at hd
          · cases hz'.1
        · rw [add_lit', Nat.zero_add]; exact hcell j u hu
    · rename_i o z o'
      obtain ⟨rfl, hlt⟩ := hwk
      have hv' : VR w (okB ρ s.h) ρ s.h (.own o true) (a.tmps.getD i undef) := by
        refine ⟨hv.1, fun E r hr => ?_⟩
        obtain ⟨loc, h1, h2⟩ := hv.2 E r hr
        refine ⟨loc, h1, ?_⟩
        rcases h2 with ⟨q1, _, q3⟩ | q
        · exact .inl ⟨q1, rfl, q3⟩
        · exact .inr q
      exact keep hlt hv'
    · rename_i o
      obtain ⟨h1, h2⟩ := hwk
      refine ⟨h2, fun E r hr => ⟨⟨0, 0, true, []⟩, hnil o h2 h1, .inl ⟨rfl, rfl, hv, ?_⟩⟩⟩
      rcases hH o E r hr with h | ⟨_, h0⟩
      · have := (List.getElem?_eq_some_iff.1 h).1; omega
      · exact h0
    · obtain ⟨rfl, hid⟩ := hwk
      exact keep hid hv

/-- Object j takes the place of object i. -/
theorem mv_sound (i j : Nat) (hI : Inv w0 S0 ρ s a w) : ∃ ρ', Inv w0 S0 ρ' (mv i j s) a w := by
  unfold mv
  split
  · rename_i h1 h2 h3 h4
    have h1 := nblt h1
    have h2 := nblt h2
    have h3 := nblt h3
    have hne : i ≠ j := fun e => by subst e; simp at h4
    have hj : j < ρ.length := by rw [hI.len]; exact h3
    have hi : i < ρ.length := by rw [hI.len]; exact h2
    obtain ⟨lj, hlj⟩ : ∃ lj, ρ[j]? = some lj := ⟨_, List.getElem?_eq_getElem hj⟩
    obtain ⟨oj, hoj⟩ : ∃ oj, s.h[j]? = some oj := ⟨_, List.getElem?_eq_getElem h3⟩
    have hgd : s.h.getD j .dead = oj := by simp [List.getD, hoj]
    rw [hgd]
    have get : ∀ o, ((s.h.set i oj).set j .dead)[o]? = if o = j then some .dead else if o = i then some oj else s.h[o]? := by
      intro o
      rw [List.getElem?_set]
      by_cases hoj' : j = o
      · subst hoj'; simp [h3]
      · rw [if_neg hoj', if_neg (fun e => hoj' e.symm), List.getElem?_set]
        by_cases hio : i = o
        · subst hio; simp [h2]
        · rw [if_neg hio, if_neg (fun e => hio e.symm)]
    have gr : ∀ o, (ρ.set i lj)[o]? = if o = i then some lj else ρ[o]? := by
      intro o
      rw [List.getElem?_set]
      by_cases hio : i = o
      · subst hio; simp [hi]
      · rw [if_neg hio, if_neg (fun e => hio e.symm)]
    have lv : ∀ {o l E r}, live (ρ.set i lj) ((s.h.set i oj).set j .dead) o l E r → (o = i ∧ live ρ s.h j l E r) ∨ (o ≠ i ∧ o ≠ j ∧ live ρ s.h o l E r) := by
      rintro o l E r ⟨g1, g2⟩
      rw [get] at g1
      rw [gr] at g2
      by_cases e1 : o = j
      · rw [if_pos e1] at g1; cases g1
      · rw [if_neg e1] at g1
        by_cases e2 : o = i
        · rw [if_pos e2] at g1 g2
          exact .inl ⟨e2, by rw [hoj]; exact g1, by rw [hlj]; exact g2⟩
        · rw [if_neg e2] at g1 g2
          exact .inr ⟨e2, e1, g1, g2⟩
    have hok : ∀ k, okB ρ s.h k → okB (ρ.set i lj) ((s.h.set i oj).set j .dead) k := by
      intro k hk o l E r hl hz
      rcases lv hl with ⟨_, h⟩ | ⟨_, _, h⟩
      · exact hk _ _ _ _ h hz
      · exact hk _ _ _ _ h hz
    have hS : Same w w (okB ρ s.h) (okB (ρ.set i lj) ((s.h.set i oj).set j .dead)) := same_weak hok
    refine ⟨ρ.set i lj, hI.keep, ?_, by simp [hI.len], ?_, ?_, by rw [hI.size]; simp, ?_, hI.defers⟩
    · intro l hl
      rw [gr, if_neg (by omega)]
      exact hI.pin l hl
    · intro o l E r hl
      have key : ∀ {o'}, live ρ s.h o' l E r → ObjOK w (okO w0 S0 (ρ.set i lj) ((s.h.set i oj).set j .dead)) l E r ∧ ∀ k, l.has k → (S0 k ∨ w0.heap.size ≤ k) ∧ k < w.heap.size := by
        intro o' h
        obtain ⟨g1, g2⟩ := hI.obj _ _ _ _ h
        exact ⟨g1.same hS.o (fun _ _ => rfl), g2⟩
      rcases lv hl with ⟨_, h⟩ | ⟨_, _, h⟩ <;> exact key h
    · intro o1 o2 l1 l2 E1 E2 r1 r2 k g1 g2 z1 z2
      rcases lv g1 with ⟨e1, q1⟩ | ⟨n1, m1, q1⟩ <;> rcases lv g2 with ⟨e2, q2⟩ | ⟨n2, m2, q2⟩
      · rw [e1, e2]
      · exact absurd (hI.inj _ _ _ _ _ _ _ _ k q1 q2 z1 z2).symm m2
      · exact absurd (hI.inj _ _ _ _ _ _ _ _ k q1 q2 z1 z2) m1
      · exact hI.inj _ _ _ _ _ _ _ _ k q1 q2 z1 z2
    · intro k x hx
      rw [List.getElem?_map] at hx
      cases hsx : s.t[k]? with
      | none => rw [hsx] at hx; cases hx
      | some y =>
        rw [hsx] at hx
        simp at hx
        subst hx
        have hv := hI.slot k y hsx
        -- an object's handle
        have one : ∀ {o E r}, o ≠ i → o ≠ j → ((s.h.set i oj).set j .dead)[o]? = some (.row E r) → s.h[o]? = some (.row E r) ∧ (ρ.set i lj)[o]? = ρ[o]? := by
          intro o E r e1 e2 h
          rw [get, if_neg e2, if_neg e1] at h
          exact ⟨h, by rw [gr, if_neg e1]⟩
        have two : ∀ {E r}, ((s.h.set i oj).set j .dead)[i]? = some (.row E r) → s.h[j]? = some (.row E r) ∧ (ρ.set i lj)[i]? = ρ[j]? := by
          intro E r h
          rw [get, if_neg hne, if_pos rfl] at h
          exact ⟨by rw [hoj]; exact h, by rw [gr, if_pos rfl, hlj]⟩
        cases y with
        | own o z =>
          simp only [mvV]
          cases hb1 : Nat.beq o j with
          | true =>
            have := nbeq hb1
            subst this
            refine ⟨by simpa using h2, fun E r hr => ?_⟩
            obtain ⟨t1, t2⟩ := two hr
            obtain ⟨loc, g1, g2⟩ := hv.2 E r t1
            exact ⟨loc, t2.trans g1, g2⟩
          | false =>
            cases hb2 : Nat.beq o i with
            | true => trivial
            | false =>
              have e2 : o ≠ j := fun e => by subst e; simp at hb1
              have e1 : o ≠ i := fun e => by subst e; simp at hb2
              refine ⟨by simpa using hv.1, fun E r hr => ?_⟩
              obtain ⟨t1, t2⟩ := one e1 e2 hr
              obtain ⟨loc, g1, g2⟩ := hv.2 E r t1
              exact ⟨loc, t2.trans g1, g2⟩
        | win o b n =>
          simp only [mvV]
          cases hb1 : Nat.beq o j with
          | true =>
            have := nbeq hb1
            subst this
            refine ⟨by simpa using h2, fun E r hr => ?_⟩
            obtain ⟨t1, t2⟩ := two hr
            obtain ⟨loc, g1, g2⟩ := hv.2 E r t1
            exact ⟨loc, t2.trans g1, g2⟩
          | false =>
            cases hb2 : Nat.beq o i with
            | true => trivial
            | false =>
              have e2 : o ≠ j := fun e => by subst e; simp at hb1
              have e1 : o ≠ i := fun e => by subst e; simp at hb2
              refine ⟨by simpa using hv.1, fun E r hr => ?_⟩
              obtain ⟨t1, t2⟩ := one e1 e2 hr
              obtain ⟨loc, g1, g2⟩ := hv.2 E r t1
              exact ⟨loc, t2.trans g1, g2⟩
        | it o =>
          simp only [mvV]
          cases hb1 : Nat.beq o j with
          | true => trivial
          | false =>
            cases hb2 : Nat.beq o i with
            | true => trivial
            | false =>
              have e2 : o ≠ j := fun e => by subst e; simp at hb1
              have e1 : o ≠ i := fun e => by subst e; simp at hb2
              refine ⟨by simpa using hv.1, fun E r hr => ?_⟩
              obtain ⟨t1, t2⟩ := one e1 e2 hr
              obtain ⟨loc, g1, g2⟩ := hv.2 E r t1
              exact ⟨loc, t2.trans g1, g2⟩
        | mp o =>
          simp only [mvV]
          cases hb1 : Nat.beq o j with
          | true => trivial
          | false =>
            cases hb2 : Nat.beq o i with
            | true => trivial
            | false =>
              have e2 : o ≠ j := fun e => by subst e; simp at hb1
              have e1 : o ≠ i := fun e => by subst e; simp at hb2
              refine ⟨by simpa using hv.1, fun E r hr => ?_⟩
              obtain ⟨t1, t2⟩ := one e1 e2 hr
              obtain ⟨loc, g1, g2⟩ := hv.2 E r t1
              exact ⟨loc, t2.trans g1, g2⟩
        | po o k => trivial
        | pf o k j => trivial
        | t1 x => trivial
        | t2 x y => trivial
        | t3 x y z => trivial
        | gd g x => trivial
        | ro r => exact ROw.same hS hv
        | sm v0 r => exact ⟨hv.1, ROw.same hS hv.2⟩
        | pv x =>
          obtain ⟨ad, g1, g2, g3, g4⟩ := hv
          exact ⟨ad, g1, g2, hok _ g3, PV.same hS g2 g3 g4⟩
        | _ => exact hv
  · exact ⟨ρ, hI⟩
theorem mvs_sound : ∀ (N : List (Nat × Nat)) {s : St} {ρ : List Loc}, Inv w0 S0 ρ s a w → ∃ ρ', Inv w0 S0 ρ' (mvs N s) a w
  | [], _, ρ, hI => ⟨ρ, hI⟩
  | (i, k) :: r, _, _, hI => by
    simp only [mvs]
    split
    · rename_i j _ _
      obtain ⟨ρ1, h1⟩ := mv_sound i j hI
      exact mvs_sound r h1
    · exact mvs_sound r hI

def post (w0 : World) (S0 : Base) (Q : Ex → St → Prop) : Exit → Act → World → Prop
  | .normal, a, w => ∃ s ρ, Q .normal s ∧ Inv w0 S0 ρ s a w
  | .exit i, a, w => ∃ s ρ, Q (.exit i) s ∧ Inv w0 S0 ρ s a w
  | .ret, a, w => ∃ s ρ, Q .ret s ∧ Inv w0 S0 ρ s a w
  | _, _, _ => False

/-- THE EVALUATION OF CODE IS SOUND. -/
theorem awp_sound (hT : TTok P tt) (hTab : TabIn P T w0 S0) (hm : P.follows .mixedOrders = true) :
    ∀ (c : Code) (Q : Ex → St → Prop) (s : St) (ρ : List Loc) (a : Act) (w : World), awp alg tt T c Q s → Inv w0 S0 ρ s a w → c.wp P (post w0 S0 Q) a w := by
  intro c
  induction c with
  | skip => intro Q s ρ a w h hI; exact wp_skip ⟨s, ρ, h, hI⟩
  | region id ops draw =>
    intro Q s ρ a w h hI
    cases draw with
    | false =>
      simp only [awp] at h
      exact wp_region_list (reg_seq hT hTab (fun s' ρ' a' w' hk hI' => ⟨s', ρ', hk, hI'⟩) _ _ _ _ _ h hI)
    | true =>
      simp only [awp] at h
      split at h
      · obtain ⟨⟨hlex⟩, h⟩ := h
        refine wp_region_quiet (C := fun w' => Below w.heap.size w w') hm hlex ⟨rfl, rfl, rfl, Nat.le_refl _, fun _ _ => rfl⟩ ?_
        exact reg_quiet hT hTab (fun s' a' hk hI' w' hb => ⟨s', ρ, hk, hI'.below hb⟩) _ _ _ h hI
      · split at h
        · split at h
          · obtain ⟨⟨hB⟩, h⟩ := h
            simp only [Bool.and_eq_true, decide_eq_true_eq] at hB
            obtain ⟨⟨hns, hlen⟩, hB⟩ := hB
            have hI1 : Inv w0 S0 ρ s a { w with drawn := w.drawn + 1 } := hI.below ⟨rfl, rfl, rfl, Nat.le_refl _, fun _ _ => rfl⟩
            have := reg_held (Q := post w0 S0 Q) hT hTab hns (fun c a a' w h => h.elim) (fun s' ρ' a' w' hk hI' => ⟨s', ρ', hk, hI'⟩) _ _ _ _ _ _ hB h hI1
            rw [hlen] at this
            exact wp_region_held hm this
          · obtain ⟨⟨hB⟩, h⟩ := h
            simp only [Bool.and_eq_true] at hB
            have hI1 : Inv w0 S0 ρ s a { w with drawn := w.drawn + 1 } := hI.below ⟨rfl, rfl, rfl, Nat.le_refl _, fun _ _ => rfl⟩
            exact wp_region_held hm ((reg_tree (Q := post w0 S0 Q) hT hTab hB.1 (fun c a a' w h => h.elim) (fun s' ρ' a' w' hk hI' => ⟨s', ρ', hk, hI'⟩) _ _ _ _ _ _ _ h hI1).1 hB.2)
        · split at h
          · rename_i n hn
            obtain ⟨⟨hB⟩, h⟩ := h
            have hI1 : Inv w0 S0 ρ s a { w with drawn := w.drawn + 1 } := hI.below ⟨rfl, rfl, rfl, Nat.le_refl _, fun _ _ => rfl⟩
            have e : ops = ops.toList.toArray := by simp
            rw [e]
            refine wp_region_still_tail n hm (by rw [← e]; exact hB) ?_
            rw [← e]
            exact reg_still hT (fun s' a' hk hI' => reg_seq hT hTab (fun s' ρ' a' w' hk hI' => ⟨s', ρ', hk, hI'⟩) _ _ _ _ _ hk hI') _ _ _ h hI1
          · obtain ⟨⟨hB⟩, h⟩ := h
            simp only [Bool.and_eq_true] at hB
            have hI1 : Inv w0 S0 ρ s a { w with drawn := w.drawn + 1 } := hI.below ⟨rfl, rfl, rfl, Nat.le_refl _, fun _ _ => rfl⟩
            exact wp_region_held hm ((reg_tree (Q := post w0 S0 Q) hT hTab hB.1 (fun c a a' w h => h.elim) (fun s' ρ' a' w' hk hI' => ⟨s', ρ', hk, hI'⟩) _ _ _ _ _ _ _ h hI1).1 hB.2)
  | seq x y ihx ihy =>
    intro Q s ρ a w h hI
    simp only [awp] at h
    refine wp_seq (wp_mono (ihx _ _ _ _ _ h hI) ?_)
    intro e a' w' hq
    cases e with
    | normal => obtain ⟨s', ρ', h1, h2⟩ := hq; exact ihy _ _ _ _ _ h1 h2
    | exit i => exact hq
    | ret => exact hq
    | goto l => exact hq.elim
    | panic l => exact hq.elim
    | outgrown => exact hq.elim
  | cond c x y ihx ihy =>
    intro Q s ρ a w h hI
    simp only [awp] at h
    have hc := ev_sound hI c
    split at h
    · rename_i b hb
      rw [hb] at hc
      have hc : a.eval c = .bool b := hc
      exact wp_cond_split hc (fun e => ihx _ _ _ _ _ (h.t e) hI) (fun e => ihy _ _ _ _ _ (h.f e) hI)
    · exact h.elim
  | block id c ih =>
    intro Q s ρ a w h hI
    simp only [awp] at h
    refine wp_block (wp_mono (ih _ _ _ _ _ h hI) ?_)
    intro e a' w' hq
    cases e with
    | normal => exact hq
    | exit i =>
      obtain ⟨s', ρ', h1, h2⟩ := hq
      have h1' : (match Nat.beq i id with | true => Q .normal s' | false => Q (.exit i) s') := h1
      clear h1
      simp only [Exit.inBlock]
      cases hb : Nat.beq i id with
      | true =>
        rw [hb] at h1'
        rw [if_pos (nbeq hb)]
        exact ⟨s', ρ', h1', h2⟩
      | false =>
        rw [hb] at h1'
        have hne : ¬ i = id := by rintro rfl; simp at hb
        rw [if_neg hne]
        exact ⟨s', ρ', h1', h2⟩
    | ret => exact hq
    | goto l => exact hq.elim
    | panic l => exact hq.elim
    | outgrown => exact hq.elim
  | loop c ih =>
    intro Q s ρ a w h hI
    simp only [awp] at h
    obtain ⟨γ, N, F, R, μ, ⟨g0, hw0, hr0⟩, hround⟩ := h.ex
    obtain ⟨ρ0, hI0⟩ := wk_sound hI hw0
    refine wp_loop_ghost (fun n a w => ∃ g ρ, R g ∧ μ g = n ∧ Inv w0 S0 ρ (F g) a w) (μ g0) ⟨g0, ρ0, hr0, rfl, hI0⟩ ?_
    rintro n a w ⟨g, ρ, hr, rfl, hI⟩
    refine wp_mono (ih _ _ _ _ _ (hround g hr) hI) ?_
    intro e a' w' hq
    cases e with
    | normal =>
      obtain ⟨s', ρ', ⟨g', hw', hr', hlt⟩, hI'⟩ := hq
      obtain ⟨ρm, hIm⟩ := mvs_sound N hI'
      obtain ⟨ρ2, hI2⟩ := wk_sound hIm hw'
      exact ⟨μ g', hlt, g', ρ2, hr', rfl, hI2⟩
    | exit i => exact hq
    | ret => exact hq
    | goto l => exact hq.elim
    | panic l => exact hq.elim
    | outgrown => exact hq.elim
  | exit i => intro Q s ρ a w h hI; exact wp_exit ⟨s, ρ, h, hI⟩
  | ret => intro Q s ρ a w h hI; exact wp_ret ⟨s, ρ, h, hI⟩
  | _ => intro Q s ρ a w h hI; exact h.elim

end
end Go.Ab
