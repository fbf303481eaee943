/-
  CONTRACTS from the abstract evaluation: the two theorems that the proofs use.
-/
import Derived.Test.YtdkpncnkhnmidaaDoorAb16
set_option linter.unusedSimpArgs false
set_option linter.unusedVariables false
namespace Go.Ab
open Go.RowKit

section
variable {P : Program} {tt : Nat → TI} {T : Nat → List AV → CR} {w0 w w' : World} {S0 : Base} {ρ ρ' : List Loc} {s s' : St} {a : Act}

theorem rets_all {h : List AO} : ∀ (xs : List AV) (i : Nat) (K : List AV → List (Nat × Nat × Row) → Prop), rets alg h i xs K → ∀ x ∈ xs, isOwn x = true ∨ plain x = true
  | [], _, _, _ => by simp
  | x :: xs, i, K, hk => by
    simp only [rets] at hk
    intro y hy
    simp at hy
    split at hk
    · rename_i ho
      split at hk
      · rcases hy with rfl | hy
        · exact .inl ho
        · exact rets_all xs _ _ hk y hy
      · exact hk.elim
    · split at hk
      · rename_i hp
        rcases hy with rfl | hy
        · exact .inr hp
        · exact rets_all xs _ _ hk y hy
      · exact hk.elim

def rvRun (tmps : Array Value) : ResultVar → Sem Value
  | .tmp t => pure (tmps.getD t undef)
  | .cell b t => do loadVar t (← asAddr (tmps.getD b undef))

theorem rv_sound (hT : TTok P tt) (hI : Inv w0 S0 ρ s a w) (x : ResultVar) (hx : isOwn (rvA alg tt s x) = true ∨ plain (rvA alg tt s x) = true) :
    ∃ v, VR w (okB ρ s.h) ρ s.h (rvA alg tt s x) v ∧ (rvRun a.tmps x).run P w = .ok v w := by
  cases x with
  | tmp t => exact ⟨a.tmps.getD t undef, ev_sound hI (.tmp t), rfl⟩
  | cell b t =>
    have hp := ev_sound hI (.tmp b)
    simp only [rvA] at hx ⊢
    split at hx
    · rename_i o k he
      rw [he] at hp
      obtain ⟨_, hp⟩ := hp
      split at hx
      · rename_i E n l n' hob ht
        obtain ⟨loc, hl, hz, e, hk⟩ := hp E _ (gO hob)
        obtain ⟨hb, cs, hr, _, hc⟩ := (hI.obj o loc E _ ⟨gO hob, hl⟩).1.cell hz (by simp [Row.rk])
        split at hx
        · rename_i hn
          have hnn := nbeq hn
          subst hnn
          obtain ⟨v, h1, h2⟩ := load_own (P := P) (r := .recs n l) (hT.el _ _ ht) hr hb hc hk
          have e : a.tmps.getD b undef = _ := e
          refine ⟨v, ?_, ?_⟩
          · exact (h1 ρ s.h).weak fun k h => h.1
          · have h3 := h2 w (After.refl w)
            simp only [Instr.loadAt, Instr.sureAddr, Sem.run_bind, Sem.run_pure, Result.andThen_ok] at h3
            simp only [rvRun, e, asAddr, Sem.run_bind, Sem.run_pure, Result.andThen_ok]
            exact h3
        · rcases hx with h | h <;> cases h
      · rcases hx with h | h <;> cases h
    · rcases hx with h | h <;> cases h

theorem results_list {ok : Nat → Prop} {h : List AO} {F : ResultVar → AV} : ∀ (res : List ResultVar), 0 < res.length → res.length ≤ 3 → (∀ x ∈ res, ∃ v, VR w ok ρ h (F x) v ∧ (rvRun a.tmps x).run P w = .ok v w) →
    ∃ vals v, VRs w ok ρ h (res.map F) vals ∧ (do let vs ← res.toArray.mapM (rvRun a.tmps); pure (if h : vs.size = 1 then vs[0] else .tuple vs) : Sem Value).run P w = .ok v w ∧ (vals = [v] ∨ (2 ≤ vals.length ∧ v = .tuple vals.toArray))
  | [], h1, _, _ => by simp at h1
  | [x], _, _, one => by
    obtain ⟨v, p1, p2⟩ := one x (by simp)
    exact ⟨[v], v, ⟨p1, trivial⟩, (by simp [p2]), .inl rfl⟩
  | [x, y], _, _, one => by
    obtain ⟨v, p1, p2⟩ := one x (by simp)
    obtain ⟨u, q1, q2⟩ := one y (by simp)
    exact ⟨[v, u], .tuple #[v, u], ⟨p1, q1, trivial⟩, (by simp [p2, q2]), .inr ⟨by simp, rfl⟩⟩
  | [x, y, z], _, _, one => by
    obtain ⟨v, p1, p2⟩ := one x (by simp)
    obtain ⟨u, q1, q2⟩ := one y (by simp)
    obtain ⟨t, r1, r2⟩ := one z (by simp)
    exact ⟨[v, u, t], .tuple #[v, u, t], ⟨p1, q1, r1, trivial⟩, (by simp [p2, q2, r2]), .inr ⟨by simp, rfl⟩⟩
  | _ :: _ :: _ :: _ :: _, _, h3, _ => by simp at h3

theorem results_sound (hT : TTok P tt) (hI : Inv w0 S0 ρ s a w) {fn : Func} {res : List ResultVar} (hr : fn.results.toList = res) (h1 : 0 < res.length) (h3 : res.length ≤ 3) (hx : ∀ x ∈ res.map (rvA alg tt s), isOwn x = true ∨ plain x = true) :
    ∃ vals v, VRs w (okB ρ s.h) ρ s.h (res.map (rvA alg tt s)) vals ∧ (results fn a.tmps).run P w = .ok v w ∧ (vals = [v] ∨ (2 ≤ vals.length ∧ v = .tuple vals.toArray)) := by
  have hr' : fn.results = res.toArray := by rw [← hr]
  have one : ∀ x ∈ res, ∃ v, VR w (okB ρ s.h) ρ s.h (rvA alg tt s x) v ∧ (rvRun a.tmps x).run P w = .ok v w := fun x hm => rv_sound hT hI x (hx _ (List.mem_map_of_mem hm))
  have runs : (results fn a.tmps) = (do let vs ← fn.results.mapM (rvRun a.tmps); pure (if h : vs.size = 1 then vs[0] else .tuple vs) : Sem Value) := by
    unfold results
    congr 1
  rw [runs, hr']
  exact results_list res h1 h3 one

theorem tup_sound {ok : Nat → Prop} {h : List AO} {vs : List AV} {vals : List Value} {v : Value} (hv : VRs w ok ρ h vs vals) (h3 : vals.length ≤ 3) (hx : vals = [v] ∨ (2 ≤ vals.length ∧ v = .tuple vals.toArray)) : VR w ok ρ h (tupOf vs) v := by
  rcases hx with rfl | ⟨h2, rfl⟩
  · match vs, hv with
    | [x], hv => exact hv.1
    | [], hv => exact hv.elim
    | _ :: _ :: _, hv => exact hv.2.elim
  · match vs, vals, hv with
    | [x, y], [u, v], hv => exact ⟨u, v, rfl, hv.1, hv.2.1⟩
    | [x, y, z], [u, v, t], hv => exact ⟨u, v, t, rfl, hv.1, hv.2.1, hv.2.2.1⟩
    | _ :: _ :: _ :: _ :: _, _ :: _ :: _ :: _ :: _, _ => exact absurd h3 (by simp)
    | [], _, _ => trivial
    | [x], [v], _ => exact absurd h2 (by simp)
    | [x], [], hv => exact hv.elim
    | [x], _ :: _ :: _, hv => exact hv.2.elim
    | _ :: _ :: _, [], hv => exact hv.elim
    | _ :: _ :: _, [_], hv => exact hv.2.elim
    | _ :: _ :: _ :: _, [_, _], hv => exact hv.2.2.elim
    | [_, _], _ :: _ :: _ :: _, hv => exact hv.2.2.elim
    | _ :: _ :: _ :: _ :: _, [_, _, _], hv => exact hv.2.2.2.elim
    | [_, _, _], _ :: _ :: _ :: _ :: _, hv => exact hv.2.2.2.elim

theorem nodup_at : ∀ {l : List Nat} {i j x : Nat}, nodupB l = true → l[i]? = some x → l[j]? = some x → i = j
  | [], i, _, _, _, h, _ => by simp at h
  | y :: l, 0, 0, x, _, _, _ => rfl
  | y :: l, 0, j + 1, x, hn, h1, h2 => by
    simp at h1 h2
    subst h1
    simp only [nodupB, Bool.and_eq_true, Bool.not_eq_true', List.any_eq_false] at hn
    have := hn.1 y (List.mem_of_getElem? h2)
    simp at this
  | y :: l, i + 1, 0, x, hn, h1, h2 => by
    simp at h1 h2
    subst h2
    simp only [nodupB, Bool.and_eq_true, Bool.not_eq_true', List.any_eq_false] at hn
    have := hn.1 y (List.mem_of_getElem? h1)
    simp at this
  | y :: l, i + 1, j + 1, x, hn, h1, h2 => by
    simp only [nodupB, Bool.and_eq_true] at hn
    exact congrArg (· + 1) (nodup_at hn.2 (by simpa using h1) (by simpa using h2))

theorem VR_own_true {ok : Nat → Prop} {h : List AO} {o : Nat} {z : Bool} {v : Value} (hv : VR w ok ρ h (.own o z) v) : VR w ok ρ h (.own o true) v := by
  refine ⟨hv.1, fun E r hr => ?_⟩
  obtain ⟨loc, h1, h2⟩ := hv.2 E r hr
  refine ⟨loc, h1, ?_⟩
  rcases h2 with ⟨a1, _, a3, a4⟩ | h2
  · exact .inl ⟨a1, rfl, a3, a4⟩
  · exact .inr h2

theorem VR_nil_true {ok : Nat → Prop} {E : Nat} {row : Row} (hn : row.nlen alg = 0) : VR w ok [Loc.mk 0 0 true []] [.row E row] (.own 0 true) (.slice none 0 0) := by
  refine ⟨by simp, fun E' r hr => ⟨_, rfl, .inl ⟨rfl, rfl, rfl, ?_⟩⟩⟩
  simp at hr
  rw [← hr.2]
  exact hn

theorem Fresh_nil {n : Nat} {E : Nat} {row : Row} {r : AV} {v : Value} (hn : row.nlen alg = 0)
    (hv : VR w (fun k => okB [Loc.mk 0 0 true []] (rowsOf [(E, row)]) k ∧ n ≤ k) [Loc.mk 0 0 true []] (rowsOf [(E, row)]) r v) : Fresh w n r [(E, row)] v [Loc.mk 0 0 true []] := by
  have lv : ∀ {o loc E' r'}, live [Loc.mk 0 0 true []] (rowsOf [(E, row)]) o loc E' r' → loc = Loc.mk 0 0 true [] ∧ r' = row := by
    rintro o loc E' r' ⟨h1, h2⟩
    cases o with
    | zero => simp [rowsOf] at h1 h2; exact ⟨h2.symm, h1.2.symm⟩
    | succ o => simp [rowsOf] at h1
  refine ⟨rfl, ?_, ?_, hv⟩
  · intro o loc E' r' hl
    obtain ⟨rfl, rfl⟩ := lv hl
    exact ⟨.inl ⟨rfl, hn⟩, fun k h => by cases h.1⟩
  · intro o o' loc loc' E' E'' r' r'' k l1 l2 z1
    obtain ⟨rfl, _⟩ := lv l1
    cases z1.1

theorem scalar_move {x : AV} {v : Value} {w' : World} {ok ok' : Nat → Prop} {ρ' : List Loc} {h h' : List AO} (hs : scalar x = true) (hv : VR w ok ρ h x v) : VR w' ok' ρ' h' x v := by
  obtain ⟨v0, h1, h2⟩ := scalar_val hs
  rw [h2 _ _ _ _ _ hv]
  exact h1 _ _ _ _

theorem Fresh.weaken {n : Nat} {r r' : AV} {fr fr' : List (Nat × Row)} {v : Value} {ρ' : List Loc} (hw : RW r r' fr fr') (hF : Fresh w n r fr v ρ') : ∃ ρ'', Fresh w n r' fr' v ρ'' := by
  unfold RW at hw
  split at hw
  · rename_i E row
    have : v = .slice none 0 0 := hF.val
    subst this
    exact ⟨_, Fresh_nil hw (VR_nil_true hw)⟩
  · rename_i b b' E row
    obtain ⟨h1, rfl, h2⟩ := hw
    obtain ⟨x, y, rfl, hx, hy⟩ := hF.val
    have : x = .slice none 0 0 := hx
    subst this
    exact ⟨_, Fresh_nil h2 ⟨_, _, rfl, VR_nil_true h2, scalar_move h1 hy⟩⟩
  · rename_i b c b' c' E row
    obtain ⟨h1, h1', rfl, rfl, h2⟩ := hw
    obtain ⟨x, y, z, rfl, hx, hy, hz⟩ := hF.val
    have : x = .slice none 0 0 := hx
    subst this
    exact ⟨_, Fresh_nil h2 ⟨_, _, _, rfl, VR_nil_true h2, scalar_move h1 hy, scalar_move h1' hz⟩⟩
  · rename_i a c a' c' E row
    obtain ⟨rfl, rfl, h2⟩ := hw
    obtain ⟨x, y, z, rfl, hx, hy, hz⟩ := hF.val
    have : y = .slice none 0 0 := hy
    subst this
    exact ⟨_, Fresh_nil h2 ⟨_, _, _, rfl, hx, VR_nil_true h2, hz⟩⟩
  · obtain ⟨rfl, rfl, rfl, rfl⟩ := hw
    obtain ⟨x, y, z, e, hx, hy, hz⟩ := hF.val
    exact ⟨ρ', hF.len, hF.obj, hF.inj, x, y, z, e, hx, VR_own_true hy, hz⟩
  · obtain ⟨rfl, rfl⟩ := hw
    exact ⟨ρ', hF.len, hF.obj, hF.inj, VR_own_true hF.val⟩
  · obtain ⟨rfl, rfl, rfl⟩ := hw
    obtain ⟨x, y, e, hx, hy⟩ := hF.val
    exact ⟨ρ', hF.len, hF.obj, hF.inj, x, y, e, VR_own_true hx, hy⟩
  · obtain ⟨rfl, rfl, rfl, rfl⟩ := hw
    obtain ⟨x, y, z, e, hx, hy, hz⟩ := hF.val
    exact ⟨ρ', hF.len, hF.obj, hF.inj, x, y, z, e, VR_own_true hx, hy, hz⟩
  · obtain ⟨rfl, rfl⟩ := hw
    exact ⟨ρ', hF⟩
theorem weaken {n : Nat} {r r' : AV} {fr fr' : List (Nat × Row)} {A : Value → Prop} {B : Prop} (hw : RW r r' fr fr') (h : ∃ v ρ', A v ∧ B ∧ Fresh w n r fr v ρ') : ∃ v ρ', A v ∧ B ∧ Fresh w n r' fr' v ρ' := by
  obtain ⟨v, ρ', h1, h2, h3⟩ := h
  obtain ⟨ρ'', h4⟩ := h3.weaken hw
  exact ⟨v, ρ'', h1, h2, h4⟩

/-- The results of a finished body. -/
theorem done_sound (hT : TTok P tt) (hI : Inv w0 ⟨fun _ => False, none⟩ ρ s a w) {fn : Func} {res : List ResultVar} {r : AV} {fr : List (Nat × Row)} (hr : fn.results.toList = res) (h1 : 0 < res.length) (h3 : res.length ≤ 3) (h : done alg tt res r fr s) :
    ∃ v ρ', (results fn a.tmps).run P w = .ok v w ∧ Below w0.heap.size w0 w ∧ Fresh w w0.heap.size r fr v ρ' := by
  unfold done at h
  obtain ⟨vals, v, hv, hrun, hform⟩ := results_sound hT hI hr h1 h3 (rets_all _ _ _ h)
  obtain ⟨vs, es, hk, hes, hvs⟩ := rets_sound (ρ := ρ) (t := s.t) (h := s.h) hI _ vals 0 [] _ h rfl hv
  simp only [List.nil_append] at hvs
  split at hk
  · rename_i hnd
    obtain ⟨hk⟩ := hk
    refine weaken hk ?_
    have hvl : vals.length ≤ 3 := by rw [← VRs_len hv]; simpa using h3
    have lv : ∀ {o loc E row}, live (locs ρ es) (rowsOf (es.map (·.2))) o loc E row → ∃ e, es[o]? = some e ∧ e.2.1 = E ∧ e.2.2 = row ∧ ∃ r0, live ρ s.h e.1 loc E r0 ∧ ObjOK w (okO w0 ⟨fun _ => False, none⟩ ρ s.h) loc E row := by
      intro o loc E row ⟨g1, g2⟩
      rw [rows_get, List.getElem?_map] at g1
      cases he : es[o]? with
      | none => rw [he] at g1; cases g1
      | some e =>
        rw [he] at g1
        simp at g1
        obtain ⟨rfl, rfl⟩ := g1
        obtain ⟨loc', r0, q1, q2⟩ := hes e (List.mem_of_getElem? he)
        have : loc' = loc := by
          simp only [locs, List.getElem?_map, he, Option.map_some, List.getD, q1.2] at g2
          simpa using g2
        subst this
        exact ⟨e, rfl, rfl, rfl, r0, q1, q2⟩
    have hokk : ∀ k, okO w0 ⟨fun _ => False, none⟩ ρ s.h k → okB (locs ρ es) (rowsOf (es.map (·.2))) k ∧ w0.heap.size ≤ k := by
      intro k hk
      refine ⟨fun o loc E row hl hz => ?_, hk.2.resolve_left id⟩
      obtain ⟨e, _, _, _, r0, q1, _⟩ := lv hl
      exact hk.1 _ _ _ _ q1 hz
    refine ⟨v, locs ρ es, hrun, hI.keep.below, by simp [locs], ?_, ?_, tup_sound (hvs _) hvl hform⟩
    · intro o loc E row hl
      obtain ⟨e, _, _, _, r0, q1, q2⟩ := lv hl
      exact ⟨q2.same (same_weak hokk) (fun _ _ => rfl), fun k hk => ⟨((hI.obj _ _ _ _ q1).2 k hk).1.resolve_left id, ((hI.obj _ _ _ _ q1).2 k hk).2⟩⟩
    · intro o o' loc loc' E E' r1 r2 k l1 l2 z1 z2
      obtain ⟨e1, he1, _, _, _, q1, _⟩ := lv l1
      obtain ⟨e2, he2, _, _, _, q2, _⟩ := lv l2
      have := hI.inj _ _ _ _ _ _ _ _ k q1 q2 z1 z2
      refine nodup_at (x := e1.1) hnd (by simp [he1]) (by simp [he2, this])
  · exact hk.elim

/-- Arguments that name no object. -/
theorem VR_clean {ok : Nat → Prop} {h : List AO} : ∀ {x : AV} {v : Value}, VR w ok [] [] x v → VR w ok ρ h x v := by
  intro x
  induction x with
  | own o z => intro v hv; exact absurd hv.1 (by simp)
  | win o b n => intro v hv; exact absurd hv.1 (by simp)
  | po o k => intro v hv; exact absurd hv.1 (by simp)
  | pf o k j => intro v hv; exact absurd hv.1 (by simp)
  | it o => intro v hv; exact absurd hv.1 (by simp)
  | mp o => intro v hv; exact absurd hv.1 (by simp)
  | t1 x ihx => intro v ⟨u1, e, h1⟩; exact ⟨u1, e, ihx h1⟩
  | t2 x y ihx ihy => intro v ⟨u1, u2, e, h1, h2⟩; exact ⟨u1, u2, e, ihx h1, ihy h2⟩
  | t3 x y z ihx ihy ihz => intro v ⟨u1, u2, u3, e, h1, h2, h3⟩; exact ⟨u1, u2, u3, e, ihx h1, ihy h2, ihz h3⟩
  | gd g x ih => intro v hv; exact ⟨fun hg => ih (hv.1 hg), hv.2⟩
  | _ => intro v hv; exact hv
theorem VRs_clean {ok : Nat → Prop} {h : List AO} : ∀ {xs : List AV} {vs : List Value}, VRs w ok [] [] xs vs → VRs w ok ρ h xs vs
  | [], [], _ => trivial
  | _ :: _, _ :: _, h => ⟨VR_clean h.1, VRs_clean h.2⟩
  | [], _ :: _, h => h.elim
  | _ :: _, [], h => h.elim

/-- A CONTRACT, from the evaluation of the body. -/
theorem fc_of {G : World → Prop} (hst : ∀ w w', G w → Below w.heap.size w w' → G w') (hT : TTok P tt) (hTab : TabG G P T) (hm : P.follows .mixedOrders = true) {f : Nat} {fn : Func} {c : Code} {args : List AV} {r : AV} {fr : List (Nat × Row)}
    (hf : P.funcs[f]? = some fn) (hb : fn.body = some c) (hname : ¬ fn.name = "runtime.NumGoroutine") {res : List ResultVar} (hr : fn.results.toList = res) (h1 : 0 < res.length) (h3 : res.length ≤ 3)
    (h : awp alg tt T c (doneQ alg tt res r fr) ⟨args ++ undefs (fn.ntmps - args.length), [.dead]⟩) : FCG G P f args r fr := by
  refine ⟨⟨fn, hf, hname, by rw [hb]; simp⟩, fun w vals hGw hv => ?_⟩
  refine calls_of_wp hf hb ?_
  have hnl : ∀ {o loc E r}, ¬ live [Loc.mk 0 0 true []] [AO.dead] o loc E r := by
    rintro o loc E r ⟨h1, _⟩
    cases o <;> simp at h1
  have hv' : VRs w (okB [Loc.mk 0 0 true []] [.dead]) [Loc.mk 0 0 true []] [.dead] args vals := VRs_clean (VRs_weak (fun k _ o loc E r hl => (hnl hl).elim) hv)
  obtain ⟨i1, i2⟩ := init_slots (n := fn.ntmps) hv'
  have hI : Inv w ⟨fun _ => False, none⟩ [Loc.mk 0 0 true []] ⟨args ++ undefs (fn.ntmps - args.length), [.dead]⟩ { tmps := vals.toArray ++ Array.replicate (fn.ntmps - vals.toArray.size) undef, defers := [] } w :=
    ⟨Keeps.refl _ _, (fun _ h => by cases h), rfl, (fun o loc E r hl => (hnl hl).elim), (fun o o' loc loc' E E' r r' k hl => (hnl hl).elim), i1, i2, rfl⟩
  have hTab' : TabIn P T w ⟨fun _ => False, none⟩ := ⟨⟨G, hTab, fun w' hk => hst _ _ hGw hk.below⟩⟩
  refine wp_mono (awp_sound hT hTab' hm _ _ _ _ _ _ h hI) ?_
  intro e a' w' hq
  cases e with
  | normal =>
    obtain ⟨s', ρ', h1', h2'⟩ := hq
    obtain ⟨v, ρ2, g1, g2, g3⟩ := done_sound hT h2' hr h1 h3 h1'
    exact ⟨h2'.defers, v, g1, v, ρ2, rfl, g2, g3⟩
  | ret =>
    obtain ⟨s', ρ', h1', h2'⟩ := hq
    obtain ⟨v, ρ2, g1, g2, g3⟩ := done_sound hT h2' hr h1 h3 h1'
    exact ⟨h2'.defers, v, g1, v, ρ2, rfl, g2, g3⟩
  | exit i => obtain ⟨s', ρ', h1', _⟩ := hq; exact h1'.elim
  | goto l => exact hq.elim
  | panic l => exact hq.elim
  | outgrown => exact hq.elim

/-- A row with no slices in it, and no table. -/
def flatT : Row → Bool
  | .tabs _ => false
  | .intss _ => false
  | .boolss _ => false
  | _ => true
theorem flatT_flat {r : Row} (h : flatT r = true) : flat r = true := by cases r <;> first | rfl | (cases h; done)

/-- A CONTRACT of a function that writes into the row that it is handed. -/
theorem fcm_of (hT : TTok P tt) (hTab : TabOK P T) (hm : P.follows .mixedOrders = true) {f : Nat} {fn : Func} {c : Code} {args : List AV} {i : Nat} {r : AV} {row row' : Row}
    (hf : P.funcs[f]? = some fn) (hb : fn.body = some c) (hname : ¬ fn.name = "runtime.NumGoroutine") {res : List ResultVar} (hr : fn.results.toList = res) (h1 : 0 < res.length) (h3 : res.length ≤ 3)
    (hrow : args[i]? = some (.ro row)) (hfl : flatT row' = true) (hn : nl row' = nl row) (hsc : scalar r = true)
    (h : ∀ E, awp alg tt T c (doneM alg tt res r E row') ⟨args.set i (.own 0 true) ++ undefs (fn.ntmps - (args.set i (.own 0 true)).length), [.row E row]⟩) : FCM P f args i r row' := by
  refine ⟨⟨fn, hf, hname, by rw [hb]; simp⟩, fun w vals loc E row0 ok hrow0 hfl0 hsame hlt hok hO hv => ?_⟩
  have hfl' := hfl
  have hfl : flat row' = true := flatT_flat hfl'
  have hseen : row0.seen = row0 := by
    cases row0 <;> first | rfl | (exfalso; cases row' <;> first | (cases hfl'; done) | (cases hsame; done))
  rw [hseen, hrow] at hrow0
  cases hrow0
  refine calls_of_wp hf hb ?_
  have hl : ∀ {o l E' r'}, live [loc] [AO.row E row] o l E' r' → o = 0 ∧ l = loc ∧ E' = E ∧ r' = row := by
    rintro o l E' r' ⟨h1, h2⟩
    cases o with
    | zero => simp at h1 h2; exact ⟨rfl, h2.symm, h1.1.symm, h1.2.symm⟩
    | succ o => simp at h1
  have hv' : VRs w (okB [loc] [.row E row]) [loc] [.row E row] (args.set i (.own 0 true)) vals :=
    VRs_weak (fun k hk o l E' r' hlv hz => by obtain ⟨_, rfl, _⟩ := hl hlv; exact hok k hk hz) hv
  obtain ⟨i1, i2⟩ := init_slots (n := fn.ntmps) hv'
  have hI : Inv w ⟨fun k => loc.has k, some loc⟩ [loc] ⟨args.set i (.own 0 true) ++ undefs (fn.ntmps - (args.set i (.own 0 true)).length), [.row E row]⟩ { tmps := vals.toArray ++ Array.replicate (fn.ntmps - vals.toArray.size) undef, defers := [] } w :=
    ⟨Keeps.refl _ _, (fun l h => by simpa using h), rfl, (fun o l E' r' hlv => by obtain ⟨_, rfl, rfl, rfl⟩ := hl hlv; exact ⟨hO.flat hfl0, fun k hk => ⟨.inl hk, hlt k hk⟩⟩),
      (fun o o' l l' E1 E2 r1 r2 _ g1 g2 _ _ => by rw [(hl g1).1, (hl g2).1]), i1, i2, rfl⟩
  have fin : ∀ (s' : St) (ρ' : List Loc) (a' : Act) (w' : World), (rets alg s'.h 0 (res.map (rvA alg tt s')) fun vs _ => retM (tupOf vs) r (s'.h.getD 0 .dead) E row') → Inv w ⟨fun k => loc.has k, some loc⟩ ρ' s' a' w' →
      a'.defers = [] ∧ ∃ v, (results fn a'.tmps).run P w' = .ok v w' ∧ ∃ v_1, Ending.returned v = Ending.returned v_1 ∧ Keeps (fun k => loc.has k) w w' ∧ ObjOK w' ok loc E row' ∧ VR w' ok [loc] [.row E row'] r v_1 ∧ nl row' = nl row := by
    intro s' ρ' a' w' hq hI'
    obtain ⟨vals', v, g1, g2, g3⟩ := results_sound hT hI' hr h1 h3 (rets_all _ _ _ hq)
    obtain ⟨vs, es, hk, _, hvs⟩ := rets_sound (ρ := ρ') (t := s'.t) (h := s'.h) hI' _ vals' 0 [] _ hq rfl g1
    obtain ⟨hk1, hk2⟩ := hk
    have hlive : live ρ' s'.h 0 loc E row' := by
      refine ⟨?_, hI'.pin loc rfl⟩
      have hlt : 0 < s'.h.length := by
        rcases Nat.eq_zero_or_pos s'.h.length with h0 | h0
        · have : s'.h = [] := List.eq_nil_of_length_eq_zero h0
          rw [this] at hk2; cases hk2
        · exact h0
      rw [List.getElem?_eq_getElem hlt]
      simpa [List.getD, List.getElem?_eq_getElem hlt] using hk2
    have hvl : vals'.length ≤ 3 := by rw [← VRs_len g1]; simpa using h3
    have hval := tup_sound (hvs (fun _ => True)) hvl g3
    rw [hk1] at hval
    obtain ⟨v0, u1, u2⟩ := scalar_val hsc
    refine ⟨hI'.defers, v, g2, v, rfl, hI'.keep, (hI'.obj _ _ _ _ hlive).1.flat hfl, ?_, hn⟩
    rw [u2 _ _ _ _ _ hval]
    exact u1 _ _ _ _
  have hTab' : TabIn P T w ⟨fun k => loc.has k, some loc⟩ := ⟨⟨GT, hTab, fun w' hk => trivial⟩⟩
  refine wp_mono (awp_sound hT hTab' hm _ _ _ _ _ _ (h E) hI) ?_
  intro e a' w' hq
  cases e with
  | normal => obtain ⟨s', ρ', h1', h2'⟩ := hq; exact fin s' ρ' a' w' h1' h2'
  | ret => obtain ⟨s', ρ', h1', h2'⟩ := hq; exact fin s' ρ' a' w' h1' h2'
  | exit i => obtain ⟨s', ρ', h1', _⟩ := hq; exact h1'.elim
  | goto l => exact hq.elim
  | panic l => exact hq.elim
  | outgrown => exact hq.elim

theorem VRs_sm {ok : Nat → Prop} {h : List AO} {row : Row} : ∀ {xs : List AV} {vs : List Value} {i : Nat} {v0 : Value}, VRs w ok ρ h xs vs → xs[i]? = some (.ro row) → vs[i]? = some v0 → VRs w ok ρ h (xs.set i (.sm v0 row)) vs
  | x :: xs, u :: vs, 0, v0, hv, hx, hu => by
    simp at hx hu; subst hx; subst hu
    exact ⟨⟨rfl, hv.1⟩, hv.2⟩
  | x :: xs, u :: vs, i + 1, v0, hv, hx, hu => ⟨hv.1, VRs_sm (i := i) hv.2 (by simpa using hx) (by simpa using hu)⟩
  | [], _, _, _, _, hx, _ => by simp at hx
  | _ :: _, [], _, _, hv, _, _ => hv.elim

/-- A CONTRACT of a function that hands an argument back, and a value beside it. -/
theorem fcs_of {G : World → Prop} (hst : ∀ w w', G w → Below w.heap.size w w' → G w') (hT : TTok P tt) (hTab : TabG G P T) (hm : P.follows .mixedOrders = true) {f : Nat} {fn : Func} {c : Code} {args : List AV} {i : Nat} {b : AV} {row : Row}
    (hf : P.funcs[f]? = some fn) (hb : fn.body = some c) (hname : ¬ fn.name = "runtime.NumGoroutine") {res : List ResultVar} (hr : fn.results.toList = res) (h1 : res.length = 2)
    (hrow : args[i]? = some (.ro row)) (hsc : scalar b = true)
    (h : ∀ v0, awp alg tt T c (doneS alg tt res v0 b) ⟨args.set i (.sm v0 row) ++ undefs (fn.ntmps - args.length), [.dead]⟩) : FCS G P f args i b := by
  refine ⟨⟨fn, hf, hname, by rw [hb]; simp⟩, fun w vals hGw hv => ?_⟩
  obtain ⟨v0, hv0, _⟩ := VRs_at hv hrow
  refine calls_of_wp hf hb ?_
  have hnl : ∀ {o loc E r}, ¬ live [Loc.mk 0 0 true []] [AO.dead] o loc E r := by
    rintro o loc E r ⟨h1, _⟩
    cases o <;> simp at h1
  have hv1 : VRs w (okB [Loc.mk 0 0 true []] [.dead]) [Loc.mk 0 0 true []] [.dead] args vals := VRs_clean (VRs_weak (fun k _ o loc E r hl => (hnl hl).elim) hv)
  have hv' := VRs_sm hv1 hrow hv0
  obtain ⟨i1, i2⟩ := init_slots (n := fn.ntmps) hv'
  rw [List.length_set] at i1 i2
  have hTab' : TabIn P T w ⟨fun _ => False, none⟩ := ⟨⟨G, hTab, fun w' hk => hst _ _ hGw hk.below⟩⟩
  have hI : Inv w ⟨fun _ => False, none⟩ [Loc.mk 0 0 true []] ⟨args.set i (.sm v0 row) ++ undefs (fn.ntmps - args.length), [.dead]⟩ { tmps := vals.toArray ++ Array.replicate (fn.ntmps - vals.toArray.size) undef, defers := [] } w :=
    ⟨Keeps.refl _ _, (fun _ h => by cases h), rfl, (fun o loc E r hl => (hnl hl).elim), (fun o o' loc loc' E E' r r' k hl => (hnl hl).elim), i1, i2, rfl⟩
  have fin : ∀ (s' : St) (ρ' : List Loc) (a' : Act) (w' : World), (match res.map (rvA alg tt s') with | [.sm v _, y] => retS v v0 y b | _ => False) → Inv w ⟨fun _ => False, none⟩ ρ' s' a' w' →
      a'.defers = [] ∧ ∃ v, (results fn a'.tmps).run P w' = .ok v w' ∧ ∃ v_1 vb, vals[i]? = some v_1 ∧ Ending.returned v = Ending.returned (.tuple #[v_1, vb]) ∧ Below w.heap.size w w' ∧ VR w' (fun _ => True) [] [] b vb := by
    intro s' ρ' a' w' hq hI'
    match res, h1 with
    | [x, y], _ =>
      simp only [List.map_cons, List.map_nil] at hq
      split at hq
      · rename_i v r y' heq
        simp only [List.cons.injEq, and_true] at heq
        obtain ⟨e1, e2⟩ := heq
        obtain ⟨rfl, hq2⟩ := hq
        subst hq2
        have oneX : ∃ u, VR w' (okB ρ' s'.h) ρ' s'.h (rvA alg tt s' x) u ∧ (rvRun a'.tmps x).run P w' = .ok u w' := by
          cases x with
          | tmp t => exact ⟨a'.tmps.getD t undef, ev_sound hI' (.tmp t), rfl⟩
          | cell b t =>
            exfalso
            simp only [rvA] at e1
            split at e1
            · split at e1
              · split at e1 <;> cases e1
              · cases e1
            · cases e1
        obtain ⟨u, p1, p2⟩ := oneX
        have hpl : plain (rvA alg tt s' y) = true := by
          rw [e2]
          cases y' <;> first | exact hsc | (cases hsc; done)
        obtain ⟨z, q1, q2⟩ := rv_sound (P := P) hT hI' y (.inr hpl)
        rw [e1] at p1
        obtain ⟨rfl, _⟩ := p1
        have runs : (results fn a'.tmps).run P w' = .ok (.tuple #[u, z]) w' := by
          have hr' : fn.results = #[x, y] := by rw [← hr]
          have : (results fn a'.tmps) = (do let vs ← fn.results.mapM (rvRun a'.tmps); pure (if h : vs.size = 1 then vs[0] else .tuple vs) : Sem Value) := by
            unfold results
            congr 1
          rw [this, hr']
          simp [p2, q2]
        refine ⟨hI'.defers, _, runs, u, z, hv0, rfl, hI'.keep.below, ?_⟩
        rw [e2] at q1
        obtain ⟨v1, u1, u2⟩ := scalar_val hsc
        rw [u2 _ _ _ _ _ q1]
        exact u1 _ _ _ _
      · exact hq.elim
  refine wp_mono (awp_sound hT hTab' hm _ _ _ _ _ _ (h v0) hI) ?_
  intro e a' w' hq
  cases e with
  | normal => obtain ⟨s', ρ', h1', h2'⟩ := hq; exact fin s' ρ' a' w' h1' h2'
  | ret => obtain ⟨s', ρ', h1', h2'⟩ := hq; exact fin s' ρ' a' w' h1' h2'
  | exit i => obtain ⟨s', ρ', h1', _⟩ := hq; exact h1'.elim
  | goto l => exact hq.elim
  | panic l => exact hq.elim
  | outgrown => exact hq.elim

end
end Go.Ab
