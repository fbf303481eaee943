/-
  SOUNDNESS: calls by contract; regions, in order and in any order.
-/
import Derived.Test.YtdkpncnkhnmidaaDoorAb12
set_option linter.unusedSimpArgs false
set_option linter.unusedVariables false
namespace Go.Ab
open Go.RowKit

section
variable {P : Program} {tt : Nat → TI} {T : Nat → List AV → CR} {w0 w w' : World} {S0 : Base} {ρ ρ' : List Loc} {s : St} {a : Act} {o : Oper} {g : Option Bool} {K : AV → St → Prop}

/-- An object is written in place by a callee. -/
theorem Inv.mut (hI : Inv w0 S0 ρ s a w) {o E : Nat} {loc : Loc} {r r' : Row} (hl : live ρ s.h o loc E r) (hn : nl r' = nl r) (hw : wd r' = wd r)
    (hk : Keeps (fun k => loc.has k) w w') (hO : ObjOK w' (okO w0 S0 ρ (s.h.set o (.row E r'))) loc E r') :
    Inv w0 S0 ρ ⟨s.t, s.h.set o (.row E r')⟩ a w' := by
  have hold := hI.obj _ _ _ _ hl
  have hok : ∀ k, okB ρ s.h k → okB ρ (s.h.set o (.row E r')) k := by
    intro k hkk o' loc' E' r2 hlv hz'
    rcases live_set hlv with ⟨rfl, _, _, he⟩ | ⟨_, hlv⟩
    · have : loc' = loc := by have := he.symm.trans hl.2; simpa using this
      subst this
      exact hkk _ _ _ _ hl hz'
    · exact hkk _ _ _ _ hlv hz'
  have hS : Same w w' (okB ρ s.h) (okB ρ (s.h.set o (.row E r'))) :=
    ⟨hk.size, fun k h1 h2 => ⟨hk.block k h1 (fun e => h2 _ _ _ _ hl e), hok k h2⟩⟩
  refine hI.step ⟨hk.os, hk.tape, hk.output, hk.size, fun k h1 h2 => hk.block k h1 (fun e => h2 (hold.2 k e).1)⟩ hS hI.pin (by simp [hI.len]) ?_ ?_ rfl ?_
  · intro o' loc' E' r2 hlv
    rcases live_set hlv with ⟨rfl, rfl, rfl, he⟩ | ⟨hne, hlv⟩
    · have : loc' = loc := by have := he.symm.trans hl.2; simpa using this
      subst this
      exact ⟨hO, fun k hk' => ⟨(hold.2 k hk').1, Nat.lt_of_lt_of_le (hold.2 k hk').2 hk.size⟩⟩
    · obtain ⟨g1, g2⟩ := hI.obj _ _ _ _ hlv
      exact ⟨g1.same hS.o (fun k hz' => hk.block _ (hI.block hlv hz') (fun e => hne (hI.inj _ _ _ _ _ _ _ _ k hlv hl hz' e))), fun k hk' => ⟨(g2 k hk').1, Nat.lt_of_lt_of_le (g2 k hk').2 hk.size⟩⟩
  · intro o1 o2 l1 l2 E1 E2 r1 r2 k g1 g2 z1 z2
    have back : ∀ {o' loc' E' r2}, live ρ (s.h.set o (.row E r')) o' loc' E' r2 → ∃ E3 r3, live ρ s.h o' loc' E3 r3 := by
      intro o' loc' E' r2 hlv
      rcases live_set hlv with ⟨rfl, rfl, rfl, he⟩ | ⟨hne, hlv⟩
      · exact ⟨_, _, hl.1, he⟩
      · exact ⟨_, _, hlv⟩
    obtain ⟨_, _, g1⟩ := back g1
    obtain ⟨_, _, g2⟩ := back g2
    exact hI.inj _ _ _ _ _ _ _ _ k g1 g2 z1 z2
  · intro i x hx
    refine .inr ⟨hx, ⟨by simp, fun o' _ ho E' r2 hr2 => ⟨rfl, ?_⟩⟩⟩
    rw [List.getElem?_set] at hr2
    split at hr2
    · rename_i he
      subst he
      split at hr2
      · simp at hr2
        obtain ⟨rfl, rfl⟩ := hr2
        exact ⟨_, _, hl.1, hn.symm, hw.symm⟩
      · rename_i hh; exact absurd ho hh
    · exact ⟨E', r2, hr2, rfl, rfl⟩

theorem RC.flat {ok ok' : Nat → Prop} {r : Row} {cs : List Value} (hf : flat r = true) (h : RC w ok r cs) : RC w ok' r cs := by
  cases r <;> first | exact h | cases hf
theorem ObjOK.flat {ok ok' : Nat → Prop} {r : Row} {loc : Loc} {E : Nat} (hf : Ab.flat r = true) (h : ObjOK w ok loc E r) : ObjOK w ok' loc E r := by
  rcases h with h | ⟨hz, ⟨cur, cs, h1, h2, h3, h4⟩ | h⟩
  · exact .inl h
  · exact .inr ⟨hz, .inl ⟨cur, cs, h1, h2, h3.flat hf, h4⟩⟩
  · exact .inr ⟨hz, .inr h⟩
theorem sameK_rk {r r' : Row} (h : sameK r r' = true) : r.rk = r'.rk ∧ wd r = wd r' ∧ (Ab.flat r = true → Ab.flat r' = true) ∧ ∀ {h : List AO} {o E : Nat} {z : Bool}, getO h o = some (E, r') → borrow alg h (.own o z) = .ro r'.seen := by
  unfold sameK at h
  split at h
  · exact ⟨rfl, rfl, fun _ => rfl, fun hob => by simp [borrow, hob, Row.seen]⟩
  · rename_i hnt
    have e := RK.eqb_eq h
    have hk := eqb_rowk h
    refine ⟨e, by rw [← sz_wd, e, sz_wd], fun hf => ?_, fun {hh o E z} hob => ?_⟩
    · cases r <;> cases r' <;> simp only [Row.rk] at e <;> first | rfl | (cases hf; done) | (cases e; done)
    · cases r' <;> first | (simp [borrow, hob, Row.seen, hk, Row.rk, RK.rowk]; done) | (simp [Row.rk, RK.rowk] at hk; done)
theorem flat_rk {r r' : Row} (h : flat r = true) (e : r.rk = r'.rk) : flat r' = true := by
  cases r <;> cases r' <;> simp only [Row.rk] at e <;> first | rfl | (cases h; done) | (cases e; done)

theorem VRs_at {ok : Nat → Prop} {h : List AO} : ∀ {xs : List AV} {vs : List Value} {i : Nat} {x : AV}, VRs w ok ρ h xs vs → xs[i]? = some x → ∃ v, vs[i]? = some v ∧ VR w ok ρ h x v
  | _ :: _, _ :: _, 0, _, hv, hx => by simp at hx; subst hx; exact ⟨_, rfl, hv.1⟩
  | _ :: _, _ :: _, i + 1, _, hv, hx => by simpa using VRs_at (i := i) hv.2 (by simpa using hx)
  | [], _, _, _, _, hx => by simp at hx
  | _ :: _, [], _, _, hv, _ => hv.elim

theorem VRs_set {ok ok' : Nat → Prop} {ρ' : List Loc} {h h' : List AO} : ∀ {xs : List AV} {vs : List Value} {i : Nat} {y : AV} {v : Value}, VRs w ok ρ h xs vs → scalars (xs.set i (.bool true)) = true → vs[i]? = some v → VR w ok' ρ' h' y v →
    VRs w ok' ρ' h' ((xs.map (borrow alg h)).set i y) vs
  | x :: xs, u :: vs, 0, y, v, hv, hs, hu, hy => by
    simp at hu; subst hu
    simp only [List.set_cons_zero, scalars, scalar, Bool.true_and] at hs
    refine ⟨hy, ?_⟩
    clear hy
    have : ∀ {xs : List AV} {vs : List Value}, VRs w ok ρ h xs vs → scalars xs = true → VRs w ok' ρ' h' (xs.map (borrow alg h)) vs := by
      intro xs
      induction xs with
      | nil => intro vs hv _; cases vs with | nil => trivial | cons _ _ => exact hv.elim
      | cons x xs ih =>
        intro vs hv hs
        cases vs with
        | nil => exact hv.elim
        | cons u vs =>
          simp only [scalars, Bool.and_eq_true] at hs
          refine ⟨?_, ih hv.2 hs.2⟩
          have := hs.1
          have h1 := hv.1
          cases x <;> simp only [scalar] at this <;> first | exact h1 | (cases this; done) | trivial
    exact this hv.2 hs
  | x :: xs, u :: vs, i + 1, y, v, hv, hs, hu, hy => by
    simp only [List.set_cons_succ, scalars, Bool.and_eq_true] at hs
    refine ⟨?_, VRs_set (i := i) hv.2 hs.2 (by simpa using hu) hy⟩
    have := hs.1
    have h1 := hv.1
    cases x <;> simp only [scalar] at this <;> first | exact h1 | (cases this; done) | trivial
  | [], [], i, y, v, _, _, hu, _ => by simp at hu
  | _ :: _, [], _, _, _, hv, _, _, _ => hv.elim
  | [], _ :: _, _, _, _, hv, _, _, _ => hv.elim

theorem Inv.below (hI : Inv w0 S0 ρ s a w) (hb : Below w.heap.size w w') : Inv w0 S0 ρ s a w' := by
  have hS : Same w w' (okB ρ s.h) (okB ρ s.h) := ⟨hb.size, fun k hk ho => ⟨hb.block k hk, ho⟩⟩
  refine hI.step ⟨hb.os, hb.tape, hb.output, hb.size, fun k hk _ => hb.block k hk⟩ hS hI.pin hI.len ?_ hI.inj rfl (fun i x hx => .inr ⟨hx, Heaps.refl _ _ _⟩)
  intro o loc E r hl
  obtain ⟨h1, h2⟩ := hI.obj _ _ _ _ hl
  exact ⟨h1.same hS.o (fun k hz => hb.block _ (hI.block hl hz)), fun k hk => ⟨(h2 k hk).1, Nat.lt_of_lt_of_le (h2 k hk).2 hb.size⟩⟩

theorem shiftAt_sound {ok ok' : Nat → Prop} {loc' : Loc} {E o : Nat} {row : Row} {h : List AO} (hS : Same w w ok ok') (ho : o < h.length) (hl : o < ρ.length) : ∀ {x : AV} {v : Value}, VR w ok [loc'] (rowsOf [(E, row)]) x v → VR w ok' (ρ.set o loc') (h.set o (.row E row)) (shiftAt o x) v := by
  intro x
  induction x with
  | own o' z =>
    intro v hv
    refine ⟨by simpa using ho, fun E' r' hr' => ?_⟩
    rw [List.getElem?_set_self ho] at hr'
    have ho' : o' = 0 := by have := hv.1; simp [rowsOf] at this; exact this
    subst ho'
    obtain ⟨l, h1, h2⟩ := hv.2 E' r' (by simpa [rowsOf] using hr')
    simp at h1
    subst h1
    exact ⟨_, List.getElem?_set_self hl, h2⟩
  | int k n => intro v hv; exact hv
  | bool b => intro v hv; exact hv
  | str b => intro v hv; exact hv
  | t2 a b iha ihb => intro v hv; obtain ⟨x, y, h1, h2, h3⟩ := hv; exact ⟨x, y, h1, iha h2, ihb h3⟩
  | _ => intros; trivial

theorem callee_form {op : Op} {f : Nat} {args : List Operand} (h : callee op = some (f, args)) : ∃ (as : Array Operand) (ts : Array TypeId), op = .call { callee := .value (.func f), args := as, argTypes := ts } ∧ as.toList = args := by
  unfold callee at h
  split at h
  · simp at h
    obtain ⟨rfl, rfl⟩ := h
    exact ⟨_, _, rfl, rfl⟩
  · cases h

/-- A call by contract, in order. -/
theorem call_seq (hTab : TabIn P T w0 S0) (hI : Inv w0 S0 ρ s a w) {f : Nat} {args : List Operand} (ho : callee o.op = some (f, args)) (h : callOp alg T false none s f args K) {next : Act → World → Prop} {Q : Exit → Act → World → Prop}
    (hnext : ∀ x s' ρ' v w', K x s' → Inv w0 S0 ρ' s' a w' → VR w' (okB ρ' s'.h) ρ' s'.h x v → next (a.put o.dst v) w') : o.wp P a w next Q := by
  obtain ⟨as, ts, hop, rfl⟩ := callee_form ho
  unfold callOp at h
  obtain ⟨vs, h1, hvs⟩ := opL_sound hI _ h
  have hvs := hvs trivial
  clear h
  have go : ∀ {R : Ending → World → Prop}, Callable P f → Calls P f ((as.toList.map a.eval).toArray) w R → (∀ e w', R e w' → ∃ v, e = .returned v ∧ next (a.put o.dst v) w') → o.wp P a w next Q := by
    intro R hc hcall hR
    unfold Oper.wp
    rw [exec_call hc hop, Oper.upon_enter]
    have e : as.map a.eval = (as.toList.map a.eval).toArray := by apply Array.toList_inj.1; rw [Array.toList_map]
    rw [e]
    refine hcall.mono fun e w' hr => ?_
    obtain ⟨v, rfl, hn⟩ := hR e w' hr
    exact hn
  have hbs := borrows_sound hI (After.refl w) hvs
  split at h1
  · exact h1.elim
  · rename_i p r fr hTf
    obtain ⟨hp, hk⟩ := h1
    have hFC := hTab.fc hTf hp
    refine go hFC.call (hFC.post w _ hI.keep hbs) ?_
    rintro e w' ⟨v, ρ', rfl, hb, hF⟩
    obtain ⟨g1, g2⟩ := hI.call hb hF
    exact ⟨v, rfl, hnext _ _ _ _ _ hk g1 g2⟩
  · rename_i i p r row hTf
    split at h1
    · rename_i ob z _ _ heq
      split at h1
      · rename_i E row0 hob
        split at h1
        · rename_i hsc
          simp only [Bool.and_eq_true] at hsc
          obtain ⟨⟨⟨s1, s2⟩, s3⟩, s4⟩ := hsc
          obtain ⟨_, hwd, hflat, hbor⟩ := sameK_rk s3
          obtain ⟨hp, hk⟩ := h1
          have hFM := hTab.mut hTf hp
          have hvi : vs[i]? = some (.own ob z) := by
            rcases Nat.lt_or_ge i vs.length with hi | hi
            · rw [List.getElem?_eq_getElem hi]
              simpa [List.getD, List.getElem?_eq_getElem hi] using heq
            · simp [List.getD, List.getElem?_eq_none hi] at heq
          obtain ⟨v, hv1, hv2⟩ := VRs_at hvs hvi
          obtain ⟨hlt, hv3⟩ := hv2
          obtain ⟨loc, hl, hv4⟩ := hv3 E row0 (gO hob)
          have hlive : live ρ s.h ob loc E row0 := ⟨gO hob, hl⟩
          have hO := (hI.obj _ _ _ _ hlive).1
          have hfl : flat row0 = true := hflat s2
          have hown : VR w (okB ρ s.h) [loc] [.row E row0] (.own 0 true) v := by
            refine ⟨by simp, fun E' r' hr' => ?_⟩
            simp at hr'
            obtain ⟨rfl, rfl⟩ := hr'
            refine ⟨loc, rfl, ?_⟩
            rcases hv4 with ⟨q1, _, q3, q4⟩ | hv4
            · exact .inl ⟨q1, rfl, q3, q4⟩
            · exact .inr hv4
          have hpost := hFM.post w (as.toList.map a.eval) loc E row0 (okB ρ s.h) (by
            rw [List.getElem?_map, hvi]; simp [hbor hob]) hfl s3 (fun k hk => hI.block hlive hk) (fun k hk => hk _ _ _ _ hlive) (hO.flat hfl) (VRs_set hvs s4 hv1 hown)
          refine go hFM.call hpost ?_
          rintro e w' ⟨v', rfl, hK, hO', hr', hn⟩
          obtain ⟨v0, u1, u2⟩ := scalar_val s1
          refine ⟨v', rfl, hnext _ _ _ _ _ hk (hI.mut hlive hn hwd hK (hO'.flat s2)) ?_⟩
          rw [u2 _ _ _ _ _ hr']
          exact u1 _ _ _ _
        · exact h1.elim
      · exact h1.elim
    · exact h1.elim
  · rename_i i p r E row hTf
    split at h1
    · rename_i ob z _ _ heq
      split at h1
      · rename_i er hob h0
        obtain ⟨hp, hk⟩ := h1
        have hFC := hTab.pat hTf hp
        refine go hFC.call (hFC.post w _ hI.keep hbs) ?_
        rintro e w' ⟨v, ρ', rfl, hb, hF⟩
        obtain ⟨g1, g2⟩ := hI.call hb hF
        obtain ⟨loc', hρ'⟩ : ∃ l, ρ' = [l] := by
          have := hF.len
          match ρ', this with
          | [l], _ => exact ⟨l, rfl⟩
        subst hρ'
        have hob' := gO hob
        have hlt : ob < s.h.length := (List.getElem?_eq_some_iff.1 hob').1
        have h0' := nblt h0
        have hpl := Inv.place (by omega) hlt hI hb (fun k hz => ((hF.obj 0 loc' E row ⟨rfl, rfl⟩).2 k hz).1) g1
        refine ⟨v, rfl, hnext _ _ _ _ _ hk hpl ?_⟩
        have hSm : Same w' w' (fun k => okB [loc'] (rowsOf [(E, row)]) k ∧ w.heap.size ≤ k) (okB (ρ.set ob loc') (s.h.set ob (.row E row))) := by
          refine same_weak fun k hkk o2 l2 E2 r2 hlv hz => ?_
          rcases live_set hlv with ⟨rfl, rfl, rfl, he⟩ | ⟨hne, q1, q2⟩
          · rw [List.getElem?_set_self (by rw [hI.len]; exact hlt)] at he
            simp at he
            subst he
            exact hkk.1 0 _ _ _ ⟨rfl, rfl⟩ hz
          · rw [List.getElem?_set_ne (fun e => hne e.symm)] at q2
            have := hI.block (k := k) ⟨q1, q2⟩ hz
            have := hkk.2
            omega
        exact shiftAt_sound hSm hlt (by rw [hI.len]; exact hlt) hF.val
      · exact h1.elim
    · exact h1.elim
  · rename_i i p b hTf
    simp only at h1
    split at h1
    · rename_i x hsc hvi
      obtain ⟨hp, hk⟩ := h1
      have hFS := hTab.same hTf hp
      refine go hFS.call (hFS.post w _ hI.keep hbs) ?_
      rintro e w' ⟨v, vb, hv1, rfl, hb, hvb⟩
      obtain ⟨v2, hv2, hv3⟩ := VRs_at hvs hvi
      have : v2 = v := by rw [hv2] at hv1; simpa using hv1
      subst this
      have hI2 := hI.below hb
      have hS2 : Same w w' (okB ρ s.h) (okB ρ s.h) := ⟨hb.size, fun k hk ho => ⟨hb.block k hk, ho⟩⟩
      refine ⟨_, rfl, hnext _ _ _ _ _ hk hI2 ⟨v2, vb, rfl, VR.same hS2 (Heaps.refl _ _ _) hv3, ?_⟩⟩
      obtain ⟨v0, u1, u2⟩ := scalar_val hsc
      rw [u2 _ _ _ _ _ hvb]
      exact u1 _ _ _ _
    · exact h1.elim

end
end Go.Ab
