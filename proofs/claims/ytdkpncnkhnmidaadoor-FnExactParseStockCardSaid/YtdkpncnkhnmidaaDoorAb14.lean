/-
  SOUNDNESS: one operation, a region in order, a region in any order.
-/
import Derived.Test.YtdkpncnkhnmidaaDoorAb13
import Derived.OrdersHeld
import Derived.RegionTactic
set_option linter.unusedSimpArgs false
set_option linter.unusedVariables false
namespace Go.Ab
open Go.RowKit

section
variable {P : Program} {tt : Nat → TI} {T : Nat → List AV → CR} {w0 w w' : World} {S0 : Base} {ρ ρ' : List Loc} {s : St} {a : Act} {o : Oper} {g : Option Bool} {q : Bool}

theorem call_quiet (hTab : TabIn P T w0 S0) (hI : Inv w0 S0 ρ s a w) {f : Nat} {args : List Operand} {K : AV → St → Prop} (h : callOp alg T q g s f args K) (hq : q = true ∨ g.isSome = true) :
    ∃ r, K r s ∧ (gt g → Callable P f ∧ ∃ v0, (∀ w ok ρ h, VR w ok ρ h r v0) ∧ ∀ w', Below w.heap.size w w' → Calls P f (args.map a.eval).toArray w' fun e w'' => e = .returned v0 ∧ Below w'.heap.size w' w'') := by
  unfold callOp at h
  obtain ⟨vs, h1, hvs⟩ := opL_sound hI _ h
  clear h
  split at h1
  · exact h1.elim
  · rename_i p r fr hTf
    have key : fr = [] → scalar r = true → ob alg g p (K r s) → ∃ r, K r s ∧ (gt g → Callable P f ∧ ∃ v0, (∀ w ok ρ h, VR w ok ρ h r v0) ∧ ∀ w', Below w.heap.size w w' → Calls P f (args.map a.eval).toArray w' fun e w'' => e = .returned v0 ∧ Below w'.heap.size w' w'') := by
      rintro rfl hsc hob
      obtain ⟨hk, hp⟩ := ob_sound hob
      refine ⟨r, hk, fun hg => ?_⟩
      have hFC := hTab.fc hTf (hp hg)
      obtain ⟨v0, u1, u2⟩ := scalar_val hsc
      refine ⟨hFC.call, v0, u1, fun w' hb => ?_⟩
      refine (hFC.post w' _ (hI.below hb).keep (borrows_sound hI ⟨hb.size, hb.block⟩ (hvs hg))).mono ?_
      rintro e w'' ⟨v, ρ', rfl, hb', hF⟩
      rw [u2 _ _ _ _ _ hF.val]
      exact ⟨rfl, hb'⟩
    split at h1
    · rcases hq with hq | hq <;> simp at hq
    · split at h1
      · rename_i hsc
        exact key rfl hsc h1
      · exact h1.elim
    · exact h1.elim
  · split at h1
    · rcases hq with hq | hq <;> simp at hq
    · exact h1.elim
  · split at h1
    · rcases hq with hq | hq <;> simp at hq
    · exact h1.elim
  · split at h1
    · rcases hq with hq | hq <;> simp at hq
    · exact h1.elim

/-- What the abstract step leaves, where the operation is not carried out. -/
theorem step_skip (hT : TTok P tt) (hTab : TabIn P T w0 S0) (hI : Inv w0 S0 ρ s a w) {K : AV → St → Prop} {b : Bool} (h : stepOp alg tt T q (some b) s o.op K) : ∃ x, K x s := by
  unfold stepOp at h
  split at h
  · obtain ⟨r, hk, _⟩ := call_quiet hTab hI h (.inr rfl)
    exact ⟨r, hk⟩
  · split at h
    · split at h
      · rename_i hh; cases hh
      · exact h.elim
    · obtain ⟨x, hk, _⟩ := pureOp_sound hT hI h
      exact ⟨x, hk⟩

/-- One operation, carried out in order. -/
theorem step_seq (hT : TTok P tt) (hTab : TabIn P T w0 S0) (hI : Inv w0 S0 ρ s a w) {K : AV → St → Prop} (h : stepOp alg tt T false g s o.op K) (hg : gt g) {next : Act → World → Prop} {Q : Exit → Act → World → Prop}
    (hnext : ∀ x s' ρ' v w', K x s' → Inv w0 S0 ρ' s' a w' → VR w' (okB ρ' s'.h) ρ' s'.h x v → next (a.put o.dst v) w') : o.wp P a w next Q := by
  unfold stepOp at h
  split at h
  · rename_i f args hcal
    cases g with
    | none => exact call_seq hTab hI hcal h hnext
    | some b =>
      obtain ⟨r, hk, hr⟩ := call_quiet hTab hI h (.inr rfl)
      obtain ⟨hc, v0, u1, hcall⟩ := hr hg
      obtain ⟨as, ts, hop, rfl⟩ := callee_form hcal
      unfold Oper.wp
      rw [exec_call hc hop, Oper.upon_enter]
      have e : as.map a.eval = (as.toList.map a.eval).toArray := by apply Array.toList_inj.1; rw [Array.toList_map]
      rw [e]
      refine (hcall w (Below.refl _ _)).mono ?_
      rintro e w'' ⟨rfl, hb⟩
      exact hnext _ _ _ _ _ hk (hI.below hb) (u1 _ _ _ _)
  · split at h
    · split at h
      · obtain ⟨x, s', ρ', w', r, hk, hI', hrun, hr, _⟩ := memOp_sound hT hI h
        unfold Oper.wp
        rw [hrun]
        rcases hr with ⟨v, rfl, hv⟩ | ⟨rfl, rfl⟩
        · exact hnext _ _ _ _ _ hk hI' hv
        · exact hnext _ _ _ undef _ hk hI' trivial
      · exact h.elim
    · obtain ⟨x, hk, hr⟩ := pureOp_sound hT hI h
      obtain ⟨v, hv, hrun⟩ := hr hg
      unfold Oper.wp
      rw [hrun w (After.refl w)]
      exact hnext _ _ _ _ _ hk hI hv

theorem guard_sound {ops : Array Oper} (hI : Inv w0 S0 ρ s a w) {j : Nat} {want b : Bool} (ho : o.guard = some (j, want)) (h : guardOf alg ops s.t j want = some b) : Region.wanted o (yielded ops a.tmps) = b := by
  unfold guardOf at h
  split at h
  · rename_i d hd
    have hd' : (ops[j]?).bind (·.dst) = some d := by rw [← hd]; simp
    have slot := ev_sound hI (.tmp d)
    simp only [ev, Act.eval] at slot
    have yield : ∀ {c : Bool}, a.tmps.getD d undef = .bool c → yielded ops a.tmps j = some c := by
      intro c hc
      have hlt : d < a.tmps.size := by
        rcases Nat.lt_or_ge d a.tmps.size with h | h
        · exact h
        · rw [Array.getD_eq_getD_getElem?, Array.getElem?_eq_none h] at hc
          cases hc
      have he : a.tmps[d]? = some (.bool c) := by
        rw [Array.getElem?_eq_getElem hlt]
        simp [Array.getD, hlt] at hc
        rw [hc]
      simp [yielded, hd', he]
    simp only [Region.wanted, ho]
    split at h
    · rename_i c hc
      rw [hc] at slot
      rw [yield slot]
      simp at h
      subst h
      cases want <;> cases c <;> rfl
    · rename_i g0 c hc
      rw [hc] at slot
      simp at h
      subst h
      cases g0 with
      | true =>
        rw [yield (slot.1 rfl)]
        cases want <;> cases c <;> rfl
      | false =>
        have hu := slot.2 rfl
        have : yielded ops a.tmps j = none := by
          unfold yielded
          rw [hd']
          simp only [Option.bind_some]
          cases he : a.tmps[d]? with
          | none => rfl
          | some u =>
            have : a.tmps.getD d undef = u := by
              rw [Array.getD_eq_getD_getElem?, he]; rfl
            rw [hu] at this
            subst this
            rfl
        rw [this]
        cases want <;> rfl
    · cases h
  · cases h

/-- A region, in order, where the guard is known not to hold. -/
theorem reg_f {tail : List Oper} (hT : TTok P tt) (hTab : TabIn P T w0 S0) {ops : Array Oper} {jj : Nat} {ww : Bool} {K : St → Prop} {Q : Exit → Act → World → Prop} (hQ : ∀ s' ρ' a' w', K s' → Inv w0 S0 ρ' s' a' w' → wpList P ops Q tail a' w') :
    ∀ (l : List Oper) (s : St) (ρ : List Loc) (a : Act) (w : World), regF alg tt T ops jj ww l s K → Inv w0 S0 ρ s a w → wpList P ops Q (l ++ tail) a w
  | [], s, ρ, a, w, h, hI => hQ _ _ _ _ h hI
  | o :: rest, s, ρ, a, w, h, hI => by
    simp only [regF] at h
    split at h
    · rename_i hg
      refine wpList_plain hg fun K' hK' => step_seq hT hTab hI h trivial fun x s' ρ' v w' hk hI' hv => hK' _ _ (reg_f hT hTab hQ rest _ ρ' _ _ hk (hI'.put hv o.dst))
    · rename_i j want hg
      split at h
      · exact h.elim
      · rename_i b hb
        have hw := guard_sound hI hg hb
        refine wpList_step fun K' hK' => ?_
        have skip : ∀ x, b = false → regF alg tt T ops jj ww rest ⟨put s.t o.dst (.gd b x), s.h⟩ K → (if Region.wanted o (yielded ops a.tmps) = true then o.wp P a w K' Q else K' (a.put o.dst undef) w) := by
          intro x hbf hk
          subst hbf
          rw [hw, if_neg (by simp)]
          exact hK' _ _ (reg_f hT hTab hQ rest _ ρ _ _ hk (hI.put (x := .gd false x) ⟨(fun h => by cases h), fun _ => rfl⟩ o.dst))
        split at h
        · exact skip _ h.1 h.2
        · exact skip _ h.1 h.2
        · cases b with
          | true =>
            rw [hw, if_pos rfl]
            exact step_seq hT hTab hI h rfl fun x s' ρ' v w' hk hI' hv => hK' _ _ (reg_f hT hTab hQ rest _ ρ' _ _ hk (hI'.put (x := .gd true x) ⟨fun _ => hv, fun h => by cases h⟩ o.dst))
          | false =>
            rw [hw, if_neg (by simp)]
            obtain ⟨x, hk⟩ := step_skip hT hTab hI h
            exact hK' _ _ (reg_f hT hTab hQ rest _ ρ _ _ hk (hI.put (x := .gd false x) ⟨(fun h => by cases h), fun _ => rfl⟩ o.dst))

/-- A guarded call, where the guard is known to hold. -/
theorem callU_seq (hTab : TabIn P T w0 S0) (hI : Inv w0 S0 ρ s a w) {K : AV → St → Prop} (h : callU alg T true s o.op K) {next : Act → World → Prop} {Q : Exit → Act → World → Prop}
    (hnext : ∀ x s' ρ' v w', K x s' → Inv w0 S0 ρ' s' a w' → VR w' (okB ρ' s'.h) ρ' s'.h x v → next (a.put o.dst v) w') : o.wp P a w next Q := by
  unfold callU at h
  split at h
  · rename_i f args hcal
    obtain ⟨as, ts, hop, rfl⟩ := callee_form hcal
    have e : as.map a.eval = (as.toList.map a.eval).toArray := by apply Array.toList_inj.1; rw [Array.toList_map]
    obtain ⟨vs, h1, hvs⟩ := opL_sound hI _ h
    have hvs := hvs rfl
    have hbs := borrows_sound hI (After.refl w) hvs
    split at h1
    · rename_i p r fr hTf
      obtain ⟨hp, hk⟩ := h1
      have hFC := hTab.fc hTf hp
      unfold Oper.wp
      rw [exec_call hFC.call hop, Oper.upon_enter, e]
      refine (hFC.post w _ hI.keep hbs).mono ?_
      rintro e w' ⟨v, ρ', rfl, hb, hF⟩
      obtain ⟨g1, g2⟩ := hI.call hb hF
      exact hnext _ _ _ _ _ hk g1 g2
    · exact h1.elim
  · exact h.elim

/-- A region, in order. -/
theorem reg_seqT {tail : List Oper} (hT : TTok P tt) (hTab : TabIn P T w0 S0) {ops : Array Oper} {K : St → Prop} {Q : Exit → Act → World → Prop} (hQ : ∀ s' ρ' a' w', K s' → Inv w0 S0 ρ' s' a' w' → wpList P ops Q tail a' w') :
    ∀ (l : List Oper) (s : St) (ρ : List Loc) (a : Act) (w : World), regA alg tt T false ops l s K → Inv w0 S0 ρ s a w → wpList P ops Q (l ++ tail) a w
  | [], s, ρ, a, w, h, hI => hQ _ _ _ _ h hI
  | o :: rest, s, ρ, a, w, h, hI => by
    simp only [regA] at h
    split at h
    · rename_i hg
      refine wpList_plain hg fun K' hK' => step_seq hT hTab hI h trivial fun x s' ρ' v w' hk hI' hv => hK' _ _ (reg_seqT hT hTab hQ rest _ ρ' _ _ hk (hI'.put hv o.dst))
    · rename_i j want hg
      split at h
      · rename_i b hb
        have hw := guard_sound hI hg hb
        refine wpList_step fun K' hK' => ?_
        split at h
        · cases b with
          | true =>
            rw [hw, if_pos rfl]
            exact callU_seq hTab hI (h.1 rfl) fun x s' ρ' v w' hk hI' hv => hK' _ _ (reg_seqT hT hTab hQ rest _ ρ' _ _ hk (hI'.put (x := .gd true x) ⟨fun _ => hv, fun h => by cases h⟩ o.dst))
          | false =>
            rw [hw, if_neg (by simp)]
            exact hK' _ _ (reg_f hT hTab hQ rest _ ρ _ _ (h.2 rfl) (hI.put (x := .gd false _) ⟨(fun h => by cases h), fun _ => rfl⟩ o.dst))
        · cases b with
          | true =>
            rw [hw, if_pos rfl]
            exact step_seq hT hTab hI h rfl fun x s' ρ' v w' hk hI' hv => hK' _ _ (reg_seqT hT hTab hQ rest _ ρ' _ _ hk (hI'.put (x := .gd true x) ⟨fun _ => hv, fun h => by cases h⟩ o.dst))
          | false =>
            rw [hw, if_neg (by simp)]
            obtain ⟨x, hk⟩ := step_skip hT hTab hI h
            exact hK' _ _ (reg_seqT hT hTab hQ rest _ ρ _ _ hk (hI.put (x := .gd false x) ⟨(fun h => by cases h), fun _ => rfl⟩ o.dst))
      · exact h.elim

theorem reg_seq (hT : TTok P tt) (hTab : TabIn P T w0 S0) {ops : Array Oper} {K : St → Prop} {Q : Exit → Act → World → Prop} (hQ : ∀ s' ρ' a' w', K s' → Inv w0 S0 ρ' s' a' w' → Q .normal a' w')
    (l : List Oper) (s : St) (ρ : List Loc) (a : Act) (w : World) (h : regA alg tt T false ops l s K) (hI : Inv w0 S0 ρ s a w) : wpList P ops Q l a w := by
  have := reg_seqT (tail := []) hT hTab (fun s' ρ' a' w' hk hI' => wpList_nil (hQ s' ρ' a' w' hk hI')) l s ρ a w h hI
  rwa [List.append_nil] at this

theorem step_quiet (hT : TTok P tt) (hTab : TabIn P T w0 S0) (hI : Inv w0 S0 ρ s a w) {K : AV → St → Prop} (h : stepOp alg tt T true g s o.op K) (hg : gt g) :
    ∃ x v, K x s ∧ VR w (okB ρ s.h) ρ s.h x v ∧ ∀ w', Below w.heap.size w w' → o.quietAt P a (fun w' => Below w.heap.size w w') w' v := by
  unfold stepOp at h
  split at h
  · rename_i f args hcal
    obtain ⟨r, hk, hr⟩ := call_quiet hTab hI h (.inl rfl)
    obtain ⟨hc, v0, u1, hcall⟩ := hr hg
    obtain ⟨as, ts, hop, rfl⟩ := callee_form hcal
    refine ⟨r, v0, hk, u1 _ _ _ _, fun w' hb => ?_⟩
    unfold Oper.quietAt
    rw [exec_call hc hop]
    have e : as.map a.eval = (as.toList.map a.eval).toArray := by apply Array.toList_inj.1; rw [Array.toList_map]
    rw [e]
    refine ⟨rfl, (hcall w' hb).mono ?_⟩
    rintro e w'' ⟨rfl, hb'⟩
    exact ⟨rfl, hb.trans (hb'.mono hb.size)⟩
  · split at h
    · split at h
      · contradiction
      · exact h.elim
    · obtain ⟨x, hk, hr⟩ := pureOp_sound hT hI h
      obtain ⟨v, hv, hrun⟩ := hr hg
      refine ⟨x, v, hk, hv, fun w' hb => ?_⟩
      unfold Oper.quietAt
      rw [hrun w' ⟨hb.size, hb.block⟩]
      exact ⟨rfl, rfl⟩

/-- A region, in any order. -/
theorem reg_quiet (hT : TTok P tt) (hTab : TabIn P T w0 S0) {ops : Array Oper} {K : St → Prop} {Qf : Act → Prop} {ρ : List Loc} {w : World} (hQ : ∀ s' a', K s' → Inv w0 S0 ρ s' a' w → Qf a') :
    ∀ (l : List Oper) (s : St) (a : Act), regA alg tt T true ops l s K → Inv w0 S0 ρ s a w → wpQuiet P ops (fun w' => Below w.heap.size w w') Qf l a
  | [], s, a, h, hI => hQ _ _ h hI
  | o :: rest, s, a, h, hI => by
    simp only [regA] at h
    split at h
    · rename_i hg
      obtain ⟨x, v, hk, hv, hq⟩ := step_quiet hT hTab hI h trivial
      simp only [wpQuiet]
      rw [if_pos (by simp [Region.wanted, hg])]
      exact ⟨v, hq, reg_quiet hT hTab hQ rest _ _ hk (hI.put hv o.dst)⟩
    · rename_i j want hg
      split at h
      · rename_i b hb
        have hw := guard_sound hI hg hb
        simp only [splitB] at h
        simp only [wpQuiet]
        cases b with
        | true =>
          rw [hw, if_pos rfl]
          obtain ⟨x, v, hk, hv, hq⟩ := step_quiet hT hTab hI h rfl
          exact ⟨v, hq, reg_quiet hT hTab hQ rest _ _ hk (hI.put (x := .gd true x) ⟨fun _ => hv, fun h => by cases h⟩ o.dst)⟩
        | false =>
          rw [hw, if_neg (by simp)]
          obtain ⟨x, hk⟩ := step_skip hT hTab hI h
          exact reg_quiet hT hTab hQ rest _ _ hk (hI.put (x := .gd false x) ⟨(fun h => by cases h), fun _ => rfl⟩ o.dst)
      · exact h.elim


/-- An operation that is still yields its value in every world that has grown from this one. -/
theorem held_first (hT : TTok P tt) (hTab : TabIn P T w0 S0) (hI : Inv w0 S0 ρ s a w) {ops : Array Oper} {i : Nat} {rest : List Nat} {K : St → Prop} (hi : ops[i]? = some o) (h : regH alg tt T ops (i :: rest) s K) (hst : still o.op = true) :
    ∃ s1 v, regH alg tt T ops rest s1 K ∧ Inv w0 S0 ρ s1 (a.put o.dst v) w ∧ YieldsIf P ops (After w) o v a := by
  have hi' : ops.toList[i]? = some o := by simpa using hi
  simp only [regH, hi'] at h
  have key : ∀ {g : Option Bool} {K' : AV → St → Prop}, heldOp alg tt T g s o.op K' → ∃ x, K' x s ∧ (gt g → ∃ v, VR w (okB ρ s.h) ρ s.h x v ∧ ∀ w', After w w' → (execOp a.eval o).run P w' = .ok (.value v) w') := by
    intro g K' hh
    unfold heldOp at hh
    unfold still at hst
    split at hh
    · rename_i hc; rw [hc] at hst; cases hst
    · rename_i hc
      rw [hc] at hst
      split at hh
      · rename_i hm; rw [hm] at hst; cases hst
      · exact pureOp_sound hT hI hh
  split at h
  · rename_i hg
    obtain ⟨x, hk, hr⟩ := key h
    obtain ⟨v, hv, hrun⟩ := hr trivial
    exact ⟨_, v, hk, hI.put hv o.dst, .inl ⟨by simp [Region.wanted, hg], hrun⟩⟩
  · rename_i j want hg
    split at h
    · rename_i b hb
      have hw := guard_sound hI hg hb
      obtain ⟨x, hk, hr⟩ := key h
      cases b with
      | true =>
        obtain ⟨v, hv, hrun⟩ := hr rfl
        exact ⟨_, v, hk, hI.put (x := .gd true x) ⟨fun _ => hv, fun h => by cases h⟩ o.dst, .inl ⟨hw, hrun⟩⟩
      | false => exact ⟨_, undef, hk, hI.put (x := .gd false x) ⟨(fun h => by cases h), fun _ => rfl⟩ o.dst, .inr ⟨hw, rfl⟩⟩
    · exact h.elim

theorem after_below {w w' : World} (h : Below w.heap.size w w') : After w w' := ⟨h.size, h.block⟩

/-- An operation in its turn. -/
theorem held_turn (hT : TTok P tt) (hTab : TabIn P T w0 S0) (hI : Inv w0 S0 ρ s a w) {ops : Array Oper} {i : Nat} {rest : List Nat} {K : St → Prop} {Q : Exit → Act → World → Prop} (hi : ops[i]? = some o) (h : regH alg tt T ops (i :: rest) s K) :
    wpOp P ops Q i (fun a' w' => After w w' ∧ ∃ s1 ρ1, regH alg tt T ops rest s1 K ∧ Inv w0 S0 ρ1 s1 a' w') a w := by
  have hi' : ops.toList[i]? = some o := by simpa using hi
  simp only [regH, hi'] at h
  refine wpOp_step hi fun K' hK' => ?_
  have key : ∀ {g : Option Bool} {K2 : AV → St → Prop} {next : Act → World → Prop}, heldOp alg tt T g s o.op K2 → gt g →
      (∀ x s' ρ' v w', K2 x s' → Inv w0 S0 ρ' s' a w' → VR w' (okB ρ' s'.h) ρ' s'.h x v → After w w' → next (a.put o.dst v) w') → o.wp P a w next Q := by
    intro g K2 next hh hg hnext
    unfold heldOp at hh
    split at hh
    · rename_i f args hcal
      obtain ⟨as, ts, hop, rfl⟩ := callee_form hcal
      have e : as.map a.eval = (as.toList.map a.eval).toArray := by apply Array.toList_inj.1; rw [Array.toList_map]
      split at hh
      · obtain ⟨vs, h1, hvs⟩ := opL_sound hI _ hh
        have hvs := hvs trivial
        have hbs := borrows_sound hI (After.refl w) hvs
        split at h1
        · rename_i p r fr hTf
          obtain ⟨hp, hk⟩ := h1
          have hFC := hTab.fc hTf hp
          unfold Oper.wp
          rw [exec_call hFC.call hop, Oper.upon_enter, e]
          refine (hFC.post w _ hI.keep hbs).mono ?_
          rintro e w' ⟨v, ρ', rfl, hb, hF⟩
          obtain ⟨g1, g2⟩ := hI.call hb hF
          exact hnext _ _ _ _ _ hk g1 g2 (after_below hb)
        · rename_i i p b hTf
          split at h1
          · rename_i x hsc hvi
            obtain ⟨hp, hk⟩ := h1
            have hFS := hTab.same hTf hp
            unfold Oper.wp
            rw [exec_call hFS.call hop, Oper.upon_enter, e]
            refine (hFS.post w _ hI.keep hbs).mono ?_
            rintro e w' ⟨v, vb, hv1, rfl, hb, hvb⟩
            obtain ⟨v2, hv2, hv3⟩ := VRs_at hvs hvi
            have : v2 = v := by rw [hv2] at hv1; simpa using hv1
            subst this
            have hI2 := hI.below hb
            have hS2 : Same w w' (okB ρ s.h) (okB ρ s.h) := ⟨hb.size, fun k hk ho => ⟨hb.block k hk, ho⟩⟩
            refine hnext _ _ _ _ _ hk hI2 ⟨v2, vb, rfl, VR.same hS2 (Heaps.refl _ _ _) hv3, ?_⟩ (after_below hb)
            obtain ⟨v0, u1, u2⟩ := scalar_val hsc
            rw [u2 _ _ _ _ _ hvb]
            exact u1 _ _ _ _
          · exact h1.elim
        · exact h1.elim
      · obtain ⟨r, hk, hr⟩ := call_quiet hTab hI hh (.inl rfl)
        obtain ⟨hc, v0, u1, hcall⟩ := hr hg
        unfold Oper.wp
        rw [exec_call hc hop, Oper.upon_enter, e]
        refine (hcall w (Below.refl _ _)).mono ?_
        rintro e w'' ⟨rfl, hb⟩
        exact hnext _ _ _ _ _ hk (hI.below hb) (u1 _ _ _ _) (after_below hb)
    · split at hh
      · split at hh
        · rename_i hwr
          obtain ⟨x, s', ρ', w', r, hk, hI', hrun, hr, haf⟩ := memOp_sound hT hI hh
          unfold Oper.wp
          rw [hrun]
          rcases hr with ⟨v, rfl, hv⟩ | ⟨rfl, rfl⟩
          · exact hnext _ _ _ _ _ hk hI' hv (haf hwr)
          · exact hnext _ _ _ undef _ hk hI' trivial (haf hwr)
        · exact hh.elim
      · obtain ⟨x, hk, hr⟩ := pureOp_sound hT hI hh
        obtain ⟨v, hv, hrun⟩ := hr hg
        unfold Oper.wp
        rw [hrun w (After.refl w)]
        exact hnext _ _ _ _ _ hk hI hv (After.refl w)
  split at h
  · rename_i hg
    rw [if_pos (by simp [Region.wanted, hg])]
    exact key h trivial fun x s' ρ' v w' hk hI' hv haf => hK' _ _ ⟨haf, _, _, hk, hI'.put hv o.dst⟩
  · rename_i j want hg
    split at h
    · rename_i b hb
      have hw := guard_sound hI hg hb
      cases b with
      | true =>
        rw [hw, if_pos rfl]
        exact key h rfl fun x s' ρ' v w' hk hI' hv haf => hK' _ _ ⟨haf, _, _, hk, hI'.put (x := .gd true x) ⟨fun _ => hv, fun h => by cases h⟩ o.dst⟩
      | false =>
        rw [hw, if_neg (by simp)]
        have skip : ∀ {K2 : AV → St → Prop}, heldOp alg tt T (some false) s o.op K2 → ∃ x, K2 x s := by
          intro K2 hh
          unfold heldOp at hh
          split at hh
          · obtain ⟨r, hk, _⟩ := call_quiet hTab hI hh (.inl rfl)
            exact ⟨r, hk⟩
          · split at hh
            · split at hh
              · rename_i hc; cases hc
              · exact hh.elim
            · obtain ⟨x, hk, _⟩ := pureOp_sound hT hI hh
              exact ⟨x, hk⟩
        obtain ⟨x, hk⟩ := skip h
        exact hK' _ _ ⟨After.refl w, _, _, hk, hI.put (x := .gd false x) ⟨(fun h => by cases h), fun _ => rfl⟩ o.dst⟩
    · exact h.elim

theorem anyH_mono {ops : Array Oper} {Q : Exit → Act → World → Prop} {S S' : World → Prop} (hS : ∀ w, S w → S' w) : ∀ (n : Nat) (listed : Array Bool) (a : Act) (w : World), wpAnyH P .any ops Q S n listed a w → wpAnyH P .any ops Q S' n listed a w
  | 0, _, _, _, h => h
  | n + 1, _, _, _, h => ⟨h.1, fun i hi => wpOp_mono (fun a' w' h' => ⟨hS _ h'.1, anyH_mono hS n _ a' w' h'.2⟩) (h.2 i hi)⟩

/-- A region in whatever order, by its schedule. -/
theorem reg_held (hT : TTok P tt) (hTab : TabIn P T w0 S0) {ops : Array Oper} {K : St → Prop} {Q : Exit → Act → World → Prop} (hns : Region.noSelect ops = true) (hQp : ∀ c a a' w, Q (.panic c) a w → Q (.panic c) a' w)
    (hQ : ∀ s' ρ' a' w', K s' → Inv w0 S0 ρ' s' a' w' → Q .normal a' w') :
    ∀ (l : List Nat) (listed : Array Bool) (s : St) (ρ : List Loc) (a : Act) (w : World), heldB ops l listed = true → regH alg tt T ops l s K → Inv w0 S0 ρ s a w → wpAnyH P .any ops Q (After w) l.length listed a w
  | [], listed, s, ρ, a, w, hB, h, hI => by
    simp only [heldB, List.isEmpty_iff] at hB
    exact ⟨hB, hQ _ _ _ _ h hI⟩
  | i :: rest, listed, s, ρ, a, w, hB, h, hI => by
    simp only [heldB, Bool.and_eq_true, Bool.or_eq_true, decide_eq_true_eq] at hB
    obtain ⟨hB, hB'⟩ := hB
    rcases hB with hB | ⟨⟨hp, hr⟩, hf⟩
    · refine wpAnyH_all hB (by simp) fun j hj => ?_
      have : j = i := by simpa using hj
      subst this
      cases ho : ops[j]? with
      | none =>
        have ho' : ops.toList[j]? = none := by simpa using ho
        simp only [regH, ho'] at h
      | some o =>
        refine wpOp_mono ?_ (held_turn hT hTab hI ho h)
        rintro a' w' ⟨haf, s1, ρ1, h1, hI1⟩
        exact ⟨haf, anyH_mono (fun w2 h2 => ⟨Nat.le_trans haf.size h2.size, fun k hk => (h2.block k (Nat.lt_of_lt_of_le hk haf.size)).trans (haf.block k hk)⟩) _ _ _ _ (reg_held hT hTab hns hQp hQ rest _ s1 ρ1 a' w' hB' h1 hI1)⟩
    · split at hp
      · rename_i o ho
        obtain ⟨s1, v, h1, hI1, hy⟩ := held_first hT hTab hI ho h hp
        exact wpAnyH_take ho hns hf hr (fun c a' w' => hQp c _ _ w') hy (After.refl w) (reg_held hT hTab hns hQp hQ rest _ s1 ρ _ w hB' h1 hI1)
      · cases hp


/-- Operations that only read: in this world. -/
theorem reg_still (hT : TTok P tt) {ops : Array Oper} {K : St → Prop} {Qf : Act → Prop} (hQ : ∀ s' a', K s' → Inv w0 S0 ρ s' a' w → Qf a') :
    ∀ (l : List Oper) (s : St) (a : Act), regS alg tt ops l s K → Inv w0 S0 ρ s a w → wpStill P ops w Qf l a
  | [], s, a, h, hI => hQ _ _ h hI
  | o :: rest, s, a, h, hI => by
    simp only [regS] at h
    split at h
    · rename_i hg
      obtain ⟨x, hk, hr⟩ := pureOp_sound hT hI h
      obtain ⟨v, hv, hrun⟩ := hr trivial
      simp only [wpStill]
      rw [if_pos (by simp [Region.wanted, hg])]
      unfold Oper.still
      rw [hrun w (After.refl w), Oper.stillUpon_value]
      exact reg_still hT hQ rest _ _ hk (hI.put hv o.dst)
    · rename_i j want hg
      split at h
      · rename_i b hb
        have hw := guard_sound hI hg hb
        obtain ⟨x, hk, hr⟩ := pureOp_sound hT hI h
        simp only [wpStill]
        cases b with
        | true =>
          rw [hw, if_pos rfl]
          obtain ⟨v, hv, hrun⟩ := hr rfl
          unfold Oper.still
          rw [hrun w (After.refl w), Oper.stillUpon_value]
          exact reg_still hT hQ rest _ _ hk (hI.put (x := .gd true x) ⟨fun _ => hv, fun h => by cases h⟩ o.dst)
        | false =>
          rw [hw, if_neg (by simp)]
          exact reg_still hT hQ rest _ _ hk (hI.put (x := .gd false x) ⟨(fun h => by cases h), fun _ => rfl⟩ o.dst)
      · exact h.elim

/-- An operation that reads no memory may be taken first. -/
theorem tree_first (hT : TTok P tt) (hI : Inv w0 S0 ρ s a w) {ops : Array Oper} {K : St → Prop} (h : regS alg tt ops [o] s K) (hst : free1 o.op = true) :
    ∃ s1 v, K s1 ∧ Inv w0 S0 ρ s1 (a.put o.dst v) w ∧ YieldsIf P ops (fun _ => True) o v a := by
  have hld : isLd o.op = false := by
    unfold free1 at hst
    split at hst
    · cases hst
    · assumption
  simp only [regS] at h
  split at h
  · rename_i hg
    obtain ⟨x, hk, hr⟩ := pureOp_any hT hI h
    obtain ⟨v, hv, hrun⟩ := hr trivial
    exact ⟨_, v, hk, hI.put hv o.dst, .inl ⟨by simp [Region.wanted, hg], fun w' _ => hrun w' fun h => by rw [hld] at h; cases h⟩⟩
  · rename_i j want hg
    split at h
    · rename_i b hb
      have hw := guard_sound hI hg hb
      obtain ⟨x, hk, hr⟩ := pureOp_any hT hI h
      cases b with
      | true =>
        obtain ⟨v, hv, hrun⟩ := hr rfl
        exact ⟨_, v, hk, hI.put (x := .gd true x) ⟨fun _ => hv, fun h => by cases h⟩ o.dst, .inl ⟨hw, fun w' _ => hrun w' fun h => by rw [hld] at h; cases h⟩⟩
      | false => exact ⟨_, undef, hk, hI.put (x := .gd false x) ⟨(fun h => by cases h), fun _ => rfl⟩ o.dst, .inr ⟨hw, rfl⟩⟩
    · exact h.elim

theorem tree_one (hT : TTok P tt) (hTab : TabIn P T w0 S0) (hI : Inv w0 S0 ρ s a w) {ops : Array Oper} {i : Nat} {K : St → Prop} {Q : Exit → Act → World → Prop} (hi : ops[i]? = some o) (h : oneA alg tt T ops i s K) :
    wpOp P ops Q i (fun a' w' => ∃ s1 ρ1, K s1 ∧ Inv w0 S0 ρ1 s1 a' w') a w := by
  have hi' : ops.toList[i]? = some o := by simpa using hi
  simp only [oneA, hi'] at h
  refine wpOp_step hi fun K' hK' => ?_
  split at h
  · rename_i hg
    rw [if_pos (by simp [Region.wanted, hg])]
    exact step_seq hT hTab hI h trivial fun x s' ρ' v w' hk hI' hv => hK' _ _ ⟨_, _, hk, hI'.put hv o.dst⟩
  · rename_i j want hg
    split at h
    · rename_i b hb
      have hw := guard_sound hI hg hb
      cases b with
      | true =>
        rw [hw, if_pos rfl]
        exact step_seq hT hTab hI h rfl fun x s' ρ' v w' hk hI' hv => hK' _ _ ⟨_, _, hk, hI'.put (x := .gd true x) ⟨fun _ => hv, fun h => by cases h⟩ o.dst⟩
      | false =>
        rw [hw, if_neg (by simp)]
        obtain ⟨x, hk⟩ := step_skip hT hTab hI h
        exact hK' _ _ ⟨_, _, hk, hI.put (x := .gd false x) ⟨(fun h => by cases h), fun _ => rfl⟩ o.dst⟩
    · exact h.elim

/-- A region in every order that its tree holds. -/
theorem reg_tree (hT : TTok P tt) (hTab : TabIn P T w0 S0) {ops : Array Oper} {K : St → Prop} {Q : Exit → Act → World → Prop} (hns : Region.noSelect ops = true) (hQp : ∀ c a a' w, Q (.panic c) a w → Q (.panic c) a' w)
    (hQ : ∀ s' ρ' a' w', K s' → Inv w0 S0 ρ' s' a' w' → Q .normal a' w') :
    ∀ (t : PT) (n : Nat) (L : Array Bool) (s : St) (ρ : List Loc) (a : Act) (w : World), regT alg tt T ops t s K → Inv w0 S0 ρ s a w →
      (chk ops n true t L = true → wpAnyH P .any ops Q (fun _ => True) n L a w) ∧
      (chk ops n false t L = true → (∃ i t' r, t = .br i t' r) ∨ t = .nil → ∀ j ∈ idxs t, ∃ m, n = m + 1 ∧ wpOp P ops Q j (fun a' w' => True ∧ wpAnyH P .any ops Q (fun _ => True) m (L.setIfInBounds j true) a' w') a w) := by
  intro t
  induction t with
  | done =>
    intro n L s ρ a w h hI
    refine ⟨fun hc => ?_, fun _ hh => ?_⟩
    · have hc' : Region.ready .any ops L = [] := by simpa [chk] using hc
      exact wpAnyH_done hc' (hQ _ _ _ _ h hI) n
    · rcases hh with ⟨_, _, _, h⟩ | h <;> cases h
  | nil =>
    intro n L s ρ a w h hI
    refine ⟨fun hc => ?_, fun _ _ j hj => by simp [idxs] at hj⟩
    cases n <;> simp [chk] at hc
  | take i t ih =>
    intro n L s ρ a w h hI
    refine ⟨fun hc => ?_, fun _ hh => by rcases hh with ⟨_, _, _, h⟩ | h <;> cases h⟩
    cases n with
    | zero => simp [chk] at hc
    | succ n =>
      simp only [chk, Bool.and_eq_true] at hc
      obtain ⟨⟨⟨h1, h2⟩, h3⟩, h4⟩ := hc
      split at h1
      · rename_i o ho
        have ho' : ops.toList[i]? = some o := by simpa using ho
        simp only [regT, ho'] at h
        obtain ⟨s1, v, hk, hI1, hy⟩ := tree_first hT hI h h1
        exact wpAnyH_take ho hns h3 h2 (fun c a' w' => hQp c _ _ w') hy trivial ((ih n _ s1 ρ _ w hk hI1).1 h4)
      · cases h1
  | br i t r iht ihr =>
    intro n L s ρ a w h hI
    obtain ⟨h1, h2⟩ := h
    have main : ∀ top, chk ops n top (.br i t r) L = true → ∀ j ∈ i :: idxs r, ∃ m, n = m + 1 ∧ wpOp P ops Q j (fun a' w' => True ∧ wpAnyH P .any ops Q (fun _ => True) m (L.setIfInBounds j true) a' w') a w := by
      intro top hc j hj
      cases n with
      | zero => simp [chk] at hc
      | succ n =>
        simp only [chk, Bool.and_eq_true] at hc
        obtain ⟨⟨_, c2⟩, c3⟩ := hc
        rcases List.mem_cons.1 hj with rfl | hj
        · cases ho : ops[j]? with
          | none =>
            have ho' : ops.toList[j]? = none := by simpa using ho
            simp only [oneA, ho'] at h1
          | some o =>
            refine ⟨n, rfl, wpOp_mono ?_ (tree_one hT hTab hI ho h1)⟩
            rintro a' w' ⟨s1, ρ1, hk, hI1⟩
            exact ⟨trivial, (iht n _ s1 ρ1 a' w' hk hI1).1 c2⟩
        · refine (ihr (n + 1) L s ρ a w h2 hI).2 c3 ?_ j hj
          cases r with
          | br i' t' r' => exact .inl ⟨_, _, _, rfl⟩
          | nil => exact .inr rfl
          | done => simp [idxs] at hj
          | take _ _ => simp [idxs] at hj
    refine ⟨fun hc => ?_, fun hc _ j hj => main false hc j (by simpa [idxs] using hj)⟩
    have hm := main true hc
    obtain ⟨m, hn, _⟩ := hm i (by simp)
    subst hn
    have hrd : Region.ready .any ops L = i :: idxs r := by
      simp only [chk, Bool.and_eq_true] at hc
      simpa using hc.1.1
    refine wpAnyH_all hrd (by simp) fun j hj => ?_
    obtain ⟨m', hn', hw⟩ := hm j hj
    have : m' = m := by omega
    subst this
    exact hw

end
end Go.Ab
