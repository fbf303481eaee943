/-
  SOUNDNESS, PART TWO: each operation that only reads.
-/
import Derived.Test.YtdkpncnkhnmidaaDoorAb3
import Derived.Laws.BytesArg
set_option linter.unusedSimpArgs false
set_option linter.unusedVariables false
namespace Go.Ab
open Go.RowKit

section
variable {P : Program} {tt : Nat → TI} {w0 w : World} {S0 : Base} {ρ : List Loc} {s : St} {a : Act} {g : Option Bool} {o : Oper} {K : AV → Prop}

/-- The operation yields x, in every world in which what was there is as it was. -/
def Yields (P : Program) (o : Oper) (a : Act) (w : World) (ρ : List Loc) (h : List AO) (x : AV) : Prop :=
  ∃ v, VR w (okB ρ h) ρ h x v ∧ ∀ w', (isLd o.op = true → After w w') → (execOp a.eval o).run P w' = .ok (.value v) w'

def PS (P : Program) (o : Oper) (a : Act) (w : World) (ρ : List Loc) (h : List AO) (g : Option Bool) (K : AV → Prop) : Prop :=
  ∃ x, K x ∧ (gt g → Yields P o a w ρ h x)

theorem run_v {q : Sem Value} {v : Value} {w' : World} (h : q.run P w' = .ok v w') : (do pure (Next.value (← q)) : Sem Next).run P w' = .ok (.value v) w' := by
  simp [Sem.run_bind, h]

theorem ps_move (hI : Inv w0 S0 ρ s a w) {x : Operand} (ho : o.op = .move x) (h : op1 alg g (ev s.t x) K) : PS P o a w ρ s.h g K := by
  obtain ⟨x', hk, hv⟩ := op1_sound h (ev_sound hI x)
  exact ⟨x', hk, fun hg => ⟨_, hv hg, fun w' _ => by simp [execOp, ho]⟩⟩

theorem ps_assign (hI : Inv w0 S0 ρ s a w) {x : Operand} (ho : o.op = .assign x) (h : op1 alg g (ev s.t x) K) : PS P o a w ρ s.h g K := by
  obtain ⟨x', hk, hv⟩ := op1_sound h (ev_sound hI x)
  exact ⟨x', hk, fun hg => ⟨_, hv hg, fun w' _ => by simp [execOp, ho]⟩⟩

theorem ps_pick (hI : Inv w0 S0 ρ s a w) {c x y : Operand} (ho : o.op = .pick c x y) (h : pureOp alg tt g s (.pick c x y) K) : PS P o a w ρ s.h g K := by
  simp only [pureOp] at h
  obtain ⟨cv, hk, hc⟩ := op1_sound h (ev_sound hI c)
  clear h
  cases cv <;> try (exact hk.elim)
  rename_i c'
  simp only at hk
  split at hk
  · obtain ⟨yv, hk2, hy⟩ := op1_sound hk (ev_sound hI y)
    cases yv <;> try (exact hk2.elim)
    rename_i y'
    refine ⟨_, hk2, fun hg => ⟨.bool (c' || y'), rfl, fun w' _ => ?_⟩⟩
    have e : a.eval c = .bool c' := hc hg
    cases c' with
    | true =>
      have e3 : a.eval (.const (.bool true)) = .bool true := rfl
      simp [execOp, ho, e, asBool, e3]
    | false =>
      have e2 : a.eval y = .bool y' := hy (by cases g <;> simp_all [gt, alg])
      simp [execOp, ho, e, asBool, e2]
  · obtain ⟨yv, hk2, hy⟩ := op1_sound hk (ev_sound hI x)
    cases yv <;> try (exact hk2.elim)
    rename_i y'
    refine ⟨_, hk2, fun hg => ⟨.bool (c' && y'), rfl, fun w' _ => ?_⟩⟩
    have e : a.eval c = .bool c' := hc hg
    cases c' with
    | false =>
      have e3 : a.eval (.const (.bool false)) = .bool false := rfl
      simp [execOp, ho, e, asBool, e3]
    | true =>
      have e2 : a.eval x = .bool y' := hy (by cases g <;> simp_all [gt, alg])
      simp [execOp, ho, e, asBool, e2]
  · exact hk.elim

theorem intOp_sound {op : BinOp} {k : IntKind} {m n : Int} (h : intOp alg g op k m n K) : ∃ x, K x ∧ (gt g → ∃ v, (∀ w ok ρ h, VR w ok ρ h x v) ∧ ∀ t w', (binOp op t (.int k m) (.int k n)).run P w' = .ok v w') := by
  cases op <;> simp only [intOp] at h <;> first
    | (exact h.elim)
    | (obtain ⟨h1, h2⟩ := ob_sound h
       refine ⟨_, h1, fun hg => ⟨_, fun _ _ _ _ => rfl, fun t w' => ?_⟩⟩
       have hz : n ≠ 0 := h2 hg
       simp [binOp, Op.intDiv, hz, alg]; done)
    | (refine ⟨_, h, fun hg => ⟨_, fun _ _ _ _ => rfl, fun t w' => ?_⟩⟩
       simp [binOp, Op.intArith, Op.intCmp, alg, bne]; done)

theorem ba_toList (b : ByteArray) : b.toList = b.data.toList := ByteArray.toList_eq b

theorem str_toList (l : List UInt8) : (⟨l.toArray⟩ : ByteArray).toList = l := by rw [ba_toList]

theorem run_equal_bool {t : Nat} {m n : Bool} (hu : P.underlying t = some .bool) (w : World) : (Op.equal t (.bool m) (.bool n)).run P w = .ok (m == n) w := by
  have h : ∀ d : Nat, (Op.equalIn (d + 1) t (.bool m) (.bool n)).run P w = .ok (m == n) w := fun d => by
    simp only [Op.equalIn, Sem.run_bind, run_underlying hu, Result.andThen_ok]; rfl
  exact h 9999

theorem run_eql_bool {t : Nat} {m n : Bool} (hu : P.underlying t = some .bool) (w : World) : (binOp .eql t (.bool m) (.bool n)).run P w = .ok (.bool (m == n)) w := by
  show (do pure (Value.bool (← Op.equal t (.bool m) (.bool n))) : Sem Value).run P w = _
  simp only [Sem.run_bind, run_equal_bool hu, Result.andThen_ok]; rfl
theorem run_neq_bool {t : Nat} {m n : Bool} (hu : P.underlying t = some .bool) (w : World) : (binOp .neq t (.bool m) (.bool n)).run P w = .ok (.bool (!(m == n))) w := by
  show (do pure (Value.bool (!(← Op.equal t (.bool m) (.bool n)))) : Sem Value).run P w = _
  simp only [Sem.run_bind, run_equal_bool hu, Result.andThen_ok]; rfl

theorem run_eq_nil {t E : Nat} (hu : P.underlying t = some (.slice E)) (w : World) : (Op.equal t (.slice none 0 0) (.slice none 0 0)).run P w = .ok true w := by
  have h : ∀ d : Nat, (Op.equalIn (d + 1) t (.slice none 0 0) (.slice none 0 0)).run P w = .ok true w := fun d => by
    simp only [Op.equalIn, Sem.run_bind, run_underlying hu, Result.andThen_ok]; rfl
  exact h 9999
theorem run_eq_some {t E n c : Nat} {ad : Addr} (hu : P.underlying t = some (.slice E)) (w : World) : (Op.equal t (.slice (some ad) n c) (.slice none 0 0)).run P w = .ok false w := by
  have h : ∀ d : Nat, (Op.equalIn (d + 1) t (.slice (some ad) n c) (.slice none 0 0)).run P w = .ok false w := fun d => by
    simp only [Op.equalIn, Sem.run_bind, run_underlying hu, Result.andThen_ok]; rfl
  exact h 9999
theorem run_eql_of {t : Nat} {x y : Value} {b : Bool} (hx : ∃ A n c, x = .slice A n c) (hy : ∃ A n c, y = .slice A n c) (h : (Op.equal t x y).run P w = .ok b w) : (binOp .eql t x y).run P w = .ok (.bool b) w := by
  obtain ⟨_, _, _, rfl⟩ := hx
  obtain ⟨_, _, _, rfl⟩ := hy
  show (do pure (Value.bool (← Op.equal t _ _)) : Sem Value).run P w = _
  simp only [Sem.run_bind, h, Result.andThen_ok]; rfl
theorem run_neq_of {t : Nat} {x y : Value} {b : Bool} (hx : ∃ A n c, x = .slice A n c) (hy : ∃ A n c, y = .slice A n c) (h : (Op.equal t x y).run P w = .ok b w) : (binOp .neq t x y).run P w = .ok (.bool (!b)) w := by
  obtain ⟨_, _, _, rfl⟩ := hx
  obtain ⟨_, _, _, rfl⟩ := hy
  show (do pure (Value.bool (!(← Op.equal t _ _))) : Sem Value).run P w = _
  simp only [Sem.run_bind, h, Result.andThen_ok]; rfl

theorem binA_sound {ok : Nat → Prop} {h : List AO} {op : BinOp} {t : Nat} {x y : AV} {vx vy : Value} {X Y : Operand} (hT : TTok P tt) (hk : binA alg tt h g op t x y K)
    (hx : gt g → VR w ok ρ h x vx) (hy : gt g → VR w ok ρ h y vy) :
    ∃ z, K z ∧ (gt g → ∃ v, (∀ w ok ρ h, VR w ok ρ h z v) ∧ ∀ w', (do eqGuard op t X Y vx vy; binOp op t vx vy : Sem Value).run P w' = .ok v w') := by
  unfold binA at hk
  split at hk
  · rename_i k m k' n
    split at hk
    · rename_i he
      cases kb_eq he
      obtain ⟨z, hz, hr⟩ := intOp_sound hk
      refine ⟨z, hz, fun hg => ?_⟩
      obtain ⟨v, h1, h2⟩ := hr hg
      refine ⟨v, h1, fun w' => ?_⟩
      have e1 : vx = .int k m := hx hg
      have e2 : vy = .int k n := hy hg
      subst e1; subst e2
      simp only [Sem.run_bind, eqGuard_at_int, Sem.run_pure, Result.andThen_ok]
      exact h2 t w'
    · exact hk.elim
  · rename_i m n
    split at hk
    · rename_i he
      have hu : P.underlying t = some .bool := (hT.el t _ he).desc
      split at hk
      · refine ⟨_, hk, fun hg => ⟨.bool (m == n), fun _ _ _ _ => rfl, fun w' => ?_⟩⟩
        have e1 : vx = .bool m := hx hg
        have e2 : vy = .bool n := hy hg
        subst e1; subst e2
        simp only [Sem.run_bind, eqGuard_at_bool, Sem.run_pure, Result.andThen_ok]
        exact run_eql_bool hu w'
      · refine ⟨_, hk, fun hg => ⟨.bool (!(m == n)), fun _ _ _ _ => rfl, fun w' => ?_⟩⟩
        have e1 : vx = .bool m := hx hg
        have e2 : vy = .bool n := hy hg
        subst e1; subst e2
        simp only [Sem.run_bind, eqGuard_at_bool, Sem.run_pure, Result.andThen_ok]
        exact run_neq_bool hu w'
      · exact hk.elim
    · exact hk.elim
  · split at hk
    · rename_i p he
      obtain ⟨hu, _⟩ := hT.sl _ _ _ he
      split at hk
      · refine ⟨_, hk, fun hg => ⟨.bool true, fun _ _ _ _ => rfl, fun w' => ?_⟩⟩
        have e1 : vx = .slice none 0 0 := hx hg
        have e2 : vy = .slice none 0 0 := hy hg
        subst e1; subst e2
        simp only [Sem.run_bind, eqGuard_at_slice, Sem.run_pure, Result.andThen_ok]
        exact run_eql_of ⟨_, _, _, rfl⟩ ⟨_, _, _, rfl⟩ (run_eq_nil hu w')
      · refine ⟨_, hk, fun hg => ⟨.bool false, fun _ _ _ _ => rfl, fun w' => ?_⟩⟩
        have e1 : vx = .slice none 0 0 := hx hg
        have e2 : vy = .slice none 0 0 := hy hg
        subst e1; subst e2
        simp only [Sem.run_bind, eqGuard_at_slice, Sem.run_pure, Result.andThen_ok]
        exact run_neq_of ⟨_, _, _, rfl⟩ ⟨_, _, _, rfl⟩ (run_eq_nil hu w')
      · exact hk.elim
    · exact hk.elim
  · rename_i ob
    split at hk
    · rename_i p q he hob
      obtain ⟨E, r⟩ := q
      obtain ⟨hu, _⟩ := hT.sl _ _ _ he
      have form : gt g → ∃ ad n c, vx = .slice (some ad) n c := by
        intro hg
        obtain ⟨_, hv⟩ := hx hg
        obtain ⟨loc, _, h1⟩ := hv E r (gO hob)
        rcases h1 with ⟨_, h1, _⟩ | ⟨_, cap, h1, _⟩
        · cases h1
        · exact ⟨_, _, _, h1⟩
      split at hk
      · refine ⟨_, hk, fun hg => ⟨.bool false, fun _ _ _ _ => rfl, fun w' => ?_⟩⟩
        obtain ⟨ad, n, c, rfl⟩ := form hg
        have e2 : vy = .slice none 0 0 := hy hg
        subst e2
        simp only [Sem.run_bind, eqGuard_at_slice, Sem.run_pure, Result.andThen_ok]
        exact run_eql_of ⟨_, _, _, rfl⟩ ⟨_, _, _, rfl⟩ (run_eq_some hu w')
      · refine ⟨_, hk, fun hg => ⟨.bool true, fun _ _ _ _ => rfl, fun w' => ?_⟩⟩
        obtain ⟨ad, n, c, rfl⟩ := form hg
        have e2 : vy = .slice none 0 0 := hy hg
        subst e2
        simp only [Sem.run_bind, eqGuard_at_slice, Sem.run_pure, Result.andThen_ok]
        exact run_neq_of ⟨_, _, _, rfl⟩ ⟨_, _, _, rfl⟩ (run_eq_some hu w')
      · exact hk.elim
    · exact hk.elim
  · rename_i m n
    have key : ∀ (z : AV) (v : Value), K z → (∀ w ok ρ h, VR w ok ρ h z v) → (gt g → ∀ w', (binOp op t (.string ⟨m.toArray⟩) (.string ⟨n.toArray⟩)).run P w' = .ok v w') →
        ∃ z, K z ∧ (gt g → ∃ v, (∀ w ok ρ h, VR w ok ρ h z v) ∧ ∀ w', (do eqGuard op t X Y vx vy; binOp op t vx vy : Sem Value).run P w' = .ok v w') := by
      intro z v hz hv hr
      refine ⟨z, hz, fun hg => ⟨v, hv, fun w' => ?_⟩⟩
      have e1 : vx = .string ⟨m.toArray⟩ := hx hg
      have e2 : vy = .string ⟨n.toArray⟩ := hy hg
      subst e1; subst e2
      simp only [Sem.run_bind, eqGuard_at_string, Sem.run_pure, Result.andThen_ok]
      exact hr hg w'
    split at hk
    · obtain ⟨h1, p1⟩ := ob_sound hk
      obtain ⟨h2, p2⟩ := ob_sound h1
      obtain ⟨h3, p3⟩ := ob_sound h2
      refine key _ (.string ⟨(m ++ n).toArray⟩) h3 (fun _ _ _ _ => rfl) fun hg w' => ?_
      have q2 := p2 hg
      have q3 := p3 hg
      simp only [alg] at q2 q3
      have e : ¬ ((m.toArray.size + n.toArray.size : Nat) : Int) > IntKind.i64.max := by
        rw [IntKind.max_i64]; simp only [List.size_toArray]; omega
      have es : ∀ l : List UInt8, (⟨l.toArray⟩ : ByteArray).size = l.toArray.size := fun _ => rfl
      have ea : (⟨m.toArray⟩ : ByteArray) ++ ⟨n.toArray⟩ = ⟨(m ++ n).toArray⟩ := by
        apply ByteArray.ext; simp
      simp only [binOp, Op.stringOp, es]
      rw [if_neg e, ea]
      rfl
    · refine key _ (.bool (m == n)) hk (fun _ _ _ _ => rfl) fun hg w' => ?_
      simp [binOp, Op.stringOp, str_toList]
    · refine key _ (.bool (!(m == n))) hk (fun _ _ _ _ => rfl) fun hg w' => ?_
      simp [binOp, Op.stringOp, str_toList]
    · refine key _ (.bool (Op.bytesLess m n)) hk (fun _ _ _ _ => rfl) fun hg w' => ?_
      simp [binOp, Op.stringOp, str_toList]
    · refine key _ (.bool (!(Op.bytesLess m n))) hk (fun _ _ _ _ => rfl) fun hg w' => ?_
      simp [binOp, Op.stringOp, str_toList]
    · exact hk.elim
  · exact hk.elim

theorem eqGuard_constnil (op : BinOp) (t : Nat) (x : Operand) (v : Value) (w : World) : (eqGuard op t x (.const v) .nilIface .nilIface).run P w = .ok () w := by
  cases op <;> simp [eqGuard]
theorem ps_bin (hT : TTok P tt) (hI : Inv w0 S0 ρ s a w) {op : BinOp} {t t' : Nat} {x y : Operand} (ho : o.op = .binOp op t x y t') (h : pureOp alg tt g s (.binOp op t x y t') K) : PS P o a w ρ s.h g K := by
  simp only [pureOp] at h
  split at h
  · rename_i hn
    obtain rfl : y = .const .nilIface := by
      unfold isNilI at hn
      split at hn
      · rfl
      · cases hn
    obtain ⟨xv, h1, hx⟩ := op1_sound h (ev_sound hI x)
    clear h
    split at h1
    · rename_i b he
      have key : gt g → (a.eval x = .nilIface ∧ b = true) ∨ (b = false ∧ ∃ t p, a.eval x = .iface t p) := fun hg => by
        rcases hx hg with ⟨h1, h2⟩ | ⟨h1, t, p, h2⟩
        · exact .inl ⟨h2, h1⟩
        · exact .inr ⟨h1, t, p, h2⟩
      obtain ⟨ms, hu⟩ := (hT.el t _ he).desc
      have eq : gt g → ∀ w' : World, (Op.equal t (a.eval x) .nilIface).run P w' = .ok b w' := fun hg w' => by
        have h : ∀ d : Nat, (Op.equalIn (d + 1) t (a.eval x) .nilIface).run P w' = .ok b w' := fun d => by
          rcases key hg with ⟨e1, e2⟩ | ⟨e2, _, _, e1⟩
          · rw [e1, e2]
            simp only [Op.equalIn, Sem.run_bind, run_underlying hu, Result.andThen_ok]; rfl
          · rw [e1, e2]
            simp only [Op.equalIn, Sem.run_bind, run_underlying hu, Result.andThen_ok]; rfl
        exact h 9999
      split at h1
      · refine ⟨_, h1, fun hg => ⟨.bool b, rfl, fun w' _ => ?_⟩⟩
        simp only [execOp, ho]
        refine run_v ?_
        have e0 : a.eval (.const .nilIface) = .nilIface := rfl
        rw [e0]
        have q := eq hg w'
        rcases key hg with ⟨e1, e2⟩ | ⟨e2, _, _, e1⟩
        · rw [e1] at q ⊢
          rw [Sem.run_bind, eqGuard_constnil, Result.andThen_ok]
          show (do pure (Value.bool (← Op.equal t Value.nilIface Value.nilIface)) : Sem Value).run P w' = _
          simp only [Sem.run_bind, q, Result.andThen_ok]; rfl
        · rw [e1] at q ⊢
          show (do pure (Value.bool (← Op.equal t (Value.iface _ _) Value.nilIface)) : Sem Value).run P w' = _
          simp only [Sem.run_bind, q, Result.andThen_ok]; rfl
      · refine ⟨_, h1, fun hg => ⟨.bool (!b), rfl, fun w' _ => ?_⟩⟩
        simp only [execOp, ho]
        refine run_v ?_
        have e0 : a.eval (.const .nilIface) = .nilIface := rfl
        rw [e0]
        have q := eq hg w'
        rcases key hg with ⟨e1, e2⟩ | ⟨e2, _, _, e1⟩
        · rw [e1] at q ⊢
          rw [Sem.run_bind, eqGuard_constnil, Result.andThen_ok]
          show (do pure (Value.bool (!(← Op.equal t Value.nilIface Value.nilIface))) : Sem Value).run P w' = _
          simp only [Sem.run_bind, q, Result.andThen_ok]; rfl
        · rw [e1] at q ⊢
          show (do pure (Value.bool (!(← Op.equal t (Value.iface _ _) Value.nilIface))) : Sem Value).run P w' = _
          simp only [Sem.run_bind, q, Result.andThen_ok]; rfl
      · exact h1.elim
    · exact h1.elim
  obtain ⟨xv, h1, hx⟩ := op1_sound h (ev_sound hI x)
  obtain ⟨yv, h2, hy⟩ := op1_sound h1 (ev_sound hI y)
  obtain ⟨z, hz, hr⟩ := binA_sound (X := x) (Y := y) hT h2 hx hy
  refine ⟨z, hz, fun hg => ?_⟩
  obtain ⟨v, hv, hrun⟩ := hr hg
  refine ⟨v, hv _ _ _ _, fun w' _ => ?_⟩
  simp only [execOp, ho]
  exact run_v (hrun w')

theorem ps_not (hI : Inv w0 S0 ρ s a w) {t : Nat} {x : Operand} (ho : o.op = .unOp .not t x) (h : pureOp alg tt g s (.unOp .not t x) K) : PS P o a w ρ s.h g K := by
  simp only [pureOp] at h
  obtain ⟨xv, h1, hx⟩ := op1_sound h (ev_sound hI x)
  cases xv <;> try (exact h1.elim)
  rename_i b
  refine ⟨_, h1, fun hg => ⟨.bool (!b), rfl, fun w' _ => ?_⟩⟩
  have e : a.eval x = .bool b := hx hg
  simp only [execOp, ho, e]
  exact run_v rfl

theorem ps_neg (hI : Inv w0 S0 ρ s a w) {t : Nat} {x : Operand} (ho : o.op = .unOp .neg t x) (h : pureOp alg tt g s (.unOp .neg t x) K) : PS P o a w ρ s.h g K := by
  simp only [pureOp] at h
  obtain ⟨xv, h1, hx⟩ := op1_sound h (ev_sound hI x)
  cases xv <;> try (exact h1.elim)
  rename_i k n
  refine ⟨_, h1, fun hg => ⟨.int k (k.wrap (0 - n)), rfl, fun w' _ => ?_⟩⟩
  have e : a.eval x = .int k n := hx hg
  simp only [execOp, ho, e]
  exact run_v rfl

theorem ElOK.some {t : Nat} {e : RK} (h : ElOK P t e) : ∃ d, P.underlying t = some d := by
  have := h.desc
  cases e <;> simp only [descOK] at this <;> first
    | exact ⟨_, this⟩
    | exact this.elim
    | (obtain ⟨E, h⟩ := this; exact ⟨_, h⟩)
    | (obtain ⟨_, _, _, h, _⟩ := this; exact ⟨_, h⟩)
    | (obtain ⟨E, h, _⟩ := this; exact ⟨_, h⟩)

theorem ps_convert (hT : TTok P tt) (hI : Inv w0 S0 ρ s a w) {t dst : Nat} {x : Operand} (ho : o.op = .convert t dst x) (h : pureOp alg tt g s (.convert t dst x) K) : PS P o a w ρ s.h g K := by
  simp only [pureOp] at h
  obtain ⟨xv, h1, hx⟩ := op1_sound h (ev_sound hI x)
  clear h
  split at h1
  · rename_i k n e0 k' hs he
    have hu : P.underlying dst = some (.int k') := (hT.el dst _ he).desc
    refine ⟨_, h1, fun hg => ⟨.int k' (k'.wrap n), rfl, fun w' _ => ?_⟩⟩
    have e : a.eval x = .int k n := hx hg
    simp only [execOp, ho, e]
    refine run_v ?_
    obtain ⟨d, hd⟩ := (hT.el t _ hs).some
    simp only [convert, Sem.run_bind, run_underlying hd, run_underlying hu, Result.andThen_ok]
    cases d <;> rfl
  · rename_i ob z he
    split at h1
    · rename_i E E' l hsl hob
      obtain ⟨hus, hE⟩ := hT.sl _ _ _ hsl
      have hu8 : P.underlying E = some (.int .u8) := hE.desc
      have hud : P.underlying dst = some .string := (hT.el dst _ he).desc
      refine ⟨_, h1, fun hg => ?_⟩
      obtain ⟨_, hv⟩ := hx hg
      obtain ⟨loc, hl, hv⟩ := hv _ _ (gO hob)
      refine ⟨.string ⟨(l.map fun (n : Int) => UInt8.ofNat n.toNat).toArray⟩, rfl, fun w' hw => ?_⟩
      have hw := hw (by rw [ho]; rfl)
      rcases hv with ⟨_, _, hv, h0⟩ | ⟨hz, cap, hv, _, _, _⟩
      · have hl0 : l = [] := List.eq_nil_of_length_eq_zero h0
        subst hl0
        simp only [execOp, ho, hv]
        exact run_v (run_convert_bytes_nil w' t E hus hu8 0 0 dst hud)
      · obtain ⟨hb, cs, hr, _, hc⟩ := (hI.obj ob loc E' _ ⟨gO hob, hl⟩).1.cell hz (by simp [Row.rk])
        have hcs : cs = l.map (.int .u8) := hr
        have hcell : ∀ i, i < nl (.ints .u8 l) → w'.cell? ⟨loc.g, 0 + i, none⟩ = some (.int .u8 (l.getD i 0)) := by
          intro i hi
          have hi' : i < l.length := hi
          rw [Nat.zero_add, hw.cell (ad := ⟨loc.g, i, none⟩) hb]
          refine hc i _ ?_
          rw [hcs]
          simp [List.getD, hi']
        simp only [execOp, ho, hv]
        exact run_v (run_convert_bytes_arg w' t E hus hu8 loc.g 0 _ cap l rfl hcell dst hud)
    · exact h1.elim
  · exact h1.elim

/-- The element's own type has one cell, and no parts. -/
theorem load_one {t : Nat} {e : RK} (h : ElOK P t e) (h1 : ∀ n, e ≠ .rc n) {ad : Addr} {v : Value} (hc : w.cell? ad = some v) : (Instr.loadAt t (.pointer (some ad))).run P w = .ok v w := by
  have := h.desc
  cases e <;> simp only [descOK] at this
  case i k => exact run_load1 this (by simp) (by simp) hc
  case b => exact run_load1 this (by simp) (by simp) hc
  case s => exact run_load1 this (by simp) (by simp) hc
  case rc n => exact absurd rfl (h1 n)
  case sli => obtain ⟨E, h⟩ := this; exact run_load1 h (by simp) (by simp) hc
  case slb => obtain ⟨E, h⟩ := this; exact run_load1 h (by simp) (by simp) hc
  case tab => obtain ⟨E, h⟩ := this; exact run_load1 h (by simp) (by simp) hc
  case mp => obtain ⟨_, _, _, h, _⟩ := this; exact run_load1 h (by simp) (by simp) hc
  case ifc => obtain ⟨_, h⟩ := this; exact run_load1 h (by simp) (by simp) hc

theorem load_rc {t n : Nat} (h : ElOK P t (.rc n)) {ad : Addr} {l : List Int} (hl : l.length = n) (hc : ∀ j u, l[j]? = some u → w.cell? (ad.add j) = some (.int .i64 u)) :
    (Instr.loadAt t (.pointer (some ad))).run P w = .ok (.agg (l.map (Value.int .i64)).toArray) w := by
  obtain ⟨fs, hd, hn, _⟩ := h.desc
  obtain ⟨i, hi, hs, _⟩ := h.info
  refine run_loadN hd hi (by rw [hs]; simp [sz, hl]) fun j u hu => ?_
  rw [List.getElem?_map] at hu
  cases hj : l[j]? with
  | none => rw [hj] at hu; cases hu
  | some y => rw [hj] at hu; simp at hu; subst hu; exact hc j y hj

theorem add_lit' (b o n : Nat) : Addr.add ⟨b, o, none⟩ n = ⟨b, o + n, none⟩ := Addr.add_lit b o n

theorem get_mem {l : List (List Int)} {k : Nat} (hk : k < l.length) : l.getD k [] ∈ l := by
  simp [List.getD, hk]

/-- A load of element k of an object. -/
theorem load_own {ok : Nat → Prop} {t : Nat} {r : Row} {gb k : Nat} {cs : List Value} (hE : ElOK P t r.rk) (hr : RC w ok r cs) (hb : gb < w.heap.size)
    (hc : ∀ j u, cs[j]? = some u → w.cell? ⟨gb, j, none⟩ = some u) (hk : k < nl r) :
    ∃ v, (∀ ρ h, VR w ok ρ h (r.get alg k) v) ∧ ∀ w', After w w' → (Instr.loadAt t (.pointer (some ⟨gb, k * wd r, none⟩))).run P w' = .ok v w' := by
  by_cases hrec : ∃ n l, r = .recs n l
  · obtain ⟨n, l, rfl⟩ := hrec
    simp only [nl, Row.nlen, alg] at hk
    obtain ⟨hlen, hcs⟩ := hr
    have hlk : (l.getD k []).length = n := hlen _ (get_mem hk)
    refine ⟨.agg ((l.getD k []).map (Value.int .i64)).toArray, fun ρ h => ⟨hlk, rfl⟩, fun w' hw' => ?_⟩
    refine load_rc hE hlk fun j u hu => ?_
    have hj : j < n := by
      rcases Nat.lt_or_ge j n with h | h
      · exact h
      · rw [List.getElem?_eq_none (by omega)] at hu; cases hu
    simp only [wd, add_lit']
    rw [hw'.cell (ad := ⟨gb, k * n + j, none⟩) hb, hc _ _ (by rw [hcs]; exact flat_get hlen hk hj)]
    simp [List.getD] at hu ⊢
    simp [hu]
  · have h1 : ∀ n l, r ≠ .recs n l := fun n l e => hrec ⟨n, l, e⟩
    obtain ⟨u, hu, hv⟩ := hr.at1 h1 hk
    have hw : wd r = 1 := by cases r <;> first | rfl | exact absurd rfl (h1 _ _)
    refine ⟨u, fun ρ h => hv, fun w' hw' => ?_⟩
    refine load_one hE (by cases r <;> simp [Row.rk] at * ) ?_
    rw [hw'.cell (ad := ⟨gb, k * wd r, none⟩) hb, hw, Nat.mul_one]
    exact hc k u hu

theorem ps_load (hT : TTok P tt) (hI : Inv w0 S0 ρ s a w) {t : Nat} {x : Operand} (ho : o.op = .load t x) (h : pureOp alg tt g s (.load t x) K) : PS P o a w ρ s.h g K := by
  simp only [pureOp] at h
  obtain ⟨xv, h1, hx⟩ := op1_sound h (ev_sound hI x)
  clear h
  have run : ∀ {p : Value} {v : Value} {w' : World}, a.eval x = p → (Instr.loadAt t p).run P w' = .ok v w' → (execOp a.eval o).run P w' = .ok (.value v) w' := by
    intro p v w' e hr
    simp only [execOp, ho, e]
    exact run_v hr
  split at h1
  · rename_i k n
    split at h1
    · rename_i k' he
      split at h1
      · rename_i hk
        cases kb_eq hk
        refine ⟨_, h1, fun hg => ⟨.int k n, rfl, fun w' hw0 => ?_⟩⟩
        obtain ⟨ad, hv, hb, _, hp⟩ := hx hg
        exact run hv (load_one (hT.el _ _ he) (by simp) (((hw0 (by rw [ho]; rfl)).cell hb).trans hp))
      · exact h1.elim
    · exact h1.elim
  · rename_i b
    split at h1
    · rename_i he
      refine ⟨_, h1, fun hg => ⟨.bool b, rfl, fun w' hw0 => ?_⟩⟩
      obtain ⟨ad, hv, hb, _, hp⟩ := hx hg
      exact run hv (load_one (hT.el _ _ he) (by simp) (((hw0 (by rw [ho]; rfl)).cell hb).trans hp))
    · exact h1.elim
  · rename_i b
    split at h1
    · rename_i he
      refine ⟨_, h1, fun hg => ⟨.string ⟨b.toArray⟩, rfl, fun w' hw0 => ?_⟩⟩
      obtain ⟨ad, hv, hb, _, hp⟩ := hx hg
      exact run hv (load_one (hT.el _ _ he) (by simp) (((hw0 (by rw [ho]; rfl)).cell hb).trans hp))
    · exact h1.elim
  · rename_i n l
    split at h1
    · rename_i n' he
      split at h1
      · rename_i hn
        cases nbeq hn
        refine ⟨_, h1, fun hg => ?_⟩
        obtain ⟨ad, hv, hb, _, hp⟩ := hx hg
        refine ⟨.agg (l.map (Value.int .i64)).toArray, ⟨hp.1, rfl⟩, fun w' hw0 => ?_⟩
        exact run hv (load_rc (hT.el _ _ he) hp.1 fun j u hu => ((hw0 (by rw [ho]; rfl)).cell (by rw [add_block]; exact hb)).trans (hp.2 j u hu))
      · exact h1.elim
    · exact h1.elim
  · rename_i l
    split at h1
    · rename_i he
      refine ⟨_, h1, fun hg => ?_⟩
      obtain ⟨ad, hv, hb, _, v, hc, hr⟩ := hx hg
      exact ⟨v, hr, fun w' hw0 => run hv (load_one (hT.el _ _ he) (by simp) (((hw0 (by rw [ho]; rfl)).cell hb).trans hc))⟩
    · exact h1.elim
  · rename_i l
    split at h1
    · rename_i he
      refine ⟨_, h1, fun hg => ?_⟩
      obtain ⟨ad, hv, hb, _, v, hc, hr⟩ := hx hg
      exact ⟨v, hr, fun w' hw0 => run hv (load_one (hT.el _ _ he) (by simp) (((hw0 (by rw [ho]; rfl)).cell hb).trans hc))⟩
    · exact h1.elim
  · rename_i ob k
    split at h1
    · rename_i E r e hob he
      split at h1
      · rename_i heq
        have her := RK.eqb_eq heq
        refine ⟨_, h1, fun hg => ?_⟩
        obtain ⟨_, hv⟩ := hx hg
        obtain ⟨loc, hl, hz, hv, hk⟩ := hv E r (gO hob)
        obtain ⟨hO, _⟩ := hI.obj ob loc E r ⟨gO hob, hl⟩
        obtain ⟨hb, cs, hr, _, hc⟩ := hO.cell hz (eqb_x heq)
        obtain ⟨v, h2, h3⟩ := load_own (P := P) (by rw [her]; exact hT.el _ _ he) hr hb hc hk
        exact ⟨v, (h2 _ _).weak fun k h => h.1, fun w' hw0 => run hv (h3 w' (hw0 (by rw [ho]; rfl)))⟩
      · exact h1.elim
    · exact h1.elim
  · rename_i ob k j
    split at h1
    · rename_i E n l hob he
      split at h1
      · rename_i hj
        have hj := nblt hj
        refine ⟨_, h1, fun hg => ?_⟩
        obtain ⟨_, hv⟩ := hx hg
        obtain ⟨loc, hl, hz, hv, hk⟩ := hv E _ (gO hob)
        obtain ⟨hO, _⟩ := hI.obj ob loc E _ ⟨gO hob, hl⟩
        obtain ⟨hb, cs, hr, _, hc⟩ := hO.cell hz (by simp [Row.rk])
        simp only [nl, Row.nlen, alg] at hk
        refine ⟨_, rfl, fun w' hw0 => run hv (load_one (hT.el _ _ he) (by simp) ?_)⟩
        rw [(hw0 (by rw [ho]; rfl)).cell (ad := ⟨loc.g, k * wd (.recs n l) + j, none⟩) hb]
        refine hc _ _ ?_
        rw [hr.2]
        exact flat_get hr.1 hk hj
      · exact h1.elim
    · exact h1.elim
  · exact h1.elim

end
end Go.Ab
