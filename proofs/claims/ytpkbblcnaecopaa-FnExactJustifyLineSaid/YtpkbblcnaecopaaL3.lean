/-
  Lines: the functions that the laws compare.
-/
import Derived.Test.YtpkbblcnaecopaaL2
set_option linter.unusedSimpArgs false
set_option linter.unusedVariables false
namespace Go.Proofs.Ytpkbblcnaecopaa
open Go.Ab

theorem why_beq (l r : List Int) (m : Int) : (why l r m == 0) = fitB l r m := by
  unfold why
  rcases Bool.eq_false_or_eq_true (fitB l r m) with h | h
  · rw [h, if_pos rfl]; rfl
  · rw [h, if_neg (by simp)]; split
    · rfl
    · split <;> rfl

def L3 (S : Sp) : List (Nat × (List AV → CR)) :=
  (42, fun args => match args with | [.ro (.ints .i64 l), .rc 3 r, .int .i64 m] => .pure (S.sm l) (.int .i64 (S.costL l r m)) [] | _ => .no) ::
  L2 S
set_option maxRecDepth 100000 in
theorem L3_ok : TabOK Try.prog (tfind (L3 sp)) := by
  refine tab_cons (fun args => ?_) (L2_ok)
  · split
    · exact ent_pure fun h => juCost_ok _ _ _ h
    · exact ent_no

theorem implJust_ok (l r : List Int) (m : Int) (hl : l.length ≤ 1048576) : FC Try.prog 25 [.ro (.ints .i64 l), .rc 3 r, .int .i64 m] (.t2 (.own 0 true) (.bool (justB l r m))) [(3, .ints .i64 (justL l r m))] := by
  refine fc_eval sp L3 L3_ok hT hm Try.func25 rfl (by kernel_rfl) rfl rfl ?_
  intro A S r0 fr0 hA hS hr hfr
  cbv
  (try simp only [nc] at *); subst hA hS hr hfr; simp (disch := (refine KR.mk ?_; kernel_rfl)) only [alg, obP_iff, condP_iff, retP_iff, retM_iff, ofNat_cast, nc, Int.toNat_natCast, decide_eq_true_eq, decide_eq_false_iff_not, wrap_w64, Bool.not_eq_true', Bool.not_eq_false', beq_iff_eq, beq_eq_false_iff_ne, AV.bool.injEq, AV.int.injEq, AV.t2.injEq, AV.t3.injEq, AV.own.injEq, List.cons.injEq, Prod.mk.injEq, Row.ints.injEq, RW, Row.nlen, scalar, imp_self, and_true, true_and, lexT, heldT, List.getD_cons_zero, List.getD_cons_succ, sp, sb, justB, justL, fitL]
  refine ⟨hl, fun h => ?_, fun h => ⟨hl, ?_, ?_⟩⟩ <;> simp [h]
theorem specJust_ok (l r : List Int) (m : Int) (hl : l.length ≤ 1048576) : FC Try.prog 24 [.ro (.ints .i64 l), .rc 3 r, .int .i64 m] (.t2 (.own 0 true) (.bool (justB l r m))) [(3, .ints .i64 (justL l r m))] := by
  refine fc_eval sp L3 L3_ok hT hm Try.func24 rfl (by kernel_rfl) rfl rfl ?_
  intro A S r0 fr0 hA hS hr hfr
  cbv
  (try simp only [nc] at *); subst hA hS hr hfr; simp (disch := (refine KR.mk ?_; kernel_rfl)) only [alg, obP_iff, condP_iff, retP_iff, retM_iff, ofNat_cast, nc, Int.toNat_natCast, decide_eq_true_eq, decide_eq_false_iff_not, wrap_w64, Bool.not_eq_true', Bool.not_eq_false', beq_iff_eq, beq_eq_false_iff_ne, AV.bool.injEq, AV.int.injEq, AV.t2.injEq, AV.t3.injEq, AV.own.injEq, List.cons.injEq, Prod.mk.injEq, Row.ints.injEq, RW, Row.nlen, scalar, imp_self, and_true, true_and, lexT, heldT, List.getD_cons_zero, List.getD_cons_succ, sp, sb, justB, justL, why_beq]
  rcases Bool.eq_false_or_eq_true (askB l r m) with c1 | c1 <;> rcases Bool.eq_false_or_eq_true (fitB l r m) with c2 | c2 <;> simp [c1, c2, hl]
theorem implWhy_ok (l r : List Int) (m : Int) (hl : l.length ≤ 1048576) : FC Try.prog 23 [.ro (.ints .i64 l), .rc 3 r, .int .i64 m] (.t2 (.int .i64 (whyV l r m)) (.bool (askB l r m))) [] := by
  refine fc_eval sp L3 L3_ok hT hm Try.func23 rfl (by kernel_rfl) rfl rfl ?_
  intro A S r0 fr0 hA hS hr hfr
  cbv
  (try simp only [nc] at *); subst hA hS hr hfr; simp (disch := (refine KR.mk ?_; kernel_rfl)) only [alg, obP_iff, condP_iff, retP_iff, retM_iff, ofNat_cast, nc, Int.toNat_natCast, decide_eq_true_eq, decide_eq_false_iff_not, wrap_w64, Bool.not_eq_true', Bool.not_eq_false', beq_iff_eq, beq_eq_false_iff_ne, AV.bool.injEq, AV.int.injEq, AV.t2.injEq, AV.t3.injEq, AV.own.injEq, List.cons.injEq, Prod.mk.injEq, Row.ints.injEq, RW, Row.nlen, scalar, imp_self, and_true, true_and, lexT, heldT, List.getD_cons_zero, List.getD_cons_succ, sp, sb]
  refine ⟨hl, fun h => ⟨by simp [whyV, h], h.symm⟩, fun h => ⟨hl, hl, ?_⟩⟩
  have hn : natB l r = true := by simp only [askB, Bool.and_eq_true] at h; simp [natB, h.1]
  rw [whyV, if_pos h, why_eq h, lowV, if_pos hn]
  refine ⟨fun h1 => ⟨by rw [if_pos h1], h.symm⟩, fun h1 => ⟨fun h2 => ⟨?_, h.symm⟩, fun h2 => ⟨fun h3 => ⟨?_, h.symm⟩, fun h3 => ⟨?_, h.symm⟩⟩⟩⟩
  · rw [h1, if_neg (by simp), if_pos h2]
  · rw [h1, if_neg (by simp), if_neg h2, if_pos h3]
  · rw [h1, if_neg (by simp), if_neg h2, if_neg h3]
theorem specWhy_ok (l r : List Int) (m : Int) (hl : l.length ≤ 1048576) : FC Try.prog 22 [.ro (.ints .i64 l), .rc 3 r, .int .i64 m] (.t2 (.int .i64 (whyV l r m)) (.bool (askB l r m))) [] := by
  refine fc_eval sp L3 L3_ok hT hm Try.func22 rfl (by kernel_rfl) rfl rfl ?_
  intro A S r0 fr0 hA hS hr hfr
  cbv
  (try simp only [nc] at *); subst hA hS hr hfr; simp (disch := (refine KR.mk ?_; kernel_rfl)) only [alg, obP_iff, condP_iff, retP_iff, retM_iff, ofNat_cast, nc, Int.toNat_natCast, decide_eq_true_eq, decide_eq_false_iff_not, wrap_w64, Bool.not_eq_true', Bool.not_eq_false', beq_iff_eq, beq_eq_false_iff_ne, AV.bool.injEq, AV.int.injEq, AV.t2.injEq, AV.t3.injEq, AV.own.injEq, List.cons.injEq, Prod.mk.injEq, Row.ints.injEq, RW, Row.nlen, scalar, imp_self, and_true, true_and, lexT, heldT, List.getD_cons_zero, List.getD_cons_succ, sp, sb, whyV]
  refine ⟨hl, fun h => ?_, fun h => ⟨hl, ?_, ?_⟩⟩ <;> simp [h]
theorem specCost_ok (l r : List Int) (m : Int) (hl : l.length ≤ 1048576) : FC Try.prog 28 [.ro (.ints .i64 l), .rc 3 r, .int .i64 m] (.t2 (.int .i64 (costV l r m)) (.bool (justB l r m))) [] := by
  refine fc_eval sp L3 L3_ok hT hm Try.func28 rfl (by kernel_rfl) rfl rfl ?_
  intro A S r0 fr0 hA hS hr hfr
  cbv
  (try simp only [nc] at *); subst hA hS hr hfr; simp (disch := (refine KR.mk ?_; kernel_rfl)) only [alg, obP_iff, condP_iff, retP_iff, retM_iff, ofNat_cast, nc, Int.toNat_natCast, decide_eq_true_eq, decide_eq_false_iff_not, wrap_w64, Bool.not_eq_true', Bool.not_eq_false', beq_iff_eq, beq_eq_false_iff_ne, AV.bool.injEq, AV.int.injEq, AV.t2.injEq, AV.t3.injEq, AV.own.injEq, List.cons.injEq, Prod.mk.injEq, Row.ints.injEq, RW, Row.nlen, scalar, imp_self, and_true, true_and, lexT, heldT, List.getD_cons_zero, List.getD_cons_succ, sp, sb, costV, justB, why_beq]
  rcases Bool.eq_false_or_eq_true (askB l r m) with c1 | c1 <;> rcases Bool.eq_false_or_eq_true (fitB l r m) with c2 | c2 <;> simp [c1, c2, hl]

def L4 (S : Sp) : List (Nat × (List AV → CR)) :=
  (25, fun args => match args with | [.ro (.ints .i64 l), .rc 3 r, .int .i64 m] => .pure (S.sm l) (.t2 (.own 0 true) (.bool (S.justB l r m))) [(3, .ints .i64 (S.justL l r m))] | _ => .no) ::
  (24, fun args => match args with | [.ro (.ints .i64 l), .rc 3 r, .int .i64 m] => .pure (S.sm l) (.t2 (.own 0 true) (.bool (S.justB l r m))) [(3, .ints .i64 (S.justL l r m))] | _ => .no) ::
  L3 S
set_option maxRecDepth 100000 in
theorem L4_ok : TabOK Try.prog (tfind (L4 sp)) := by
  refine tab_cons (fun args => ?_) (tab_cons (fun args => ?_) (L3_ok))
  · split
    · exact ent_pure fun h => implJust_ok _ _ _ h
    · exact ent_no
  · split
    · exact ent_pure fun h => specJust_ok _ _ _ h
    · exact ent_no
theorem justL_len (l r : List Int) (m : Int) (hl : l.length ≤ 1048576) : (justL l r m).length ≤ 1048576 := by
  unfold justL; split
  · exact spL_len _ _ hl
  · simp
theorem implCost_ok (l r : List Int) (m : Int) (hl : l.length ≤ 1048576) : FC Try.prog 29 [.ro (.ints .i64 l), .rc 3 r, .int .i64 m] (.t2 (.int .i64 (costV l r m)) (.bool (justB l r m))) [] := by
  refine fc_eval sp L4 L4_ok hT hm Try.func29 rfl (by kernel_rfl) rfl rfl ?_
  intro A S r0 fr0 hA hS hr hfr
  cbv
  (try simp only [nc] at *); subst hA hS hr hfr; simp (disch := (refine KR.mk ?_; kernel_rfl)) only [alg, obP_iff, condP_iff, retP_iff, retM_iff, ofNat_cast, nc, Int.toNat_natCast, decide_eq_true_eq, decide_eq_false_iff_not, wrap_w64, Bool.not_eq_true', Bool.not_eq_false', beq_iff_eq, beq_eq_false_iff_ne, AV.bool.injEq, AV.int.injEq, AV.t2.injEq, AV.t3.injEq, AV.own.injEq, List.cons.injEq, Prod.mk.injEq, Row.ints.injEq, RW, Row.nlen, scalar, imp_self, and_true, true_and, lexT, heldT, List.getD_cons_zero, List.getD_cons_succ, sp, sb]
  refine ⟨hl, fun h => ⟨by simp [costV, h], h.symm⟩, fun h => ⟨justL_len _ _ _ hl, by simp [costV, h, justL, costL], h.symm⟩⟩

theorem implFit_ok (l r : List Int) (m : Int) (hl : l.length ≤ 1048576) : FC Try.prog 21 [.ro (.ints .i64 l), .rc 3 r, .int .i64 m] (.t2 (.int .i64 (nfV l r m)) (.bool (askB l r m))) [] := by
  refine fc_eval sp L4 L4_ok hT hm Try.func21 rfl (by kernel_rfl) rfl rfl ?_
  intro A S r0 fr0 hA hS hr hfr
  cbv
  refine obP.mk (by subst hA hS; exact hl) (condP.mk (fun hc => ?_) (fun hc => ?_))
  · have hf : (!(askB l r m)) = true := by subst hA hS; exact hc
    rw [Bool.not_eq_true'] at hf
    (try simp only [nc] at *); subst hA hS hr hfr; simp (disch := (refine KR.mk ?_; kernel_rfl)) only [alg, obP_iff, condP_iff, retP_iff, retM_iff, ofNat_cast, nc, Int.toNat_natCast, decide_eq_true_eq, decide_eq_false_iff_not, wrap_w64, Bool.not_eq_true', Bool.not_eq_false', beq_iff_eq, beq_eq_false_iff_ne, AV.bool.injEq, AV.int.injEq, AV.t2.injEq, AV.t3.injEq, AV.own.injEq, List.cons.injEq, Prod.mk.injEq, Row.ints.injEq, RW, Row.nlen, scalar, imp_self, and_true, true_and, lexT, heldT, List.getD_cons_zero, List.getD_cons_succ, sp, sb]
    simp [nfV, hf]
  · have hf : (!(askB l r m)) = false := by subst hA hS; exact hc
    rw [Bool.not_eq_false'] at hf
    have hv : nfV l r m = wh (nfC l r m) (l.length + 1) 0 := by simp [nfV, hf]
    refine loop1 (fun (n : Nat) => ⟨fr 35 [(0, .ro (.ints .i64 l)), (2, .int .i64 m), (4, .po 1 0), (8, .int .i64 n)], [.dead, .row 25 (.recs 3 [r])]⟩)
      (fun n => n ≤ l.length ∧ wh (nfC l r m) (l.length + 1) 0 = wh (nfC l r m) (l.length + 1 - n) n) (fun n => l.length - n) 0 ?_ ?_ ?_
    · subst hA hS; simp [Wk_iff, fr, undefs, wkT, wkV, wkH, okid, Row.nlen, w64_eq, getO, alg]
    · simp
    · rintro n ⟨h1, h2⟩
      cbv
      (try simp only [nc] at *); subst hA hS hr hfr; simp (disch := (refine KR.mk ?_; kernel_rfl)) only [alg, obP_iff, condP_iff, retP_iff, retM_iff, ofNat_cast, nc, Int.toNat_natCast, decide_eq_true_eq, decide_eq_false_iff_not, wrap_w64, Bool.not_eq_true', Bool.not_eq_false', beq_iff_eq, beq_eq_false_iff_ne, AV.bool.injEq, AV.int.injEq, AV.t2.injEq, AV.t3.injEq, AV.own.injEq, List.cons.injEq, Prod.mk.injEq, Row.ints.injEq, RW, Row.nlen, scalar, imp_self, and_true, true_and, lexT, heldT, List.getD_cons_zero, List.getD_cons_succ, sp, sb]
      have w1 : w64 ((n : Int) + 1) = ((n + 1 : Nat) : Int) := by rw [w64_eq]; omega
      simp only [w1, Int.toNat_natCast, Int.toNat_zero, List.drop_zero]
      refine ⟨fun _ => by omega, fun _ => by omega, fun _ => by simp; omega, fun (hc : nfC l r m n = true) => ?_, fun (hc : nfC l r m n = false) => ?_⟩
      · have h3 : n < l.length := by have := hc; simp [nfC] at this; omega
        refine ⟨n + 1, ?_, ⟨by omega, ?_⟩, by omega⟩
        · simp [Wk_iff, fr, undefs, wkT, wkV, wkH, okid, Row.nlen, w64_eq, getO]
        · have e : l.length + 1 - n = (l.length - n) + 1 := by omega
          have e2 : l.length + 1 - (n + 1) = l.length - n := by omega
          rw [h2, e, wh_t hc, e2]
      · rw [hv, h2, wh_f hc, hf]; exact ⟨rfl, rfl⟩

theorem specFit_ok (l r : List Int) (m : Int) (hl : l.length ≤ 1048576) : FC Try.prog 20 [.ro (.ints .i64 l), .rc 3 r, .int .i64 m] (.t2 (.int .i64 (nfV l r m)) (.bool (askB l r m))) [] := by
  refine fc_eval sp L4 L4_ok hT hm Try.func20 rfl (by kernel_rfl) rfl rfl ?_
  intro A S r0 fr0 hA hS hr hfr
  cbv
  refine obP.mk (by subst hA hS; exact hl) (condP.mk (fun hc => ?_) (fun hc => ?_))
  · have hf : (!(askB l r m)) = true := by subst hA hS; exact hc
    rw [Bool.not_eq_true'] at hf
    (try simp only [nc] at *); subst hA hS hr hfr; simp (disch := (refine KR.mk ?_; kernel_rfl)) only [alg, obP_iff, condP_iff, retP_iff, retM_iff, ofNat_cast, nc, Int.toNat_natCast, decide_eq_true_eq, decide_eq_false_iff_not, wrap_w64, Bool.not_eq_true', Bool.not_eq_false', beq_iff_eq, beq_eq_false_iff_ne, AV.bool.injEq, AV.int.injEq, AV.t2.injEq, AV.t3.injEq, AV.own.injEq, List.cons.injEq, Prod.mk.injEq, Row.ints.injEq, RW, Row.nlen, scalar, imp_self, and_true, true_and, lexT, heldT, List.getD_cons_zero, List.getD_cons_succ, sp, sb]
    simp [nfV, hf]
  · have hf : (!(askB l r m)) = false := by subst hA hS; exact hc
    rw [Bool.not_eq_false'] at hf
    have hv : nfV l r m = wh (nfC l r m) (l.length + 1) 0 := by simp [nfV, hf]
    refine loop1 (fun (n : Nat) => ⟨fr 35 [(0, .ro (.ints .i64 l)), (2, .int .i64 m), (4, .po 1 0), (8, .int .i64 n)], [.dead, .row 25 (.recs 3 [r])]⟩)
      (fun n => n ≤ l.length ∧ wh (nfC l r m) (l.length + 1) 0 = wh (nfC l r m) (l.length + 1 - n) n) (fun n => l.length - n) 0 ?_ ?_ ?_
    · subst hA hS; simp [Wk_iff, fr, undefs, wkT, wkV, wkH, okid, Row.nlen, w64_eq, getO, alg]
    · simp
    · rintro n ⟨h1, h2⟩
      cbv
      (try simp only [nc] at *); subst hA hS hr hfr; simp (disch := (refine KR.mk ?_; kernel_rfl)) only [alg, obP_iff, condP_iff, retP_iff, retM_iff, ofNat_cast, nc, Int.toNat_natCast, decide_eq_true_eq, decide_eq_false_iff_not, wrap_w64, Bool.not_eq_true', Bool.not_eq_false', beq_iff_eq, beq_eq_false_iff_ne, AV.bool.injEq, AV.int.injEq, AV.t2.injEq, AV.t3.injEq, AV.own.injEq, List.cons.injEq, Prod.mk.injEq, Row.ints.injEq, RW, Row.nlen, scalar, imp_self, and_true, true_and, lexT, heldT, List.getD_cons_zero, List.getD_cons_succ, sp, sb]
      have w1 : w64 ((n : Int) + 1) = ((n + 1 : Nat) : Int) := by rw [w64_eq]; omega
      simp only [w1, Int.toNat_natCast, Int.toNat_zero, List.drop_zero]
      refine ⟨fun _ => by omega, fun _ => by omega, fun _ => by simp; omega, fun (hc : nfC l r m n = true) => ?_, fun (hc : nfC l r m n = false) => ?_⟩
      · have h3 : n < l.length := by have := hc; simp [nfC] at this; omega
        refine ⟨n + 1, ?_, ⟨by omega, ?_⟩, by omega⟩
        · simp [Wk_iff, fr, undefs, wkT, wkV, wkH, okid, Row.nlen, w64_eq, getO]
        · have e : l.length + 1 - n = (l.length - n) + 1 := by omega
          have e2 : l.length + 1 - (n + 1) = l.length - n := by omega
          rw [h2, e, wh_t hc, e2]
      · rw [hv, h2, wh_f hc, hf]; exact ⟨rfl, rfl⟩


/-- The state of both searches. -/
structure BInv (l r : List Int) (a z : Int) (k : Nat) (b : Option Int) : Prop where
  h1 : k ≤ (z + 1 - a).toNat
  h2 : bmF l r (z + 1 - a).toNat a none = bmF l r ((z + 1 - a).toNat - k) (a + k) b
  h3 : ∀ m, b = some m → a ≤ m ∧ m ≤ z ∧ fitB l r m = true
theorem BInv.next {l r : List Int} {a z : Int} {k : Nat} {b : Option Int} (h : BInv l r a z k b) (hk : a + k ≤ z) : BInv l r a z (k + 1) (bmS l r (a + k) b) := by
  have h1 := h.h1
  refine ⟨by omega, ?_, ?_⟩
  · have e : (z + 1 - a).toNat - k = ((z + 1 - a).toNat - (k + 1)) + 1 := by omega
    have e2 : a + ((k + 1 : Nat) : Int) = a + k + 1 := by omega
    rw [h.h2, e, bmF, e2]
  · intro m hm
    unfold bmS at hm
    by_cases hf : fitB l r (a + k) = true
    · rw [if_pos hf] at hm
      cases b with
      | none => simp at hm; subst hm; exact ⟨by omega, hk, hf⟩
      | some x =>
        have := h.h3 x rfl
        by_cases hc : costL l r (a + k) < costL l r x
        · simp [hc] at hm; subst hm; exact ⟨by omega, hk, hf⟩
        · simp [hc] at hm; subst hm; exact this
    · rw [if_neg hf] at hm
      exact h.h3 m hm
theorem BInv.fin {l r : List Int} {a z : Int} {k : Nat} {b : Option Int} (h : BInv l r a z k b) (hb : bmB l r a z = true) (hk : ¬ a + k ≤ z) : bm l r a z = b := by
  have h1 := h.h1
  have e : (z + 1 - a).toNat - k = 0 := by omega
  rw [bm, if_pos hb, h.h2, e]; rfl
def lstO (l r : List Int) : Option Int → Int
  | none => -1
  | some m => costL l r m
theorem specBest_ok (l r : List Int) (a z : Int) (hl : l.length ≤ 1048576) : FC Try.prog 30 [.ro (.ints .i64 l), .rc 3 r, .int .i64 a, .int .i64 z] (.t2 (.int .i64 (bmV l r a z)) (.bool (bmO l r a z))) [] := by
  refine fc_eval sp L4 L4_ok hT hm Try.func30 rfl (by kernel_rfl) rfl rfl ?_
  intro A S r0 fr0 hA hS hr hfr
  cbv
  repeat refine obP.mk (by subst hA hS; first | assumption | trivial | exact fun _ => trivial | exact fun h => h | exact fun _ => ‹_› | (simp [alg, sp, sb])) ?_
  refine condP.mk (fun hc => ?_) (fun hc => ?_)
  · have hf : (!(askB l r a) || !(inR z 1 2000)) = true := by subst hA hS; exact hc
    have hb : bmB l r a z = false := by unfold bmB; rcases Bool.eq_false_or_eq_true (askB l r a) with c1 | c1 <;> rcases Bool.eq_false_or_eq_true (inR z 1 2000) with c2 | c2 <;> simp [c1, c2] at hf ⊢
    (try simp only [nc] at *); subst hA hS hr hfr; simp (disch := (refine KR.mk ?_; kernel_rfl)) only [alg, obP_iff, condP_iff, retP_iff, retM_iff, ofNat_cast, nc, Int.toNat_natCast, decide_eq_true_eq, decide_eq_false_iff_not, wrap_w64, Bool.not_eq_true', Bool.not_eq_false', beq_iff_eq, beq_eq_false_iff_ne, AV.bool.injEq, AV.int.injEq, AV.t2.injEq, AV.t3.injEq, AV.own.injEq, List.cons.injEq, Prod.mk.injEq, Row.ints.injEq, RW, Row.nlen, scalar, imp_self, and_true, true_and, lexT, heldT, List.getD_cons_zero, List.getD_cons_succ, sp, sb]
    simp [bmV, bmO, bm, hb]
  · have hf : (!(askB l r a) || !(inR z 1 2000)) = false := by subst hA hS; exact hc
    have hb : bmB l r a z = true := by unfold bmB; rcases Bool.eq_false_or_eq_true (askB l r a) with c1 | c1 <;> rcases Bool.eq_false_or_eq_true (inR z 1 2000) with c2 | c2 <;> simp [c1, c2] at hf ⊢
    have hb2 := hb
    simp only [bmB, Bool.and_eq_true, inR_iff] at hb2
    have ha : 1 ≤ a ∧ a ≤ 2000 := by have := hb2.1; simp only [askB, Bool.and_eq_true, inR_iff] at this; exact this.2
    refine loop4 (fun (k : Nat) (b : Option Int) (x n : Int) => ⟨fr 52 [(0, .ro (.ints .i64 l)), (3, .int .i64 z), (5, .po 1 0), (10, .int .i64 x), (11, .int .i64 n)], [.dead, .row 25 (.recs 3 [r])]⟩)
      (fun k b x n => BInv l r a z k b ∧ x = b.getD (-1) ∧ n = a + k) (fun k _ _ _ => (z + 1 - a).toNat - k) 0 none (-1) a ?_ ?_ ?_
    · subst hA hS; simp [Wk_iff, fr, undefs, wkT, wkV, wkH, okid, Row.nlen, w64_eq, getO, alg]
    · exact ⟨⟨by omega, by simp, by simp⟩, rfl, by simp⟩
    · rintro k b x n ⟨h1, hx, hn⟩
      cbv
      (try simp only [nc] at *); subst hA hS hr hfr; simp (disch := (refine KR.mk ?_; kernel_rfl)) only [alg, obP_iff, condP_iff, retP_iff, retM_iff, ofNat_cast, nc, Int.toNat_natCast, decide_eq_true_eq, decide_eq_false_iff_not, wrap_w64, Bool.not_eq_true', Bool.not_eq_false', beq_iff_eq, beq_eq_false_iff_ne, AV.bool.injEq, AV.int.injEq, AV.t2.injEq, AV.t3.injEq, AV.own.injEq, List.cons.injEq, Prod.mk.injEq, Row.ints.injEq, RW, Row.nlen, scalar, imp_self, and_true, true_and, lexT, heldT, List.getD_cons_zero, List.getD_cons_succ, sp, sb, why_beq]
      have hk1 := h1.h1
      have xneg : (x < 0) ↔ b = none := by
        rw [hx]; cases b with
        | none => simp
        | some m => have := h1.h3 m rfl; simp; omega
      refine ⟨fun hz => ⟨hl, fun _ => hl, fun _ => hl, fun hc => ?_, fun hc => ?_⟩, fun hz => ⟨fun hc => ?_, fun hc => ?_⟩⟩
      · have hb' : bmS l r (a + k) b = some n := by
          simp only [Bool.and_eq_true, Bool.or_eq_true, decide_eq_true_eq] at hc
          unfold bmS
          rw [← hn, if_pos hc.1]
          cases b with
          | none => rfl
          | some m => simp only [Option.getD_some] at hx; subst hx; simp only [reduceCtorEq, iff_false] at xneg; simp [hc.2.resolve_left xneg]
        refine ⟨k + 1, some n, n, n + 1, ?_, ⟨hb' ▸ h1.next (by omega), rfl, by omega⟩, by omega⟩
        simp [Wk_iff, fr, undefs, wkT, wkV, wkH, okid, Row.nlen, w64_eq, getO]; omega
      · have hb' : bmS l r (a + k) b = b := by
          unfold bmS
          rw [← hn]
          by_cases hf : fitB l r n = true
          · rw [if_pos hf]
            cases b with
            | none => exfalso; simp [hf, xneg] at hc
            | some m => simp only [Option.getD_some] at hx; subst hx; simp [hf, xneg] at hc; simp; omega
          · rw [if_neg hf]
        refine ⟨k + 1, b, x, n + 1, ?_, ⟨hb' ▸ h1.next (by omega), hx, by omega⟩, by omega⟩
        simp [Wk_iff, fr, undefs, wkT, wkV, wkH, okid, Row.nlen, w64_eq, getO]; omega
      · have := h1.fin hb (by omega)
        rw [bmV, bmO, this, xneg.1 hc]; exact ⟨rfl, rfl⟩
      · have := h1.fin hb (by omega)
        rw [bmV, bmO, this]
        cases b with
        | none => simp at xneg; omega
        | some m => exact ⟨hx, rfl⟩
def L5 (S : Sp) : List (Nat × (List AV → CR)) :=
  (29, fun args => match args with | [.ro (.ints .i64 l), .rc 3 r, .int .i64 m] => .pure (S.sm l) (.t2 (.int .i64 (S.costV l r m)) (.bool (S.justB l r m))) [] | _ => .no) ::
  (28, fun args => match args with | [.ro (.ints .i64 l), .rc 3 r, .int .i64 m] => .pure (S.sm l) (.t2 (.int .i64 (S.costV l r m)) (.bool (S.justB l r m))) [] | _ => .no) ::
  (23, fun args => match args with | [.ro (.ints .i64 l), .rc 3 r, .int .i64 m] => .pure (S.sm l) (.t2 (.int .i64 (S.whyV l r m)) (.bool (S.askB l r m))) [] | _ => .no) ::
  (22, fun args => match args with | [.ro (.ints .i64 l), .rc 3 r, .int .i64 m] => .pure (S.sm l) (.t2 (.int .i64 (S.whyV l r m)) (.bool (S.askB l r m))) [] | _ => .no) ::
  (21, fun args => match args with | [.ro (.ints .i64 l), .rc 3 r, .int .i64 m] => .pure (S.sm l) (.t2 (.int .i64 (S.nfV l r m)) (.bool (S.askB l r m))) [] | _ => .no) ::
  (20, fun args => match args with | [.ro (.ints .i64 l), .rc 3 r, .int .i64 m] => .pure (S.sm l) (.t2 (.int .i64 (S.nfV l r m)) (.bool (S.askB l r m))) [] | _ => .no) ::
  L4 S
set_option maxRecDepth 100000 in
theorem L5_ok : TabOK Try.prog (tfind (L5 sp)) := by
  refine tab_cons (fun args => ?_) (tab_cons (fun args => ?_) (tab_cons (fun args => ?_) (tab_cons (fun args => ?_) (tab_cons (fun args => ?_) (tab_cons (fun args => ?_) (L4_ok))))))
  · split
    · exact ent_pure fun h => implCost_ok _ _ _ h
    · exact ent_no
  · split
    · exact ent_pure fun h => specCost_ok _ _ _ h
    · exact ent_no
  · split
    · exact ent_pure fun h => implWhy_ok _ _ _ h
    · exact ent_no
  · split
    · exact ent_pure fun h => specWhy_ok _ _ _ h
    · exact ent_no
  · split
    · exact ent_pure fun h => implFit_ok _ _ _ h
    · exact ent_no
  · split
    · exact ent_pure fun h => specFit_ok _ _ _ h
    · exact ent_no
theorem implBest_ok (l r : List Int) (a z : Int) (hl : l.length ≤ 1048576) : FC Try.prog 31 [.ro (.ints .i64 l), .rc 3 r, .int .i64 a, .int .i64 z] (.t2 (.int .i64 (bmV l r a z)) (.bool (bmO l r a z))) [] := by
  refine fc_eval sp L5 L5_ok hT hm Try.func31 rfl (by kernel_rfl) rfl rfl ?_
  intro A S r0 fr0 hA hS hr hfr
  cbv
  repeat refine obP.mk (by subst hA hS; first | assumption | trivial | exact fun _ => trivial | exact fun h => h | exact fun _ => ‹_› | (simp [alg, sp, sb])) ?_
  refine condP.mk (fun hc => ?_) (fun hc => ?_)
  · have hf : (!(askB l r a) || !(inR z 1 2000)) = true := by subst hA hS; exact hc
    have hb : bmB l r a z = false := by unfold bmB; rcases Bool.eq_false_or_eq_true (askB l r a) with c1 | c1 <;> rcases Bool.eq_false_or_eq_true (inR z 1 2000) with c2 | c2 <;> simp [c1, c2] at hf ⊢
    (try simp only [nc] at *); subst hA hS hr hfr; simp (disch := (refine KR.mk ?_; kernel_rfl)) only [alg, obP_iff, condP_iff, retP_iff, retM_iff, ofNat_cast, nc, Int.toNat_natCast, decide_eq_true_eq, decide_eq_false_iff_not, wrap_w64, Bool.not_eq_true', Bool.not_eq_false', beq_iff_eq, beq_eq_false_iff_ne, AV.bool.injEq, AV.int.injEq, AV.t2.injEq, AV.t3.injEq, AV.own.injEq, List.cons.injEq, Prod.mk.injEq, Row.ints.injEq, RW, Row.nlen, scalar, imp_self, and_true, true_and, lexT, heldT, List.getD_cons_zero, List.getD_cons_succ, sp, sb]
    simp [bmV, bmO, bm, hb]
  · have hf : (!(askB l r a) || !(inR z 1 2000)) = false := by subst hA hS; exact hc
    have hb : bmB l r a z = true := by unfold bmB; rcases Bool.eq_false_or_eq_true (askB l r a) with c1 | c1 <;> rcases Bool.eq_false_or_eq_true (inR z 1 2000) with c2 | c2 <;> simp [c1, c2] at hf ⊢
    have hb2 := hb
    simp only [bmB, Bool.and_eq_true, inR_iff] at hb2
    have ha : 1 ≤ a ∧ a ≤ 2000 := by have := hb2.1; simp only [askB, Bool.and_eq_true, inR_iff] at this; exact this.2
    refine loop5 (fun (k : Nat) (b : Option Int) (x y n : Int) => ⟨fr 53 [(0, .ro (.ints .i64 l)), (3, .int .i64 z), (5, .po 1 0), (10, .int .i64 x), (11, .int .i64 y), (12, .int .i64 n)], [.dead, .row 25 (.recs 3 [r])]⟩)
      (fun k b x y n => BInv l r a z k b ∧ x = b.getD 0 ∧ y = lstO l r b ∧ n = a + k) (fun k _ _ _ _ => (z + 1 - a).toNat - k) 0 none 0 (-1) a ?_ ?_ ?_
    · subst hA hS; simp [Wk_iff, fr, undefs, wkT, wkV, wkH, okid, Row.nlen, w64_eq, getO, alg]
    · exact ⟨⟨by omega, by simp, by simp⟩, rfl, rfl, by simp⟩
    · rintro k b x y n ⟨h1, hx, hy, hn⟩
      cbv
      (try simp only [nc] at *); subst hA hS hr hfr; simp (disch := (refine KR.mk ?_; kernel_rfl)) only [alg, obP_iff, condP_iff, retP_iff, retM_iff, ofNat_cast, nc, Int.toNat_natCast, decide_eq_true_eq, decide_eq_false_iff_not, wrap_w64, Bool.not_eq_true', Bool.not_eq_false', beq_iff_eq, beq_eq_false_iff_ne, AV.bool.injEq, AV.int.injEq, AV.t2.injEq, AV.t3.injEq, AV.own.injEq, List.cons.injEq, Prod.mk.injEq, Row.ints.injEq, RW, Row.nlen, scalar, imp_self, and_true, true_and, lexT, heldT, List.getD_cons_zero, List.getD_cons_succ, sp, sb, why_beq]
      have hk1 := h1.h1
      have yneg : (y < 0) ↔ b = none := by
        rw [hy]; cases b with
        | none => simp [lstO]
        | some m =>
          have := h1.h3 m rfl
          have := costL_nn (bm_ask hb2.1 (n := m) (by omega)) this.2.2
          simp [lstO]; omega
      refine ⟨fun hz => ⟨hl, fun hc => ?_, fun hc => ?_⟩, fun hz => ?_⟩
      · have hask := bm_ask hb2.1 (n := n) (by omega)
        have hj : justB l r n = fitB l r n := by simp [justB, hask]
        rw [hj] at hc
        simp only [Bool.and_eq_true, Bool.or_eq_true, decide_eq_true_eq] at hc
        have hcv : costV l r n = costL l r n := by simp [costV, hj, hc.1]
        have hb' : bmS l r (a + k) b = some n := by
          unfold bmS
          rw [← hn, if_pos hc.1]
          cases b with
          | none => rfl
          | some m => simp only [reduceCtorEq, iff_false] at yneg; rw [hcv, hy] at hc; simp [lstO] at hc; rw [hy] at yneg; simp [lstO] at yneg; simp; omega
        refine ⟨k + 1, some n, n, costL l r n, n + 1, ?_, ⟨hb' ▸ h1.next (by omega), rfl, rfl, by omega⟩, by omega⟩
        simp [Wk_iff, fr, undefs, wkT, wkV, wkH, okid, Row.nlen, w64_eq, getO, hcv]; omega
      · have hask := bm_ask hb2.1 (n := n) (by omega)
        have hj : justB l r n = fitB l r n := by simp [justB, hask]
        rw [hj] at hc
        have hb' : bmS l r (a + k) b = b := by
          unfold bmS
          rw [← hn]
          by_cases hf : fitB l r n = true
          · have hcv : costV l r n = costL l r n := by simp [costV, hj, hf]
            rw [if_pos hf]
            cases b with
            | none => exfalso; simp [hf, yneg] at hc
            | some m => simp [hf, yneg, hcv, hy, lstO] at hc; simp; omega
          · rw [if_neg hf]
        refine ⟨k + 1, b, x, y, n + 1, ?_, ⟨hb' ▸ h1.next (by omega), hx, hy, by omega⟩, by omega⟩
        simp [Wk_iff, fr, undefs, wkT, wkV, wkH, okid, Row.nlen, w64_eq, getO]; omega
      · have := h1.fin hb (by omega)
        rw [bmV, bmO, this, hx]
        refine ⟨rfl, ?_⟩
        cases b with
        | none => simp at yneg; simp; omega
        | some m => simp at yneg; simp; omega
end Go.Proofs.Ytpkbblcnaecopaa
