/-
  Lines: widths, spaces, costs.
-/
import Derived.Test.YtpkbblcnaecopaaL1
set_option linter.unusedSimpArgs false
set_option linter.unusedVariables false
namespace Go.Proofs.Ytpkbblcnaecopaa
open Go.Ab

theorem isSetLine_ok (l r : List Int) (m : Int) (hl : l.length ≤ 1048576) : FC Try.prog 38 [.ro (.ints .i64 l), .rc 3 r, .int .i64 m] (.bool (askB l r m)) [] := by
  refine fc_eval sp L1 L1_ok hT hm Try.func38 rfl (by kernel_rfl) rfl rfl ?_
  intro A S r0 fr0 hA hS hr hfr
  cbv
  (try simp only [nc] at *); subst hA hS hr hfr; simp (disch := (refine KR.mk ?_; kernel_rfl)) only [alg, obP_iff, condP_iff, retP_iff, retM_iff, ofNat_cast, nc, Int.toNat_natCast, decide_eq_true_eq, decide_eq_false_iff_not, wrap_w64, Bool.not_eq_true', Bool.not_eq_false', beq_iff_eq, beq_eq_false_iff_ne, AV.bool.injEq, AV.int.injEq, AV.t2.injEq, AV.t3.injEq, AV.own.injEq, List.cons.injEq, Prod.mk.injEq, Row.ints.injEq, RW, Row.nlen, scalar, imp_self, and_true, true_and, lexT, heldT, List.getD_cons_zero, List.getD_cons_succ, sp, sb, askB]
  simp [hl]
theorem juAsked_ok (l r : List Int) (m : Int) (hl : l.length ≤ 1048576) : FC Try.prog 37 [.ro (.ints .i64 l), .rc 3 r, .int .i64 m] (.bool (askB l r m)) [] := by
  refine fc_eval sp L1 L1_ok hT hm Try.func37 rfl (by kernel_rfl) rfl rfl ?_
  intro A S r0 fr0 hA hS hr hfr
  cbv
  (try simp only [nc] at *); subst hA hS hr hfr; simp (disch := (refine KR.mk ?_; kernel_rfl)) only [alg, obP_iff, condP_iff, retP_iff, retM_iff, ofNat_cast, nc, Int.toNat_natCast, decide_eq_true_eq, decide_eq_false_iff_not, wrap_w64, Bool.not_eq_true', Bool.not_eq_false', beq_iff_eq, beq_eq_false_iff_ne, AV.bool.injEq, AV.int.injEq, AV.t2.injEq, AV.t3.injEq, AV.own.injEq, List.cons.injEq, Prod.mk.injEq, Row.ints.injEq, RW, Row.nlen, scalar, imp_self, and_true, true_and, lexT, heldT, List.getD_cons_zero, List.getD_cons_succ, sp, sb, askB]
  simp [hl]
theorem specIsRule_ok (r : List Int) : FC Try.prog 11 [.rc 3 r] (.bool (ruleB r)) [] := by
  refine fc_eval sp L1 L1_ok hT hm Try.func11 rfl (by kernel_rfl) rfl rfl ?_
  intro A S r0 fr0 hA hS hr hfr
  cbv
  (try simp only [nc] at *); subst hA hS hr hfr; simp (disch := (refine KR.mk ?_; kernel_rfl)) only [alg, obP_iff, condP_iff, retP_iff, retM_iff, ofNat_cast, nc, Int.toNat_natCast, decide_eq_true_eq, decide_eq_false_iff_not, wrap_w64, Bool.not_eq_true', Bool.not_eq_false', beq_iff_eq, beq_eq_false_iff_ne, AV.bool.injEq, AV.int.injEq, AV.t2.injEq, AV.t3.injEq, AV.own.injEq, List.cons.injEq, Prod.mk.injEq, Row.ints.injEq, RW, Row.nlen, scalar, imp_self, and_true, true_and, lexT, heldT, List.getD_cons_zero, List.getD_cons_succ, sp, sb]
theorem implNat_ok (l r : List Int) (hl : l.length ≤ 1048576) : FC Try.prog 16 [.ro (.ints .i64 l), .rc 3 r] (.t2 (.int .i64 (natV l r)) (.bool (natB l r))) [] := by
  refine fc_eval sp L1 L1_ok hT hm Try.func16 rfl (by kernel_rfl) rfl rfl ?_
  intro A S r0 fr0 hA hS hr hfr
  cbv
  (try simp only [nc] at *); subst hA hS hr hfr; simp (disch := (refine KR.mk ?_; kernel_rfl)) only [alg, obP_iff, condP_iff, retP_iff, retM_iff, ofNat_cast, nc, Int.toNat_natCast, decide_eq_true_eq, decide_eq_false_iff_not, wrap_w64, Bool.not_eq_true', Bool.not_eq_false', beq_iff_eq, beq_eq_false_iff_ne, AV.bool.injEq, AV.int.injEq, AV.t2.injEq, AV.t3.injEq, AV.own.injEq, List.cons.injEq, Prod.mk.injEq, Row.ints.injEq, RW, Row.nlen, scalar, imp_self, and_true, true_and, lexT, heldT, List.getD_cons_zero, List.getD_cons_succ, sp, sb, natV, natB, wid, gap]
  rcases Bool.eq_false_or_eq_true (lineB l) with c1 | c1 <;> rcases Bool.eq_false_or_eq_true (ruleB r) with c2 | c2 <;> simp [c1, c2, hl]
theorem specNat_ok (l r : List Int) (hl : l.length ≤ 1048576) : FC Try.prog 14 [.ro (.ints .i64 l), .rc 3 r] (.t2 (.int .i64 (natV l r)) (.bool (natB l r))) [] := by
  refine fc_eval sp L1 L1_ok hT hm Try.func14 rfl (by kernel_rfl) rfl rfl ?_
  intro A S r0 fr0 hA hS hr hfr
  cbv
  (try simp only [nc] at *); subst hA hS hr hfr; simp (disch := (refine KR.mk ?_; kernel_rfl)) only [alg, obP_iff, condP_iff, retP_iff, retM_iff, ofNat_cast, nc, Int.toNat_natCast, decide_eq_true_eq, decide_eq_false_iff_not, wrap_w64, Bool.not_eq_true', Bool.not_eq_false', beq_iff_eq, beq_eq_false_iff_ne, AV.bool.injEq, AV.int.injEq, AV.t2.injEq, AV.t3.injEq, AV.own.injEq, List.cons.injEq, Prod.mk.injEq, Row.ints.injEq, RW, Row.nlen, scalar, imp_self, and_true, true_and, lexT, heldT, List.getD_cons_zero, List.getD_cons_succ, sp, sb, natV, natB, wid, gap]
  rcases Bool.eq_false_or_eq_true (lineB l) with c1 | c1 <;> rcases Bool.eq_false_or_eq_true (ruleB r) with c2 | c2 <;> simp [c1, c2, hl]
theorem implBounds_ok (l r : List Int) (hl : l.length ≤ 1048576) : FC Try.prog 19 [.ro (.ints .i64 l), .rc 3 r] (.t3 (.int .i64 (lowV l r)) (.int .i64 (highV l r)) (.bool (natB l r))) [] := by
  refine fc_eval sp L1 L1_ok hT hm Try.func19 rfl (by kernel_rfl) rfl rfl ?_
  intro A S r0 fr0 hA hS hr hfr
  cbv
  (try simp only [nc] at *); subst hA hS hr hfr; simp (disch := (refine KR.mk ?_; kernel_rfl)) only [alg, obP_iff, condP_iff, retP_iff, retM_iff, ofNat_cast, nc, Int.toNat_natCast, decide_eq_true_eq, decide_eq_false_iff_not, wrap_w64, Bool.not_eq_true', Bool.not_eq_false', beq_iff_eq, beq_eq_false_iff_ne, AV.bool.injEq, AV.int.injEq, AV.t2.injEq, AV.t3.injEq, AV.own.injEq, List.cons.injEq, Prod.mk.injEq, Row.ints.injEq, RW, Row.nlen, scalar, imp_self, and_true, true_and, lexT, heldT, List.getD_cons_zero, List.getD_cons_succ, sp, sb, lowV, highV, natB, wid, gap]
  rcases Bool.eq_false_or_eq_true (lineB l) with c1 | c1 <;> rcases Bool.eq_false_or_eq_true (ruleB r) with c2 | c2 <;> simp [c1, c2, hl]
theorem specBounds_ok (l r : List Int) (hl : l.length ≤ 1048576) : FC Try.prog 18 [.ro (.ints .i64 l), .rc 3 r] (.t3 (.int .i64 (lowV l r)) (.int .i64 (highV l r)) (.bool (natB l r))) [] := by
  refine fc_eval sp L1 L1_ok hT hm Try.func18 rfl (by kernel_rfl) rfl rfl ?_
  intro A S r0 fr0 hA hS hr hfr
  cbv
  (try simp only [nc] at *); subst hA hS hr hfr; simp (disch := (refine KR.mk ?_; kernel_rfl)) only [alg, obP_iff, condP_iff, retP_iff, retM_iff, ofNat_cast, nc, Int.toNat_natCast, decide_eq_true_eq, decide_eq_false_iff_not, wrap_w64, Bool.not_eq_true', Bool.not_eq_false', beq_iff_eq, beq_eq_false_iff_ne, AV.bool.injEq, AV.int.injEq, AV.t2.injEq, AV.t3.injEq, AV.own.injEq, List.cons.injEq, Prod.mk.injEq, Row.ints.injEq, RW, Row.nlen, scalar, imp_self, and_true, true_and, lexT, heldT, List.getD_cons_zero, List.getD_cons_succ, sp, sb, lowV, highV, natB, wid, gap]
  rcases Bool.eq_false_or_eq_true (lineB l) with c1 | c1 <;> rcases Bool.eq_false_or_eq_true (ruleB r) with c2 | c2 <;> simp [c1, c2, hl]
theorem juWhy_ok (l r : List Int) (m : Int) (hl : l.length ≤ 1048576) : FC Try.prog 39 [.ro (.ints .i64 l), .rc 3 r, .int .i64 m] (.int .i64 (why l r m)) [] := by
  refine fc_eval sp L1 L1_ok hT hm Try.func39 rfl (by kernel_rfl) rfl rfl ?_
  intro A S r0 fr0 hA hS hr hfr
  cbv
  (try simp only [nc] at *); subst hA hS hr hfr; simp (disch := (refine KR.mk ?_; kernel_rfl)) only [alg, obP_iff, condP_iff, retP_iff, retM_iff, ofNat_cast, nc, Int.toNat_natCast, decide_eq_true_eq, decide_eq_false_iff_not, wrap_w64, Bool.not_eq_true', Bool.not_eq_false', beq_iff_eq, beq_eq_false_iff_ne, AV.bool.injEq, AV.int.injEq, AV.t2.injEq, AV.t3.injEq, AV.own.injEq, List.cons.injEq, Prod.mk.injEq, Row.ints.injEq, RW, Row.nlen, scalar, imp_self, and_true, true_and, lexT, heldT, List.getD_cons_zero, List.getD_cons_succ, sp, sb]
  refine ⟨hl, fun (h : fitB l r m = true) => ?_, fun (h : fitB l r m = false) => ⟨fun (h1 : gap l = 0) => ?_, fun (h1 : ¬ gap l = 0) => ⟨fun (h2 : lft l m < w64 (gap l * r.getD 0 0)) => ?_, fun (h2 : ¬ lft l m < w64 (gap l * r.getD 0 0)) => ?_⟩⟩⟩
  · unfold why; rw [if_pos h]
  · unfold why; rw [h, if_neg (by simp), if_pos h1]
  · unfold why; rw [h, if_neg (by simp), if_neg h1, if_pos h2]
  · unfold why; rw [h, if_neg (by simp), if_neg h1, if_neg h2]

theorem justify_ok (l r : List Int) (m : Int) (hl : l.length ≤ 1048576) : FC Try.prog 40 [.ro (.ints .i64 l), .rc 3 r, .int .i64 m] (.t2 (.own 0 true) (.bool (fitB l r m))) [(3, .ints .i64 (fitL l r m))] := by
  refine fc_eval sp L1 L1_ok hT hm Try.func40 rfl (by kernel_rfl) rfl rfl ?_
  intro A S r0 fr0 hA hS hr hfr
  cbv
  refine obP.mk (by subst hA hS; exact hl) (obP.mk trivial (condP.mk (fun hc => ?_) (fun hc => ?_)))
  · have hf : (!(fitB l r m)) = true := by subst hA hS; exact hc
    rw [Bool.not_eq_true'] at hf
    (try simp only [nc] at *); subst hA hS hr hfr; simp (disch := (refine KR.mk ?_; kernel_rfl)) only [alg, obP_iff, condP_iff, retP_iff, retM_iff, ofNat_cast, nc, Int.toNat_natCast, decide_eq_true_eq, decide_eq_false_iff_not, wrap_w64, Bool.not_eq_true', Bool.not_eq_false', beq_iff_eq, beq_eq_false_iff_ne, AV.bool.injEq, AV.int.injEq, AV.t2.injEq, AV.t3.injEq, AV.own.injEq, List.cons.injEq, Prod.mk.injEq, Row.ints.injEq, RW, Row.nlen, scalar, imp_self, and_true, true_and, lexT, heldT, List.getD_cons_zero, List.getD_cons_succ, sp, sb]
    simp [fitL, hf]
  · have hf : (!(fitB l r m)) = false := by subst hA hS; exact hc
    rw [Bool.not_eq_false'] at hf
    obtain ⟨g, hg⟩ : ∃ g, g = gap l := ⟨_, rfl⟩
    obtain ⟨f, hff⟩ : ∃ f, f = lft l m := ⟨_, rfl⟩
    have hgl : g ≤ 1048576 := by rw [hg, gap, w64_id (by omega)]; omega
    have hv : fitL l r m = (List.range g.toNat).map fun i => spc g f i := by subst hg hff; rw [fitL, if_pos hf]; rfl
    refine loop2 (fun (i : Nat) (out : List Int) => ⟨fr 53 [(8, .int .i64 g), (9, .int .i64 f), (10, .own 2 true), (11, .int .i64 i)], [.dead, .dead, .row 3 (.ints .i64 out)]⟩)
      (fun i out => i ≤ g.toNat ∧ out = (List.range i).map fun i => spc g f i) (fun i _ => g.toNat - i) 0 [] ?_ ?_ ?_
    · subst hA hS; simp [Wk_iff, fr, undefs, wkT, wkV, wkH, okid, Row.nlen, w64_eq, getO, alg, hg, hff, sp, sb, gap, lft, IntKind.wrap_i64]
    · simp
    · rintro i out ⟨h1, h2⟩
      cbv
      (try simp only [nc] at *); subst hA hS hr hfr; simp (disch := (refine KR.mk ?_; kernel_rfl)) only [alg, obP_iff, condP_iff, retP_iff, retM_iff, ofNat_cast, nc, Int.toNat_natCast, decide_eq_true_eq, decide_eq_false_iff_not, wrap_w64, Bool.not_eq_true', Bool.not_eq_false', beq_iff_eq, beq_eq_false_iff_ne, AV.bool.injEq, AV.int.injEq, AV.t2.injEq, AV.t3.injEq, AV.own.injEq, List.cons.injEq, Prod.mk.injEq, Row.ints.injEq, RW, Row.nlen, scalar, imp_self, and_true, true_and, lexT, heldT, List.getD_cons_zero, List.getD_cons_succ, sp, sb]
      refine ⟨fun hi => ⟨by omega, by omega, fun hc => ⟨by simp [h2]; omega, by simp, i + 1, out ++ [w64 (w64 (f.tdiv g) + 1)], ?_, ⟨by omega, ?_⟩, by omega⟩, fun hc => ⟨by simp [h2]; omega, by simp, i + 1, out ++ [w64 (f.tdiv g)], ?_, ⟨by omega, ?_⟩, by omega⟩⟩, fun hi => ?_⟩
      · simp [Wk_iff, fr, undefs, wkT, wkV, wkH, okid, Row.nlen, w64_eq, getO]; try omega
      · rw [range_snoc, ← h2]; simp [spc, hc]
      · simp [Wk_iff, fr, undefs, wkT, wkV, wkH, okid, Row.nlen, w64_eq, getO]; try omega
      · rw [range_snoc, ← h2]; simp [spc, hc]
      · have : i = g.toNat := by omega
        rw [hv, hf, h2, this]; exact ⟨rfl, rfl⟩
theorem juSpaces_ok (l : List Int) (m : Int) (hl : l.length ≤ 1048576) : FC Try.prog 41 [.ro (.ints .i64 l), .int .i64 m] (.own 0 true) [(3, .ints .i64 (spL l m))] := by
  refine fc_eval sp L1 L1_ok hT hm Try.func41 rfl (by kernel_rfl) rfl rfl ?_
  intro A S r0 fr0 hA hS hr hfr
  cbv
  refine obP.mk (by subst hA hS; simp [alg, sp, sb, hl]) ?_
  obtain ⟨g, hg⟩ : ∃ g, g = gap l := ⟨_, rfl⟩
  obtain ⟨f, hf⟩ : ∃ f, f = lft l m := ⟨_, rfl⟩
  have hgl : g ≤ 1048576 := by rw [hg, gap, w64_id (by omega)]; omega
  have hv : spL l m = (List.range g.toNat).map fun i => spc g f i := by subst hg hf; rfl
  refine loop2 (fun (i : Nat) (out : List Int) => ⟨fr 37 [(5, .int .i64 f), (6, .int .i64 g), (7, .own 1 true), (8, .int .i64 i)], [.dead, .row 3 (.ints .i64 out)]⟩)
    (fun i out => i ≤ g.toNat ∧ out = (List.range i).map fun i => spc g f i) (fun i _ => g.toNat - i) 0 [] ?_ ?_ ?_
  · subst hA hS; simp [Wk_iff, fr, undefs, wkT, wkV, wkH, okid, Row.nlen, w64_eq, getO, alg, hg, hf, sp, sb, gap, lft, w64, IntKind.wrap_i64]
  · simp
  · rintro i out ⟨h1, h2⟩
    cbv
    (try simp only [nc] at *); subst hA hS hr hfr; simp (disch := (refine KR.mk ?_; kernel_rfl)) only [alg, obP_iff, condP_iff, retP_iff, retM_iff, ofNat_cast, nc, Int.toNat_natCast, decide_eq_true_eq, decide_eq_false_iff_not, wrap_w64, Bool.not_eq_true', Bool.not_eq_false', beq_iff_eq, beq_eq_false_iff_ne, AV.bool.injEq, AV.int.injEq, AV.t2.injEq, AV.t3.injEq, AV.own.injEq, List.cons.injEq, Prod.mk.injEq, Row.ints.injEq, RW, Row.nlen, scalar, imp_self, and_true, true_and, lexT, heldT, List.getD_cons_zero, List.getD_cons_succ, sp, sb]
    refine ⟨fun hi => ⟨by omega, by omega, fun hc => ⟨by simp [h2]; omega, by simp, i + 1, out ++ [w64 (w64 (f.tdiv g) + 1)], ?_, ⟨by omega, ?_⟩, by omega⟩, fun hc => ⟨by simp [h2]; omega, by simp, i + 1, out ++ [w64 (f.tdiv g)], ?_, ⟨by omega, ?_⟩, by omega⟩⟩, fun hi => ?_⟩
    · simp [Wk_iff, fr, undefs, wkT, wkV, wkH, okid, Row.nlen, w64_eq, getO]; try omega
    · rw [range_snoc, ← h2]; simp [spc, hc]
    · simp [Wk_iff, fr, undefs, wkT, wkV, wkH, okid, Row.nlen, w64_eq, getO]; try omega
    · rw [range_snoc, ← h2]; simp [spc, hc]
    · have : i = g.toNat := by omega
      rw [hv, h2, this]

theorem costOf_ok (l r : List Int) (hl : l.length ≤ 1048576) : FC Try.prog 43 [.ro (.ints .i64 l), .rc 3 r] (.int .i64 (costF l r)) [] := by
  refine fc_eval sp L1 L1_ok hT hm Try.func43 rfl (by kernel_rfl) rfl rfl ?_
  intro A S r0 fr0 hA hS hr hfr
  cbv
  obtain ⟨L, hL⟩ : ∃ L : Int, L = l.length := ⟨_, rfl⟩
  refine loop2 (fun (i : Nat) (q : Int) => ⟨fr 27 [(3, .po 1 0), (5, .int .i64 q), (8, .ro (.ints .i64 l)), (9, .int .i64 L), (10, .int .i64 i)], [.dead, .row 25 (.recs 3 [r])]⟩)
    (fun i q => i ≤ l.length ∧ costF l r = (l.drop i).foldl (fun q s => w64 (q + sq r s)) q) (fun i _ => l.length - i) 0 0 ?_ ?_ ?_
  · subst hA; simp [Wk_iff, fr, undefs, wkT, wkV, wkH, okid, Row.nlen, w64_eq, getO, alg, hL]
  · simp [costF]
  · rintro i q ⟨h1, h3⟩
    cbv
    (try simp only [nc] at *); subst hA hS hr hfr; simp (disch := (refine KR.mk ?_; kernel_rfl)) only [alg, obP_iff, condP_iff, retP_iff, retM_iff, ofNat_cast, nc, Int.toNat_natCast, decide_eq_true_eq, decide_eq_false_iff_not, wrap_w64, Bool.not_eq_true', Bool.not_eq_false', beq_iff_eq, beq_eq_false_iff_ne, AV.bool.injEq, AV.int.injEq, AV.t2.injEq, AV.t3.injEq, AV.own.injEq, List.cons.injEq, Prod.mk.injEq, Row.ints.injEq, RW, Row.nlen, scalar, imp_self, and_true, true_and, lexT, heldT, List.getD_cons_zero, List.getD_cons_succ, sp, sb]
    refine ⟨fun hc => ⟨by omega, i + 1, w64 (q + sq r (l.getD i 0)), ?_, ⟨by omega, ?_⟩, by omega⟩, fun hc => ?_⟩
    · simp [Wk_iff, fr, undefs, wkT, wkV, wkH, okid, Row.nlen, w64_eq, getO, sq]; try omega
    · rw [h3, fold_drop 0 _ _ _ _ (by omega)]
    · rw [h3, fold_end _ _ _ _ (by omega)]

def L2 (S : Sp) : List (Nat × (List AV → CR)) :=
  (41, fun args => match args with | [.ro (.ints .i64 l), .int .i64 m] => .pure (S.sm l) (.own 0 true) [(3, .ints .i64 (S.spL l m))] | _ => .no) ::
  (40, fun args => match args with | [.ro (.ints .i64 l), .rc 3 r, .int .i64 m] => .pure (S.sm l) (.t2 (.own 0 true) (.bool (S.fitB l r m))) [(3, .ints .i64 (S.fitL l r m))] | _ => .no) ::
  (43, fun args => match args with | [.ro (.ints .i64 l), .rc 3 r] => .pure (S.sm l) (.int .i64 (S.costF l r)) [] | _ => .no) ::
  (38, fun args => match args with | [.ro (.ints .i64 l), .rc 3 r, .int .i64 m] => .pure (S.sm l) (.bool (S.askB l r m)) [] | _ => .no) ::
  (37, fun args => match args with | [.ro (.ints .i64 l), .rc 3 r, .int .i64 m] => .pure (S.sm l) (.bool (S.askB l r m)) [] | _ => .no) ::
  (39, fun args => match args with | [.ro (.ints .i64 l), .rc 3 r, .int .i64 m] => .pure (S.sm l) (.int .i64 (S.why l r m)) [] | _ => .no) ::
  (16, fun args => match args with | [.ro (.ints .i64 l), .rc 3 r] => .pure (S.sm l) (.t2 (.int .i64 (S.natV l r)) (.bool (S.natB l r))) [] | _ => .no) ::
  (14, fun args => match args with | [.ro (.ints .i64 l), .rc 3 r] => .pure (S.sm l) (.t2 (.int .i64 (S.natV l r)) (.bool (S.natB l r))) [] | _ => .no) ::
  (19, fun args => match args with | [.ro (.ints .i64 l), .rc 3 r] => .pure (S.sm l) (.t3 (.int .i64 (S.lowV l r)) (.int .i64 (S.highV l r)) (.bool (S.natB l r))) [] | _ => .no) ::
  (18, fun args => match args with | [.ro (.ints .i64 l), .rc 3 r] => .pure (S.sm l) (.t3 (.int .i64 (S.lowV l r)) (.int .i64 (S.highV l r)) (.bool (S.natB l r))) [] | _ => .no) ::
  (11, fun args => match args with | [.rc 3 r] => .pure (True) (.bool (S.ruleB r)) [] | _ => .no) ::
  L1 S
set_option maxRecDepth 100000 in
theorem L2_ok : TabOK Try.prog (tfind (L2 sp)) := by
  refine tab_cons (fun args => ?_) (tab_cons (fun args => ?_) (tab_cons (fun args => ?_) (tab_cons (fun args => ?_) (tab_cons (fun args => ?_) (tab_cons (fun args => ?_) (tab_cons (fun args => ?_) (tab_cons (fun args => ?_) (tab_cons (fun args => ?_) (tab_cons (fun args => ?_) (tab_cons (fun args => ?_) (L1_ok)))))))))))
  · split
    · exact ent_pure fun h => juSpaces_ok _ _ h
    · exact ent_no
  · split
    · exact ent_pure fun h => justify_ok _ _ _ h
    · exact ent_no
  · split
    · exact ent_pure fun h => costOf_ok _ _ h
    · exact ent_no
  · split
    · exact ent_pure fun h => isSetLine_ok _ _ _ h
    · exact ent_no
  · split
    · exact ent_pure fun h => juAsked_ok _ _ _ h
    · exact ent_no
  · split
    · exact ent_pure fun h => juWhy_ok _ _ _ h
    · exact ent_no
  · split
    · exact ent_pure fun h => implNat_ok _ _ h
    · exact ent_no
  · split
    · exact ent_pure fun h => specNat_ok _ _ h
    · exact ent_no
  · split
    · exact ent_pure fun h => implBounds_ok _ _ h
    · exact ent_no
  · split
    · exact ent_pure fun h => specBounds_ok _ _ h
    · exact ent_no
  · split
    · exact ent_pure fun _ => specIsRule_ok _
    · exact ent_no

theorem spL_len (l : List Int) (m : Int) (hl : l.length ≤ 1048576) : (spL l m).length ≤ 1048576 := by
  simp only [spL, range_len, gap]
  rw [w64_id (by omega)]; omega
theorem juCost_ok (l r : List Int) (m : Int) (hl : l.length ≤ 1048576) : FC Try.prog 42 [.ro (.ints .i64 l), .rc 3 r, .int .i64 m] (.int .i64 (costL l r m)) [] := by
  refine fc_eval sp L2 L2_ok hT hm Try.func42 rfl (by kernel_rfl) rfl rfl ?_
  intro A S r0 fr0 hA hS hr hfr
  cbv
  refine obP.mk (by subst hA hS; exact hl) ?_
  obtain ⟨ss, hss⟩ : ∃ ss, ss = S.spL l m := ⟨_, rfl⟩
  have hss' : ss = spL l m := by rw [hss, hS]; rfl
  have hsl : ss.length ≤ 1048576 := by rw [hss']; exact spL_len _ _ hl
  have hv : costL l r m = costF ss r := by rw [hss']; rfl
  obtain ⟨L, hL⟩ : ∃ L : Int, L = ss.length := ⟨_, rfl⟩
  refine loop2 (fun (i : Nat) (q : Int) => ⟨fr 31 [(4, .po 1 0), (7, .int .i64 q), (12, .ro (.ints .i64 ss)), (13, .int .i64 L), (14, .int .i64 i)], [.dead, .row 25 (.recs 3 [r])]⟩)
    (fun i q => i ≤ ss.length ∧ costF ss r = (ss.drop i).foldl (fun q s => w64 (q + sq r s)) q) (fun i _ => ss.length - i) 0 0 ?_ ?_ ?_
  · subst hA; simp [Wk_iff, fr, undefs, wkT, wkV, wkH, okid, Row.nlen, w64_eq, getO, alg, hL, hss]
  · simp [costF]
  · rintro i q ⟨h1, h3⟩
    cbv
    (try simp only [nc] at *); subst hA hS hr hfr; simp (disch := (refine KR.mk ?_; kernel_rfl)) only [alg, obP_iff, condP_iff, retP_iff, retM_iff, ofNat_cast, nc, Int.toNat_natCast, decide_eq_true_eq, decide_eq_false_iff_not, wrap_w64, Bool.not_eq_true', Bool.not_eq_false', beq_iff_eq, beq_eq_false_iff_ne, AV.bool.injEq, AV.int.injEq, AV.t2.injEq, AV.t3.injEq, AV.own.injEq, List.cons.injEq, Prod.mk.injEq, Row.ints.injEq, RW, Row.nlen, scalar, imp_self, and_true, true_and, lexT, heldT, List.getD_cons_zero, List.getD_cons_succ, sp, sb]
    refine ⟨fun hc => ⟨by omega, i + 1, w64 (q + sq r (ss.getD i 0)), ?_, ⟨by omega, ?_⟩, by omega⟩, fun hc => ?_⟩
    · simp [Wk_iff, fr, undefs, wkT, wkV, wkH, okid, Row.nlen, w64_eq, getO, sq]; try omega
    · rw [h3, fold_drop 0 _ _ _ _ (by omega)]
    · rw [hv, h3, fold_end _ _ _ _ (by omega)]
end Go.Proofs.Ytpkbblcnaecopaa
