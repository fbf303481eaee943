/-
  Lines: the laws.
-/
import Derived.Test.YtpkbblcnaecopaaL3
set_option linter.unusedSimpArgs false
set_option linter.unusedVariables false
namespace Go.Proofs.Ytpkbblcnaecopaa
open Go.Ab

def L6 (S : Sp) : List (Nat × (List AV → CR)) :=
  (31, fun args => match args with | [.ro (.ints .i64 l), .rc 3 r, .int .i64 a, .int .i64 z] => .pure (S.sm l) (.t2 (.int .i64 (S.bmV l r a z)) (.bool (S.bmO l r a z))) [] | _ => .no) ::
  (30, fun args => match args with | [.ro (.ints .i64 l), .rc 3 r, .int .i64 a, .int .i64 z] => .pure (S.sm l) (.t2 (.int .i64 (S.bmV l r a z)) (.bool (S.bmO l r a z))) [] | _ => .no) ::
  L5 S
set_option maxRecDepth 100000 in
theorem L6_ok : TabOK Try.prog (tfind (L6 sp)) := by
  refine tab_cons (fun args => ?_) (tab_cons (fun args => ?_) (L5_ok))
  · split
    · exact ent_pure fun h => implBest_ok _ _ _ _ h
    · exact ent_no
  · split
    · exact ent_pure fun h => specBest_ok _ _ _ _ h
    · exact ent_no

theorem lawIsRule (r : List Int) (hr3 : r.length = 3) : FC Try.prog 3 [.rc 3 r] (.bool true) [] := by
  refine fc_eval sp L6 L6_ok hT hm Try.func3 rfl (by kernel_rfl) rfl rfl ?_
  intro A S r0 fr0 hA hS hr hfr
  cbv
  (try simp only [nc] at *); subst hA hS hr hfr; simp (disch := (refine KR.mk ?_; kernel_rfl)) only [alg, obP_iff, condP_iff, retP_iff, retM_iff, ofNat_cast, nc, Int.toNat_natCast, decide_eq_true_eq, decide_eq_false_iff_not, wrap_w64, Bool.not_eq_true', Bool.not_eq_false', beq_iff_eq, beq_eq_false_iff_ne, AV.bool.injEq, AV.int.injEq, AV.t2.injEq, AV.t3.injEq, AV.own.injEq, List.cons.injEq, Prod.mk.injEq, Row.ints.injEq, RW, Row.nlen, scalar, imp_self, and_true, true_and, lexT, heldT, List.getD_cons_zero, List.getD_cons_succ, sp, sb, eqL]
  simp [hr3]
set_option maxRecDepth 100000 in
theorem lawNaturalWidth (l r : List Int) (hr3 : r.length = 3) : FC Try.prog 4 [.ro (.ints .i64 l), .rc 3 r] (.bool true) [] := by
  refine fc_eval sp L6 L6_ok hT hm Try.func4 rfl (by kernel_rfl) rfl rfl ?_
  intro A S r0 fr0 hA hS hr hfr
  cbv
  (try simp only [nc] at *); subst hA hS hr hfr; simp (disch := (refine KR.mk ?_; kernel_rfl)) only [alg, obP_iff, condP_iff, retP_iff, retM_iff, ofNat_cast, nc, Int.toNat_natCast, decide_eq_true_eq, decide_eq_false_iff_not, wrap_w64, Bool.not_eq_true', Bool.not_eq_false', beq_iff_eq, beq_eq_false_iff_ne, AV.bool.injEq, AV.int.injEq, AV.t2.injEq, AV.t3.injEq, AV.own.injEq, List.cons.injEq, Prod.mk.injEq, Row.ints.injEq, RW, Row.nlen, scalar, imp_self, and_true, true_and, lexT, heldT, List.getD_cons_zero, List.getD_cons_succ, sp, sb, eqL]
  simp [hr3]; try omega
set_option maxRecDepth 100000 in
theorem lawWidthBounds (l r : List Int) (hr3 : r.length = 3) : FC Try.prog 5 [.ro (.ints .i64 l), .rc 3 r] (.bool true) [] := by
  refine fc_eval sp L6 L6_ok hT hm Try.func5 rfl (by kernel_rfl) rfl rfl ?_
  intro A S r0 fr0 hA hS hr hfr
  cbv
  (try simp only [nc] at *); subst hA hS hr hfr; simp (disch := (refine KR.mk ?_; kernel_rfl)) only [alg, obP_iff, condP_iff, retP_iff, retM_iff, ofNat_cast, nc, Int.toNat_natCast, decide_eq_true_eq, decide_eq_false_iff_not, wrap_w64, Bool.not_eq_true', Bool.not_eq_false', beq_iff_eq, beq_eq_false_iff_ne, AV.bool.injEq, AV.int.injEq, AV.t2.injEq, AV.t3.injEq, AV.own.injEq, List.cons.injEq, Prod.mk.injEq, Row.ints.injEq, RW, Row.nlen, scalar, imp_self, and_true, true_and, lexT, heldT, List.getD_cons_zero, List.getD_cons_succ, sp, sb, eqL]
  simp [hr3]; try omega
set_option maxRecDepth 100000 in
theorem lawWordsThatFit (l r : List Int) (m : Int) (hr3 : r.length = 3) : FC Try.prog 6 [.ro (.ints .i64 l), .rc 3 r, .int .i64 m] (.bool true) [] := by
  refine fc_eval sp L6 L6_ok hT hm Try.func6 rfl (by kernel_rfl) rfl rfl ?_
  intro A S r0 fr0 hA hS hr hfr
  cbv
  (try simp only [nc] at *); subst hA hS hr hfr; simp (disch := (refine KR.mk ?_; kernel_rfl)) only [alg, obP_iff, condP_iff, retP_iff, retM_iff, ofNat_cast, nc, Int.toNat_natCast, decide_eq_true_eq, decide_eq_false_iff_not, wrap_w64, Bool.not_eq_true', Bool.not_eq_false', beq_iff_eq, beq_eq_false_iff_ne, AV.bool.injEq, AV.int.injEq, AV.t2.injEq, AV.t3.injEq, AV.own.injEq, List.cons.injEq, Prod.mk.injEq, Row.ints.injEq, RW, Row.nlen, scalar, imp_self, and_true, true_and, lexT, heldT, List.getD_cons_zero, List.getD_cons_succ, sp, sb, eqL]
  simp [hr3]; try omega
set_option maxRecDepth 100000 in
theorem lawWhyNotJustified (l r : List Int) (m : Int) (hr3 : r.length = 3) : FC Try.prog 7 [.ro (.ints .i64 l), .rc 3 r, .int .i64 m] (.bool true) [] := by
  refine fc_eval sp L6 L6_ok hT hm Try.func7 rfl (by kernel_rfl) rfl rfl ?_
  intro A S r0 fr0 hA hS hr hfr
  cbv
  (try simp only [nc] at *); subst hA hS hr hfr; simp (disch := (refine KR.mk ?_; kernel_rfl)) only [alg, obP_iff, condP_iff, retP_iff, retM_iff, ofNat_cast, nc, Int.toNat_natCast, decide_eq_true_eq, decide_eq_false_iff_not, wrap_w64, Bool.not_eq_true', Bool.not_eq_false', beq_iff_eq, beq_eq_false_iff_ne, AV.bool.injEq, AV.int.injEq, AV.t2.injEq, AV.t3.injEq, AV.own.injEq, List.cons.injEq, Prod.mk.injEq, Row.ints.injEq, RW, Row.nlen, scalar, imp_self, and_true, true_and, lexT, heldT, List.getD_cons_zero, List.getD_cons_succ, sp, sb, eqL]
  simp [hr3]; try omega
set_option maxRecDepth 100000 in
theorem lawCostOfLine (l r : List Int) (m : Int) (hr3 : r.length = 3) : FC Try.prog 9 [.ro (.ints .i64 l), .rc 3 r, .int .i64 m] (.bool true) [] := by
  refine fc_eval sp L6 L6_ok hT hm Try.func9 rfl (by kernel_rfl) rfl rfl ?_
  intro A S r0 fr0 hA hS hr hfr
  cbv
  (try simp only [nc] at *); subst hA hS hr hfr; simp (disch := (refine KR.mk ?_; kernel_rfl)) only [alg, obP_iff, condP_iff, retP_iff, retM_iff, ofNat_cast, nc, Int.toNat_natCast, decide_eq_true_eq, decide_eq_false_iff_not, wrap_w64, Bool.not_eq_true', Bool.not_eq_false', beq_iff_eq, beq_eq_false_iff_ne, AV.bool.injEq, AV.int.injEq, AV.t2.injEq, AV.t3.injEq, AV.own.injEq, List.cons.injEq, Prod.mk.injEq, Row.ints.injEq, RW, Row.nlen, scalar, imp_self, and_true, true_and, lexT, heldT, List.getD_cons_zero, List.getD_cons_succ, sp, sb, eqL]
  simp [hr3]; try omega
set_option maxRecDepth 100000 in
theorem lawBestMeasure (l r : List Int) (a z : Int) (hr3 : r.length = 3) : FC Try.prog 10 [.ro (.ints .i64 l), .rc 3 r, .int .i64 a, .int .i64 z] (.bool true) [] := by
  refine fc_eval sp L6 L6_ok hT hm Try.func10 rfl (by kernel_rfl) rfl rfl ?_
  intro A S r0 fr0 hA hS hr hfr
  cbv
  (try simp only [nc] at *); subst hA hS hr hfr; simp (disch := (refine KR.mk ?_; kernel_rfl)) only [alg, obP_iff, condP_iff, retP_iff, retM_iff, ofNat_cast, nc, Int.toNat_natCast, decide_eq_true_eq, decide_eq_false_iff_not, wrap_w64, Bool.not_eq_true', Bool.not_eq_false', beq_iff_eq, beq_eq_false_iff_ne, AV.bool.injEq, AV.int.injEq, AV.t2.injEq, AV.t3.injEq, AV.own.injEq, List.cons.injEq, Prod.mk.injEq, Row.ints.injEq, RW, Row.nlen, scalar, imp_self, and_true, true_and, lexT, heldT, List.getD_cons_zero, List.getD_cons_succ, sp, sb, eqL]
  simp [hr3]; try omega
set_option maxRecDepth 100000 in
theorem lawJustifyLine (l r : List Int) (m : Int) (hr3 : r.length = 3) : FC Try.prog 8 [.ro (.ints .i64 l), .rc 3 r, .int .i64 m] (.bool true) [] := by
  refine fc_eval sp L6 L6_ok hT hm Try.func8 rfl (by kernel_rfl) rfl rfl ?_
  intro A S r0 fr0 hA hS hr hfr
  cbv
  (try simp only [nc] at *); subst hA hS hr hfr; simp (disch := (refine KR.mk ?_; kernel_rfl)) only [alg, obP_iff, condP_iff, retP_iff, retM_iff, ofNat_cast, nc, Int.toNat_natCast, decide_eq_true_eq, decide_eq_false_iff_not, wrap_w64, Bool.not_eq_true', Bool.not_eq_false', beq_iff_eq, beq_eq_false_iff_ne, AV.bool.injEq, AV.int.injEq, AV.t2.injEq, AV.t3.injEq, AV.own.injEq, List.cons.injEq, Prod.mk.injEq, Row.ints.injEq, RW, Row.nlen, scalar, imp_self, and_true, true_and, lexT, heldT, List.getD_cons_zero, List.getD_cons_succ, sp, sb, eqL]
  have hq := justL_len l r m
  simp [hr3, upFrom_len, heldL_up]
  omega
end Go.Proofs.Ytpkbblcnaecopaa
