/-
  Hyphens: the law on what is a pattern.
-/
import Derived.Test.YtcbfpkdcgbkfaaaH1
set_option linter.unusedSimpArgs false
set_option linter.unusedVariables false
namespace Go.Proofs.Ytcbfpkdcgbkfaaa
open Go.Ab

set_option maxRecDepth 100000 in
theorem lawIsPattern (p : List UInt8) : FC Try.prog 3 [.str p] (.bool true) [] := by
  refine fc_eval sh H3 H3_ok hT hm Try.func3 rfl (by kernel_rfl) rfl rfl ?_
  intro A S r0 fr0 hA hS hr hfr
  cbv
  (try simp only [nc] at *); subst hA hS hr hfr; simp (disch := (refine KR.mk ?_; kernel_rfl)) only [alg, obP_iff, condP_iff, retP_iff, retM_iff, ofNat_cast, nc, Int.toNat_natCast, decide_eq_true_eq, decide_eq_false_iff_not, wrap_w64, Bool.not_eq_true', Bool.not_eq_false', beq_iff_eq, beq_eq_false_iff_ne, AV.bool.injEq, AV.int.injEq, AV.t2.injEq, AV.t3.injEq, AV.own.injEq, List.cons.injEq, Prod.mk.injEq, Row.ints.injEq, RW, Row.nlen, scalar, imp_self, and_true, true_and, lexT, heldT, tailT, planT, nb, Int.toNat_zero, List.getD_cons_zero, List.getD_cons_succ, List.set_cons_zero, List.set_cons_succ, sh, sb]
  exact ⟨fun _ => trivial, fun h => ⟨by omega, by omega, by simp⟩⟩
end Go.Proofs.Ytcbfpkdcgbkfaaa
