/-
  A stock's text read: the law.
-/
import Derived.Test.YtdkpncnkhnmidaaDoorU8
set_option linter.unusedSimpArgs false
set_option linter.unusedVariables false
namespace Go.Proofs.YtdkpncnkhnmidaaDoor
open Go.Ab Go.RowKit

def P6 (S : Sp7) : List (Nat × (List AV → CR)) :=
  (4, fun args => match args with | [.str s] => .pure (S.s1 s) (.t2 (.own 0 true) (.bool (S.qsB s))) [(32, .recs 2 (S.qsL s))] | _ => .no) ::
  (5, fun args => match args with | [.str s] => .pure (S.s1 s) (.t2 (.own 0 false) (.bool (S.qsB s))) [(32, .recs 2 (S.qsL s))] | _ => .no) ::
  (6, fun args => match args with | [.ro (.recs 2 a), .ro (.recs 2 b)] => .pure (S.rl a ∧ S.rl b) (.bool (S.eqRL a b)) [] | _ => .no) ::
  (7, fun args => match args with | [.ro (.recs 2 a), .int .i64 k] => .mut 0 (S.rl a ∧ S.kr k) (.int .i64 (S.upRK a k)) (.recs 2 (S.upR a k)) | _ => .no) ::
  (8, fun args => match args with | [.ro (.recs 2 a), .int .i64 k] => .pure (S.rl a ∧ S.kr k) (.int .i64 (S.heldR a k)) [] | _ => .no) ::
  P5 S
set_option maxRecDepth 100000 in
theorem P6_ok : TabG gW Tryd.prog (tfind (P6 sp7)) := by
  refine tab_cons (fun args => ?_) (tab_cons (fun args => ?_) (tab_cons (fun args => ?_) (tab_cons (fun args => ?_) (tab_cons (fun args => ?_) (P5_ok)))))
  · split
    · exact ent_pure fun h => (specPS_ok _ h).toG
    · exact ent_no
  · split
    · exact ent_pure fun h => implPS_ok _ h
    · exact ent_no
  · split
    · exact ent_pure fun h => (eqSS_ok _ _ h.1.1 h.2.1 h.1.2).toG
    · exact ent_no
  · split
    · exact ent_mut fun h => markS_ok _ _ h.1.1 h.1.2 h.2
    · exact ent_no
  · split
    · exact ent_pure fun h => (heldS_ok _ _ h.1.1 h.1.2 h.2).toG
    · exact ent_no
set_option maxRecDepth 100000 in
theorem lawParseStock (s : List UInt8) : FCG gW Tryd.prog 3 [.str s] (.bool true) [] := by
  refine fcg_eval gW_st sp7 P6 P6_ok hT hm Tryd.func3 rfl (by kernel_rfl) rfl rfl ?_
  intro A S r0 fr0 hA hS hr hfr
  cbv
  (try simp only [nc] at *); subst hA hS hr hfr; simp (disch := (refine KR.mk ?_; kernel_rfl)) only [alg, obP_iff, condP_iff, retP_iff, retM_iff, ofNat_cast, nc, Int.toNat_natCast, decide_eq_true_eq, decide_eq_false_iff_not, wrap_w64, retS_iff, Bool.not_eq_true', Bool.not_eq_false', beq_iff_eq, beq_eq_false_iff_ne, AV.bool.injEq, AV.int.injEq, AV.t2.injEq, AV.t3.injEq, AV.own.injEq, List.cons.injEq, Prod.mk.injEq, Row.ints.injEq, RW, Row.nlen, scalar, imp_self, and_true, true_and, lexT, heldT, tailT, planT, nb, Int.toNat_zero, List.getD_cons_zero, List.getD_cons_succ, List.set_cons_zero, List.set_cons_succ, sp7, sp6, sp, sb, eqRL]
  refine ⟨fun _ => trivial, fun h1 => ?_⟩
  obtain ⟨h2, h3⟩ := qsL_st s
  have hs : s.length ≤ 1048576 := by omega
  have hneg : ¬ (1 + 2 * ((qsL s).length : Int)) < 0 := by omega
  simp [h2, hs, upR_len, upR_rec, heldR_up, hneg]
  try omega
end Go.Proofs.YtdkpncnkhnmidaaDoor
