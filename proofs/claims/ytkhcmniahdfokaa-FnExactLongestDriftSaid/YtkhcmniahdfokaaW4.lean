/-
  Trials: the laws.
-/
import Derived.Test.YtkhcmniahdfokaaW3
set_option linter.unusedSimpArgs false
set_option linter.unusedVariables false
namespace Go.Proofs.Ytkhcmniahdfokaa
open Go.Ab

structure Sp4 extends Sp3 where
  up : List Int → Int → List Int
  upK : List Int → Int → Int
  held : List Int → Int → Int
  kr : Int → Prop
def sp4 : Sp4 := { sp3 with up := fun l k => upFrom l.length k, upK := fun l k => k + l.length, held := heldL, kr := fun k => 0 ≤ k ∧ k ≤ 4611686018427387904 }

def X1 (S : Sp3) : List (Nat × (List AV → CR)) :=
  (17, fun args => match args with | [.ro (.ints .i64 a), .ro (.ints .i64 b)] => .pure (S.sm a ∧ S.sm b) (.t2 (.own 0 true) (.bool (S.joinB a b))) [(3, .ints .i64 (S.joinL a b))] | _ => .no) ::
  (18, fun args => match args with | [.ro (.ints .i64 a), .ro (.ints .i64 b)] => .pure (S.sm a ∧ S.sm b) (.t2 (.own 0 true) (.bool (S.joinB a b))) [(3, .ints .i64 (S.joinL a b))] | _ => .no) ::
  (21, fun args => match args with | [.ro (.ints .i64 l), .int .i64 m, .int .i64 k] => .pure (S.sm l) (.t2 (.bool (S.accV l m k)) (.bool (S.accB l m k))) [] | _ => .no) ::
  (22, fun args => match args with | [.ro (.ints .i64 l), .int .i64 m, .int .i64 k] => .pure (S.sm l) (.t2 (.bool (S.accV l m k)) (.bool (S.accB l m k))) [] | _ => .no) ::
  (35, fun args => match args with | [.ro (.ints .i64 l), .int .i64 m] => .pure (S.sm l) (.t2 (.own 0 true) (.bool (S.outB l m))) [(3, .ints .i64 (S.outL l m))] | _ => .no) ::
  (36, fun args => match args with | [.ro (.ints .i64 l), .int .i64 m] => .pure (S.sm l) (.t2 (.own 0 true) (.bool (S.outB l m))) [(3, .ints .i64 (S.outL l m))] | _ => .no) ::
  (25, fun args => match args with | [.ro (.ints .i64 l), .int .i64 m] => .pure (S.sm l) (.t2 (.own 0 true) (.bool (S.sumsB l m))) [(3, .ints .i64 (S.sumsL l m))] | _ => .no) ::
  (26, fun args => match args with | [.ro (.ints .i64 l), .int .i64 m] => .pure (S.sm l) (.t2 (.own 0 true) (.bool (S.sumsB l m))) [(3, .ints .i64 (S.sumsL l m))] | _ => .no) ::
  (33, fun args => match args with | [.ro (.ints .i64 l), .int .i64 m] => .pure (S.sm l) (.t2 (.own 0 true) (.bool (S.woB l m))) [(3, .ints .i64 (S.woL l m))] | _ => .no) ::
  (34, fun args => match args with | [.ro (.ints .i64 l), .int .i64 m] => .pure (S.sm l) (.t2 (.own 0 true) (.bool (S.woB l m))) [(3, .ints .i64 (S.woL l m))] | _ => .no) ::
  (27, fun args => match args with | [.ro (.ints .i64 l), .int .i64 m] => .pure (S.sm l) (.t2 (.int .i64 (S.leastV l m)) (.bool (S.leastB l m))) [] | _ => .no) ::
  (28, fun args => match args with | [.ro (.ints .i64 l), .int .i64 m] => .pure (S.sm l) (.t2 (.int .i64 (S.leastV l m)) (.bool (S.leastB l m))) [] | _ => .no) ::
  (29, fun args => match args with | [.ro (.ints .i64 l), .int .i64 m, .int .i64 k] => .pure (S.sm l) (.t2 (.int .i64 (S.alarmV l m k)) (.bool (S.alarmO l m k))) [] | _ => .no) ::
  (30, fun args => match args with | [.ro (.ints .i64 l), .int .i64 m, .int .i64 k] => .pure (S.sm l) (.t2 (.int .i64 (S.alarmV l m k)) (.bool (S.alarmO l m k))) [] | _ => .no) ::
  (31, fun args => match args with | [.ro (.ints .i64 l)] => .pure (S.sm l) (.t3 (.int .i64 (S.meanN l)) (.int .i64 (S.meanD l)) (.bool (S.good l))) [] | _ => .no) ::
  (32, fun args => match args with | [.ro (.ints .i64 l)] => .pure (S.sm l) (.t3 (.int .i64 (S.meanN l)) (.int .i64 (S.meanD l)) (.bool (S.good l))) [] | _ => .no) ::
  T4 S.toSp
set_option maxRecDepth 100000 in
theorem X1_ok : TabOK Try.prog (tfind (X1 sp3)) := by
  refine tab_cons (fun args => ?_) (tab_cons (fun args => ?_) (tab_cons (fun args => ?_) (tab_cons (fun args => ?_) (tab_cons (fun args => ?_) (tab_cons (fun args => ?_) (tab_cons (fun args => ?_) (tab_cons (fun args => ?_) (tab_cons (fun args => ?_) (tab_cons (fun args => ?_) (tab_cons (fun args => ?_) (tab_cons (fun args => ?_) (tab_cons (fun args => ?_) (tab_cons (fun args => ?_) (tab_cons (fun args => ?_) (tab_cons (fun args => ?_) (T4_ok))))))))))))))))
  · split
    · exact ent_pure fun h => specJoin_ok _ _ h.1 h.2
    · exact ent_no
  · split
    · exact ent_pure fun h => implJoin_ok _ _ h.1 h.2
    · exact ent_no
  · split
    · exact ent_pure fun h => specAcc_ok _ _ _ h
    · exact ent_no
  · split
    · exact ent_pure fun h => implAcc_ok _ _ _ h
    · exact ent_no
  · split
    · exact ent_pure fun h => specOut_ok _ _ h
    · exact ent_no
  · split
    · exact ent_pure fun h => implOut_ok _ _ h
    · exact ent_no
  · split
    · exact ent_pure fun h => specSums_ok _ _ h
    · exact ent_no
  · split
    · exact ent_pure fun h => implSums_ok _ _ h
    · exact ent_no
  · split
    · exact ent_pure fun h => specWo_ok _ _ h
    · exact ent_no
  · split
    · exact ent_pure fun h => implWo_ok _ _ h
    · exact ent_no
  · split
    · exact ent_pure fun h => specLeast_ok _ _ h
    · exact ent_no
  · split
    · exact ent_pure fun h => implLeast_ok _ _ h
    · exact ent_no
  · split
    · exact ent_pure fun h => specAlarm_ok _ _ _ h
    · exact ent_no
  · split
    · exact ent_pure fun h => implAlarm_ok _ _ _ h
    · exact ent_no
  · split
    · exact ent_pure fun h => specMean_ok _ h
    · exact ent_no
  · split
    · exact ent_pure fun h => implMean_ok _ h
    · exact ent_no
def X2 (S : Sp4) : List (Nat × (List AV → CR)) :=
  (19, fun args => match args with | [.ro (.ints .i64 a), .int .i64 k] => .mut 0 (S.sm a ∧ S.kr k) (.int .i64 (S.upK a k)) (.ints .i64 (S.up a k)) | _ => .no) ::
  (20, fun args => match args with | [.ro (.ints .i64 a), .int .i64 k] => .pure (S.sm a ∧ S.kr k) (.int .i64 (S.held a k)) [] | _ => .no) ::
  X1 S.toSp3
set_option maxRecDepth 100000 in
theorem X2_ok : TabOK Try.prog (tfind (X2 sp4)) := by
  refine tab_cons (fun args => ?_) (tab_cons (fun args => ?_) (X1_ok))
  · split
    · exact ent_mut fun h => markIntS_ok _ _ h.1 h.2
    · exact ent_no
  · split
    · exact ent_pure fun h => heldIntS_ok _ _ h.1 h.2
    · exact ent_no

set_option maxRecDepth 100000 in
theorem lawIsAccepted (l : List Int) (m k : Int) : FC Try.prog 5 [.ro (.ints .i64 l), .int .i64 m, .int .i64 k] (.bool true) [] := by
  refine fc_eval sp4 X2 X2_ok hT hm Try.func5 rfl (by kernel_rfl) rfl rfl ?_
  intro A S r0 fr0 hA hS hr hfr
  cbv
  (try simp only [nc] at *); subst hA hS hr hfr; simp only [alg, obP_iff, condP_iff, retP_iff, retM_iff, ofNat_cast, nc, Int.toNat_natCast, decide_eq_true_eq, decide_eq_false_iff_not, IntKind.wrap_i64, Bool.not_eq_true', Bool.not_eq_false', beq_iff_eq, beq_eq_false_iff_ne, AV.bool.injEq, AV.int.injEq, AV.t2.injEq, AV.t3.injEq, AV.own.injEq, List.cons.injEq, Prod.mk.injEq, Row.ints.injEq, RW, Row.nlen, scalar, and_true, true_and, sp4, sp3, sp2, sp, eqL]
  simp; try omega
set_option maxRecDepth 100000 in
theorem lawLeastTolerance (l : List Int) (m : Int) : FC Try.prog 8 [.ro (.ints .i64 l), .int .i64 m] (.bool true) [] := by
  refine fc_eval sp4 X2 X2_ok hT hm Try.func8 rfl (by kernel_rfl) rfl rfl ?_
  intro A S r0 fr0 hA hS hr hfr
  cbv
  (try simp only [nc] at *); subst hA hS hr hfr; simp only [alg, obP_iff, condP_iff, retP_iff, retM_iff, ofNat_cast, nc, Int.toNat_natCast, decide_eq_true_eq, decide_eq_false_iff_not, IntKind.wrap_i64, Bool.not_eq_true', Bool.not_eq_false', beq_iff_eq, beq_eq_false_iff_ne, AV.bool.injEq, AV.int.injEq, AV.t2.injEq, AV.t3.injEq, AV.own.injEq, List.cons.injEq, Prod.mk.injEq, Row.ints.injEq, RW, Row.nlen, scalar, and_true, true_and, sp4, sp3, sp2, sp, eqL]
  simp; try omega
set_option maxRecDepth 100000 in
theorem lawFirstAlarm (l : List Int) (m k : Int) : FC Try.prog 9 [.ro (.ints .i64 l), .int .i64 m, .int .i64 k] (.bool true) [] := by
  refine fc_eval sp4 X2 X2_ok hT hm Try.func9 rfl (by kernel_rfl) rfl rfl ?_
  intro A S r0 fr0 hA hS hr hfr
  cbv
  (try simp only [nc] at *); subst hA hS hr hfr; simp only [alg, obP_iff, condP_iff, retP_iff, retM_iff, ofNat_cast, nc, Int.toNat_natCast, decide_eq_true_eq, decide_eq_false_iff_not, IntKind.wrap_i64, Bool.not_eq_true', Bool.not_eq_false', beq_iff_eq, beq_eq_false_iff_ne, AV.bool.injEq, AV.int.injEq, AV.t2.injEq, AV.t3.injEq, AV.own.injEq, List.cons.injEq, Prod.mk.injEq, Row.ints.injEq, RW, Row.nlen, scalar, and_true, true_and, sp4, sp3, sp2, sp, eqL]
  simp; try omega
set_option maxRecDepth 100000 in
theorem lawMeanOff (l : List Int) : FC Try.prog 10 [.ro (.ints .i64 l)] (.bool true) [] := by
  refine fc_eval sp4 X2 X2_ok hT hm Try.func10 rfl (by kernel_rfl) rfl rfl ?_
  intro A S r0 fr0 hA hS hr hfr
  cbv
  (try simp only [nc] at *); subst hA hS hr hfr; simp only [alg, obP_iff, condP_iff, retP_iff, retM_iff, ofNat_cast, nc, Int.toNat_natCast, decide_eq_true_eq, decide_eq_false_iff_not, IntKind.wrap_i64, Bool.not_eq_true', Bool.not_eq_false', beq_iff_eq, beq_eq_false_iff_ne, AV.bool.injEq, AV.int.injEq, AV.t2.injEq, AV.t3.injEq, AV.own.injEq, List.cons.injEq, Prod.mk.injEq, Row.ints.injEq, RW, Row.nlen, scalar, and_true, true_and, sp4, sp3, sp2, sp, eqL]
  simp; try omega
theorem sumsL_len (l : List Int) (m : Int) : (sumsL l m).length ≤ l.length := by
  unfold sumsL; split
  · rw [sumsF_len]; exact Nat.le_refl _
  · simp
theorem outF_len : ∀ (l : List Int) (i m : Int), (outF l i m).length ≤ l.length
  | [], _, _ => by simp [outF]
  | x :: r, i, m => by
    have := outF_len r (i + 1) m
    unfold outF; split <;> simp <;> omega
theorem outL_len (l : List Int) (m : Int) : (outL l m).length ≤ l.length := by
  unfold outL; split
  · exact outF_len _ _ _
  · simp
theorem inF_len : ∀ (l : List Int) (m : Int), (inF l m).length ≤ l.length
  | [], _ => by simp [inF]
  | x :: r, m => by
    have := inF_len r m
    unfold inF; split <;> simp <;> omega
theorem woL_len (l : List Int) (m : Int) : (woL l m).length ≤ l.length := by
  unfold woL; split
  · exact inF_len _ _
  · simp
theorem joinL_len (a b : List Int) : (joinL a b).length ≤ 40 := by
  unfold joinL; split
  · rename_i h; simp [joinB] at h; simp; omega
  · simp
set_option maxRecDepth 100000 in
theorem lawSumsOff (l : List Int) (m : Int) : FC Try.prog 7 [.ro (.ints .i64 l), .int .i64 m] (.bool true) [] := by
  refine fc_eval sp4 X2 X2_ok hT hm Try.func7 rfl (by kernel_rfl) rfl rfl ?_
  intro A S r0 fr0 hA hS hr hfr
  cbv
  (try simp only [nc] at *); subst hA hS hr hfr; simp only [alg, obP_iff, condP_iff, retP_iff, retM_iff, ofNat_cast, nc, Int.toNat_natCast, decide_eq_true_eq, decide_eq_false_iff_not, IntKind.wrap_i64, Bool.not_eq_true', Bool.not_eq_false', beq_iff_eq, beq_eq_false_iff_ne, AV.bool.injEq, AV.int.injEq, AV.t2.injEq, AV.t3.injEq, AV.own.injEq, List.cons.injEq, Prod.mk.injEq, Row.ints.injEq, RW, Row.nlen, scalar, and_true, true_and, sp4, sp3, sp2, sp, eqL]
  have hq := sumsL_len l m
  simp [upFrom_len, heldL_up]
  omega
set_option maxRecDepth 100000 in
theorem lawOutsideOff (l : List Int) (m : Int) : FC Try.prog 12 [.ro (.ints .i64 l), .int .i64 m] (.bool true) [] := by
  refine fc_eval sp4 X2 X2_ok hT hm Try.func12 rfl (by kernel_rfl) rfl rfl ?_
  intro A S r0 fr0 hA hS hr hfr
  cbv
  (try simp only [nc] at *); subst hA hS hr hfr; simp only [alg, obP_iff, condP_iff, retP_iff, retM_iff, ofNat_cast, nc, Int.toNat_natCast, decide_eq_true_eq, decide_eq_false_iff_not, IntKind.wrap_i64, Bool.not_eq_true', Bool.not_eq_false', beq_iff_eq, beq_eq_false_iff_ne, AV.bool.injEq, AV.int.injEq, AV.t2.injEq, AV.t3.injEq, AV.own.injEq, List.cons.injEq, Prod.mk.injEq, Row.ints.injEq, RW, Row.nlen, scalar, and_true, true_and, sp4, sp3, sp2, sp, eqL]
  have hq := outL_len l m
  simp [upFrom_len, heldL_up]
  omega
set_option maxRecDepth 100000 in
theorem lawWithoutOutside (l : List Int) (m : Int) : FC Try.prog 11 [.ro (.ints .i64 l), .int .i64 m] (.bool true) [] := by
  refine fc_eval sp4 X2 X2_ok hT hm Try.func11 rfl (by kernel_rfl) rfl rfl ?_
  intro A S r0 fr0 hA hS hr hfr
  cbv
  (try simp only [nc] at *); subst hA hS hr hfr; simp only [alg, obP_iff, condP_iff, retP_iff, retM_iff, ofNat_cast, nc, Int.toNat_natCast, decide_eq_true_eq, decide_eq_false_iff_not, IntKind.wrap_i64, Bool.not_eq_true', Bool.not_eq_false', beq_iff_eq, beq_eq_false_iff_ne, AV.bool.injEq, AV.int.injEq, AV.t2.injEq, AV.t3.injEq, AV.own.injEq, List.cons.injEq, Prod.mk.injEq, Row.ints.injEq, RW, Row.nlen, scalar, and_true, true_and, sp4, sp3, sp2, sp, eqL]
  have hq := woL_len l m
  simp [upFrom_len, heldL_up]
  omega
set_option maxRecDepth 100000 in
theorem lawJoinTrials (a b : List Int) : FC Try.prog 4 [.ro (.ints .i64 a), .ro (.ints .i64 b)] (.bool true) [] := by
  refine fc_eval sp4 X2 X2_ok hT hm Try.func4 rfl (by kernel_rfl) rfl rfl ?_
  intro A S r0 fr0 hA hS hr hfr
  cbv
  (try simp only [nc] at *); subst hA hS hr hfr; simp only [alg, obP_iff, condP_iff, retP_iff, retM_iff, ofNat_cast, nc, Int.toNat_natCast, decide_eq_true_eq, decide_eq_false_iff_not, IntKind.wrap_i64, Bool.not_eq_true', Bool.not_eq_false', beq_iff_eq, beq_eq_false_iff_ne, AV.bool.injEq, AV.int.injEq, AV.t2.injEq, AV.t3.injEq, AV.own.injEq, List.cons.injEq, Prod.mk.injEq, Row.ints.injEq, RW, Row.nlen, scalar, and_true, true_and, sp4, sp3, sp2, sp, eqL]
  have hq := joinL_len a b
  simp [upFrom_len, heldL_up]
  omega
end Go.Proofs.Ytkhcmniahdfokaa
