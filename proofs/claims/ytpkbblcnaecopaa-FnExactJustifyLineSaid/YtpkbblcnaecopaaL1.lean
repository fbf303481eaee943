/-
  Lines: the small functions, each side with the same contract.
-/
import Derived.Test.YtpkbblcnaecopaaB0
import Derived.Test.YtpkbblcnaecopaaL0
set_option linter.unusedSimpArgs false
set_option linter.unusedVariables false
namespace Go.Proofs.Ytpkbblcnaecopaa
open Go.Ab

theorem toRule_ok (r : List Int) (hr3 : r.length = 3) : FC Try.prog 12 [.rc 3 r] (.rc 3 r) [] := by
  refine fc_eval sb B2 B2_ok hT hm Try.func12 rfl (by kernel_rfl) rfl rfl ?_
  intro A S r0 fr0 hA hS hr hfr
  cbv
  (try simp only [nc] at *); subst hA hS hr hfr; simp (disch := (refine KR.mk ?_; kernel_rfl)) only [alg, obP_iff, condP_iff, retP_iff, retM_iff, ofNat_cast, nc, Int.toNat_natCast, decide_eq_true_eq, decide_eq_false_iff_not, wrap_w64, Bool.not_eq_true', Bool.not_eq_false', beq_iff_eq, beq_eq_false_iff_ne, AV.bool.injEq, AV.int.injEq, AV.t2.injEq, AV.t3.injEq, AV.own.injEq, List.cons.injEq, Prod.mk.injEq, Row.ints.injEq, RW, Row.nlen, scalar, imp_self, and_true, true_and, lexT, heldT, List.getD_cons_zero, List.getD_cons_succ, sb]
  match r, hr3 with
  | [a, b, c], _ => simp
theorem IsRule_ok (r : List Int) : FC Try.prog 13 [.rc 3 r] (.bool (ruleB r)) [] := by
  refine fc_eval sb B2 B2_ok hT hm Try.func13 rfl (by kernel_rfl) rfl rfl ?_
  intro A S r0 fr0 hA hS hr hfr
  cbv
  (try simp only [nc] at *); subst hA hS hr hfr; simp (disch := (refine KR.mk ?_; kernel_rfl)) only [alg, obP_iff, condP_iff, retP_iff, retM_iff, ofNat_cast, nc, Int.toNat_natCast, decide_eq_true_eq, decide_eq_false_iff_not, wrap_w64, Bool.not_eq_true', Bool.not_eq_false', beq_iff_eq, beq_eq_false_iff_ne, AV.bool.injEq, AV.int.injEq, AV.t2.injEq, AV.t3.injEq, AV.own.injEq, List.cons.injEq, Prod.mk.injEq, Row.ints.injEq, RW, Row.nlen, scalar, imp_self, and_true, true_and, lexT, heldT, List.getD_cons_zero, List.getD_cons_succ, sb, ruleB]
  try simp
theorem juRule_ok (r : List Int) : FC Try.prog 32 [.rc 3 r] (.bool (ruleB r)) [] := by
  refine fc_eval sb B2 B2_ok hT hm Try.func32 rfl (by kernel_rfl) rfl rfl ?_
  intro A S r0 fr0 hA hS hr hfr
  cbv
  (try simp only [nc] at *); subst hA hS hr hfr; simp (disch := (refine KR.mk ?_; kernel_rfl)) only [alg, obP_iff, condP_iff, retP_iff, retM_iff, ofNat_cast, nc, Int.toNat_natCast, decide_eq_true_eq, decide_eq_false_iff_not, wrap_w64, Bool.not_eq_true', Bool.not_eq_false', beq_iff_eq, beq_eq_false_iff_ne, AV.bool.injEq, AV.int.injEq, AV.t2.injEq, AV.t3.injEq, AV.own.injEq, List.cons.injEq, Prod.mk.injEq, Row.ints.injEq, RW, Row.nlen, scalar, imp_self, and_true, true_and, lexT, heldT, List.getD_cons_zero, List.getD_cons_succ, sb, ruleB]
  try simp
theorem isMeasure_ok (n : Int) : FC Try.prog 45 [.int .i64 n] (.bool (inR n 1 2000)) [] := by
  refine fc_eval sb B2 B2_ok hT hm Try.func45 rfl (by kernel_rfl) rfl rfl ?_
  intro A S r0 fr0 hA hS hr hfr
  cbv
  (try simp only [nc] at *); subst hA hS hr hfr; simp (disch := (refine KR.mk ?_; kernel_rfl)) only [alg, obP_iff, condP_iff, retP_iff, retM_iff, ofNat_cast, nc, Int.toNat_natCast, decide_eq_true_eq, decide_eq_false_iff_not, wrap_w64, Bool.not_eq_true', Bool.not_eq_false', beq_iff_eq, beq_eq_false_iff_ne, AV.bool.injEq, AV.int.injEq, AV.t2.injEq, AV.t3.injEq, AV.own.injEq, List.cons.injEq, Prod.mk.injEq, Row.ints.injEq, RW, Row.nlen, scalar, imp_self, and_true, true_and, lexT, heldT, List.getD_cons_zero, List.getD_cons_succ, sb]
theorem juMeasure_ok (n : Int) : FC Try.prog 44 [.int .i64 n] (.bool (inR n 1 2000)) [] := by
  refine fc_eval sb B2 B2_ok hT hm Try.func44 rfl (by kernel_rfl) rfl rfl ?_
  intro A S r0 fr0 hA hS hr hfr
  cbv
  (try simp only [nc] at *); subst hA hS hr hfr; simp (disch := (refine KR.mk ?_; kernel_rfl)) only [alg, obP_iff, condP_iff, retP_iff, retM_iff, ofNat_cast, nc, Int.toNat_natCast, decide_eq_true_eq, decide_eq_false_iff_not, wrap_w64, Bool.not_eq_true', Bool.not_eq_false', beq_iff_eq, beq_eq_false_iff_ne, AV.bool.injEq, AV.int.injEq, AV.t2.injEq, AV.t3.injEq, AV.own.injEq, List.cons.injEq, Prod.mk.injEq, Row.ints.injEq, RW, Row.nlen, scalar, imp_self, and_true, true_and, lexT, heldT, List.getD_cons_zero, List.getD_cons_succ, sb]
theorem juLine_ok (l : List Int) (hl : l.length ≤ 1048576) : FC Try.prog 33 [.ro (.ints .i64 l)] (.bool (lineB l)) [] := by
  refine fc_eval sb B2 B2_ok hT hm Try.func33 rfl (by kernel_rfl) rfl rfl ?_
  intro A S r0 fr0 hA hS hr hfr
  cbv
  (try simp only [nc] at *); subst hA hS hr hfr; simp (disch := (refine KR.mk ?_; kernel_rfl)) only [alg, obP_iff, condP_iff, retP_iff, retM_iff, ofNat_cast, nc, Int.toNat_natCast, decide_eq_true_eq, decide_eq_false_iff_not, wrap_w64, Bool.not_eq_true', Bool.not_eq_false', beq_iff_eq, beq_eq_false_iff_ne, AV.bool.injEq, AV.int.injEq, AV.t2.injEq, AV.t3.injEq, AV.own.injEq, List.cons.injEq, Prod.mk.injEq, Row.ints.injEq, RW, Row.nlen, scalar, imp_self, and_true, true_and, lexT, heldT, List.getD_cons_zero, List.getD_cons_succ, sb, lineB]
  simp [hl]
theorem isLine_ok (l : List Int) (hl : l.length ≤ 1048576) : FC Try.prog 35 [.ro (.ints .i64 l)] (.bool (lineB l)) [] := by
  refine fc_eval sb B2 B2_ok hT hm Try.func35 rfl (by kernel_rfl) rfl rfl ?_
  intro A S r0 fr0 hA hS hr hfr
  cbv
  obtain ⟨L, hL⟩ : ∃ L : Int, L = l.length := ⟨_, rfl⟩
  refine loop1 (fun (i : Nat) => ⟨fr 18 [(0, .ro (.ints .i64 l)), (5, .ro (.ints .i64 l)), (6, .int .i64 L), (7, .int .i64 i)], [.dead]⟩)
    (fun i => i ≤ l.length ∧ allR l 1 600 = allR (l.drop i) 1 600) (fun i => l.length - i) 0 ?_ ?_ ?_
  · subst hA; simp [Wk_iff, fr, undefs, wkT, wkV, wkH, okid, Row.nlen, w64_eq, getO, alg, hL]
  · simp
  · rintro i ⟨h1, h2⟩
    cbv
    (try simp only [nc] at *); subst hA hS hr hfr; simp (disch := (refine KR.mk ?_; kernel_rfl)) only [alg, obP_iff, condP_iff, retP_iff, retM_iff, ofNat_cast, nc, Int.toNat_natCast, decide_eq_true_eq, decide_eq_false_iff_not, wrap_w64, Bool.not_eq_true', Bool.not_eq_false', beq_iff_eq, beq_eq_false_iff_ne, AV.bool.injEq, AV.int.injEq, AV.t2.injEq, AV.t3.injEq, AV.own.injEq, List.cons.injEq, Prod.mk.injEq, Row.ints.injEq, RW, Row.nlen, scalar, imp_self, and_true, true_and, lexT, heldT, List.getD_cons_zero, List.getD_cons_succ, sb, lineB]
    refine ⟨fun hc => ⟨by omega, fun hn => ?_, fun hn => ⟨i + 1, ?_, ⟨by omega, ?_⟩, by omega⟩⟩, fun hc => ?_⟩
    · rw [h2, allR_drop _ _ _ _ (by omega), hn]; simp
    · simp [Wk_iff, fr, undefs, wkT, wkV, wkH, okid, Row.nlen, w64_eq, getO]; try omega
    · rw [h2, allR_drop _ _ _ _ (by omega), hn]; rfl
    · rw [h2, allR_end _ _ _ _ (by omega)]; simp

theorem juSum_ok (l : List Int) (hl : l.length ≤ 1048576) : FC Try.prog 34 [.ro (.ints .i64 l)] (.int .i64 (sumF l 0)) [] := by
  refine fc_eval sb B1 B1_ok hT hm Try.func34 rfl (by kernel_rfl) rfl rfl ?_
  intro A S r0 fr0 hA hS hr hfr
  cbv
  obtain ⟨L, hL⟩ : ∃ L : Int, L = l.length := ⟨_, rfl⟩
  refine loop2 (fun (i : Nat) (q : Int) => ⟨fr 17 [(0, .ro (.ints .i64 l)), (3, .int .i64 q), (6, .ro (.ints .i64 l)), (7, .int .i64 L), (8, .int .i64 i)], [.dead]⟩)
    (fun i q => i ≤ l.length ∧ sumF l 0 = sumF (l.drop i) q) (fun i _ => l.length - i) 0 0 ?_ ?_ ?_
  · subst hA; simp [Wk_iff, fr, undefs, wkT, wkV, wkH, okid, Row.nlen, w64_eq, getO, alg, hL]
  · simp
  · rintro i q ⟨h1, h3⟩
    cbv
    (try simp only [nc] at *); subst hA hS hr hfr; simp (disch := (refine KR.mk ?_; kernel_rfl)) only [alg, obP_iff, condP_iff, retP_iff, retM_iff, ofNat_cast, nc, Int.toNat_natCast, decide_eq_true_eq, decide_eq_false_iff_not, wrap_w64, Bool.not_eq_true', Bool.not_eq_false', beq_iff_eq, beq_eq_false_iff_ne, AV.bool.injEq, AV.int.injEq, AV.t2.injEq, AV.t3.injEq, AV.own.injEq, List.cons.injEq, Prod.mk.injEq, Row.ints.injEq, RW, Row.nlen, scalar, imp_self, and_true, true_and, lexT, heldT, List.getD_cons_zero, List.getD_cons_succ, sb]
    refine ⟨fun hc => ⟨by omega, i + 1, w64 (q + l.getD i 0), ?_, ⟨by omega, ?_⟩, by omega⟩, fun hc => ?_⟩
    · simp [Wk_iff, fr, undefs, wkT, wkV, wkH, okid, Row.nlen, w64_eq, getO, w64, IntKind.wrap_i64]; try omega
    · rw [h3, sumF_drop _ _ _ (by omega)]
    · rw [h3, sumF_end _ _ _ (by omega)]

def L1 (S : Sp) : List (Nat × (List AV → CR)) :=
  (12, fun args => match args with | [.rc 3 r] => .pure (S.r3 r) (.rc 3 r) [] | _ => .no) ::
  (13, fun args => match args with | [.rc 3 r] => .pure (True) (.bool (S.ruleB r)) [] | _ => .no) ::
  (32, fun args => match args with | [.rc 3 r] => .pure (True) (.bool (S.ruleB r)) [] | _ => .no) ::
  (45, fun args => match args with | [.int .i64 n] => .pure (True) (.bool (S.inR n 1 2000)) [] | _ => .no) ::
  (44, fun args => match args with | [.int .i64 n] => .pure (True) (.bool (S.inR n 1 2000)) [] | _ => .no) ::
  (35, fun args => match args with | [.ro (.ints .i64 l)] => .pure (S.sm l) (.bool (S.lineB l)) [] | _ => .no) ::
  (33, fun args => match args with | [.ro (.ints .i64 l)] => .pure (S.sm l) (.bool (S.lineB l)) [] | _ => .no) ::
  (34, fun args => match args with | [.ro (.ints .i64 l)] => .pure (S.sm l) (.int .i64 (S.sumF l 0)) [] | _ => .no) ::
  B2 S.toSb
set_option maxRecDepth 100000 in
theorem L1_ok : TabOK Try.prog (tfind (L1 sp)) := by
  refine tab_cons (fun args => ?_) (tab_cons (fun args => ?_) (tab_cons (fun args => ?_) (tab_cons (fun args => ?_) (tab_cons (fun args => ?_) (tab_cons (fun args => ?_) (tab_cons (fun args => ?_) (tab_cons (fun args => ?_) (B2_ok))))))))
  · split
    · exact ent_pure fun h => toRule_ok _ h
    · exact ent_no
  · split
    · exact ent_pure fun _ => IsRule_ok _
    · exact ent_no
  · split
    · exact ent_pure fun _ => juRule_ok _
    · exact ent_no
  · split
    · exact ent_pure fun _ => isMeasure_ok _
    · exact ent_no
  · split
    · exact ent_pure fun _ => juMeasure_ok _
    · exact ent_no
  · split
    · exact ent_pure fun h => isLine_ok _ h
    · exact ent_no
  · split
    · exact ent_pure fun h => juLine_ok _ h
    · exact ent_no
  · split
    · exact ent_pure fun h => juSum_ok _ h
    · exact ent_no
end Go.Proofs.Ytpkbblcnaecopaa
