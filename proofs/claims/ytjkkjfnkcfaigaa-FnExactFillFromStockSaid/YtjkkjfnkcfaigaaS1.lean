/-
  Spaces: what are spaces; in how many ways a width is filled.
-/
import Derived.Test.YtjkkjfnkcfaigaaB0
import Derived.Test.YtjkkjfnkcfaigaaS0
set_option linter.unusedSimpArgs false
set_option linter.unusedVariables false
namespace Go.Proofs.Ytjkkjfnkcfaigaa
open Go.Ab

theorem inc_ok (l : List Int) (lo hi : Int) (hl : l.length ≤ 1048576) : FC Try.prog 33 [.ro (.ints .i64 l), .int .i64 lo, .int .i64 hi] (.bool (rise l lo hi)) [] := by
  refine fc_eval sb B2 B2_ok hT hm Try.func33 rfl (by kernel_rfl) rfl rfl ?_
  intro A S r0 fr0 hA hS hr hfr
  cbv
  obtain ⟨L, hL⟩ : ∃ L : Int, L = l.length := ⟨_, rfl⟩
  refine loop1 (fun (i : Nat) => ⟨fr 35 [(0, .ro (.ints .i64 l)), (1, .int .i64 lo), (2, .int .i64 hi), (9, .ro (.ints .i64 l)), (10, .int .i64 L), (11, .int .i64 i)], [.dead]⟩)
    (fun i => i ≤ l.length ∧ riseTo l lo hi i = true) (fun i => l.length - i) 0 ?_ ?_ ?_
  · subst hA; simp [Wk_iff, fr, undefs, wkT, wkV, wkH, okid, Row.nlen, w64_eq, getO, alg, hL]
  · simp [riseTo]
  · rintro i ⟨h1, h2⟩
    cbv
    (try simp only [nc] at *); subst hA hS hr hfr; simp (disch := (refine KR.mk ?_; kernel_rfl)) only [alg, obP_iff, condP_iff, retP_iff, retM_iff, ofNat_cast, nc, Int.toNat_natCast, decide_eq_true_eq, decide_eq_false_iff_not, wrap_w64, Bool.not_eq_true', Bool.not_eq_false', beq_iff_eq, beq_eq_false_iff_ne, AV.bool.injEq, AV.int.injEq, AV.t2.injEq, AV.t3.injEq, AV.own.injEq, List.cons.injEq, Prod.mk.injEq, Row.ints.injEq, RW, Row.nlen, scalar, imp_self, and_true, true_and, lexT, heldT, tailT, planT, nb, Int.toNat_zero, List.getD_cons_zero, List.getD_cons_succ, List.set_cons_zero, List.set_cons_succ, sb]
    have gi : (!(inR (l.getD i 0) lo hi) || (decide (0 < (i : Int)) && decide (l.getD i 0 ≤ l.getD (w64 ((i : Int) - 1)).toNat 0))) = badAt l lo hi i := by
      unfold badAt
      by_cases h0 : 0 < (i : Int)
      · have e : (w64 ((i : Int) - 1)).toNat = i - 1 := by rw [w64_id (by omega)]; omega
        rw [e]
      · rw [decide_eq_false h0]; rfl
    rw [gi]
    refine ⟨fun hi' => ⟨by omega, fun hg => ?_, fun hb => ?_, fun hb => ⟨i + 1, ?_, ⟨by omega, ?_⟩, by omega⟩⟩, fun hi' => ?_⟩
    · have h0 : 0 < (i : Int) := by
        simp only [Bool.and_eq_true, decide_eq_true_eq] at hg; exact hg.2
      rw [w64_id (by omega)]; omega
    · have : rise l lo hi = false := riseTo_bad (i := i) (by omega) hb
      rw [this]
    · simp [Wk_iff, fr, undefs, wkT, wkV, wkH, okid, Row.nlen, w64_eq, getO]; try omega
    · rw [riseTo_succ, h2, hb]; rfl
    · have : i = l.length := by omega
      subst this
      rw [rise, h2]
theorem rising_ok (l : List Int) (lo hi : Int) (hl : l.length ≤ 1048576) : FC Try.prog 44 [.ro (.ints .i64 l), .int .i64 lo, .int .i64 hi] (.bool (rise l lo hi)) [] := by
  refine fc_eval sb B2 B2_ok hT hm Try.func44 rfl (by kernel_rfl) rfl rfl ?_
  intro A S r0 fr0 hA hS hr hfr
  cbv
  obtain ⟨L, hL⟩ : ∃ L : Int, L = l.length := ⟨_, rfl⟩
  refine loop1 (fun (i : Nat) => ⟨fr 35 [(0, .ro (.ints .i64 l)), (1, .int .i64 lo), (2, .int .i64 hi), (9, .ro (.ints .i64 l)), (10, .int .i64 L), (11, .int .i64 i)], [.dead]⟩)
    (fun i => i ≤ l.length ∧ riseTo l lo hi i = true) (fun i => l.length - i) 0 ?_ ?_ ?_
  · subst hA; simp [Wk_iff, fr, undefs, wkT, wkV, wkH, okid, Row.nlen, w64_eq, getO, alg, hL]
  · simp [riseTo]
  · rintro i ⟨h1, h2⟩
    cbv
    (try simp only [nc] at *); subst hA hS hr hfr; simp (disch := (refine KR.mk ?_; kernel_rfl)) only [alg, obP_iff, condP_iff, retP_iff, retM_iff, ofNat_cast, nc, Int.toNat_natCast, decide_eq_true_eq, decide_eq_false_iff_not, wrap_w64, Bool.not_eq_true', Bool.not_eq_false', beq_iff_eq, beq_eq_false_iff_ne, AV.bool.injEq, AV.int.injEq, AV.t2.injEq, AV.t3.injEq, AV.own.injEq, List.cons.injEq, Prod.mk.injEq, Row.ints.injEq, RW, Row.nlen, scalar, imp_self, and_true, true_and, lexT, heldT, tailT, planT, nb, Int.toNat_zero, List.getD_cons_zero, List.getD_cons_succ, List.set_cons_zero, List.set_cons_succ, sb]
    have gi : (!(inR (l.getD i 0) lo hi) || (decide (0 < (i : Int)) && decide (l.getD i 0 ≤ l.getD (w64 ((i : Int) - 1)).toNat 0))) = badAt l lo hi i := by
      unfold badAt
      by_cases h0 : 0 < (i : Int)
      · have e : (w64 ((i : Int) - 1)).toNat = i - 1 := by rw [w64_id (by omega)]; omega
        rw [e]
      · rw [decide_eq_false h0]; rfl
    rw [gi]
    refine ⟨fun hi' => ⟨by omega, fun hg => ?_, fun hb => ?_, fun hb => ⟨i + 1, ?_, ⟨by omega, ?_⟩, by omega⟩⟩, fun hi' => ?_⟩
    · have h0 : 0 < (i : Int) := by
        simp only [Bool.and_eq_true, decide_eq_true_eq] at hg; exact hg.2
      rw [w64_id (by omega)]; omega
    · have : rise l lo hi = false := riseTo_bad (i := i) (by omega) hb
      rw [this]
    · simp [Wk_iff, fr, undefs, wkT, wkV, wkH, okid, Row.nlen, w64_eq, getO]; try omega
    · rw [riseTo_succ, h2, hb]; rfl
    · have : i = l.length := by omega
      subst this
      rw [rise, h2]
def S1 (S : Sp) : List (Nat × (List AV → CR)) :=
  (33, fun args => match args with | [.ro (.ints .i64 l), .int .i64 lo, .int .i64 hi] => .pure (S.sm l) (.bool (S.rise l lo hi)) [] | _ => .no) ::
  (44, fun args => match args with | [.ro (.ints .i64 l), .int .i64 lo, .int .i64 hi] => .pure (S.sm l) (.bool (S.rise l lo hi)) [] | _ => .no) ::
  B2 S.toSb
set_option maxRecDepth 100000 in
theorem S1_ok : TabOK Try.prog (tfind (S1 sp)) := by
  refine tab_cons (fun args => ?_) (tab_cons (fun args => ?_) (B2_ok))
  · split
    · exact ent_pure fun h => inc_ok _ _ _ h
    · exact ent_no
  · split
    · exact ent_pure fun h => rising_ok _ _ _ h
    · exact ent_no
theorem implSp_ok (l : List Int) (hl : l.length ≤ 1048576) : FC Try.prog 13 [.ro (.ints .i64 l)] (.bool (spB l)) [] := by
  refine fc_eval sp S1 S1_ok hT hm Try.func13 rfl (by kernel_rfl) rfl rfl ?_
  intro A S r0 fr0 hA hS hr hfr
  cbv
  (try simp only [nc] at *); subst hA hS hr hfr; simp (disch := (refine KR.mk ?_; kernel_rfl)) only [alg, obP_iff, condP_iff, retP_iff, retM_iff, ofNat_cast, nc, Int.toNat_natCast, decide_eq_true_eq, decide_eq_false_iff_not, wrap_w64, Bool.not_eq_true', Bool.not_eq_false', beq_iff_eq, beq_eq_false_iff_ne, AV.bool.injEq, AV.int.injEq, AV.t2.injEq, AV.t3.injEq, AV.own.injEq, List.cons.injEq, Prod.mk.injEq, Row.ints.injEq, RW, Row.nlen, scalar, imp_self, and_true, true_and, lexT, heldT, tailT, planT, nb, Int.toNat_zero, List.getD_cons_zero, List.getD_cons_succ, List.set_cons_zero, List.set_cons_succ, sp, sb, spB]
  simp [hl]
theorem wsKinds_ok (l : List Int) (hl : l.length ≤ 1048576) : FC Try.prog 31 [.ro (.ints .i64 l)] (.bool (spB l)) [] := by
  refine fc_eval sp S1 S1_ok hT hm Try.func31 rfl (by kernel_rfl) rfl rfl ?_
  intro A S r0 fr0 hA hS hr hfr
  cbv
  (try simp only [nc] at *); subst hA hS hr hfr; simp (disch := (refine KR.mk ?_; kernel_rfl)) only [alg, obP_iff, condP_iff, retP_iff, retM_iff, ofNat_cast, nc, Int.toNat_natCast, decide_eq_true_eq, decide_eq_false_iff_not, wrap_w64, Bool.not_eq_true', Bool.not_eq_false', beq_iff_eq, beq_eq_false_iff_ne, AV.bool.injEq, AV.int.injEq, AV.t2.injEq, AV.t3.injEq, AV.own.injEq, List.cons.injEq, Prod.mk.injEq, Row.ints.injEq, RW, Row.nlen, scalar, imp_self, and_true, true_and, lexT, heldT, tailT, planT, nb, Int.toNat_zero, List.getD_cons_zero, List.getD_cons_succ, List.set_cons_zero, List.set_cons_succ, sp, sb, spB]
  simp [hl]
def S2 (S : Sp) : List (Nat × (List AV → CR)) :=
  (13, fun args => match args with | [.ro (.ints .i64 l)] => .pure (S.sm l) (.bool (S.spB l)) [] | _ => .no) ::
  (31, fun args => match args with | [.ro (.ints .i64 l)] => .pure (S.sm l) (.bool (S.spB l)) [] | _ => .no) ::
  S1 S
set_option maxRecDepth 100000 in
theorem S2_ok : TabOK Try.prog (tfind (S2 sp)) := by
  refine tab_cons (fun args => ?_) (tab_cons (fun args => ?_) (S1_ok))
  · split
    · exact ent_pure fun h => implSp_ok _ h
    · exact ent_no
  · split
    · exact ent_pure fun h => wsKinds_ok _ h
    · exact ent_no
theorem specSp_ok (l : List Int) (hl : l.length ≤ 1048576) : FC Try.prog 11 [.ro (.ints .i64 l)] (.bool (spB l)) [] := by
  refine fc_eval sp S2 S2_ok hT hm Try.func11 rfl (by kernel_rfl) rfl rfl ?_
  intro A S r0 fr0 hA hS hr hfr
  cbv
  (try simp only [nc] at *); subst hA hS hr hfr; simp (disch := (refine KR.mk ?_; kernel_rfl)) only [alg, obP_iff, condP_iff, retP_iff, retM_iff, ofNat_cast, nc, Int.toNat_natCast, decide_eq_true_eq, decide_eq_false_iff_not, wrap_w64, Bool.not_eq_true', Bool.not_eq_false', beq_iff_eq, beq_eq_false_iff_ne, AV.bool.injEq, AV.int.injEq, AV.t2.injEq, AV.t3.injEq, AV.own.injEq, List.cons.injEq, Prod.mk.injEq, Row.ints.injEq, RW, Row.nlen, scalar, imp_self, and_true, true_and, lexT, heldT, tailT, planT, nb, Int.toNat_zero, List.getD_cons_zero, List.getD_cons_succ, List.set_cons_zero, List.set_cons_succ, sp, sb]
  exact hl
theorem isFill_ok (l : List Int) (n : Int) (hl : l.length ≤ 1048576) : FC Try.prog 35 [.ro (.ints .i64 l), .int .i64 n] (.bool (askB l n)) [] := by
  refine fc_eval sp S2 S2_ok hT hm Try.func35 rfl (by kernel_rfl) rfl rfl ?_
  intro A S r0 fr0 hA hS hr hfr
  cbv
  (try simp only [nc] at *); subst hA hS hr hfr; simp (disch := (refine KR.mk ?_; kernel_rfl)) only [alg, obP_iff, condP_iff, retP_iff, retM_iff, ofNat_cast, nc, Int.toNat_natCast, decide_eq_true_eq, decide_eq_false_iff_not, wrap_w64, Bool.not_eq_true', Bool.not_eq_false', beq_iff_eq, beq_eq_false_iff_ne, AV.bool.injEq, AV.int.injEq, AV.t2.injEq, AV.t3.injEq, AV.own.injEq, List.cons.injEq, Prod.mk.injEq, Row.ints.injEq, RW, Row.nlen, scalar, imp_self, and_true, true_and, lexT, heldT, tailT, planT, nb, Int.toNat_zero, List.getD_cons_zero, List.getD_cons_succ, List.set_cons_zero, List.set_cons_succ, sp, sb, askB]
  simp [hl]
theorem wsAsked_ok (l : List Int) (n : Int) (hl : l.length ≤ 1048576) : FC Try.prog 34 [.ro (.ints .i64 l), .int .i64 n] (.bool (askB l n)) [] := by
  refine fc_eval sp S2 S2_ok hT hm Try.func34 rfl (by kernel_rfl) rfl rfl ?_
  intro A S r0 fr0 hA hS hr hfr
  cbv
  (try simp only [nc] at *); subst hA hS hr hfr; simp (disch := (refine KR.mk ?_; kernel_rfl)) only [alg, obP_iff, condP_iff, retP_iff, retM_iff, ofNat_cast, nc, Int.toNat_natCast, decide_eq_true_eq, decide_eq_false_iff_not, wrap_w64, Bool.not_eq_true', Bool.not_eq_false', beq_iff_eq, beq_eq_false_iff_ne, AV.bool.injEq, AV.int.injEq, AV.t2.injEq, AV.t3.injEq, AV.own.injEq, List.cons.injEq, Prod.mk.injEq, Row.ints.injEq, RW, Row.nlen, scalar, imp_self, and_true, true_and, lexT, heldT, tailT, planT, nb, Int.toNat_zero, List.getD_cons_zero, List.getD_cons_succ, List.set_cons_zero, List.set_cons_succ, sp, sb, askB]
  simp [hl]
def S3 (S : Sp) : List (Nat × (List AV → CR)) :=
  (11, fun args => match args with | [.ro (.ints .i64 l)] => .pure (S.sm l) (.bool (S.spB l)) [] | _ => .no) ::
  (35, fun args => match args with | [.ro (.ints .i64 l), .int .i64 n] => .pure (S.sm l) (.bool (S.askB l n)) [] | _ => .no) ::
  (34, fun args => match args with | [.ro (.ints .i64 l), .int .i64 n] => .pure (S.sm l) (.bool (S.askB l n)) [] | _ => .no) ::
  S2 S
set_option maxRecDepth 100000 in
theorem S3_ok : TabOK Try.prog (tfind (S3 sp)) := by
  refine tab_cons (fun args => ?_) (tab_cons (fun args => ?_) (tab_cons (fun args => ?_) (S2_ok)))
  · split
    · exact ent_pure fun h => specSp_ok _ h
    · exact ent_no
  · split
    · exact ent_pure fun h => isFill_ok _ _ h
    · exact ent_no
  · split
    · exact ent_pure fun h => wsAsked_ok _ _ h
    · exact ent_no
theorem implWays_ok (l : List Int) (n : Int) (hl : l.length ≤ 1048576) : FC Try.prog 16 [.ro (.ints .i64 l), .int .i64 n] (.t2 (.int .i64 (wyV l n)) (.bool (askB l n))) [] := by
  refine fc_eval sp S3 S3_ok hT hm Try.func16 rfl (by kernel_rfl) rfl rfl ?_
  intro A S r0 fr0 hA hS hr hfr
  cbv
  refine obP.mk (by subst hA hS; exact hl) (condP.mk (fun hc => ?_) (fun hc => ?_))
  · have hf : (!(askB l n)) = true := by subst hA hS; exact hc
    rw [Bool.not_eq_true'] at hf
    (try simp only [nc] at *); subst hA hS hr hfr; simp (disch := (refine KR.mk ?_; kernel_rfl)) only [alg, obP_iff, condP_iff, retP_iff, retM_iff, ofNat_cast, nc, Int.toNat_natCast, decide_eq_true_eq, decide_eq_false_iff_not, wrap_w64, Bool.not_eq_true', Bool.not_eq_false', beq_iff_eq, beq_eq_false_iff_ne, AV.bool.injEq, AV.int.injEq, AV.t2.injEq, AV.t3.injEq, AV.own.injEq, List.cons.injEq, Prod.mk.injEq, Row.ints.injEq, RW, Row.nlen, scalar, imp_self, and_true, true_and, lexT, heldT, tailT, planT, nb, Int.toNat_zero, List.getD_cons_zero, List.getD_cons_succ, List.set_cons_zero, List.set_cons_succ, sp, sb]
    simp [hf, wyV]
  · have hf : (!(askB l n)) = false := by subst hA hS; exact hc
    rw [Bool.not_eq_false'] at hf
    have hf2 := hf
    simp only [askB, Bool.and_eq_true, inR_iff] at hf2
    have wn : w64 (n + 1) = n + 1 := w64_id (by omega)
    have hN : (n + 1).toNat = n.toNat + 1 := by omega
    refine obP.mk (by (try simp only [nc] at *); subst hA hS; simp (disch := (refine KR.mk ?_; kernel_rfl)) only [alg, obP_iff, condP_iff, retP_iff, retM_iff, ofNat_cast, nc, Int.toNat_natCast, decide_eq_true_eq, decide_eq_false_iff_not, wrap_w64, Bool.not_eq_true', Bool.not_eq_false', beq_iff_eq, beq_eq_false_iff_ne, AV.bool.injEq, AV.int.injEq, AV.t2.injEq, AV.t3.injEq, AV.own.injEq, List.cons.injEq, Prod.mk.injEq, Row.ints.injEq, RW, Row.nlen, scalar, imp_self, and_true, true_and, lexT, heldT, tailT, planT, nb, Int.toNat_zero, List.getD_cons_zero, List.getD_cons_succ, List.set_cons_zero, List.set_cons_succ, sp]; rw [wn]; omega) (obP.mk (by (try simp only [nc] at *); subst hA hS; simp (disch := (refine KR.mk ?_; kernel_rfl)) only [alg, obP_iff, condP_iff, retP_iff, retM_iff, ofNat_cast, nc, Int.toNat_natCast, decide_eq_true_eq, decide_eq_false_iff_not, wrap_w64, Bool.not_eq_true', Bool.not_eq_false', beq_iff_eq, beq_eq_false_iff_ne, AV.bool.injEq, AV.int.injEq, AV.t2.injEq, AV.t3.injEq, AV.own.injEq, List.cons.injEq, Prod.mk.injEq, Row.ints.injEq, RW, Row.nlen, scalar, imp_self, and_true, true_and, lexT, heldT, tailT, planT, nb, Int.toNat_zero, List.getD_cons_zero, List.getD_cons_succ, List.set_cons_zero, List.set_cons_succ, sp]) (obP.mk (by (try simp only [nc] at *); subst hA hS; simp (disch := (refine KR.mk ?_; kernel_rfl)) only [alg, obP_iff, condP_iff, retP_iff, retM_iff, ofNat_cast, nc, Int.toNat_natCast, decide_eq_true_eq, decide_eq_false_iff_not, wrap_w64, Bool.not_eq_true', Bool.not_eq_false', beq_iff_eq, beq_eq_false_iff_ne, AV.bool.injEq, AV.int.injEq, AV.t2.injEq, AV.t3.injEq, AV.own.injEq, List.cons.injEq, Prod.mk.injEq, Row.ints.injEq, RW, Row.nlen, scalar, imp_self, and_true, true_and, lexT, heldT, tailT, planT, nb, Int.toNat_zero, List.getD_cons_zero, List.getD_cons_succ, List.set_cons_zero, List.set_cons_succ, sp]; rw [wn]; simp; omega) ?_))
    obtain ⟨L, hL⟩ : ∃ L : Int, L = l.length := ⟨_, rfl⟩
    refine loop2 (fun (i : Nat) (out : List Int) => ⟨fr 48 [(1, .int .i64 n), (6, .own 1 false), (19, .ro (.ints .i64 l)), (20, .int .i64 L), (21, .int .i64 i)], [.dead, .row 3 (.ints .i64 out)]⟩)
      (fun i out => i ≤ l.length ∧ out.length = n.toNat + 1 ∧ l.foldl (wyAll n.toNat) (wyI n.toNat) = (l.drop i).foldl (wyAll n.toNat) out) (fun i _ => l.length - i) 0 (wyI n.toNat) ?_ ?_ ?_
    · (try simp only [nc] at *); subst hA hS; simp (disch := (refine KR.mk ?_; kernel_rfl)) only [alg, obP_iff, condP_iff, retP_iff, retM_iff, ofNat_cast, nc, Int.toNat_natCast, decide_eq_true_eq, decide_eq_false_iff_not, wrap_w64, Bool.not_eq_true', Bool.not_eq_false', beq_iff_eq, beq_eq_false_iff_ne, AV.bool.injEq, AV.int.injEq, AV.t2.injEq, AV.t3.injEq, AV.own.injEq, List.cons.injEq, Prod.mk.injEq, Row.ints.injEq, RW, Row.nlen, scalar, imp_self, and_true, true_and, lexT, heldT, tailT, planT, nb, Int.toNat_zero, List.getD_cons_zero, List.getD_cons_succ, List.set_cons_zero, List.set_cons_succ, sp]
      simp only [wn, hN, wyI]
      simp [Wk_iff, fr, undefs, wkT, wkV, wkH, okid, Row.nlen, getO, hL]
    · simp [wyI]
    · rintro i out ⟨h1, h2, h3⟩
      obtain ⟨w, hw⟩ : ∃ w, w = l.getD i 0 := ⟨_, rfl⟩
      cbv
      refine condP.mk (fun hc2 => ?_) (fun hc2 => ?_)
      · have hi : i < l.length := by
          (try simp only [nc] at *); subst hA hS; simp (disch := (refine KR.mk ?_; kernel_rfl)) only [alg, obP_iff, condP_iff, retP_iff, retM_iff, ofNat_cast, nc, Int.toNat_natCast, decide_eq_true_eq, decide_eq_false_iff_not, wrap_w64, Bool.not_eq_true', Bool.not_eq_false', beq_iff_eq, beq_eq_false_iff_ne, AV.bool.injEq, AV.int.injEq, AV.t2.injEq, AV.t3.injEq, AV.own.injEq, List.cons.injEq, Prod.mk.injEq, Row.ints.injEq, RW, Row.nlen, scalar, imp_self, and_true, true_and, lexT, heldT, tailT, planT, nb, Int.toNat_zero, List.getD_cons_zero, List.getD_cons_succ, List.set_cons_zero, List.set_cons_succ, sp] at hc2
          omega
        have hwb := spB_at hf2.1 hi
        rw [← hw] at hwb
        refine obP.mk (by (try simp only [nc] at *); subst hA hS; simp (disch := (refine KR.mk ?_; kernel_rfl)) only [alg, obP_iff, condP_iff, retP_iff, retM_iff, ofNat_cast, nc, Int.toNat_natCast, decide_eq_true_eq, decide_eq_false_iff_not, wrap_w64, Bool.not_eq_true', Bool.not_eq_false', beq_iff_eq, beq_eq_false_iff_ne, AV.bool.injEq, AV.int.injEq, AV.t2.injEq, AV.t3.injEq, AV.own.injEq, List.cons.injEq, Prod.mk.injEq, Row.ints.injEq, RW, Row.nlen, scalar, imp_self, and_true, true_and, lexT, heldT, tailT, planT, nb, Int.toNat_zero, List.getD_cons_zero, List.getD_cons_succ, List.set_cons_zero, List.set_cons_succ, sp]; omega) ?_
        refine loop3 (fun (j : Nat) (k : Int) (ou : List Int) => ⟨fr 48 [(1, .int .i64 n), (6, .own 1 false), (8, .int .i64 w), (9, .int .i64 k), (19, .ro (.ints .i64 l)), (20, .int .i64 L), (21, .int .i64 i)], [.dead, .row 3 (.ints .i64 ou)]⟩)
          (fun j k ou => j ≤ n.toNat + 1 - w.toNat ∧ k = w + j ∧ ou = wyRow n.toNat w.toNat out j) (fun j _ _ => n.toNat + 1 - w.toNat - j) 0 w out ?_ ?_ ?_
        · (try simp only [nc] at *); subst hA hS; simp (disch := (refine KR.mk ?_; kernel_rfl)) only [alg, obP_iff, condP_iff, retP_iff, retM_iff, ofNat_cast, nc, Int.toNat_natCast, decide_eq_true_eq, decide_eq_false_iff_not, wrap_w64, Bool.not_eq_true', Bool.not_eq_false', beq_iff_eq, beq_eq_false_iff_ne, AV.bool.injEq, AV.int.injEq, AV.t2.injEq, AV.t3.injEq, AV.own.injEq, List.cons.injEq, Prod.mk.injEq, Row.ints.injEq, RW, Row.nlen, scalar, imp_self, and_true, true_and, lexT, heldT, tailT, planT, nb, Int.toNat_zero, List.getD_cons_zero, List.getD_cons_succ, List.set_cons_zero, List.set_cons_succ, sp]
          simp only [Int.toNat_natCast, ← hw]
          simp [Wk_iff, fr, undefs, wkT, wkV, wkH, okid, Row.nlen, getO, hL]
        · exact ⟨by omega, by simp, rfl⟩
        · rintro j k ou ⟨j1, hk, hou⟩
          have hol : ou.length = n.toNat + 1 := by rw [hou, wyRow_len, h2]
          have HK := Hd.mk hk
          clear hk
          cbv
          have hk := HK.h
          (try simp only [nc] at *); subst hA hS hr hfr; simp (disch := (refine KR.mk ?_; kernel_rfl)) only [alg, obP_iff, condP_iff, retP_iff, retM_iff, ofNat_cast, nc, Int.toNat_natCast, decide_eq_true_eq, decide_eq_false_iff_not, wrap_w64, Bool.not_eq_true', Bool.not_eq_false', beq_iff_eq, beq_eq_false_iff_ne, AV.bool.injEq, AV.int.injEq, AV.t2.injEq, AV.t3.injEq, AV.own.injEq, List.cons.injEq, Prod.mk.injEq, Row.ints.injEq, RW, Row.nlen, scalar, imp_self, and_true, true_and, lexT, heldT, tailT, planT, nb, Int.toNat_zero, List.getD_cons_zero, List.getD_cons_succ, List.set_cons_zero, List.set_cons_succ, sp, sb]
          have wj : w64 ((i : Int) + 1) = ((i + 1 : Nat) : Int) := by rw [w64_id (by omega)]; omega
          refine ⟨fun hkn => ?_, fun hkn => ?_⟩
          · have wk : w64 (k + 1) = k + 1 := w64_id (by omega)
            have wd : w64 (k - w) = k - w := w64_id (by omega)
            rw [wd, wk]
            have e1 : k.toNat = w.toNat + j := by omega
            have e2 : (k - w).toNat = w.toNat + j - w.toNat := by omega
            refine ⟨by omega, by omega, by omega, j + 1, k + 1, wyRow n.toNat w.toNat out (j + 1), ?_, ⟨by omega, by omega, rfl⟩, by omega⟩
            rw [wyRow_succ, ← hou, wyStep, e1, e2]
            simp [Wk_iff, fr, undefs, wkT, wkV, wkH, okid, Row.nlen, getO]
          · refine ⟨i + 1, ou, ?_, ⟨by omega, hol, ?_⟩, by omega⟩
            · simp only [wj]
              simp [Wk_iff, fr, undefs, wkT, wkV, wkH, okid, Row.nlen, getO]
            · rw [h3, fold_drop 0 _ _ _ _ (by omega), ← hw, wyAll, hou]
              have : j = n.toNat + 1 - w.toNat := by omega
              rw [this]
      · have hi : ¬ i < l.length := by
          (try simp only [nc] at *); subst hA hS; simp (disch := (refine KR.mk ?_; kernel_rfl)) only [alg, obP_iff, condP_iff, retP_iff, retM_iff, ofNat_cast, nc, Int.toNat_natCast, decide_eq_true_eq, decide_eq_false_iff_not, wrap_w64, Bool.not_eq_true', Bool.not_eq_false', beq_iff_eq, beq_eq_false_iff_ne, AV.bool.injEq, AV.int.injEq, AV.t2.injEq, AV.t3.injEq, AV.own.injEq, List.cons.injEq, Prod.mk.injEq, Row.ints.injEq, RW, Row.nlen, scalar, imp_self, and_true, true_and, lexT, heldT, tailT, planT, nb, Int.toNat_zero, List.getD_cons_zero, List.getD_cons_succ, List.set_cons_zero, List.set_cons_succ, sp] at hc2
          omega
        (try simp only [nc] at *); subst hA hS hr hfr; simp (disch := (refine KR.mk ?_; kernel_rfl)) only [alg, obP_iff, condP_iff, retP_iff, retM_iff, ofNat_cast, nc, Int.toNat_natCast, decide_eq_true_eq, decide_eq_false_iff_not, wrap_w64, Bool.not_eq_true', Bool.not_eq_false', beq_iff_eq, beq_eq_false_iff_ne, AV.bool.injEq, AV.int.injEq, AV.t2.injEq, AV.t3.injEq, AV.own.injEq, List.cons.injEq, Prod.mk.injEq, Row.ints.injEq, RW, Row.nlen, scalar, imp_self, and_true, true_and, lexT, heldT, tailT, planT, nb, Int.toNat_zero, List.getD_cons_zero, List.getD_cons_succ, List.set_cons_zero, List.set_cons_succ, sp, sb]
        rw [wyV, if_pos hf, h3, fold_end _ _ _ _ (by omega), hf]
        exact ⟨by omega, rfl, rfl⟩
theorem specWays_ok (l : List Int) (n : Int) (hl : l.length ≤ 1048576) : FC Try.prog 15 [.ro (.ints .i64 l), .int .i64 n] (.t2 (.int .i64 (wyV l n)) (.bool (askB l n))) [] := by
  refine fc_eval sp S3 S3_ok hT hm Try.func15 rfl (by kernel_rfl) rfl rfl ?_
  intro A S r0 fr0 hA hS hr hfr
  cbv
  refine obP.mk (by subst hA hS; exact hl) (condP.mk (fun hc => ?_) (fun hc => ?_))
  · have hf : (!(askB l n)) = true := by subst hA hS; exact hc
    rw [Bool.not_eq_true'] at hf
    (try simp only [nc] at *); subst hA hS hr hfr; simp (disch := (refine KR.mk ?_; kernel_rfl)) only [alg, obP_iff, condP_iff, retP_iff, retM_iff, ofNat_cast, nc, Int.toNat_natCast, decide_eq_true_eq, decide_eq_false_iff_not, wrap_w64, Bool.not_eq_true', Bool.not_eq_false', beq_iff_eq, beq_eq_false_iff_ne, AV.bool.injEq, AV.int.injEq, AV.t2.injEq, AV.t3.injEq, AV.own.injEq, List.cons.injEq, Prod.mk.injEq, Row.ints.injEq, RW, Row.nlen, scalar, imp_self, and_true, true_and, lexT, heldT, tailT, planT, nb, Int.toNat_zero, List.getD_cons_zero, List.getD_cons_succ, List.set_cons_zero, List.set_cons_succ, sp, sb]
    simp [hf, wyV]
  · have hf : (!(askB l n)) = false := by subst hA hS; exact hc
    rw [Bool.not_eq_false'] at hf
    have hf2 := hf
    simp only [askB, Bool.and_eq_true, inR_iff] at hf2
    have wn : w64 (n + 1) = n + 1 := w64_id (by omega)
    have hN : (n + 1).toNat = n.toNat + 1 := by omega
    refine obP.mk (by (try simp only [nc] at *); subst hA hS; simp (disch := (refine KR.mk ?_; kernel_rfl)) only [alg, obP_iff, condP_iff, retP_iff, retM_iff, ofNat_cast, nc, Int.toNat_natCast, decide_eq_true_eq, decide_eq_false_iff_not, wrap_w64, Bool.not_eq_true', Bool.not_eq_false', beq_iff_eq, beq_eq_false_iff_ne, AV.bool.injEq, AV.int.injEq, AV.t2.injEq, AV.t3.injEq, AV.own.injEq, List.cons.injEq, Prod.mk.injEq, Row.ints.injEq, RW, Row.nlen, scalar, imp_self, and_true, true_and, lexT, heldT, tailT, planT, nb, Int.toNat_zero, List.getD_cons_zero, List.getD_cons_succ, List.set_cons_zero, List.set_cons_succ, sp]; rw [wn]; omega) (obP.mk (by (try simp only [nc] at *); subst hA hS; simp (disch := (refine KR.mk ?_; kernel_rfl)) only [alg, obP_iff, condP_iff, retP_iff, retM_iff, ofNat_cast, nc, Int.toNat_natCast, decide_eq_true_eq, decide_eq_false_iff_not, wrap_w64, Bool.not_eq_true', Bool.not_eq_false', beq_iff_eq, beq_eq_false_iff_ne, AV.bool.injEq, AV.int.injEq, AV.t2.injEq, AV.t3.injEq, AV.own.injEq, List.cons.injEq, Prod.mk.injEq, Row.ints.injEq, RW, Row.nlen, scalar, imp_self, and_true, true_and, lexT, heldT, tailT, planT, nb, Int.toNat_zero, List.getD_cons_zero, List.getD_cons_succ, List.set_cons_zero, List.set_cons_succ, sp]) (obP.mk (by (try simp only [nc] at *); subst hA hS; simp (disch := (refine KR.mk ?_; kernel_rfl)) only [alg, obP_iff, condP_iff, retP_iff, retM_iff, ofNat_cast, nc, Int.toNat_natCast, decide_eq_true_eq, decide_eq_false_iff_not, wrap_w64, Bool.not_eq_true', Bool.not_eq_false', beq_iff_eq, beq_eq_false_iff_ne, AV.bool.injEq, AV.int.injEq, AV.t2.injEq, AV.t3.injEq, AV.own.injEq, List.cons.injEq, Prod.mk.injEq, Row.ints.injEq, RW, Row.nlen, scalar, imp_self, and_true, true_and, lexT, heldT, tailT, planT, nb, Int.toNat_zero, List.getD_cons_zero, List.getD_cons_succ, List.set_cons_zero, List.set_cons_succ, sp]; rw [wn]; simp; omega) ?_))
    obtain ⟨L, hL⟩ : ∃ L : Int, L = l.length := ⟨_, rfl⟩
    refine loop2 (fun (i : Nat) (out : List Int) => ⟨fr 48 [(1, .int .i64 n), (6, .own 1 false), (19, .ro (.ints .i64 l)), (20, .int .i64 L), (21, .int .i64 i)], [.dead, .row 3 (.ints .i64 out)]⟩)
      (fun i out => i ≤ l.length ∧ out.length = n.toNat + 1 ∧ l.foldl (wyAll n.toNat) (wyI n.toNat) = (l.drop i).foldl (wyAll n.toNat) out) (fun i _ => l.length - i) 0 (wyI n.toNat) ?_ ?_ ?_
    · (try simp only [nc] at *); subst hA hS; simp (disch := (refine KR.mk ?_; kernel_rfl)) only [alg, obP_iff, condP_iff, retP_iff, retM_iff, ofNat_cast, nc, Int.toNat_natCast, decide_eq_true_eq, decide_eq_false_iff_not, wrap_w64, Bool.not_eq_true', Bool.not_eq_false', beq_iff_eq, beq_eq_false_iff_ne, AV.bool.injEq, AV.int.injEq, AV.t2.injEq, AV.t3.injEq, AV.own.injEq, List.cons.injEq, Prod.mk.injEq, Row.ints.injEq, RW, Row.nlen, scalar, imp_self, and_true, true_and, lexT, heldT, tailT, planT, nb, Int.toNat_zero, List.getD_cons_zero, List.getD_cons_succ, List.set_cons_zero, List.set_cons_succ, sp]
      simp only [wn, hN, wyI]
      simp [Wk_iff, fr, undefs, wkT, wkV, wkH, okid, Row.nlen, getO, hL]
    · simp [wyI]
    · rintro i out ⟨h1, h2, h3⟩
      obtain ⟨w, hw⟩ : ∃ w, w = l.getD i 0 := ⟨_, rfl⟩
      cbv
      refine condP.mk (fun hc2 => ?_) (fun hc2 => ?_)
      · have hi : i < l.length := by
          (try simp only [nc] at *); subst hA hS; simp (disch := (refine KR.mk ?_; kernel_rfl)) only [alg, obP_iff, condP_iff, retP_iff, retM_iff, ofNat_cast, nc, Int.toNat_natCast, decide_eq_true_eq, decide_eq_false_iff_not, wrap_w64, Bool.not_eq_true', Bool.not_eq_false', beq_iff_eq, beq_eq_false_iff_ne, AV.bool.injEq, AV.int.injEq, AV.t2.injEq, AV.t3.injEq, AV.own.injEq, List.cons.injEq, Prod.mk.injEq, Row.ints.injEq, RW, Row.nlen, scalar, imp_self, and_true, true_and, lexT, heldT, tailT, planT, nb, Int.toNat_zero, List.getD_cons_zero, List.getD_cons_succ, List.set_cons_zero, List.set_cons_succ, sp] at hc2
          omega
        have hwb := spB_at hf2.1 hi
        rw [← hw] at hwb
        refine obP.mk (by (try simp only [nc] at *); subst hA hS; simp (disch := (refine KR.mk ?_; kernel_rfl)) only [alg, obP_iff, condP_iff, retP_iff, retM_iff, ofNat_cast, nc, Int.toNat_natCast, decide_eq_true_eq, decide_eq_false_iff_not, wrap_w64, Bool.not_eq_true', Bool.not_eq_false', beq_iff_eq, beq_eq_false_iff_ne, AV.bool.injEq, AV.int.injEq, AV.t2.injEq, AV.t3.injEq, AV.own.injEq, List.cons.injEq, Prod.mk.injEq, Row.ints.injEq, RW, Row.nlen, scalar, imp_self, and_true, true_and, lexT, heldT, tailT, planT, nb, Int.toNat_zero, List.getD_cons_zero, List.getD_cons_succ, List.set_cons_zero, List.set_cons_succ, sp]; omega) ?_
        refine loop3 (fun (j : Nat) (k : Int) (ou : List Int) => ⟨fr 48 [(1, .int .i64 n), (6, .own 1 false), (8, .int .i64 w), (9, .int .i64 k), (19, .ro (.ints .i64 l)), (20, .int .i64 L), (21, .int .i64 i)], [.dead, .row 3 (.ints .i64 ou)]⟩)
          (fun j k ou => j ≤ n.toNat + 1 - w.toNat ∧ k = w + j ∧ ou = wyRow n.toNat w.toNat out j) (fun j _ _ => n.toNat + 1 - w.toNat - j) 0 w out ?_ ?_ ?_
        · (try simp only [nc] at *); subst hA hS; simp (disch := (refine KR.mk ?_; kernel_rfl)) only [alg, obP_iff, condP_iff, retP_iff, retM_iff, ofNat_cast, nc, Int.toNat_natCast, decide_eq_true_eq, decide_eq_false_iff_not, wrap_w64, Bool.not_eq_true', Bool.not_eq_false', beq_iff_eq, beq_eq_false_iff_ne, AV.bool.injEq, AV.int.injEq, AV.t2.injEq, AV.t3.injEq, AV.own.injEq, List.cons.injEq, Prod.mk.injEq, Row.ints.injEq, RW, Row.nlen, scalar, imp_self, and_true, true_and, lexT, heldT, tailT, planT, nb, Int.toNat_zero, List.getD_cons_zero, List.getD_cons_succ, List.set_cons_zero, List.set_cons_succ, sp]
          simp only [Int.toNat_natCast, ← hw]
          simp [Wk_iff, fr, undefs, wkT, wkV, wkH, okid, Row.nlen, getO, hL]
        · exact ⟨by omega, by simp, rfl⟩
        · rintro j k ou ⟨j1, hk, hou⟩
          have hol : ou.length = n.toNat + 1 := by rw [hou, wyRow_len, h2]
          have HK := Hd.mk hk
          clear hk
          cbv
          have hk := HK.h
          (try simp only [nc] at *); subst hA hS hr hfr; simp (disch := (refine KR.mk ?_; kernel_rfl)) only [alg, obP_iff, condP_iff, retP_iff, retM_iff, ofNat_cast, nc, Int.toNat_natCast, decide_eq_true_eq, decide_eq_false_iff_not, wrap_w64, Bool.not_eq_true', Bool.not_eq_false', beq_iff_eq, beq_eq_false_iff_ne, AV.bool.injEq, AV.int.injEq, AV.t2.injEq, AV.t3.injEq, AV.own.injEq, List.cons.injEq, Prod.mk.injEq, Row.ints.injEq, RW, Row.nlen, scalar, imp_self, and_true, true_and, lexT, heldT, tailT, planT, nb, Int.toNat_zero, List.getD_cons_zero, List.getD_cons_succ, List.set_cons_zero, List.set_cons_succ, sp, sb]
          have wj : w64 ((i : Int) + 1) = ((i + 1 : Nat) : Int) := by rw [w64_id (by omega)]; omega
          refine ⟨fun hkn => ?_, fun hkn => ?_⟩
          · have wk : w64 (k + 1) = k + 1 := w64_id (by omega)
            have wd : w64 (k - w) = k - w := w64_id (by omega)
            rw [wd, wk]
            have e1 : k.toNat = w.toNat + j := by omega
            have e2 : (k - w).toNat = w.toNat + j - w.toNat := by omega
            refine ⟨by omega, by omega, by omega, j + 1, k + 1, wyRow n.toNat w.toNat out (j + 1), ?_, ⟨by omega, by omega, rfl⟩, by omega⟩
            rw [wyRow_succ, ← hou, wyStep, e1, e2]
            simp [Wk_iff, fr, undefs, wkT, wkV, wkH, okid, Row.nlen, getO]
          · refine ⟨i + 1, ou, ?_, ⟨by omega, hol, ?_⟩, by omega⟩
            · simp only [wj]
              simp [Wk_iff, fr, undefs, wkT, wkV, wkH, okid, Row.nlen, getO]
            · rw [h3, fold_drop 0 _ _ _ _ (by omega), ← hw, wyAll, hou]
              have : j = n.toNat + 1 - w.toNat := by omega
              rw [this]
      · have hi : ¬ i < l.length := by
          (try simp only [nc] at *); subst hA hS; simp (disch := (refine KR.mk ?_; kernel_rfl)) only [alg, obP_iff, condP_iff, retP_iff, retM_iff, ofNat_cast, nc, Int.toNat_natCast, decide_eq_true_eq, decide_eq_false_iff_not, wrap_w64, Bool.not_eq_true', Bool.not_eq_false', beq_iff_eq, beq_eq_false_iff_ne, AV.bool.injEq, AV.int.injEq, AV.t2.injEq, AV.t3.injEq, AV.own.injEq, List.cons.injEq, Prod.mk.injEq, Row.ints.injEq, RW, Row.nlen, scalar, imp_self, and_true, true_and, lexT, heldT, tailT, planT, nb, Int.toNat_zero, List.getD_cons_zero, List.getD_cons_succ, List.set_cons_zero, List.set_cons_succ, sp] at hc2
          omega
        (try simp only [nc] at *); subst hA hS hr hfr; simp (disch := (refine KR.mk ?_; kernel_rfl)) only [alg, obP_iff, condP_iff, retP_iff, retM_iff, ofNat_cast, nc, Int.toNat_natCast, decide_eq_true_eq, decide_eq_false_iff_not, wrap_w64, Bool.not_eq_true', Bool.not_eq_false', beq_iff_eq, beq_eq_false_iff_ne, AV.bool.injEq, AV.int.injEq, AV.t2.injEq, AV.t3.injEq, AV.own.injEq, List.cons.injEq, Prod.mk.injEq, Row.ints.injEq, RW, Row.nlen, scalar, imp_self, and_true, true_and, lexT, heldT, tailT, planT, nb, Int.toNat_zero, List.getD_cons_zero, List.getD_cons_succ, List.set_cons_zero, List.set_cons_succ, sp, sb]
        rw [wyV, if_pos hf, h3, fold_end _ _ _ _ (by omega), hf]
        exact ⟨by omega, rfl, rfl⟩
def S4 (S : Sp) : List (Nat × (List AV → CR)) :=
  (16, fun args => match args with | [.ro (.ints .i64 l), .int .i64 n] => .pure (S.sm l) (.t2 (.int .i64 (S.wyV l n)) (.bool (S.askB l n))) [] | _ => .no) ::
  (15, fun args => match args with | [.ro (.ints .i64 l), .int .i64 n] => .pure (S.sm l) (.t2 (.int .i64 (S.wyV l n)) (.bool (S.askB l n))) [] | _ => .no) ::
  S3 S
set_option maxRecDepth 100000 in
theorem S4_ok : TabOK Try.prog (tfind (S4 sp)) := by
  refine tab_cons (fun args => ?_) (tab_cons (fun args => ?_) (S3_ok))
  · split
    · exact ent_pure fun h => implWays_ok _ _ h
    · exact ent_no
  · split
    · exact ent_pure fun h => specWays_ok _ _ h
    · exact ent_no
theorem lawAreSpaces (l : List Int) : FC Try.prog 3 [.ro (.ints .i64 l)] (.bool true) [] := by
  refine fc_eval sp S4 S4_ok hT hm Try.func3 rfl (by kernel_rfl) rfl rfl ?_
  intro A S r0 fr0 hA hS hr hfr
  cbv
  (try simp only [nc] at *); subst hA hS hr hfr; simp (disch := (refine KR.mk ?_; kernel_rfl)) only [alg, obP_iff, condP_iff, retP_iff, retM_iff, ofNat_cast, nc, Int.toNat_natCast, decide_eq_true_eq, decide_eq_false_iff_not, wrap_w64, Bool.not_eq_true', Bool.not_eq_false', beq_iff_eq, beq_eq_false_iff_ne, AV.bool.injEq, AV.int.injEq, AV.t2.injEq, AV.t3.injEq, AV.own.injEq, List.cons.injEq, Prod.mk.injEq, Row.ints.injEq, RW, Row.nlen, scalar, imp_self, and_true, true_and, lexT, heldT, tailT, planT, nb, Int.toNat_zero, List.getD_cons_zero, List.getD_cons_succ, List.set_cons_zero, List.set_cons_succ, sp, sb, eqL]
  simp; try omega
set_option maxRecDepth 100000 in
theorem lawWaysToFill (l : List Int) (n : Int) : FC Try.prog 4 [.ro (.ints .i64 l), .int .i64 n] (.bool true) [] := by
  refine fc_eval sp S4 S4_ok hT hm Try.func4 rfl (by kernel_rfl) rfl rfl ?_
  intro A S r0 fr0 hA hS hr hfr
  cbv
  (try simp only [nc] at *); subst hA hS hr hfr; simp (disch := (refine KR.mk ?_; kernel_rfl)) only [alg, obP_iff, condP_iff, retP_iff, retM_iff, ofNat_cast, nc, Int.toNat_natCast, decide_eq_true_eq, decide_eq_false_iff_not, wrap_w64, Bool.not_eq_true', Bool.not_eq_false', beq_iff_eq, beq_eq_false_iff_ne, AV.bool.injEq, AV.int.injEq, AV.t2.injEq, AV.t3.injEq, AV.own.injEq, List.cons.injEq, Prod.mk.injEq, Row.ints.injEq, RW, Row.nlen, scalar, imp_self, and_true, true_and, lexT, heldT, tailT, planT, nb, Int.toNat_zero, List.getD_cons_zero, List.getD_cons_succ, List.set_cons_zero, List.set_cons_succ, sp, sb, eqL]
  simp; try omega
end Go.Proofs.Ytjkkjfnkcfaigaa
