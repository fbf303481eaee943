/-
  Spaces: what are spaces; in how many ways a width is filled.
-/
import Derived.Test.YtjkkjfnkcfaigaaDoorB0
import Derived.Test.YtjkkjfnkcfaigaaDoorS0
set_option linter.unusedSimpArgs false
set_option linter.unusedVariables false
namespace Go.Proofs.YtjkkjfnkcfaigaaDoor
open Go.Ab

theorem inc_ok (l : List Int) (lo hi : Int) (hl : l.length ≤ 1048576) : FC Tryd.prog 19 [.ro (.ints .i64 l), .int .i64 lo, .int .i64 hi] (.bool (rise l lo hi)) [] := by
  refine fc_eval sb B2 B2_ok hT hm Tryd.func19 rfl (by kernel_rfl) rfl rfl ?_
  intro A S r0 fr0 hA hS hr hfr
  cbv
  obtain ⟨L, hL⟩ : ∃ L : Int, L = l.length := ⟨_, rfl⟩
  refine loop1 (fun (i : Nat) => ⟨fr 35 [(0, .ro (.ints .i64 l)), (1, .int .i64 lo), (2, .int .i64 hi), (9, .ro (.ints .i64 l)), (10, .int .i64 L), (11, .int .i64 i)], [.dead]⟩)
    (fun i => i ≤ l.length ∧ riseTo l lo hi i = true) (fun i => l.length - i) 0 ?_ ?_ ?_
  · subst hA; simp [Wk_iff, fr, undefs, wkT, wkV, wkH, okid, Row.nlen, w64_eq, getO, alg, hL]
  · simp [riseTo]
  · rintro i ⟨h1, h2⟩
    cbv
    (try simp only [nc] at *); subst hA hS hr hfr; simp (disch := (refine KR.mk ?_; kernel_rfl)) only [alg, obP_iff, condP_iff, retP_iff, retM_iff, ofNat_cast, nc, Int.toNat_natCast, decide_eq_true_eq, decide_eq_false_iff_not, wrap_w64, retS_iff, Bool.not_eq_true', Bool.not_eq_false', beq_iff_eq, beq_eq_false_iff_ne, AV.bool.injEq, AV.int.injEq, AV.t2.injEq, AV.t3.injEq, AV.own.injEq, List.cons.injEq, Prod.mk.injEq, Row.ints.injEq, RW, Row.nlen, scalar, imp_self, and_true, true_and, lexT, heldT, tailT, planT, nb, Int.toNat_zero, List.getD_cons_zero, List.getD_cons_succ, List.set_cons_zero, List.set_cons_succ, sb]
    have gi : (!(inR (l.getD i 0) lo hi) || (decide (0 < (i : Int)) && decide (l.getD i 0 ≤ l.getD (w64 ((i : Int) - 1)).toNat 0))) = badAt l lo hi i := by
      unfold badAt
      by_cases h0 : 0 < (i : Int)
      · have e : (w64 ((i : Int) - 1)).toNat = i - 1 := by rw [w64_id (by omega)]; omega
        rw [e]
      · rw [decide_eq_false h0]; rfl
    rw [gi]
    refine ⟨fun hi' => ⟨by omega, fun hg => ?_, fun hb => ?_, fun hb => ⟨i + 1, ?_, ⟨by omega, ?_⟩, by omega⟩⟩, fun hi' => ?_⟩
    · have h0 : 0 < (i : Int) := by
        simp only [Bool.and_eq_true, decide_eq_true_eq] at hg; exact hg.2
      rw [w64_id (by omega)]; omega
    · have : rise l lo hi = false := riseTo_bad (i := i) (by omega) hb
      rw [this]
    · simp [Wk_iff, fr, undefs, wkT, wkV, wkH, okid, Row.nlen, w64_eq, getO]; try omega
    · rw [riseTo_succ, h2, hb]; rfl
    · have : i = l.length := by omega
      subst this
      rw [rise, h2]
theorem rising_ok (l : List Int) (lo hi : Int) (hl : l.length ≤ 1048576) : FC Tryd.prog 14 [.ro (.ints .i64 l), .int .i64 lo, .int .i64 hi] (.bool (rise l lo hi)) [] := by
  refine fc_eval sb B2 B2_ok hT hm Tryd.func14 rfl (by kernel_rfl) rfl rfl ?_
  intro A S r0 fr0 hA hS hr hfr
  cbv
  obtain ⟨L, hL⟩ : ∃ L : Int, L = l.length := ⟨_, rfl⟩
  refine loop1 (fun (i : Nat) => ⟨fr 35 [(0, .ro (.ints .i64 l)), (1, .int .i64 lo), (2, .int .i64 hi), (9, .ro (.ints .i64 l)), (10, .int .i64 L), (11, .int .i64 i)], [.dead]⟩)
    (fun i => i ≤ l.length ∧ riseTo l lo hi i = true) (fun i => l.length - i) 0 ?_ ?_ ?_
  · subst hA; simp [Wk_iff, fr, undefs, wkT, wkV, wkH, okid, Row.nlen, w64_eq, getO, alg, hL]
  · simp [riseTo]
  · rintro i ⟨h1, h2⟩
    cbv
    (try simp only [nc] at *); subst hA hS hr hfr; simp (disch := (refine KR.mk ?_; kernel_rfl)) only [alg, obP_iff, condP_iff, retP_iff, retM_iff, ofNat_cast, nc, Int.toNat_natCast, decide_eq_true_eq, decide_eq_false_iff_not, wrap_w64, retS_iff, Bool.not_eq_true', Bool.not_eq_false', beq_iff_eq, beq_eq_false_iff_ne, AV.bool.injEq, AV.int.injEq, AV.t2.injEq, AV.t3.injEq, AV.own.injEq, List.cons.injEq, Prod.mk.injEq, Row.ints.injEq, RW, Row.nlen, scalar, imp_self, and_true, true_and, lexT, heldT, tailT, planT, nb, Int.toNat_zero, List.getD_cons_zero, List.getD_cons_succ, List.set_cons_zero, List.set_cons_succ, sb]
    have gi : (!(inR (l.getD i 0) lo hi) || (decide (0 < (i : Int)) && decide (l.getD i 0 ≤ l.getD (w64 ((i : Int) - 1)).toNat 0))) = badAt l lo hi i := by
      unfold badAt
      by_cases h0 : 0 < (i : Int)
      · have e : (w64 ((i : Int) - 1)).toNat = i - 1 := by rw [w64_id (by omega)]; omega
        rw [e]
      · rw [decide_eq_false h0]; rfl
    rw [gi]
    refine ⟨fun hi' => ⟨by omega, fun hg => ?_, fun hb => ?_, fun hb => ⟨i + 1, ?_, ⟨by omega, ?_⟩, by omega⟩⟩, fun hi' => ?_⟩
    · have h0 : 0 < (i : Int) := by
        simp only [Bool.and_eq_true, decide_eq_true_eq] at hg; exact hg.2
      rw [w64_id (by omega)]; omega
    · have : rise l lo hi = false := riseTo_bad (i := i) (by omega) hb
      rw [this]
    · simp [Wk_iff, fr, undefs, wkT, wkV, wkH, okid, Row.nlen, w64_eq, getO]; try omega
    · rw [riseTo_succ, h2, hb]; rfl
    · have : i = l.length := by omega
      subst this
      rw [rise, h2]
def S1 (S : Sp) : List (Nat × (List AV → CR)) :=
  (19, fun args => match args with | [.ro (.ints .i64 l), .int .i64 lo, .int .i64 hi] => .pure (S.sm l) (.bool (S.rise l lo hi)) [] | _ => .no) ::
  (14, fun args => match args with | [.ro (.ints .i64 l), .int .i64 lo, .int .i64 hi] => .pure (S.sm l) (.bool (S.rise l lo hi)) [] | _ => .no) ::
  B2 S.toSb
set_option maxRecDepth 100000 in
theorem S1_ok : TabOK Tryd.prog (tfind (S1 sp)) := by
  refine tab_cons (fun args => ?_) (tab_cons (fun args => ?_) (B2_ok))
  · split
    · exact ent_pure fun h => inc_ok _ _ _ h
    · exact ent_no
  · split
    · exact ent_pure fun h => rising_ok _ _ _ h
    · exact ent_no
theorem implSp_ok (l : List Int) (hl : l.length ≤ 1048576) : FC Tryd.prog 17 [.ro (.ints .i64 l)] (.bool (spB l)) [] := by
  refine fc_eval sp S1 S1_ok hT hm Tryd.func17 rfl (by kernel_rfl) rfl rfl ?_
  intro A S r0 fr0 hA hS hr hfr
  cbv
  (try simp only [nc] at *); subst hA hS hr hfr; simp (disch := (refine KR.mk ?_; kernel_rfl)) only [alg, obP_iff, condP_iff, retP_iff, retM_iff, ofNat_cast, nc, Int.toNat_natCast, decide_eq_true_eq, decide_eq_false_iff_not, wrap_w64, retS_iff, Bool.not_eq_true', Bool.not_eq_false', beq_iff_eq, beq_eq_false_iff_ne, AV.bool.injEq, AV.int.injEq, AV.t2.injEq, AV.t3.injEq, AV.own.injEq, List.cons.injEq, Prod.mk.injEq, Row.ints.injEq, RW, Row.nlen, scalar, imp_self, and_true, true_and, lexT, heldT, tailT, planT, nb, Int.toNat_zero, List.getD_cons_zero, List.getD_cons_succ, List.set_cons_zero, List.set_cons_succ, sp, sb, spB]
  simp [hl]
theorem wsKinds_ok (l : List Int) (hl : l.length ≤ 1048576) : FC Tryd.prog 8 [.ro (.ints .i64 l)] (.bool (spB l)) [] := by
  refine fc_eval sp S1 S1_ok hT hm Tryd.func8 rfl (by kernel_rfl) rfl rfl ?_
  intro A S r0 fr0 hA hS hr hfr
  cbv
  (try simp only [nc] at *); subst hA hS hr hfr; simp (disch := (refine KR.mk ?_; kernel_rfl)) only [alg, obP_iff, condP_iff, retP_iff, retM_iff, ofNat_cast, nc, Int.toNat_natCast, decide_eq_true_eq, decide_eq_false_iff_not, wrap_w64, retS_iff, Bool.not_eq_true', Bool.not_eq_false', beq_iff_eq, beq_eq_false_iff_ne, AV.bool.injEq, AV.int.injEq, AV.t2.injEq, AV.t3.injEq, AV.own.injEq, List.cons.injEq, Prod.mk.injEq, Row.ints.injEq, RW, Row.nlen, scalar, imp_self, and_true, true_and, lexT, heldT, tailT, planT, nb, Int.toNat_zero, List.getD_cons_zero, List.getD_cons_succ, List.set_cons_zero, List.set_cons_succ, sp, sb, spB]
  simp [hl]
def S2 (S : Sp) : List (Nat × (List AV → CR)) :=
  (17, fun args => match args with | [.ro (.ints .i64 l)] => .pure (S.sm l) (.bool (S.spB l)) [] | _ => .no) ::
  (8, fun args => match args with | [.ro (.ints .i64 l)] => .pure (S.sm l) (.bool (S.spB l)) [] | _ => .no) ::
  S1 S
set_option maxRecDepth 100000 in
theorem S2_ok : TabOK Tryd.prog (tfind (S2 sp)) := by
  refine tab_cons (fun args => ?_) (tab_cons (fun args => ?_) (S1_ok))
  · split
    · exact ent_pure fun h => implSp_ok _ h
    · exact ent_no
  · split
    · exact ent_pure fun h => wsKinds_ok _ h
    · exact ent_no
end Go.Proofs.YtjkkjfnkcfaigaaDoor
