/-
  Tables: the greatest starts of the columns.
-/
import Derived.Test.YtlfioonmofkpiaaT2
set_option linter.unusedSimpArgs false
set_option linter.unusedVariables false
namespace Go.Proofs.Ytlfioonmofkpiaa
open Go.Ab

theorem tbLatest_ok (n : Int) (l : List (List Int)) (g t : Int) (ht : tabB n l = true) : FC Try.prog 63 [.int .i64 n, .ro (.recs 3 l), .int .i64 g, .int .i64 t] (.own 0 true) [(3, .ints .i64 (laA n l g t))] := by
  refine fc_eval sp A3 A3_ok hT hm Try.func63 rfl (by kernel_rfl) rfl rfl ?_
  intro A S r0 fr0 hA hS hr hfr
  cbv
  obtain ⟨n1, n2, hl, hE⟩ := tabB_n ht
  have wn : w64 (n + 1) = n + 1 := w64_id (by omega)
  have wm : w64 (n - 1) = n - 1 := w64_id (by omega)
  have hN : (n + 1).toNat = n.toNat + 1 := by omega
  refine obP.mk (by (try simp only [nc] at *); subst hA hS; simp (disch := (refine KR.mk ?_; kernel_rfl)) only [alg, obP_iff, condP_iff, retP_iff, retM_iff, ofNat_cast, nc, Int.toNat_natCast, decide_eq_true_eq, decide_eq_false_iff_not, wrap_w64, Bool.not_eq_true', Bool.not_eq_false', beq_iff_eq, beq_eq_false_iff_ne, AV.bool.injEq, AV.int.injEq, AV.t2.injEq, AV.t3.injEq, AV.own.injEq, List.cons.injEq, Prod.mk.injEq, Row.ints.injEq, RW, Row.nlen, scalar, imp_self, and_true, true_and, lexT, heldT, tailT, planT, nb, Int.toNat_zero, List.getD_cons_zero, List.getD_cons_succ, List.set_cons_zero, List.set_cons_succ, sp]; rw [wn]; omega) (obP.mk (by (try simp only [nc] at *); subst hA hS; simp (disch := (refine KR.mk ?_; kernel_rfl)) only [alg, obP_iff, condP_iff, retP_iff, retM_iff, ofNat_cast, nc, Int.toNat_natCast, decide_eq_true_eq, decide_eq_false_iff_not, wrap_w64, Bool.not_eq_true', Bool.not_eq_false', beq_iff_eq, beq_eq_false_iff_ne, AV.bool.injEq, AV.int.injEq, AV.t2.injEq, AV.t3.injEq, AV.own.injEq, List.cons.injEq, Prod.mk.injEq, Row.ints.injEq, RW, Row.nlen, scalar, imp_self, and_true, true_and, lexT, heldT, tailT, planT, nb, Int.toNat_zero, List.getD_cons_zero, List.getD_cons_succ, List.set_cons_zero, List.set_cons_succ, sp]) (obP.mk (by (try simp only [nc] at *); subst hA hS; simp (disch := (refine KR.mk ?_; kernel_rfl)) only [alg, obP_iff, condP_iff, retP_iff, retM_iff, ofNat_cast, nc, Int.toNat_natCast, decide_eq_true_eq, decide_eq_false_iff_not, wrap_w64, Bool.not_eq_true', Bool.not_eq_false', beq_iff_eq, beq_eq_false_iff_ne, AV.bool.injEq, AV.int.injEq, AV.t2.injEq, AV.t3.injEq, AV.own.injEq, List.cons.injEq, Prod.mk.injEq, Row.ints.injEq, RW, Row.nlen, scalar, imp_self, and_true, true_and, lexT, heldT, tailT, planT, nb, Int.toNat_zero, List.getD_cons_zero, List.getD_cons_succ, List.set_cons_zero, List.set_cons_succ, sp]; rw [wn]; simp; omega) ?_))
  refine loop3 (fun (m : Nat) (c : Int) (out : List Int) => ⟨fr 66 [(1, .ro (.recs 3 l)), (2, .int .i64 g), (9, .own 1 false), (10, .int .i64 c)], [.dead, .row 3 (.ints .i64 out)]⟩)
    (fun m c out => m ≤ n.toNat ∧ c = n - 1 - m ∧ out = List.replicate (n.toNat - m) 0 ++ laF n.toNat l g t m) (fun m _ _ => n.toNat - m) 0 (n - 1) ((List.replicate (n + 1).toNat 0).set n.toNat (w64 (t + g))) ?_ ?_ ?_
  · (try simp only [nc] at *); subst hA hS; simp (disch := (refine KR.mk ?_; kernel_rfl)) only [alg, obP_iff, condP_iff, retP_iff, retM_iff, ofNat_cast, nc, Int.toNat_natCast, decide_eq_true_eq, decide_eq_false_iff_not, wrap_w64, Bool.not_eq_true', Bool.not_eq_false', beq_iff_eq, beq_eq_false_iff_ne, AV.bool.injEq, AV.int.injEq, AV.t2.injEq, AV.t3.injEq, AV.own.injEq, List.cons.injEq, Prod.mk.injEq, Row.ints.injEq, RW, Row.nlen, scalar, imp_self, and_true, true_and, lexT, heldT, tailT, planT, nb, Int.toNat_zero, List.getD_cons_zero, List.getD_cons_succ, List.set_cons_zero, List.set_cons_succ, sp]
    simp only [wn, wm]
    simp [Wk_iff, fr, undefs, wkT, wkV, wkH, okid, Row.nlen, getO]
  · refine ⟨by omega, by simp, ?_⟩
    rw [hN, rep_snoc _ (by omega), app_set_eq _ _ _ _ _ (by simp)]; rfl
  · rintro m c out ⟨m1, hcm, ho⟩
    obtain ⟨o, hoo⟩ : ∃ o, o = laF n.toNat l g t m := ⟨_, rfl⟩
    have hp : o.length = m + 1 := by rw [hoo, laF_len]
    rw [← hoo] at ho
    have hol : out.length = n.toNat + 1 := by rw [ho]; simp [hp]; omega
    obtain ⟨L, hL⟩ : ∃ L : Int, L = l.length := ⟨_, rfl⟩
    have HC := Hd.mk hcm
    clear hcm
    cbv
    have hcm := HC.h
    try simp only [nc] at *
    refine condP.mk (fun hc => ?_) (fun hc => ?_)
    · have hk : 0 ≤ c := by
        (try simp only [nc] at *); subst hA hS; simp (disch := (refine KR.mk ?_; kernel_rfl)) only [alg, obP_iff, condP_iff, retP_iff, retM_iff, ofNat_cast, nc, Int.toNat_natCast, decide_eq_true_eq, decide_eq_false_iff_not, wrap_w64, Bool.not_eq_true', Bool.not_eq_false', beq_iff_eq, beq_eq_false_iff_ne, AV.bool.injEq, AV.int.injEq, AV.t2.injEq, AV.t3.injEq, AV.own.injEq, List.cons.injEq, Prod.mk.injEq, Row.ints.injEq, RW, Row.nlen, scalar, imp_self, and_true, true_and, lexT, heldT, tailT, planT, nb, Int.toNat_zero, List.getD_cons_zero, List.getD_cons_succ, List.set_cons_zero, List.set_cons_succ, sp] at hc
        exact hc
      have w1 : w64 (c + 1) = c + 1 := w64_id (by omega)
      have g0 : out.getD (c + 1).toNat 0 = o.getD 0 0 := by
        rw [ho, app_get_ge _ _ _ _ (by simp; omega)]
        congr 1
        simp; omega
      have gb : ∀ q : Int, 1 ≤ q → out.getD (c + q).toNat 0 = o.getD (q - 1).toNat 0 := by
        intro q hq
        rw [ho, app_get_ge _ _ _ _ (by simp; omega)]
        congr 1
        simp; omega
      refine obP.mk (by (try simp only [nc] at *); subst hA hS; simp (disch := (refine KR.mk ?_; kernel_rfl)) only [alg, obP_iff, condP_iff, retP_iff, retM_iff, ofNat_cast, nc, Int.toNat_natCast, decide_eq_true_eq, decide_eq_false_iff_not, wrap_w64, Bool.not_eq_true', Bool.not_eq_false', beq_iff_eq, beq_eq_false_iff_ne, AV.bool.injEq, AV.int.injEq, AV.t2.injEq, AV.t3.injEq, AV.own.injEq, List.cons.injEq, Prod.mk.injEq, Row.ints.injEq, RW, Row.nlen, scalar, imp_self, and_true, true_and, lexT, heldT, tailT, planT, nb, Int.toNat_zero, List.getD_cons_zero, List.getD_cons_succ, List.set_cons_zero, List.set_cons_succ, sp]; rw [w1]; omega) ?_
      refine loop2 (fun (j : Nat) (s : Int) => ⟨fr 66 [(1, .ro (.recs 3 l)), (2, .int .i64 g), (9, .own 1 false), (10, .int .i64 c), (11, .int .i64 s), (36, .ro (.recs 3 l)), (37, .int .i64 L), (38, .int .i64 j)], [.dead, .row 3 (.ints .i64 out)]⟩)
        (fun j s => j ≤ l.length ∧ l.foldl (laX o c g) (w64 (o.getD 0 0 - g)) = (l.drop j).foldl (laX o c g) s) (fun j _ => l.length - j) 0 (w64 (o.getD 0 0 - g)) ?_ ?_ ?_
      · (try simp only [nc] at *); subst hA hS; simp (disch := (refine KR.mk ?_; kernel_rfl)) only [alg, obP_iff, condP_iff, retP_iff, retM_iff, ofNat_cast, nc, Int.toNat_natCast, decide_eq_true_eq, decide_eq_false_iff_not, wrap_w64, Bool.not_eq_true', Bool.not_eq_false', beq_iff_eq, beq_eq_false_iff_ne, AV.bool.injEq, AV.int.injEq, AV.t2.injEq, AV.t3.injEq, AV.own.injEq, List.cons.injEq, Prod.mk.injEq, Row.ints.injEq, RW, Row.nlen, scalar, imp_self, and_true, true_and, lexT, heldT, tailT, planT, nb, Int.toNat_zero, List.getD_cons_zero, List.getD_cons_succ, List.set_cons_zero, List.set_cons_succ, sp]
        simp only [w1, g0]
        simp [Wk_iff, fr, undefs, wkT, wkV, wkH, okid, Row.nlen, getO, hL]
      · simp
      · rintro j s ⟨j1, j2⟩
        cbv
        (try simp only [nc] at *); subst hA hS hr hfr; simp (disch := (refine KR.mk ?_; kernel_rfl)) only [alg, obP_iff, condP_iff, retP_iff, retM_iff, ofNat_cast, nc, Int.toNat_natCast, decide_eq_true_eq, decide_eq_false_iff_not, wrap_w64, Bool.not_eq_true', Bool.not_eq_false', beq_iff_eq, beq_eq_false_iff_ne, AV.bool.injEq, AV.int.injEq, AV.t2.injEq, AV.t3.injEq, AV.own.injEq, List.cons.injEq, Prod.mk.injEq, Row.ints.injEq, RW, Row.nlen, scalar, imp_self, and_true, true_and, lexT, heldT, tailT, planT, nb, Int.toNat_zero, List.getD_cons_zero, List.getD_cons_succ, List.set_cons_zero, List.set_cons_succ, sp, sb]
        have wj : w64 ((j : Int) + 1) = ((j + 1 : Nat) : Int) := by rw [w64_id (by omega)]; omega
        have wc : w64 (c - 1) = c - 1 := w64_id (by omega)
        refine ⟨fun hj => ?_, fun hj => ?_⟩
        · have he := entB_iff ⟨n1, n2⟩ (allE_get hE (i := j) (by omega))
          refine ⟨by omega, fun hq => ?_, fun hq => ⟨j + 1, s, ?_, ⟨by omega, ?_⟩, by omega⟩⟩
          · have w2 : w64 (c + (l.getD j []).getD 1 0) = c + (l.getD j []).getD 1 0 := w64_id (by omega)
            refine ⟨by rw [w2]; omega, j + 1, laX o c g s (l.getD j []), ?_, ⟨by omega, ?_⟩, by omega⟩
            · simp only [laX, if_pos hq, wj, w2, gb _ he.2.2.1]
              simp [Wk_iff, fr, undefs, wkT, wkV, wkH, okid, Row.nlen, getO]
            · rw [j2, fold_drop [] _ _ _ _ (by omega)]
          · simp only [wj]
            simp [Wk_iff, fr, undefs, wkT, wkV, wkH, okid, Row.nlen, getO]
          · rw [j2, fold_drop [] _ _ _ _ (by omega), laX, if_neg hq]
        · have hs : l.foldl (laX o c g) (w64 (o.getD 0 0 - g)) = s := by rw [j2, fold_end _ _ _ _ (by omega)]
          refine ⟨by omega, m + 1, c - 1, out.set c.toNat s, ?_, ⟨by omega, by omega, ?_⟩, by omega⟩
          · simp only [wc]
            simp [Wk_iff, fr, undefs, wkT, wkV, wkH, okid, Row.nlen, getO]
          · have e : ((n.toNat : Int) - (m + 1 : Nat)) = c := by omega
            rw [laF, ← hoo, e, hs, ho, rep_snoc _ (by omega), List.append_assoc, List.singleton_append, app_set_eq _ _ _ _ _ (by simp; omega)]
            have e2 : n.toNat - m - 1 = n.toNat - (m + 1) := by omega
            rw [e2]
    · have hk : ¬ 0 ≤ c := by
        (try simp only [nc] at *); subst hA hS; simp (disch := (refine KR.mk ?_; kernel_rfl)) only [alg, obP_iff, condP_iff, retP_iff, retM_iff, ofNat_cast, nc, Int.toNat_natCast, decide_eq_true_eq, decide_eq_false_iff_not, wrap_w64, Bool.not_eq_true', Bool.not_eq_false', beq_iff_eq, beq_eq_false_iff_ne, AV.bool.injEq, AV.int.injEq, AV.t2.injEq, AV.t3.injEq, AV.own.injEq, List.cons.injEq, Prod.mk.injEq, Row.ints.injEq, RW, Row.nlen, scalar, imp_self, and_true, true_and, lexT, heldT, tailT, planT, nb, Int.toNat_zero, List.getD_cons_zero, List.getD_cons_succ, List.set_cons_zero, List.set_cons_succ, sp] at hc
        exact hc
      (try simp only [nc] at *); subst hA hS hr hfr; simp (disch := (refine KR.mk ?_; kernel_rfl)) only [alg, obP_iff, condP_iff, retP_iff, retM_iff, ofNat_cast, nc, Int.toNat_natCast, decide_eq_true_eq, decide_eq_false_iff_not, wrap_w64, Bool.not_eq_true', Bool.not_eq_false', beq_iff_eq, beq_eq_false_iff_ne, AV.bool.injEq, AV.int.injEq, AV.t2.injEq, AV.t3.injEq, AV.own.injEq, List.cons.injEq, Prod.mk.injEq, Row.ints.injEq, RW, Row.nlen, scalar, imp_self, and_true, true_and, lexT, heldT, tailT, planT, nb, Int.toNat_zero, List.getD_cons_zero, List.getD_cons_succ, List.set_cons_zero, List.set_cons_succ, sp]
      have e : n.toNat - m = 0 := by omega
      have e2 : m = n.toNat := by omega
      rw [ho, hoo, e, e2, laA]; simp

theorem latest_ok (n : Int) (l : List (List Int)) (g t : Int) (ht : tabB n l = true) : FC Try.prog 64 [.int .i64 n, .ro (.recs 3 l), .int .i64 g, .int .i64 t] (.own 0 true) [(3, .ints .i64 (laL n l g t))] := by
  refine fc_eval sp A3 A3_ok hT hm Try.func64 rfl (by kernel_rfl) rfl rfl ?_
  intro A S r0 fr0 hA hS hr hfr
  cbv
  obtain ⟨n1, n2, hl, hE⟩ := tabB_n ht
  have wn : w64 (n + 1) = n + 1 := w64_id (by omega)
  have wm : w64 (n - 1) = n - 1 := w64_id (by omega)
  have hN : (n + 1).toNat = n.toNat + 1 := by omega
  refine obP.mk (by (try simp only [nc] at *); subst hA hS; simp (disch := (refine KR.mk ?_; kernel_rfl)) only [alg, obP_iff, condP_iff, retP_iff, retM_iff, ofNat_cast, nc, Int.toNat_natCast, decide_eq_true_eq, decide_eq_false_iff_not, wrap_w64, Bool.not_eq_true', Bool.not_eq_false', beq_iff_eq, beq_eq_false_iff_ne, AV.bool.injEq, AV.int.injEq, AV.t2.injEq, AV.t3.injEq, AV.own.injEq, List.cons.injEq, Prod.mk.injEq, Row.ints.injEq, RW, Row.nlen, scalar, imp_self, and_true, true_and, lexT, heldT, tailT, planT, nb, Int.toNat_zero, List.getD_cons_zero, List.getD_cons_succ, List.set_cons_zero, List.set_cons_succ, sp]; rw [wn]; omega) (obP.mk (by (try simp only [nc] at *); subst hA hS; simp (disch := (refine KR.mk ?_; kernel_rfl)) only [alg, obP_iff, condP_iff, retP_iff, retM_iff, ofNat_cast, nc, Int.toNat_natCast, decide_eq_true_eq, decide_eq_false_iff_not, wrap_w64, Bool.not_eq_true', Bool.not_eq_false', beq_iff_eq, beq_eq_false_iff_ne, AV.bool.injEq, AV.int.injEq, AV.t2.injEq, AV.t3.injEq, AV.own.injEq, List.cons.injEq, Prod.mk.injEq, Row.ints.injEq, RW, Row.nlen, scalar, imp_self, and_true, true_and, lexT, heldT, tailT, planT, nb, Int.toNat_zero, List.getD_cons_zero, List.getD_cons_succ, List.set_cons_zero, List.set_cons_succ, sp]) (obP.mk (by (try simp only [nc] at *); subst hA hS; simp (disch := (refine KR.mk ?_; kernel_rfl)) only [alg, obP_iff, condP_iff, retP_iff, retM_iff, ofNat_cast, nc, Int.toNat_natCast, decide_eq_true_eq, decide_eq_false_iff_not, wrap_w64, Bool.not_eq_true', Bool.not_eq_false', beq_iff_eq, beq_eq_false_iff_ne, AV.bool.injEq, AV.int.injEq, AV.t2.injEq, AV.t3.injEq, AV.own.injEq, List.cons.injEq, Prod.mk.injEq, Row.ints.injEq, RW, Row.nlen, scalar, imp_self, and_true, true_and, lexT, heldT, tailT, planT, nb, Int.toNat_zero, List.getD_cons_zero, List.getD_cons_succ, List.set_cons_zero, List.set_cons_succ, sp]; rw [wn]; simp; omega) ?_))
  refine loop3 (fun (m : Nat) (c : Int) (out : List Int) => ⟨fr 70 [(1, .ro (.recs 3 l)), (2, .int .i64 g), (9, .own 1 false), (10, .int .i64 c)], [.dead, .row 3 (.ints .i64 out)]⟩)
    (fun m c out => m ≤ n.toNat - 1 ∧ c = n - 1 - m ∧ out = List.replicate (n.toNat - m) 0 ++ laF n.toNat l g t m) (fun m _ _ => n.toNat - m) 0 (n - 1) ((List.replicate (n + 1).toNat 0).set n.toNat (w64 (t + g))) ?_ ?_ ?_
  · (try simp only [nc] at *); subst hA hS; simp (disch := (refine KR.mk ?_; kernel_rfl)) only [alg, obP_iff, condP_iff, retP_iff, retM_iff, ofNat_cast, nc, Int.toNat_natCast, decide_eq_true_eq, decide_eq_false_iff_not, wrap_w64, Bool.not_eq_true', Bool.not_eq_false', beq_iff_eq, beq_eq_false_iff_ne, AV.bool.injEq, AV.int.injEq, AV.t2.injEq, AV.t3.injEq, AV.own.injEq, List.cons.injEq, Prod.mk.injEq, Row.ints.injEq, RW, Row.nlen, scalar, imp_self, and_true, true_and, lexT, heldT, tailT, planT, nb, Int.toNat_zero, List.getD_cons_zero, List.getD_cons_succ, List.set_cons_zero, List.set_cons_succ, sp]
    simp only [wn, wm]
    simp [Wk_iff, fr, undefs, wkT, wkV, wkH, okid, Row.nlen, getO]
  · refine ⟨by omega, by simp, ?_⟩
    rw [hN, rep_snoc _ (by omega), app_set_eq _ _ _ _ _ (by simp)]; rfl
  · rintro m c out ⟨m1, hcm, ho⟩
    obtain ⟨o, hoo⟩ : ∃ o, o = laF n.toNat l g t m := ⟨_, rfl⟩
    have hp : o.length = m + 1 := by rw [hoo, laF_len]
    rw [← hoo] at ho
    have hol : out.length = n.toNat + 1 := by rw [ho]; simp [hp]; omega
    obtain ⟨L, hL⟩ : ∃ L : Int, L = l.length := ⟨_, rfl⟩
    have HC := Hd.mk hcm
    clear hcm
    cbv
    have hcm := HC.h
    try simp only [nc] at *
    refine condP.mk (fun hc => ?_) (fun hc => ?_)
    · have hk : 0 < c := by
        (try simp only [nc] at *); subst hA hS; simp (disch := (refine KR.mk ?_; kernel_rfl)) only [alg, obP_iff, condP_iff, retP_iff, retM_iff, ofNat_cast, nc, Int.toNat_natCast, decide_eq_true_eq, decide_eq_false_iff_not, wrap_w64, Bool.not_eq_true', Bool.not_eq_false', beq_iff_eq, beq_eq_false_iff_ne, AV.bool.injEq, AV.int.injEq, AV.t2.injEq, AV.t3.injEq, AV.own.injEq, List.cons.injEq, Prod.mk.injEq, Row.ints.injEq, RW, Row.nlen, scalar, imp_self, and_true, true_and, lexT, heldT, tailT, planT, nb, Int.toNat_zero, List.getD_cons_zero, List.getD_cons_succ, List.set_cons_zero, List.set_cons_succ, sp] at hc
        exact hc
      have w1 : w64 (c + 1) = c + 1 := w64_id (by omega)
      have g0 : out.getD (c + 1).toNat 0 = o.getD 0 0 := by
        rw [ho, app_get_ge _ _ _ _ (by simp; omega)]
        congr 1
        simp; omega
      have ho2 : out = List.replicate c.toNat 0 ++ 0 :: o := by
        rw [ho, rep_snoc _ (by omega), List.append_assoc, List.singleton_append]
        have : n.toNat - m - 1 = c.toNat := by omega
        rw [this]
      refine obP.mk (by (try simp only [nc] at *); subst hA hS; simp (disch := (refine KR.mk ?_; kernel_rfl)) only [alg, obP_iff, condP_iff, retP_iff, retM_iff, ofNat_cast, nc, Int.toNat_natCast, decide_eq_true_eq, decide_eq_false_iff_not, wrap_w64, Bool.not_eq_true', Bool.not_eq_false', beq_iff_eq, beq_eq_false_iff_ne, AV.bool.injEq, AV.int.injEq, AV.t2.injEq, AV.t3.injEq, AV.own.injEq, List.cons.injEq, Prod.mk.injEq, Row.ints.injEq, RW, Row.nlen, scalar, imp_self, and_true, true_and, lexT, heldT, tailT, planT, nb, Int.toNat_zero, List.getD_cons_zero, List.getD_cons_succ, List.set_cons_zero, List.set_cons_succ, sp]; rw [w1]; omega) (obP.mk (by (try simp only [nc] at *); subst hA hS; simp (disch := (refine KR.mk ?_; kernel_rfl)) only [alg, obP_iff, condP_iff, retP_iff, retM_iff, ofNat_cast, nc, Int.toNat_natCast, decide_eq_true_eq, decide_eq_false_iff_not, wrap_w64, Bool.not_eq_true', Bool.not_eq_false', beq_iff_eq, beq_eq_false_iff_ne, AV.bool.injEq, AV.int.injEq, AV.t2.injEq, AV.t3.injEq, AV.own.injEq, List.cons.injEq, Prod.mk.injEq, Row.ints.injEq, RW, Row.nlen, scalar, imp_self, and_true, true_and, lexT, heldT, tailT, planT, nb, Int.toNat_zero, List.getD_cons_zero, List.getD_cons_succ, List.set_cons_zero, List.set_cons_succ, sp]; omega) ?_)
      refine loop3 (fun (j : Nat) (s : Int) (ou : List Int) => ⟨fr 70 [(1, .ro (.recs 3 l)), (2, .int .i64 g), (9, .own 1 false), (10, .int .i64 c), (38, .ro (.recs 3 l)), (39, .int .i64 L), (40, .int .i64 j)], [.dead, .row 3 (.ints .i64 ou)]⟩)
        (fun j s ou => j ≤ l.length ∧ ou = List.replicate c.toNat 0 ++ s :: o ∧ l.foldl (laX o c g) (w64 (o.getD 0 0 - g)) = (l.drop j).foldl (laX o c g) s) (fun j _ _ => l.length - j) 0 (w64 (o.getD 0 0 - g)) (out.set c.toNat (w64 (o.getD 0 0 - g))) ?_ ?_ ?_
      · (try simp only [nc] at *); subst hA hS; simp (disch := (refine KR.mk ?_; kernel_rfl)) only [alg, obP_iff, condP_iff, retP_iff, retM_iff, ofNat_cast, nc, Int.toNat_natCast, decide_eq_true_eq, decide_eq_false_iff_not, wrap_w64, Bool.not_eq_true', Bool.not_eq_false', beq_iff_eq, beq_eq_false_iff_ne, AV.bool.injEq, AV.int.injEq, AV.t2.injEq, AV.t3.injEq, AV.own.injEq, List.cons.injEq, Prod.mk.injEq, Row.ints.injEq, RW, Row.nlen, scalar, imp_self, and_true, true_and, lexT, heldT, tailT, planT, nb, Int.toNat_zero, List.getD_cons_zero, List.getD_cons_succ, List.set_cons_zero, List.set_cons_succ, sp]
        simp only [w1, g0]
        simp [Wk_iff, fr, undefs, wkT, wkV, wkH, okid, Row.nlen, getO, hL]
      · refine ⟨by omega, ?_, by simp⟩
        rw [ho2, app_set_eq _ _ _ _ _ (by simp)]
      · rintro j s ou ⟨j1, hou, j2⟩
        have oul : ou.length = n.toNat + 1 := by rw [hou]; simp [hp]; omega
        have g1 : ou.getD c.toNat 0 = s := by rw [hou, app_get_ge _ _ _ _ (by simp)]; simp
        have g2 : ∀ q : Int, 1 ≤ q → ou.getD (c + q).toNat 0 = o.getD (q - 1).toNat 0 := by
          intro q hq
          rw [hou, app_get_ge _ _ _ _ (by simp; omega)]
          have e : (c + q).toNat - (List.replicate c.toNat (0 : Int)).length = (q - 1).toNat + 1 := by simp; omega
          rw [e, List.getD_cons_succ]
        have g3 : ∀ v, ou.set c.toNat v = List.replicate c.toNat 0 ++ v :: o := fun v => by rw [hou, app_set_eq _ _ _ _ _ (by simp)]
        cbv
        (try simp only [nc] at *); subst hA hS hr hfr; simp (disch := (refine KR.mk ?_; kernel_rfl)) only [alg, obP_iff, condP_iff, retP_iff, retM_iff, ofNat_cast, nc, Int.toNat_natCast, decide_eq_true_eq, decide_eq_false_iff_not, wrap_w64, Bool.not_eq_true', Bool.not_eq_false', beq_iff_eq, beq_eq_false_iff_ne, AV.bool.injEq, AV.int.injEq, AV.t2.injEq, AV.t3.injEq, AV.own.injEq, List.cons.injEq, Prod.mk.injEq, Row.ints.injEq, RW, Row.nlen, scalar, imp_self, and_true, true_and, lexT, heldT, tailT, planT, nb, Int.toNat_zero, List.getD_cons_zero, List.getD_cons_succ, List.set_cons_zero, List.set_cons_succ, sp, sb]
        have wj : w64 ((j : Int) + 1) = ((j + 1 : Nat) : Int) := by rw [w64_id (by omega)]; omega
        have wc : w64 (c - 1) = c - 1 := w64_id (by omega)
        refine ⟨fun hj => ?_, fun hj => ?_⟩
        · have he := entB_iff ⟨n1, n2⟩ (allE_get hE (i := j) (by omega))
          refine ⟨by omega, fun hq => ?_, fun hq => ⟨j + 1, s, ou, ?_, ⟨by omega, hou, ?_⟩, by omega⟩⟩
          · have w2 : w64 (c + (l.getD j []).getD 1 0) = c + (l.getD j []).getD 1 0 := w64_id (by omega)
            refine ⟨by omega, by rw [w2]; omega, by omega, j + 1, laX o c g s (l.getD j []), ou.set c.toNat (laX o c g s (l.getD j [])), ?_, ⟨by omega, g3 _, ?_⟩, by omega⟩
            · simp only [laX, if_pos hq, wj, w2, g2 _ he.2.2.1, g1, minI]
              simp [Wk_iff, fr, undefs, wkT, wkV, wkH, okid, Row.nlen, getO]
            · rw [j2, fold_drop [] _ _ _ _ (by omega)]
          · simp only [wj]
            simp [Wk_iff, fr, undefs, wkT, wkV, wkH, okid, Row.nlen, getO]
          · rw [j2, fold_drop [] _ _ _ _ (by omega), laX, if_neg hq]
        · have hs : l.foldl (laX o c g) (w64 (o.getD 0 0 - g)) = s := by rw [j2, fold_end _ _ _ _ (by omega)]
          refine ⟨m + 1, c - 1, ou, ?_, ⟨by omega, by omega, ?_⟩, by omega⟩
          · simp only [wc]
            simp [Wk_iff, fr, undefs, wkT, wkV, wkH, okid, Row.nlen, getO]
          · have e : ((n.toNat : Int) - (m + 1 : Nat)) = c := by omega
            have e2 : n.toNat - (m + 1) = c.toNat := by omega
            rw [laF, ← hoo, e, hs, hou, e2]
    · have hk : ¬ 0 < c := by
        (try simp only [nc] at *); subst hA hS; simp (disch := (refine KR.mk ?_; kernel_rfl)) only [alg, obP_iff, condP_iff, retP_iff, retM_iff, ofNat_cast, nc, Int.toNat_natCast, decide_eq_true_eq, decide_eq_false_iff_not, wrap_w64, Bool.not_eq_true', Bool.not_eq_false', beq_iff_eq, beq_eq_false_iff_ne, AV.bool.injEq, AV.int.injEq, AV.t2.injEq, AV.t3.injEq, AV.own.injEq, List.cons.injEq, Prod.mk.injEq, Row.ints.injEq, RW, Row.nlen, scalar, imp_self, and_true, true_and, lexT, heldT, tailT, planT, nb, Int.toNat_zero, List.getD_cons_zero, List.getD_cons_succ, List.set_cons_zero, List.set_cons_succ, sp] at hc
        exact hc
      (try simp only [nc] at *); subst hA hS hr hfr; simp (disch := (refine KR.mk ?_; kernel_rfl)) only [alg, obP_iff, condP_iff, retP_iff, retM_iff, ofNat_cast, nc, Int.toNat_natCast, decide_eq_true_eq, decide_eq_false_iff_not, wrap_w64, Bool.not_eq_true', Bool.not_eq_false', beq_iff_eq, beq_eq_false_iff_ne, AV.bool.injEq, AV.int.injEq, AV.t2.injEq, AV.t3.injEq, AV.own.injEq, List.cons.injEq, Prod.mk.injEq, Row.ints.injEq, RW, Row.nlen, scalar, imp_self, and_true, true_and, lexT, heldT, tailT, planT, nb, Int.toNat_zero, List.getD_cons_zero, List.getD_cons_succ, List.set_cons_zero, List.set_cons_succ, sp]
      have e : n.toNat - m = 1 := by omega
      have e2 : m = n.toNat - 1 := by omega
      rw [ho, hoo, e, e2, laL]; simp
end Go.Proofs.Ytlfioonmofkpiaa
