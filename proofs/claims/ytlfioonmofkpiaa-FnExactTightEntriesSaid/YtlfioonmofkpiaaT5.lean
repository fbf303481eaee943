/-
  Tables: the rest of the functions that the laws compare.
-/
import Derived.Test.YtlfioonmofkpiaaT4
set_option linter.unusedSimpArgs false
set_option linter.unusedVariables false
namespace Go.Proofs.Ytlfioonmofkpiaa
open Go.Ab

theorem implEO_ok (n : Int) (l : List (List Int)) (c : Int) (hl : l.length ≤ 1048577) : FC Try.prog 29 [.int .i64 n, .ro (.recs 3 l), .int .i64 c] (.t2 (.own 0 true) (.bool (eoB n l c))) [(3, .ints .i64 (eoL n l c))] := by
  refine fc_eval sp A6 A6_ok hT hm Try.func29 rfl (by kernel_rfl) rfl rfl ?_
  intro A S r0 fr0 hA hS hr hfr
  cbv
  repeat refine obP.mk (by subst hA hS; first | assumption | trivial | exact fun _ => trivial | exact fun h => h | exact fun _ => ‹_› | (simp [alg, sp, sb])) ?_
  refine condP.mk (fun hc => ?_) (fun hc => ?_)
  · have hf : (!(tabB n l) || !(inR c 0 (w64 (n - 1)))) = true := by subst hA hS; exact hc
    rw [nb, Bool.not_eq_true'] at hf
    have hb : eoB n l c = false := hf
    (try simp only [nc] at *); subst hA hS hr hfr; simp (disch := (refine KR.mk ?_; kernel_rfl)) only [alg, obP_iff, condP_iff, retP_iff, retM_iff, ofNat_cast, nc, Int.toNat_natCast, decide_eq_true_eq, decide_eq_false_iff_not, wrap_w64, Bool.not_eq_true', Bool.not_eq_false', beq_iff_eq, beq_eq_false_iff_ne, AV.bool.injEq, AV.int.injEq, AV.t2.injEq, AV.t3.injEq, AV.own.injEq, List.cons.injEq, Prod.mk.injEq, Row.ints.injEq, RW, Row.nlen, scalar, imp_self, and_true, true_and, lexT, heldT, tailT, planT, nb, Int.toNat_zero, List.getD_cons_zero, List.getD_cons_succ, List.set_cons_zero, List.set_cons_succ, sp, sb]
    simp [hb, eoL]
  · have hf : (!(tabB n l) || !(inR c 0 (w64 (n - 1)))) = false := by subst hA hS; exact hc
    rw [nb, Bool.not_eq_false'] at hf
    have hb : eoB n l c = true := hf
    have hv : eoL n l c = idxF (overB c) l 0 := by rw [eoL, if_pos hb]
    have ht := tabB_n (Bool.and_eq_true _ _ ▸ hf).1
    obtain ⟨L, hL⟩ : ∃ L : Int, L = l.length := ⟨_, rfl⟩
    refine loop2 (fun (i : Nat) (out : List Int) => ⟨fr 47 [(2, .int .i64 c), (8, .own 1 true), (24, .ro (.recs 3 l)), (25, .int .i64 L), (26, .int .i64 i)], [.dead, .row 3 (.ints .i64 out)]⟩)
      (fun i out => i ≤ l.length ∧ out.length ≤ i ∧ idxF (overB c) l 0 = out ++ idxF (overB c) (l.drop i) i) (fun i _ => l.length - i) 0 [] ?_ ?_ ?_
    · subst hA hS; simp [Wk_iff, fr, undefs, wkT, wkV, wkH, okid, Row.nlen, getO, alg, hL]
    · simp
    · rintro i out ⟨h1, h2, h3⟩
      cbv
      (try simp only [nc] at *); subst hA hS hr hfr; simp (disch := (refine KR.mk ?_; kernel_rfl)) only [alg, obP_iff, condP_iff, retP_iff, retM_iff, ofNat_cast, nc, Int.toNat_natCast, decide_eq_true_eq, decide_eq_false_iff_not, wrap_w64, Bool.not_eq_true', Bool.not_eq_false', beq_iff_eq, beq_eq_false_iff_ne, AV.bool.injEq, AV.int.injEq, AV.t2.injEq, AV.t3.injEq, AV.own.injEq, List.cons.injEq, Prod.mk.injEq, Row.ints.injEq, RW, Row.nlen, scalar, imp_self, and_true, true_and, lexT, heldT, tailT, planT, nb, Int.toNat_zero, List.getD_cons_zero, List.getD_cons_succ, List.set_cons_zero, List.set_cons_succ, sp, sb]
      refine ⟨fun hi => ⟨by omega, fun hn => ⟨by omega, by simp, i + 1, out ++ [(i : Int)], ?_, ⟨by omega, by simp; omega, ?_⟩, by omega⟩, fun hn => ⟨i + 1, out, ?_, ⟨by omega, by omega, ?_⟩, by omega⟩⟩, fun hi => ?_⟩
      · simp [Wk_iff, fr, undefs, wkT, wkV, wkH, okid, Row.nlen, w64_eq, getO]; try omega
      · rw [h3, idxF_drop _ _ _ _ (by omega)]
        have : overB c (l.getD i []) = true := hn
        rw [this]; simp
      · simp [Wk_iff, fr, undefs, wkT, wkV, wkH, okid, Row.nlen, w64_eq, getO]; try omega
      · rw [h3, idxF_drop _ _ _ _ (by omega)]
        have : overB c (l.getD i []) = false := hn
        rw [this]; simp
      · have h4 : idxF (overB c) l 0 = out := by rw [h3, List.drop_of_length_le (by omega)]; simp [idxF]
        rw [eoL, if_pos hb, h4, hb]
        exact ⟨rfl, rfl⟩
theorem specEO_ok (n : Int) (l : List (List Int)) (c : Int) (hl : l.length ≤ 1048577) : FC Try.prog 28 [.int .i64 n, .ro (.recs 3 l), .int .i64 c] (.t2 (.own 0 true) (.bool (eoB n l c))) [(3, .ints .i64 (eoL n l c))] := by
  refine fc_eval sp A6 A6_ok hT hm Try.func28 rfl (by kernel_rfl) rfl rfl ?_
  intro A S r0 fr0 hA hS hr hfr
  cbv
  repeat refine obP.mk (by subst hA hS; first | assumption | trivial | exact fun _ => trivial | exact fun h => h | exact fun _ => ‹_› | (simp [alg, sp, sb])) ?_
  refine condP.mk (fun hc => ?_) (fun hc => ?_)
  · have hf : (!(tabB n l) || !(inR c 0 (w64 (n - 1)))) = true := by subst hA hS; exact hc
    rw [nb, Bool.not_eq_true'] at hf
    have hb : eoB n l c = false := hf
    (try simp only [nc] at *); subst hA hS hr hfr; simp (disch := (refine KR.mk ?_; kernel_rfl)) only [alg, obP_iff, condP_iff, retP_iff, retM_iff, ofNat_cast, nc, Int.toNat_natCast, decide_eq_true_eq, decide_eq_false_iff_not, wrap_w64, Bool.not_eq_true', Bool.not_eq_false', beq_iff_eq, beq_eq_false_iff_ne, AV.bool.injEq, AV.int.injEq, AV.t2.injEq, AV.t3.injEq, AV.own.injEq, List.cons.injEq, Prod.mk.injEq, Row.ints.injEq, RW, Row.nlen, scalar, imp_self, and_true, true_and, lexT, heldT, tailT, planT, nb, Int.toNat_zero, List.getD_cons_zero, List.getD_cons_succ, List.set_cons_zero, List.set_cons_succ, sp, sb]
    simp [hb, eoL]
  · have hf : (!(tabB n l) || !(inR c 0 (w64 (n - 1)))) = false := by subst hA hS; exact hc
    rw [nb, Bool.not_eq_false'] at hf
    have hb : eoB n l c = true := hf
    have hv : eoL n l c = idxF (overB c) l 0 := by rw [eoL, if_pos hb]
    have ht := tabB_n (Bool.and_eq_true _ _ ▸ hf).1
    obtain ⟨L, hL⟩ : ∃ L : Int, L = l.length := ⟨_, rfl⟩
    refine loop2 (fun (i : Nat) (out : List Int) => ⟨fr 45 [(2, .int .i64 c), (8, .own 1 true), (22, .ro (.recs 3 l)), (23, .int .i64 L), (24, .int .i64 i)], [.dead, .row 3 (.ints .i64 out)]⟩)
      (fun i out => i ≤ l.length ∧ out.length ≤ i ∧ idxF (overB c) l 0 = out ++ idxF (overB c) (l.drop i) i) (fun i _ => l.length - i) 0 [] ?_ ?_ ?_
    · subst hA hS; simp [Wk_iff, fr, undefs, wkT, wkV, wkH, okid, Row.nlen, getO, alg, hL]
    · simp
    · rintro i out ⟨h1, h2, h3⟩
      cbv
      (try simp only [nc] at *); subst hA hS hr hfr; simp (disch := (refine KR.mk ?_; kernel_rfl)) only [alg, obP_iff, condP_iff, retP_iff, retM_iff, ofNat_cast, nc, Int.toNat_natCast, decide_eq_true_eq, decide_eq_false_iff_not, wrap_w64, Bool.not_eq_true', Bool.not_eq_false', beq_iff_eq, beq_eq_false_iff_ne, AV.bool.injEq, AV.int.injEq, AV.t2.injEq, AV.t3.injEq, AV.own.injEq, List.cons.injEq, Prod.mk.injEq, Row.ints.injEq, RW, Row.nlen, scalar, imp_self, and_true, true_and, lexT, heldT, tailT, planT, nb, Int.toNat_zero, List.getD_cons_zero, List.getD_cons_succ, List.set_cons_zero, List.set_cons_succ, sp, sb]
      refine ⟨fun hi => ⟨by omega, fun hn => ⟨by omega, by simp, i + 1, out ++ [(i : Int)], ?_, ⟨by omega, by simp; omega, ?_⟩, by omega⟩, fun hn => ⟨i + 1, out, ?_, ⟨by omega, by omega, ?_⟩, by omega⟩⟩, fun hi => ?_⟩
      · simp [Wk_iff, fr, undefs, wkT, wkV, wkH, okid, Row.nlen, w64_eq, getO]; try omega
      · rw [h3, idxF_drop _ _ _ _ (by omega)]
        have : overB c (l.getD i []) = true := hn
        rw [this]; simp
      · simp [Wk_iff, fr, undefs, wkT, wkV, wkH, okid, Row.nlen, w64_eq, getO]; try omega
      · rw [h3, idxF_drop _ _ _ _ (by omega)]
        have : overB c (l.getD i []) = false := hn
        rw [this]; simp
      · have h4 : idxF (overB c) l 0 = out := by rw [h3, List.drop_of_length_le (by omega)]; simp [idxF]
        rw [eoL, if_pos hb, h4, hb]
        exact ⟨rfl, rfl⟩
theorem implTE_ok (n : Int) (l : List (List Int)) (g : Int) (hl : l.length ≤ 1048577) : FC Try.prog 44 [.int .i64 n, .ro (.recs 3 l), .int .i64 g] (.t2 (.own 0 true) (.bool (gapB n l g))) [(3, .ints .i64 (tiL n l g))] := by
  refine fc_eval sp A6 A6_ok hT hm Try.func44 rfl (by kernel_rfl) rfl rfl ?_
  intro A S r0 fr0 hA hS hr hfr
  cbv
  repeat refine obP.mk (by subst hA hS; first | assumption | trivial | exact fun _ => trivial | exact fun h => h | exact fun _ => ‹_› | (simp [alg, sp, sb])) ?_
  refine condP.mk (fun hc => ?_) (fun hc => ?_)
  · have hf : (!(gapB n l g)) = true := by subst hA hS; exact hc
    rw [Bool.not_eq_true'] at hf
    (try simp only [nc] at *); subst hA hS hr hfr; simp (disch := (refine KR.mk ?_; kernel_rfl)) only [alg, obP_iff, condP_iff, retP_iff, retM_iff, ofNat_cast, nc, Int.toNat_natCast, decide_eq_true_eq, decide_eq_false_iff_not, wrap_w64, Bool.not_eq_true', Bool.not_eq_false', beq_iff_eq, beq_eq_false_iff_ne, AV.bool.injEq, AV.int.injEq, AV.t2.injEq, AV.t3.injEq, AV.own.injEq, List.cons.injEq, Prod.mk.injEq, Row.ints.injEq, RW, Row.nlen, scalar, imp_self, and_true, true_and, lexT, heldT, tailT, planT, nb, Int.toNat_zero, List.getD_cons_zero, List.getD_cons_succ, List.set_cons_zero, List.set_cons_succ, sp, sb]
    simp [hf, tiL]
  · have hf : (!(gapB n l g)) = false := by subst hA hS; exact hc
    rw [Bool.not_eq_false'] at hf
    have hv : tiL n l g = idxF (fun x => decide (room n l g x = 0)) l 0 := by rw [tiL, if_pos hf]
    obtain ⟨p, hp⟩ : ∃ p : List Int → Bool, p = fun x => decide (room n l g x = 0) := ⟨_, rfl⟩
    rw [← hp] at hv
    have ht := tabB_n (gapB_tab hf)
    obtain ⟨L, hL⟩ : ∃ L : Int, L = l.length := ⟨_, rfl⟩
    refine loop2 (fun (i : Nat) (out : List Int) => ⟨fr 37 [(0, .int .i64 n), (1, .ro (.recs 3 l)), (2, .int .i64 g), (8, .own 1 true), (18, .ro (.recs 3 l)), (19, .int .i64 L), (20, .int .i64 i)], [.dead, .row 3 (.ints .i64 out)]⟩)
      (fun i out => i ≤ l.length ∧ out.length ≤ i ∧ idxF p l 0 = out ++ idxF p (l.drop i) i) (fun i _ => l.length - i) 0 [] ?_ ?_ ?_
    · subst hA hS; simp [Wk_iff, fr, undefs, wkT, wkV, wkH, okid, Row.nlen, getO, alg, hL]
    · simp
    · rintro i out ⟨h1, h2, h3⟩
      cbv
      (try simp only [nc] at *); subst hA hS hr hfr; simp (disch := (refine KR.mk ?_; kernel_rfl)) only [alg, obP_iff, condP_iff, retP_iff, retM_iff, ofNat_cast, nc, Int.toNat_natCast, decide_eq_true_eq, decide_eq_false_iff_not, wrap_w64, Bool.not_eq_true', Bool.not_eq_false', beq_iff_eq, beq_eq_false_iff_ne, AV.bool.injEq, AV.int.injEq, AV.t2.injEq, AV.t3.injEq, AV.own.injEq, List.cons.injEq, Prod.mk.injEq, Row.ints.injEq, RW, Row.nlen, scalar, imp_self, and_true, true_and, lexT, heldT, tailT, planT, nb, Int.toNat_zero, List.getD_cons_zero, List.getD_cons_succ, List.set_cons_zero, List.set_cons_succ, sp, sb]
      have hpi : p (l.getD i []) = decide (room n l g (l.getD i []) = 0) := by rw [hp]
      refine ⟨fun hi => ⟨by omega, ⟨gapB_tab hf, allE_get ht.2.2.2 (by omega)⟩, fun hn => ⟨by omega, by simp, i + 1, out ++ [(i : Int)], ?_, ⟨by omega, by simp; omega, ?_⟩, by omega⟩, fun hn => ⟨i + 1, out, ?_, ⟨by omega, by omega, ?_⟩, by omega⟩⟩, fun hi => ?_⟩
      · simp [Wk_iff, fr, undefs, wkT, wkV, wkH, okid, Row.nlen, w64_eq, getO]; try omega
      · rw [h3, idxF_drop _ _ _ _ (by omega), hpi, decide_eq_true hn]
        simp
      · simp [Wk_iff, fr, undefs, wkT, wkV, wkH, okid, Row.nlen, w64_eq, getO]; try omega
      · rw [h3, idxF_drop _ _ _ _ (by omega), hpi, decide_eq_false hn]
        simp
      · have h4 : idxF p l 0 = out := by rw [h3, List.drop_of_length_le (by omega)]; simp [idxF]
        rw [hv, h4, hf]
        exact ⟨rfl, rfl⟩
theorem specTE_ok (n : Int) (l : List (List Int)) (g : Int) (hl : l.length ≤ 1048577) : FC Try.prog 43 [.int .i64 n, .ro (.recs 3 l), .int .i64 g] (.t2 (.own 0 true) (.bool (gapB n l g))) [(3, .ints .i64 (tiL n l g))] := by
  refine fc_eval sp A6 A6_ok hT hm Try.func43 rfl (by kernel_rfl) rfl rfl ?_
  intro A S r0 fr0 hA hS hr hfr
  cbv
  repeat refine obP.mk (by subst hA hS; first | assumption | trivial | exact fun _ => trivial | exact fun h => h | exact fun _ => ‹_› | (simp [alg, sp, sb])) ?_
  refine condP.mk (fun hc => ?_) (fun hc => ?_)
  · have hf : (!(gapB n l g)) = true := by subst hA hS; exact hc
    rw [Bool.not_eq_true'] at hf
    (try simp only [nc] at *); subst hA hS hr hfr; simp (disch := (refine KR.mk ?_; kernel_rfl)) only [alg, obP_iff, condP_iff, retP_iff, retM_iff, ofNat_cast, nc, Int.toNat_natCast, decide_eq_true_eq, decide_eq_false_iff_not, wrap_w64, Bool.not_eq_true', Bool.not_eq_false', beq_iff_eq, beq_eq_false_iff_ne, AV.bool.injEq, AV.int.injEq, AV.t2.injEq, AV.t3.injEq, AV.own.injEq, List.cons.injEq, Prod.mk.injEq, Row.ints.injEq, RW, Row.nlen, scalar, imp_self, and_true, true_and, lexT, heldT, tailT, planT, nb, Int.toNat_zero, List.getD_cons_zero, List.getD_cons_succ, List.set_cons_zero, List.set_cons_succ, sp, sb]
    simp [hf, tiL]
  · have hf : (!(gapB n l g)) = false := by subst hA hS; exact hc
    rw [Bool.not_eq_false'] at hf
    have hv : tiL n l g = idxF (fun x => decide (room n l g x = 0)) l 0 := by rw [tiL, if_pos hf]
    obtain ⟨p, hp⟩ : ∃ p : List Int → Bool, p = fun x => decide (room n l g x = 0) := ⟨_, rfl⟩
    rw [← hp] at hv
    have ht := tabB_n (gapB_tab hf)
    obtain ⟨L, hL⟩ : ∃ L : Int, L = l.length := ⟨_, rfl⟩
    refine loop2 (fun (i : Nat) (out : List Int) => ⟨fr 32 [(0, .int .i64 n), (1, .ro (.recs 3 l)), (2, .int .i64 g), (8, .own 1 true), (16, .int .i64 L), (17, .int .i64 i)], [.dead, .row 3 (.ints .i64 out)]⟩)
      (fun i out => i ≤ l.length ∧ out.length ≤ i ∧ idxF p l 0 = out ++ idxF p (l.drop i) i) (fun i _ => l.length - i) 0 [] ?_ ?_ ?_
    · subst hA hS; simp [Wk_iff, fr, undefs, wkT, wkV, wkH, okid, Row.nlen, getO, alg, hL]
    · simp
    · rintro i out ⟨h1, h2, h3⟩
      cbv
      (try simp only [nc] at *); subst hA hS hr hfr; simp (disch := (refine KR.mk ?_; kernel_rfl)) only [alg, obP_iff, condP_iff, retP_iff, retM_iff, ofNat_cast, nc, Int.toNat_natCast, decide_eq_true_eq, decide_eq_false_iff_not, wrap_w64, Bool.not_eq_true', Bool.not_eq_false', beq_iff_eq, beq_eq_false_iff_ne, AV.bool.injEq, AV.int.injEq, AV.t2.injEq, AV.t3.injEq, AV.own.injEq, List.cons.injEq, Prod.mk.injEq, Row.ints.injEq, RW, Row.nlen, scalar, imp_self, and_true, true_and, lexT, heldT, tailT, planT, nb, Int.toNat_zero, List.getD_cons_zero, List.getD_cons_succ, List.set_cons_zero, List.set_cons_succ, sp, sb]
      have hpi : p (l.getD i []) = decide (room n l g (l.getD i []) = 0) := by rw [hp]
      refine ⟨fun hi => ⟨⟨gapB_tab hf, by omega⟩, fun hn => ⟨by omega, by simp, i + 1, out ++ [(i : Int)], ?_, ⟨by omega, by simp; omega, ?_⟩, by omega⟩, fun hn => ⟨i + 1, out, ?_, ⟨by omega, by omega, ?_⟩, by omega⟩⟩, fun hi => ?_⟩
      · simp [Wk_iff, fr, undefs, wkT, wkV, wkH, okid, Row.nlen, w64_eq, getO]; try omega
      · rw [h3, idxF_drop _ _ _ _ (by omega), hpi, decide_eq_true hn]
        simp
      · simp [Wk_iff, fr, undefs, wkT, wkV, wkH, okid, Row.nlen, w64_eq, getO]; try omega
      · rw [h3, idxF_drop _ _ _ _ (by omega), hpi, decide_eq_false hn]
        simp
      · have h4 : idxF p l 0 = out := by rw [h3, List.drop_of_length_le (by omega)]; simp [idxF]
        rw [hv, h4, hf]
        exact ⟨rfl, rfl⟩
theorem implSpread_ok (n : Int) (l : List (List Int)) (g t : Int) (hl : l.length ≤ 1048577) : FC Try.prog 40 [.int .i64 n, .ro (.recs 3 l), .int .i64 g, .int .i64 t] (.t2 (.own 0 true) (.bool (totB n l g t))) [(3, .ints .i64 (spR n l g t))] := by
  refine fc_eval sp A6 A6_ok hT hm Try.func40 rfl (by kernel_rfl) rfl rfl ?_
  intro A S r0 fr0 hA hS hr hfr
  cbv
  repeat refine obP.mk (by subst hA hS; first | assumption | trivial | exact fun _ => trivial | exact fun h => h | exact fun _ => ‹_› | (simp [alg, sp, sb])) ?_
  refine condP.mk (fun hc => ?_) (fun hc => ?_)
  · have hf : (!(totB n l g t)) = true := by subst hA hS; exact hc
    rw [Bool.not_eq_true'] at hf
    (try simp only [nc] at *); subst hA hS hr hfr; simp (disch := (refine KR.mk ?_; kernel_rfl)) only [alg, obP_iff, condP_iff, retP_iff, retM_iff, ofNat_cast, nc, Int.toNat_natCast, decide_eq_true_eq, decide_eq_false_iff_not, wrap_w64, Bool.not_eq_true', Bool.not_eq_false', beq_iff_eq, beq_eq_false_iff_ne, AV.bool.injEq, AV.int.injEq, AV.t2.injEq, AV.t3.injEq, AV.own.injEq, List.cons.injEq, Prod.mk.injEq, Row.ints.injEq, RW, Row.nlen, scalar, imp_self, and_true, true_and, lexT, heldT, tailT, planT, nb, Int.toNat_zero, List.getD_cons_zero, List.getD_cons_succ, List.set_cons_zero, List.set_cons_succ, sp, sb]
    simp [hf, spR]
  · have hf : (!(totB n l g t)) = false := by subst hA hS; exact hc
    rw [Bool.not_eq_false'] at hf
    have ht := tabB_n (totB_tab hf)
    have htb := totB_tab hf
    refine obP.mk (by subst hA hS; exact htb) (obP.mk (by subst hA hS; exact htb) ?_)
    obtain ⟨ww, hww⟩ : ∃ ww, ww = S.cwL n l g := ⟨_, rfl⟩
    have hww' : ww = cwL n l g := by rw [hww, hS]; rfl
    have hwl : ww.length = n.toNat := by rw [hww', cwL_len]
    obtain ⟨m, hm⟩ : ∃ m, m = w64 (t - wdV n l g) := ⟨_, rfl⟩
    have hv : spR n l g t = (List.range n.toNat).map fun c => spC n m (ww.getD c 0) c := by rw [spR, if_pos hf, spT, hm, hww']
    obtain ⟨L, hL⟩ : ∃ L : Int, L = ww.length := ⟨_, rfl⟩
    refine loop2 (fun (k : Nat) (out : List Int) => ⟨fr 57 [(0, .int .i64 n), (10, .int .i64 m), (11, .own 1 true), (31, .int .i64 L), (32, .int .i64 k)], [.dead, .row 3 (.ints .i64 out)]⟩)
      (fun k out => k ≤ n.toNat ∧ out = ((List.range k).map fun c => spC n m (ww.getD c 0) c) ++ ww.drop k) (fun k _ => n.toNat - k) 0 ww ?_ ?_ ?_
    · (try simp only [nc] at *); subst hA hS; simp (disch := (refine KR.mk ?_; kernel_rfl)) only [alg, obP_iff, condP_iff, retP_iff, retM_iff, ofNat_cast, nc, Int.toNat_natCast, decide_eq_true_eq, decide_eq_false_iff_not, wrap_w64, Bool.not_eq_true', Bool.not_eq_false', beq_iff_eq, beq_eq_false_iff_ne, AV.bool.injEq, AV.int.injEq, AV.t2.injEq, AV.t3.injEq, AV.own.injEq, List.cons.injEq, Prod.mk.injEq, Row.ints.injEq, RW, Row.nlen, scalar, imp_self, and_true, true_and, lexT, heldT, tailT, planT, nb, Int.toNat_zero, List.getD_cons_zero, List.getD_cons_succ, List.set_cons_zero, List.set_cons_succ, sp]
      rw [hm, hL, hww']
      simp [Wk_iff, fr, undefs, wkT, wkV, wkH, okid, Row.nlen, getO]
    · simp
    · rintro k out ⟨k1, ho⟩
      have hol : out.length = n.toNat := by rw [ho]; simp [hwl]; omega
      cbv
      (try simp only [nc] at *); subst hA hS hr hfr; simp (disch := (refine KR.mk ?_; kernel_rfl)) only [alg, obP_iff, condP_iff, retP_iff, retM_iff, ofNat_cast, nc, Int.toNat_natCast, decide_eq_true_eq, decide_eq_false_iff_not, wrap_w64, Bool.not_eq_true', Bool.not_eq_false', beq_iff_eq, beq_eq_false_iff_ne, AV.bool.injEq, AV.int.injEq, AV.t2.injEq, AV.t3.injEq, AV.own.injEq, List.cons.injEq, Prod.mk.injEq, Row.ints.injEq, RW, Row.nlen, scalar, imp_self, and_true, true_and, lexT, heldT, tailT, planT, nb, Int.toNat_zero, List.getD_cons_zero, List.getD_cons_succ, List.set_cons_zero, List.set_cons_succ, sp, sb]
      have wk : w64 ((k : Int) + 1) = ((k + 1 : Nat) : Int) := by rw [w64_id (by omega)]; omega
      refine ⟨fun hk => ?_, fun hk => ?_⟩
      · have g1 : out.getD k 0 = ww.getD k 0 := by
          rw [ho, app_get_ge _ _ _ _ (by simp)]; simp
        have hd : ww.drop k = ww.getD k 0 :: ww.drop (k + 1) := drop_getD 0 ww k (by omega)
        have g2 : ∀ v, out.set k v = ((List.range k).map fun c => spC n m (ww.getD c 0) c) ++ v :: ww.drop (k + 1) := fun v => by
          rw [ho, hd, app_set_eq _ _ _ _ _ (by simp)]
        have g3 : ∀ v, (out.set k v).getD k 0 = v := fun v => getD_set_eq _ _ _ _ (by omega)
        have hr : ∀ v, v = spC n m (ww.getD k 0) k → out.set k v = ((List.range (k + 1)).map fun c => spC n m (ww.getD c 0) c) ++ ww.drop (k + 1) := fun v hv => by
          rw [g2, range_snoc, hv]; simp
        simp only [g1, g3, List.set_set, List.length_set, wk]
        refine ⟨by omega, by omega, by omega, by omega, fun hq => ⟨by omega, by omega, k + 1, out.set k (spC n m (ww.getD k 0) k), ?_, ⟨by omega, hr _ rfl⟩, by omega⟩, fun hq => ⟨k + 1, out.set k (spC n m (ww.getD k 0) k), ?_, ⟨by omega, hr _ rfl⟩, by omega⟩⟩
        · simp only [spC, if_pos hq]
          simp [Wk_iff, fr, undefs, wkT, wkV, wkH, okid, Row.nlen, getO]
        · simp only [spC, if_neg hq]
          simp [Wk_iff, fr, undefs, wkT, wkV, wkH, okid, Row.nlen, getO]
      · rw [hv, hf, ho]
        have : k = n.toNat := by omega
        rw [this, List.drop_of_length_le (by omega)]; simp
set_option maxRecDepth 100000 in
theorem specSpread_ok (n : Int) (l : List (List Int)) (g t : Int) (hl : l.length ≤ 1048577) : FC Try.prog 39 [.int .i64 n, .ro (.recs 3 l), .int .i64 g, .int .i64 t] (.t2 (.own 0 true) (.bool (totB n l g t))) [(3, .ints .i64 (spR n l g t))] := by
  refine fc_eval sp A6 A6_ok hT hm Try.func39 rfl (by kernel_rfl) rfl rfl ?_
  intro A S r0 fr0 hA hS hr hfr
  cbv
  have h0 : (!(!(gapB n l g) || !(inR t 0 5000))) = true → tabB n l = true := by
    intro h
    rw [nb, Bool.not_not] at h
    simp only [Bool.and_eq_true] at h
    exact gapB_tab h.1
  repeat refine obP.mk (by subst hA hS; first | exact hl | exact fun _ => trivial | exact fun h => h | exact h0) ?_
  refine condP.mk (fun hc => ?_) (fun hc => ?_)
  · have hf : (!(totB n l g t)) = true := by
      rw [← totB_or, ← nb]; subst hA hS; exact hc
    rw [Bool.not_eq_true'] at hf
    (try simp only [nc] at *); subst hA hS hr hfr; simp (disch := (refine KR.mk ?_; kernel_rfl)) only [alg, obP_iff, condP_iff, retP_iff, retM_iff, ofNat_cast, nc, Int.toNat_natCast, decide_eq_true_eq, decide_eq_false_iff_not, wrap_w64, Bool.not_eq_true', Bool.not_eq_false', beq_iff_eq, beq_eq_false_iff_ne, AV.bool.injEq, AV.int.injEq, AV.t2.injEq, AV.t3.injEq, AV.own.injEq, List.cons.injEq, Prod.mk.injEq, Row.ints.injEq, RW, Row.nlen, scalar, imp_self, and_true, true_and, lexT, heldT, tailT, planT, nb, Int.toNat_zero, List.getD_cons_zero, List.getD_cons_succ, List.set_cons_zero, List.set_cons_succ, sp, sb]
    simp [hf, spR]
  · have hf : (!(totB n l g t)) = false := by
      rw [← totB_or, ← nb]; subst hA hS; exact hc
    rw [Bool.not_eq_false'] at hf
    have ht := tabB_n (totB_tab hf)
    have htb := totB_tab hf
    have hsl := stL_len n l g
    refine obP.mk (by subst hA hS; exact htb) (obP.mk (by (try simp only [nc] at *); subst hA hS; simp (disch := (refine KR.mk ?_; kernel_rfl)) only [alg, obP_iff, condP_iff, retP_iff, retM_iff, ofNat_cast, nc, Int.toNat_natCast, decide_eq_true_eq, decide_eq_false_iff_not, wrap_w64, Bool.not_eq_true', Bool.not_eq_false', beq_iff_eq, beq_eq_false_iff_ne, AV.bool.injEq, AV.int.injEq, AV.t2.injEq, AV.t3.injEq, AV.own.injEq, List.cons.injEq, Prod.mk.injEq, Row.ints.injEq, RW, Row.nlen, scalar, imp_self, and_true, true_and, lexT, heldT, tailT, planT, nb, Int.toNat_zero, List.getD_cons_zero, List.getD_cons_succ, List.set_cons_zero, List.set_cons_succ, sp, sb]; omega) (obP.mk (by subst hA hS; exact htb) ?_))
    obtain ⟨ww, hww⟩ : ∃ ww, ww = S.cwOf (S.stL n l g) g := ⟨_, rfl⟩
    have hww' : ww = cwL n l g := by rw [hww, hS]; rfl
    have hwl : ww.length = n.toNat := by rw [hww', cwL_len]
    obtain ⟨m, hm⟩ : ∃ m, m = w64 (t - wdV n l g) := ⟨_, rfl⟩
    have hv : spR n l g t = (List.range n.toNat).map fun c => spC n m (ww.getD c 0) c := by rw [spR, if_pos hf, spT, hm, hww']
    obtain ⟨L, hL⟩ : ∃ L : Int, L = ww.length := ⟨_, rfl⟩
    refine loop2 (fun (k : Nat) (out : List Int) => ⟨fr 70 [(0, .int .i64 n), (10, .own 2 true), (11, .int .i64 m), (44, .int .i64 L), (45, .int .i64 k)], [.dead, .dead, .row 3 (.ints .i64 out)]⟩)
      (fun k out => k ≤ n.toNat ∧ out = ((List.range k).map fun c => spC n m (ww.getD c 0) c) ++ ww.drop k) (fun k _ => n.toNat - k) 0 ww ?_ ?_ ?_
    · (try simp only [nc] at *); subst hA hS; simp (disch := (refine KR.mk ?_; kernel_rfl)) only [alg, obP_iff, condP_iff, retP_iff, retM_iff, ofNat_cast, nc, Int.toNat_natCast, decide_eq_true_eq, decide_eq_false_iff_not, wrap_w64, Bool.not_eq_true', Bool.not_eq_false', beq_iff_eq, beq_eq_false_iff_ne, AV.bool.injEq, AV.int.injEq, AV.t2.injEq, AV.t3.injEq, AV.own.injEq, List.cons.injEq, Prod.mk.injEq, Row.ints.injEq, RW, Row.nlen, scalar, imp_self, and_true, true_and, lexT, heldT, tailT, planT, nb, Int.toNat_zero, List.getD_cons_zero, List.getD_cons_succ, List.set_cons_zero, List.set_cons_succ, sp]
      rw [hm, hL, hww']
      simp [Wk_iff, fr, undefs, wkT, wkV, wkH, okid, Row.nlen, getO, cwL]
    · simp
    · rintro k out ⟨k1, ho⟩
      have hol : out.length = n.toNat := by rw [ho]; simp [hwl]; omega
      cbv
      (try simp only [nc] at *); subst hA hS hr hfr; simp (disch := (refine KR.mk ?_; kernel_rfl)) only [alg, obP_iff, condP_iff, retP_iff, retM_iff, ofNat_cast, nc, Int.toNat_natCast, decide_eq_true_eq, decide_eq_false_iff_not, wrap_w64, Bool.not_eq_true', Bool.not_eq_false', beq_iff_eq, beq_eq_false_iff_ne, AV.bool.injEq, AV.int.injEq, AV.t2.injEq, AV.t3.injEq, AV.own.injEq, List.cons.injEq, Prod.mk.injEq, Row.ints.injEq, RW, Row.nlen, scalar, imp_self, and_true, true_and, lexT, heldT, tailT, planT, nb, Int.toNat_zero, List.getD_cons_zero, List.getD_cons_succ, List.set_cons_zero, List.set_cons_succ, sp, sb]
      have wk : w64 ((k : Int) + 1) = ((k + 1 : Nat) : Int) := by rw [w64_id (by omega)]; omega
      refine ⟨fun hk => ?_, fun hk => ?_⟩
      · have g1 : out.getD k 0 = ww.getD k 0 := by
          rw [ho, app_get_ge _ _ _ _ (by simp)]; simp
        have hd : ww.drop k = ww.getD k 0 :: ww.drop (k + 1) := drop_getD 0 ww k (by omega)
        have g2 : ∀ v, out.set k v = ((List.range k).map fun c => spC n m (ww.getD c 0) c) ++ v :: ww.drop (k + 1) := fun v => by
          rw [ho, hd, app_set_eq _ _ _ _ _ (by simp)]
        have g3 : ∀ v, (out.set k v).getD k 0 = v := fun v => getD_set_eq _ _ _ _ (by omega)
        have hr : ∀ v, v = spC n m (ww.getD k 0) k → out.set k v = ((List.range (k + 1)).map fun c => spC n m (ww.getD c 0) c) ++ ww.drop (k + 1) := fun v hv => by
          rw [g2, range_snoc, hv]; simp
        simp only [g1, g3, List.set_set, List.length_set, wk]
        refine ⟨by omega, by omega, by omega, by omega, fun hq => ⟨by omega, by omega, k + 1, out.set k (spC n m (ww.getD k 0) k), ?_, ⟨by omega, hr _ rfl⟩, by omega⟩, fun hq => ⟨k + 1, out.set k (spC n m (ww.getD k 0) k), ?_, ⟨by omega, hr _ rfl⟩, by omega⟩⟩
        · simp only [spC, if_pos hq]
          simp [Wk_iff, fr, undefs, wkT, wkV, wkH, okid, Row.nlen, getO]
        · simp only [spC, if_neg hq]
          simp [Wk_iff, fr, undefs, wkT, wkV, wkH, okid, Row.nlen, getO]
      · rw [hv, hf, ho]
        have : k = n.toNat := by omega
        rw [this, List.drop_of_length_le (by omega)]; simp
theorem allE_app (n : Int) (l : List (List Int)) (x : List Int) : allE n (l ++ [x]) = (allE n l && entB n x) := by simp [allE]
theorem addB_eq (n : Int) (l : List (List Int)) (x : List Int) : (tabB n l && tabB n (l ++ [x])) = addB n l x := by
  simp only [tabB, addB, allE_app]
  rcases Bool.eq_false_or_eq_true (allE n l) with c1 | c1 <;> rcases Bool.eq_false_or_eq_true (entB n x) with c2 | c2 <;> rcases Bool.eq_false_or_eq_true (inR n 1 10) with c3 | c3 <;> simp [c1, c2, c3]
  by_cases h : l.length < 20
  · have : l.length ≤ 20 := by omega
    have h2 : l.length + 1 ≤ 20 := by omega
    simp [h, this]; omega
  · have h2 : ¬ l.length + 1 ≤ 20 := by omega
    simp [h]; omega
theorem implAdd_ok (n : Int) (l : List (List Int)) (x : List Int) (hl : l.length ≤ 1048576) : FC Try.prog 21 [.int .i64 n, .ro (.recs 3 l), .rc 3 x] (.t2 (.own 0 true) (.bool (addB n l x))) [(33, .recs 3 (addL n l x))] := by
  refine fc_eval sp A6 A6_ok hT hm Try.func21 rfl (by kernel_rfl) rfl rfl ?_
  intro A S r0 fr0 hA hS hr hfr
  cbv
  (try simp only [nc] at *); subst hA hS hr hfr; simp (disch := (refine KR.mk ?_; kernel_rfl)) only [alg, obP_iff, condP_iff, retP_iff, retM_iff, ofNat_cast, nc, Int.toNat_natCast, decide_eq_true_eq, decide_eq_false_iff_not, wrap_w64, Bool.not_eq_true', Bool.not_eq_false', beq_iff_eq, beq_eq_false_iff_ne, AV.bool.injEq, AV.int.injEq, AV.t2.injEq, AV.t3.injEq, AV.own.injEq, List.cons.injEq, Prod.mk.injEq, Row.ints.injEq, RW, Row.nlen, scalar, imp_self, and_true, true_and, lexT, heldT, tailT, planT, nb, Int.toNat_zero, List.getD_cons_zero, List.getD_cons_succ, List.set_cons_zero, List.set_cons_succ, sp, sb, List.nil_append]
  simp only [and_self, addB_eq]
  refine ⟨by simp, by omega, by omega, by simp, by omega, fun _ => by simp; omega, fun h => by simp [h, addL], fun h => by simp [h, addL]⟩
theorem addB_or (n : Int) (l : List (List Int)) (x : List Int) : (!(tabB n l && entB n x) || (l.length : Int) == 20) = !(addB n l x) := by
  simp only [addB]
  rcases Bool.eq_false_or_eq_true (tabB n l) with c1 | c1
  · have := (tabB_n c1).2.2.1
    rcases Bool.eq_false_or_eq_true (entB n x) with c2 | c2
    · simp only [c1, c2]
      by_cases h : l.length < 20
      · have : ¬ (l.length : Int) = 20 := by omega
        simp [h, this]
      · have : (l.length : Int) = 20 := by omega
        simp [h, this]
    · simp [c1, c2]
  · simp [c1]
theorem specAdd_ok (n : Int) (l : List (List Int)) (x : List Int) (hl : l.length ≤ 1048576) : FC Try.prog 19 [.int .i64 n, .ro (.recs 3 l), .rc 3 x] (.t2 (.own 0 true) (.bool (addB n l x))) [(33, .recs 3 (addL n l x))] := by
  refine fc_eval sp A6 A6_ok hT hm Try.func19 rfl (by kernel_rfl) rfl rfl ?_
  intro A S r0 fr0 hA hS hr hfr
  cbv
  (try simp only [nc] at *); subst hA hS hr hfr; simp (disch := (refine KR.mk ?_; kernel_rfl)) only [alg, obP_iff, condP_iff, retP_iff, retM_iff, ofNat_cast, nc, Int.toNat_natCast, decide_eq_true_eq, decide_eq_false_iff_not, wrap_w64, Bool.not_eq_true', Bool.not_eq_false', beq_iff_eq, beq_eq_false_iff_ne, AV.bool.injEq, AV.int.injEq, AV.t2.injEq, AV.t3.injEq, AV.own.injEq, List.cons.injEq, Prod.mk.injEq, Row.ints.injEq, RW, Row.nlen, scalar, imp_self, and_true, true_and, lexT, heldT, tailT, planT, nb, Int.toNat_zero, List.getD_cons_zero, List.getD_cons_succ, List.set_cons_zero, List.set_cons_succ, sp, sb, List.nil_append, addB_or]
  simp only [and_self]
  refine ⟨by omega, fun _ => trivial, fun h => by simp [h, addL], fun h => ⟨by simp, by omega, by omega, by simp, h.symm, by simp [h, addL]⟩⟩
theorem tab_without {n : Int} {l : List (List Int)} (h : tabB n l = true) (i : Int) : tabB n (without l i) = true := by
  have hb := tabB_n h
  simp only [tabB, Bool.and_eq_true, inR_iff, decide_eq_true_eq]
  refine ⟨?_, ⟨hb.1, hb.2.1⟩, ?_⟩
  · have := hb.2.2.2
    simp only [allE, List.all_eq_true, without, List.mem_append] at this ⊢
    intro x hx
    rcases hx with hx | hx
    · exact this x (List.mem_of_mem_take hx)
    · exact this x (List.mem_of_mem_drop hx)
  · simp [without]; omega
theorem implWW_ok (n : Int) (l : List (List Int)) (g i : Int) (hl : l.length ≤ 1048576) : FC Try.prog 27 [.int .i64 n, .ro (.recs 3 l), .int .i64 g, .int .i64 i] (.t2 (.int .i64 (wwV n l g i)) (.bool (roB n l g i))) [] := by
  refine fc_eval sp A6 A6_ok hT hm Try.func27 rfl (by kernel_rfl) rfl rfl ?_
  intro A S r0 fr0 hA hS hr hfr
  cbv
  (try simp only [nc] at *); subst hA hS hr hfr; simp (disch := (refine KR.mk ?_; kernel_rfl)) only [alg, obP_iff, condP_iff, retP_iff, retM_iff, ofNat_cast, nc, Int.toNat_natCast, decide_eq_true_eq, decide_eq_false_iff_not, wrap_w64, Bool.not_eq_true', Bool.not_eq_false', beq_iff_eq, beq_eq_false_iff_ne, AV.bool.injEq, AV.int.injEq, AV.t2.injEq, AV.t3.injEq, AV.own.injEq, List.cons.injEq, Prod.mk.injEq, Row.ints.injEq, RW, Row.nlen, scalar, imp_self, and_true, true_and, lexT, heldT, tailT, planT, nb, Int.toNat_zero, List.getD_cons_zero, List.getD_cons_succ, List.set_cons_zero, List.set_cons_succ, sp, sb, List.nil_append, List.drop_zero, List.take_length]
  refine ⟨by omega, fun _ => trivial, fun h => ?_, fun h => ?_⟩
  · have hb : roB n l g i = false := h
    simp [hb, wwV]
  · have hb : roB n l g i = true := h
    simp only [Bool.and_eq_true, idx_iff (l := l) (by omega)] at h
    have w : w64 (i + 1) = i + 1 := w64_id (by omega)
    have e : (i + 1).toNat = i.toNat + 1 := by omega
    simp only [w, e]
    refine ⟨by omega, by omega, by omega, by omega, by simp, by simp; omega, by simp; omega, by simp; omega, tab_without (gapB_tab h.1) i, ?_, hb.symm⟩
    rw [wwV, if_pos hb]; rfl
theorem specWW_ok (n : Int) (l : List (List Int)) (g i : Int) (hl : l.length ≤ 1048576) : FC Try.prog 26 [.int .i64 n, .ro (.recs 3 l), .int .i64 g, .int .i64 i] (.t2 (.int .i64 (wwV n l g i)) (.bool (roB n l g i))) [] := by
  refine fc_eval sp A6 A6_ok hT hm Try.func26 rfl (by kernel_rfl) rfl rfl ?_
  intro A S r0 fr0 hA hS hr hfr
  cbv
  (try simp only [nc] at *); subst hA hS hr hfr; simp (disch := (refine KR.mk ?_; kernel_rfl)) only [alg, obP_iff, condP_iff, retP_iff, retM_iff, ofNat_cast, nc, Int.toNat_natCast, decide_eq_true_eq, decide_eq_false_iff_not, wrap_w64, Bool.not_eq_true', Bool.not_eq_false', beq_iff_eq, beq_eq_false_iff_ne, AV.bool.injEq, AV.int.injEq, AV.t2.injEq, AV.t3.injEq, AV.own.injEq, List.cons.injEq, Prod.mk.injEq, Row.ints.injEq, RW, Row.nlen, scalar, imp_self, and_true, true_and, lexT, heldT, tailT, planT, nb, Int.toNat_zero, List.getD_cons_zero, List.getD_cons_succ, List.set_cons_zero, List.set_cons_succ, sp, sb, List.nil_append, List.drop_zero, List.take_length]
  refine ⟨by omega, fun _ => trivial, fun h => ?_, fun h => ?_⟩
  · have hb : roB n l g i = false := h
    simp [hb, wwV]
  · have hb : roB n l g i = true := h
    simp only [Bool.and_eq_true, idx_iff (l := l) (by omega)] at h
    have w : w64 (i + 1) = i + 1 := w64_id (by omega)
    have e : (i + 1).toNat = i.toNat + 1 := by omega
    simp only [w, e]
    refine ⟨by omega, by omega, by omega, by omega, by simp, by simp; omega, by simp; omega, by simp; omega, tab_without (gapB_tab h.1) i, ?_, hb.symm⟩
    rw [wwV, if_pos hb]; rfl
end Go.Proofs.Ytlfioonmofkpiaa
