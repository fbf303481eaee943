/-
  Tables: what a table is; the starts of the columns.
-/
import Derived.Test.YtlfioonmofkpiaaT1
set_option linter.unusedSimpArgs false
set_option linter.unusedVariables false
namespace Go.Proofs.Ytlfioonmofkpiaa
open Go.Ab

theorem app_get_lt {α : Type} (d : α) (p z : List α) (i : Nat) (h : i < p.length) : (p ++ z).getD i d = p.getD i d := by
  simp [List.getD_eq_getElem?_getD, List.getElem?_append_left h]
theorem app_get_ge {α : Type} (d : α) (p z : List α) (i : Nat) (h : p.length ≤ i) : (p ++ z).getD i d = z.getD (i - p.length) d := by
  simp [List.getD_eq_getElem?_getD, List.getElem?_append_right h]
theorem app_set_eq {α : Type} (p z : List α) (s v : α) (i : Nat) (h : i = p.length) : (p ++ s :: z).set i v = p ++ v :: z := by
  subst h; simp
theorem rep_succ (n : Nat) (h : 0 < n) : List.replicate n (0 : Int) = 0 :: List.replicate (n - 1) 0 := by
  cases n with
  | zero => omega
  | succ n => rfl
theorem rep_snoc (n : Nat) (h : 0 < n) : List.replicate n (0 : Int) = List.replicate (n - 1) 0 ++ [0] := by
  cases n with
  | zero => omega
  | succ n => simp [List.replicate_succ']

theorem implTab_ok (n : Int) (l : List (List Int)) (hl : l.length ≤ 1048577) : FC Try.prog 17 [.int .i64 n, .ro (.recs 3 l)] (.bool (tabB n l)) [] := by
  refine fc_eval sp A2 A2_ok hT hm Try.func17 rfl (by kernel_rfl) rfl rfl ?_
  intro A S r0 fr0 hA hS hr hfr
  cbv
  obtain ⟨L, hL⟩ : ∃ L : Int, L = l.length := ⟨_, rfl⟩
  refine loop1 (fun (i : Nat) => ⟨fr 25 [(0, .int .i64 n), (1, .ro (.recs 3 l)), (7, .ro (.recs 3 l)), (8, .int .i64 L), (9, .int .i64 i)], [.dead]⟩)
    (fun i => i ≤ l.length ∧ allE n l = allE n (l.drop i)) (fun i => l.length - i) 0 ?_ ?_ ?_
  · subst hA; simp [Wk_iff, fr, undefs, wkT, wkV, wkH, okid, Row.nlen, w64_eq, getO, alg, hL]
  · simp
  · rintro i ⟨h1, h2⟩
    cbv
    (try simp only [nc] at *); subst hA hS hr hfr; simp (disch := (refine KR.mk ?_; kernel_rfl)) only [alg, obP_iff, condP_iff, retP_iff, retM_iff, ofNat_cast, nc, Int.toNat_natCast, decide_eq_true_eq, decide_eq_false_iff_not, wrap_w64, Bool.not_eq_true', Bool.not_eq_false', beq_iff_eq, beq_eq_false_iff_ne, AV.bool.injEq, AV.int.injEq, AV.t2.injEq, AV.t3.injEq, AV.own.injEq, List.cons.injEq, Prod.mk.injEq, Row.ints.injEq, RW, Row.nlen, scalar, imp_self, and_true, true_and, lexT, heldT, tailT, planT, nb, Int.toNat_zero, List.getD_cons_zero, List.getD_cons_succ, List.set_cons_zero, List.set_cons_succ, sp, sb, tabB]
    refine ⟨fun hc => ⟨by omega, fun hn => ?_, fun hn => ⟨i + 1, ?_, ⟨by omega, ?_⟩, by omega⟩⟩, fun hc => ?_⟩
    · rw [h2, allE_drop _ _ _ (by omega), hn]; simp
    · simp [Wk_iff, fr, undefs, wkT, wkV, wkH, okid, Row.nlen, w64_eq, getO]; try omega
    · rw [h2, allE_drop _ _ _ (by omega), hn]; rfl
    · rw [h2, allE_end _ _ _ (by omega)]; simp
theorem tbGood_ok (n : Int) (l : List (List Int)) (hl : l.length ≤ 1048577) : FC Try.prog 45 [.int .i64 n, .ro (.recs 3 l)] (.bool (tabB n l)) [] := by
  refine fc_eval sp A2 A2_ok hT hm Try.func45 rfl (by kernel_rfl) rfl rfl ?_
  intro A S r0 fr0 hA hS hr hfr
  cbv
  obtain ⟨L, hL⟩ : ∃ L : Int, L = l.length := ⟨_, rfl⟩
  refine loop1 (fun (i : Nat) => ⟨fr 25 [(0, .int .i64 n), (1, .ro (.recs 3 l)), (7, .ro (.recs 3 l)), (8, .int .i64 L), (9, .int .i64 i)], [.dead]⟩)
    (fun i => i ≤ l.length ∧ allE n l = allE n (l.drop i)) (fun i => l.length - i) 0 ?_ ?_ ?_
  · subst hA; simp [Wk_iff, fr, undefs, wkT, wkV, wkH, okid, Row.nlen, w64_eq, getO, alg, hL]
  · simp
  · rintro i ⟨h1, h2⟩
    cbv
    (try simp only [nc] at *); subst hA hS hr hfr; simp (disch := (refine KR.mk ?_; kernel_rfl)) only [alg, obP_iff, condP_iff, retP_iff, retM_iff, ofNat_cast, nc, Int.toNat_natCast, decide_eq_true_eq, decide_eq_false_iff_not, wrap_w64, Bool.not_eq_true', Bool.not_eq_false', beq_iff_eq, beq_eq_false_iff_ne, AV.bool.injEq, AV.int.injEq, AV.t2.injEq, AV.t3.injEq, AV.own.injEq, List.cons.injEq, Prod.mk.injEq, Row.ints.injEq, RW, Row.nlen, scalar, imp_self, and_true, true_and, lexT, heldT, tailT, planT, nb, Int.toNat_zero, List.getD_cons_zero, List.getD_cons_succ, List.set_cons_zero, List.set_cons_succ, sp, sb, tabB]
    refine ⟨fun hc => ⟨by omega, fun hn => ?_, fun hn => ⟨i + 1, ?_, ⟨by omega, ?_⟩, by omega⟩⟩, fun hc => ?_⟩
    · rw [h2, allE_drop _ _ _ (by omega), hn]; simp
    · simp [Wk_iff, fr, undefs, wkT, wkV, wkH, okid, Row.nlen, w64_eq, getO]; try omega
    · rw [h2, allE_drop _ _ _ (by omega), hn]; rfl
    · rw [h2, allE_end _ _ _ (by omega)]; simp
theorem most_ok (a b : Int) : FC Try.prog 66 [.int .i64 a, .int .i64 b] (.int .i64 (maxI a b)) [] := by
  refine fc_eval sp A2 A2_ok hT hm Try.func66 rfl (by kernel_rfl) rfl rfl ?_
  intro A S r0 fr0 hA hS hr hfr
  cbv
  (try simp only [nc] at *); subst hA hS hr hfr; simp (disch := (refine KR.mk ?_; kernel_rfl)) only [alg, obP_iff, condP_iff, retP_iff, retM_iff, ofNat_cast, nc, Int.toNat_natCast, decide_eq_true_eq, decide_eq_false_iff_not, wrap_w64, Bool.not_eq_true', Bool.not_eq_false', beq_iff_eq, beq_eq_false_iff_ne, AV.bool.injEq, AV.int.injEq, AV.t2.injEq, AV.t3.injEq, AV.own.injEq, List.cons.injEq, Prod.mk.injEq, Row.ints.injEq, RW, Row.nlen, scalar, imp_self, and_true, true_and, lexT, heldT, tailT, planT, nb, Int.toNat_zero, List.getD_cons_zero, List.getD_cons_succ, List.set_cons_zero, List.set_cons_succ, sp, sb, maxI]
  refine ⟨fun h => ?_, fun h => ?_⟩ <;> split <;> omega
theorem least_ok (a b : Int) : FC Try.prog 67 [.int .i64 a, .int .i64 b] (.int .i64 (minI a b)) [] := by
  refine fc_eval sp A2 A2_ok hT hm Try.func67 rfl (by kernel_rfl) rfl rfl ?_
  intro A S r0 fr0 hA hS hr hfr
  cbv
  (try simp only [nc] at *); subst hA hS hr hfr; simp (disch := (refine KR.mk ?_; kernel_rfl)) only [alg, obP_iff, condP_iff, retP_iff, retM_iff, ofNat_cast, nc, Int.toNat_natCast, decide_eq_true_eq, decide_eq_false_iff_not, wrap_w64, Bool.not_eq_true', Bool.not_eq_false', beq_iff_eq, beq_eq_false_iff_ne, AV.bool.injEq, AV.int.injEq, AV.t2.injEq, AV.t3.injEq, AV.own.injEq, List.cons.injEq, Prod.mk.injEq, Row.ints.injEq, RW, Row.nlen, scalar, imp_self, and_true, true_and, lexT, heldT, tailT, planT, nb, Int.toNat_zero, List.getD_cons_zero, List.getD_cons_succ, List.set_cons_zero, List.set_cons_succ, sp, sb, minI]
  refine ⟨fun h => ?_, fun h => ?_⟩ <;> split <;> omega
theorem own_ok (l : List Int) (hl : l.length ≤ 1048576) : FC Try.prog 55 [.ro (.ints .i64 l)] (.own 0 false) [(3, .ints .i64 l)] := by
  refine fc_eval sp A2 A2_ok hT hm Try.func55 rfl (by kernel_rfl) rfl rfl ?_
  intro A S r0 fr0 hA hS hr hfr
  cbv
  (try simp only [nc] at *); subst hA hS hr hfr; simp (disch := (refine KR.mk ?_; kernel_rfl)) only [alg, obP_iff, condP_iff, retP_iff, retM_iff, ofNat_cast, nc, Int.toNat_natCast, decide_eq_true_eq, decide_eq_false_iff_not, wrap_w64, Bool.not_eq_true', Bool.not_eq_false', beq_iff_eq, beq_eq_false_iff_ne, AV.bool.injEq, AV.int.injEq, AV.t2.injEq, AV.t3.injEq, AV.own.injEq, List.cons.injEq, Prod.mk.injEq, Row.ints.injEq, RW, Row.nlen, scalar, imp_self, and_true, true_and, lexT, heldT, tailT, planT, nb, Int.toNat_zero, List.getD_cons_zero, List.getD_cons_succ, List.set_cons_zero, List.set_cons_succ, sp, sb]
  simp; omega
theorem tbGap_ok (n : Int) : FC Try.prog 65 [.int .i64 n] (.bool (inR n 0 36)) [] := by
  refine fc_eval sp A2 A2_ok hT hm Try.func65 rfl (by kernel_rfl) rfl rfl ?_
  intro A S r0 fr0 hA hS hr hfr
  cbv
  (try simp only [nc] at *); subst hA hS hr hfr; simp (disch := (refine KR.mk ?_; kernel_rfl)) only [alg, obP_iff, condP_iff, retP_iff, retM_iff, ofNat_cast, nc, Int.toNat_natCast, decide_eq_true_eq, decide_eq_false_iff_not, wrap_w64, Bool.not_eq_true', Bool.not_eq_false', beq_iff_eq, beq_eq_false_iff_ne, AV.bool.injEq, AV.int.injEq, AV.t2.injEq, AV.t3.injEq, AV.own.injEq, List.cons.injEq, Prod.mk.injEq, Row.ints.injEq, RW, Row.nlen, scalar, imp_self, and_true, true_and, lexT, heldT, tailT, planT, nb, Int.toNat_zero, List.getD_cons_zero, List.getD_cons_succ, List.set_cons_zero, List.set_cons_succ, sp, sb]
def A3 (S : St0) : List (Nat × (List AV → CR)) :=
  (17, fun args => match args with | [.int .i64 n, .ro (.recs 3 l)] => .pure (S.le l) (.bool (S.tabB n l)) [] | _ => .no) ::
  (45, fun args => match args with | [.int .i64 n, .ro (.recs 3 l)] => .pure (S.le l) (.bool (S.tabB n l)) [] | _ => .no) ::
  (66, fun args => match args with | [.int .i64 a, .int .i64 b] => .pure (True) (.int .i64 (S.maxI a b)) [] | _ => .no) ::
  (67, fun args => match args with | [.int .i64 a, .int .i64 b] => .pure (True) (.int .i64 (S.minI a b)) [] | _ => .no) ::
  (55, fun args => match args with | [.ro (.ints .i64 l)] => .pure (S.sm l) (.own 0 false) [(3, .ints .i64 l)] | _ => .no) ::
  (65, fun args => match args with | [.int .i64 n] => .pure (True) (.bool (S.inR n 0 36)) [] | _ => .no) ::
  A2 S
set_option maxRecDepth 100000 in
theorem A3_ok : TabOK Try.prog (tfind (A3 sp)) := by
  refine tab_cons (fun args => ?_) (tab_cons (fun args => ?_) (tab_cons (fun args => ?_) (tab_cons (fun args => ?_) (tab_cons (fun args => ?_) (tab_cons (fun args => ?_) (A2_ok))))))
  · split
    · exact ent_pure fun h => implTab_ok _ _ h
    · exact ent_no
  · split
    · exact ent_pure fun h => tbGood_ok _ _ h
    · exact ent_no
  · split
    · exact ent_pure fun _ => most_ok _ _
    · exact ent_no
  · split
    · exact ent_pure fun _ => least_ok _ _
    · exact ent_no
  · split
    · exact ent_pure fun h => own_ok _ h
    · exact ent_no
  · split
    · exact ent_pure fun _ => tbGap_ok _
    · exact ent_no
theorem specTab_ok (n : Int) (l : List (List Int)) (hl : l.length ≤ 1048577) : FC Try.prog 15 [.int .i64 n, .ro (.recs 3 l)] (.bool (tabB n l)) [] := by
  refine fc_eval sp A3 A3_ok hT hm Try.func15 rfl (by kernel_rfl) rfl rfl ?_
  intro A S r0 fr0 hA hS hr hfr
  cbv
  (try simp only [nc] at *); subst hA hS hr hfr; simp (disch := (refine KR.mk ?_; kernel_rfl)) only [alg, obP_iff, condP_iff, retP_iff, retM_iff, ofNat_cast, nc, Int.toNat_natCast, decide_eq_true_eq, decide_eq_false_iff_not, wrap_w64, Bool.not_eq_true', Bool.not_eq_false', beq_iff_eq, beq_eq_false_iff_ne, AV.bool.injEq, AV.int.injEq, AV.t2.injEq, AV.t3.injEq, AV.own.injEq, List.cons.injEq, Prod.mk.injEq, Row.ints.injEq, RW, Row.nlen, scalar, imp_self, and_true, true_and, lexT, heldT, tailT, planT, nb, Int.toNat_zero, List.getD_cons_zero, List.getD_cons_succ, List.set_cons_zero, List.set_cons_succ, sp, sb]
  exact hl
theorem isGapped_ok (n : Int) (l : List (List Int)) (g : Int) (hl : l.length ≤ 1048577) : FC Try.prog 52 [.int .i64 n, .ro (.recs 3 l), .int .i64 g] (.bool (gapB n l g)) [] := by
  refine fc_eval sp A3 A3_ok hT hm Try.func52 rfl (by kernel_rfl) rfl rfl ?_
  intro A S r0 fr0 hA hS hr hfr
  cbv
  (try simp only [nc] at *); subst hA hS hr hfr; simp (disch := (refine KR.mk ?_; kernel_rfl)) only [alg, obP_iff, condP_iff, retP_iff, retM_iff, ofNat_cast, nc, Int.toNat_natCast, decide_eq_true_eq, decide_eq_false_iff_not, wrap_w64, Bool.not_eq_true', Bool.not_eq_false', beq_iff_eq, beq_eq_false_iff_ne, AV.bool.injEq, AV.int.injEq, AV.t2.injEq, AV.t3.injEq, AV.own.injEq, List.cons.injEq, Prod.mk.injEq, Row.ints.injEq, RW, Row.nlen, scalar, imp_self, and_true, true_and, lexT, heldT, tailT, planT, nb, Int.toNat_zero, List.getD_cons_zero, List.getD_cons_succ, List.set_cons_zero, List.set_cons_succ, sp, sb, gapB]
  simp [hl]
theorem tbAsked_ok (n : Int) (l : List (List Int)) (g : Int) (hl : l.length ≤ 1048577) : FC Try.prog 50 [.int .i64 n, .ro (.recs 3 l), .int .i64 g] (.bool (gapB n l g)) [] := by
  refine fc_eval sp A3 A3_ok hT hm Try.func50 rfl (by kernel_rfl) rfl rfl ?_
  intro A S r0 fr0 hA hS hr hfr
  cbv
  (try simp only [nc] at *); subst hA hS hr hfr; simp (disch := (refine KR.mk ?_; kernel_rfl)) only [alg, obP_iff, condP_iff, retP_iff, retM_iff, ofNat_cast, nc, Int.toNat_natCast, decide_eq_true_eq, decide_eq_false_iff_not, wrap_w64, Bool.not_eq_true', Bool.not_eq_false', beq_iff_eq, beq_eq_false_iff_ne, AV.bool.injEq, AV.int.injEq, AV.t2.injEq, AV.t3.injEq, AV.own.injEq, List.cons.injEq, Prod.mk.injEq, Row.ints.injEq, RW, Row.nlen, scalar, imp_self, and_true, true_and, lexT, heldT, tailT, planT, nb, Int.toNat_zero, List.getD_cons_zero, List.getD_cons_succ, List.set_cons_zero, List.set_cons_succ, sp, sb, gapB]
  simp [hl]

theorem tbStarts_ok (n : Int) (l : List (List Int)) (g : Int) (ht : tabB n l = true) : FC Try.prog 56 [.int .i64 n, .ro (.recs 3 l), .int .i64 g] (.own 0 true) [(3, .ints .i64 (stL n l g))] := by
  refine fc_eval sp A3 A3_ok hT hm Try.func56 rfl (by kernel_rfl) rfl rfl ?_
  intro A S r0 fr0 hA hS hr hfr
  cbv
  obtain ⟨n1, n2, hl, hE⟩ := tabB_n ht
  refine loop2 (fun (k : Nat) (out : List Int) => ⟨fr 56 [(0, .int .i64 n), (1, .ro (.recs 3 l)), (2, .int .i64 g), (7, .own 1 true), (8, .int .i64 k)], [.dead, .row 3 (.ints .i64 out)]⟩)
    (fun k out => 1 ≤ k ∧ k ≤ n.toNat + 1 ∧ out = stF l g (k - 1)) (fun k _ => n.toNat + 1 - k) 1 [0] ?_ ?_ ?_
  · subst hA; simp [Wk_iff, fr, undefs, wkT, wkV, wkH, okid, Row.nlen, w64_eq, getO, alg]
  · simp [stF]
  · rintro k out ⟨k1, k2, ho⟩
    have hol : out.length = k := by rw [ho, stF_len]; omega
    have hlen : stL n l g = stF l g n.toNat := rfl
    obtain ⟨L, hL⟩ : ∃ L : Int, L = l.length := ⟨_, rfl⟩
    cbv
    refine condP.mk (fun hc => ?_) (fun hc => ?_)
    · have hk : (k : Int) ≤ n := by
        (try simp only [nc] at *); subst hA hS; simp (disch := (refine KR.mk ?_; kernel_rfl)) only [alg, obP_iff, condP_iff, retP_iff, retM_iff, ofNat_cast, nc, Int.toNat_natCast, decide_eq_true_eq, decide_eq_false_iff_not, wrap_w64, Bool.not_eq_true', Bool.not_eq_false', beq_iff_eq, beq_eq_false_iff_ne, AV.bool.injEq, AV.int.injEq, AV.t2.injEq, AV.t3.injEq, AV.own.injEq, List.cons.injEq, Prod.mk.injEq, Row.ints.injEq, RW, Row.nlen, scalar, imp_self, and_true, true_and, lexT, heldT, tailT, planT, nb, Int.toNat_zero, List.getD_cons_zero, List.getD_cons_succ, List.set_cons_zero, List.set_cons_succ, sp] at hc
        exact hc
      have w1 : w64 ((k : Int) - 1) = ((k - 1 : Nat) : Int) := by rw [w64_id (by omega)]; omega
      refine obP.mk (by (try simp only [nc] at *); subst hA hS; simp (disch := (refine KR.mk ?_; kernel_rfl)) only [alg, obP_iff, condP_iff, retP_iff, retM_iff, ofNat_cast, nc, Int.toNat_natCast, decide_eq_true_eq, decide_eq_false_iff_not, wrap_w64, Bool.not_eq_true', Bool.not_eq_false', beq_iff_eq, beq_eq_false_iff_ne, AV.bool.injEq, AV.int.injEq, AV.t2.injEq, AV.t3.injEq, AV.own.injEq, List.cons.injEq, Prod.mk.injEq, Row.ints.injEq, RW, Row.nlen, scalar, imp_self, and_true, true_and, lexT, heldT, tailT, planT, nb, Int.toNat_zero, List.getD_cons_zero, List.getD_cons_succ, List.set_cons_zero, List.set_cons_succ, sp]; rw [w1]; omega) ?_
      refine loop2 (fun (j : Nat) (s : Int) => ⟨fr 56 [(0, .int .i64 n), (1, .ro (.recs 3 l)), (2, .int .i64 g), (7, .own 1 true), (8, .int .i64 k), (9, .int .i64 s), (25, .ro (.recs 3 l)), (26, .int .i64 L), (27, .int .i64 j)], [.dead, .row 3 (.ints .i64 out)]⟩)
        (fun j s => j ≤ l.length ∧ l.foldl (stX out k g) (w64 (out.getD (k - 1) 0 + g)) = (l.drop j).foldl (stX out k g) s) (fun j _ => l.length - j) 0 (w64 (out.getD (k - 1) 0 + g)) ?_ ?_ ?_
      · (try simp only [nc] at *); subst hA hS; simp (disch := (refine KR.mk ?_; kernel_rfl)) only [alg, obP_iff, condP_iff, retP_iff, retM_iff, ofNat_cast, nc, Int.toNat_natCast, decide_eq_true_eq, decide_eq_false_iff_not, wrap_w64, Bool.not_eq_true', Bool.not_eq_false', beq_iff_eq, beq_eq_false_iff_ne, AV.bool.injEq, AV.int.injEq, AV.t2.injEq, AV.t3.injEq, AV.own.injEq, List.cons.injEq, Prod.mk.injEq, Row.ints.injEq, RW, Row.nlen, scalar, imp_self, and_true, true_and, lexT, heldT, tailT, planT, nb, Int.toNat_zero, List.getD_cons_zero, List.getD_cons_succ, List.set_cons_zero, List.set_cons_succ, sp]
        simp only [w1, Int.toNat_natCast]
        simp [Wk_iff, fr, undefs, wkT, wkV, wkH, okid, Row.nlen, getO, hL]
      · simp
      · rintro j s ⟨j1, j2⟩
        cbv
        (try simp only [nc] at *); subst hA hS hr hfr; simp (disch := (refine KR.mk ?_; kernel_rfl)) only [alg, obP_iff, condP_iff, retP_iff, retM_iff, ofNat_cast, nc, Int.toNat_natCast, decide_eq_true_eq, decide_eq_false_iff_not, wrap_w64, Bool.not_eq_true', Bool.not_eq_false', beq_iff_eq, beq_eq_false_iff_ne, AV.bool.injEq, AV.int.injEq, AV.t2.injEq, AV.t3.injEq, AV.own.injEq, List.cons.injEq, Prod.mk.injEq, Row.ints.injEq, RW, Row.nlen, scalar, imp_self, and_true, true_and, lexT, heldT, tailT, planT, nb, Int.toNat_zero, List.getD_cons_zero, List.getD_cons_succ, List.set_cons_zero, List.set_cons_succ, sp, sb]
        have wj : w64 ((j : Int) + 1) = ((j + 1 : Nat) : Int) := by rw [w64_id (by omega)]; omega
        have wk : w64 ((k : Int) + 1) = ((k + 1 : Nat) : Int) := by rw [w64_id (by omega)]; omega
        refine ⟨fun hj => ?_, fun hj => ?_⟩
        · have he := entB_iff ⟨n1, n2⟩ (allE_get hE (i := j) (by omega))
          have hw : w64 ((l.getD j []).getD 0 0 + (l.getD j []).getD 1 0) = (l.getD j []).getD 0 0 + (l.getD j []).getD 1 0 := w64_id (by omega)
          refine ⟨by omega, fun hq => ⟨by omega, j + 1, stX out k g s (l.getD j []), ?_, ⟨by omega, ?_⟩, by omega⟩, fun hq => ⟨j + 1, s, ?_, ⟨by omega, ?_⟩, by omega⟩⟩
          · simp only [stX, if_pos hq, wj]
            simp [Wk_iff, fr, undefs, wkT, wkV, wkH, okid, Row.nlen, getO]
          · rw [j2, fold_drop [] _ _ _ _ (by omega)]
          · simp [Wk_iff, fr, undefs, wkT, wkV, wkH, okid, Row.nlen, getO, wj]
          · rw [j2, fold_drop [] _ _ _ _ (by omega), stX, if_neg hq]
        · have hs : l.foldl (stX out k g) (w64 (out.getD (k - 1) 0 + g)) = s := by rw [j2, fold_end _ _ _ _ (by omega)]
          refine ⟨by omega, by simp, k + 1, out ++ [s], ?_, ⟨by omega, by omega, ?_⟩, by omega⟩
          · simp [Wk_iff, fr, undefs, wkT, wkV, wkH, okid, Row.nlen, getO, wk]
          · have e : k + 1 - 1 = (k - 1) + 1 := by omega
            have e2 : k - 1 + 1 = k := by omega
            rw [e, stF, ← ho, e2, hs]
    · have hk : ¬ (k : Int) ≤ n := by
        (try simp only [nc] at *); subst hA hS; simp (disch := (refine KR.mk ?_; kernel_rfl)) only [alg, obP_iff, condP_iff, retP_iff, retM_iff, ofNat_cast, nc, Int.toNat_natCast, decide_eq_true_eq, decide_eq_false_iff_not, wrap_w64, Bool.not_eq_true', Bool.not_eq_false', beq_iff_eq, beq_eq_false_iff_ne, AV.bool.injEq, AV.int.injEq, AV.t2.injEq, AV.t3.injEq, AV.own.injEq, List.cons.injEq, Prod.mk.injEq, Row.ints.injEq, RW, Row.nlen, scalar, imp_self, and_true, true_and, lexT, heldT, tailT, planT, nb, Int.toNat_zero, List.getD_cons_zero, List.getD_cons_succ, List.set_cons_zero, List.set_cons_succ, sp] at hc
        exact hc
      (try simp only [nc] at *); subst hA hS hr hfr; simp (disch := (refine KR.mk ?_; kernel_rfl)) only [alg, obP_iff, condP_iff, retP_iff, retM_iff, ofNat_cast, nc, Int.toNat_natCast, decide_eq_true_eq, decide_eq_false_iff_not, wrap_w64, Bool.not_eq_true', Bool.not_eq_false', beq_iff_eq, beq_eq_false_iff_ne, AV.bool.injEq, AV.int.injEq, AV.t2.injEq, AV.t3.injEq, AV.own.injEq, List.cons.injEq, Prod.mk.injEq, Row.ints.injEq, RW, Row.nlen, scalar, imp_self, and_true, true_and, lexT, heldT, tailT, planT, nb, Int.toNat_zero, List.getD_cons_zero, List.getD_cons_succ, List.set_cons_zero, List.set_cons_succ, sp]
      rw [ho, stL]
      have : k - 1 = n.toNat := by omega
      rw [this]

theorem starts_ok (n : Int) (l : List (List Int)) (g : Int) (ht : tabB n l = true) : FC Try.prog 57 [.int .i64 n, .ro (.recs 3 l), .int .i64 g] (.own 0 true) [(3, .ints .i64 (stL n l g))] := by
  refine fc_eval sp A3 A3_ok hT hm Try.func57 rfl (by kernel_rfl) rfl rfl ?_
  intro A S r0 fr0 hA hS hr hfr
  cbv
  obtain ⟨n1, n2, hl, hE⟩ := tabB_n ht
  have wn : w64 (n + 1) = n + 1 := w64_id (by omega)
  refine obP.mk (by (try simp only [nc] at *); subst hA hS; simp (disch := (refine KR.mk ?_; kernel_rfl)) only [alg, obP_iff, condP_iff, retP_iff, retM_iff, ofNat_cast, nc, Int.toNat_natCast, decide_eq_true_eq, decide_eq_false_iff_not, wrap_w64, Bool.not_eq_true', Bool.not_eq_false', beq_iff_eq, beq_eq_false_iff_ne, AV.bool.injEq, AV.int.injEq, AV.t2.injEq, AV.t3.injEq, AV.own.injEq, List.cons.injEq, Prod.mk.injEq, Row.ints.injEq, RW, Row.nlen, scalar, imp_self, and_true, true_and, lexT, heldT, tailT, planT, nb, Int.toNat_zero, List.getD_cons_zero, List.getD_cons_succ, List.set_cons_zero, List.set_cons_succ, sp]; rw [wn]; omega) (obP.mk (by (try simp only [nc] at *); subst hA hS; simp (disch := (refine KR.mk ?_; kernel_rfl)) only [alg, obP_iff, condP_iff, retP_iff, retM_iff, ofNat_cast, nc, Int.toNat_natCast, decide_eq_true_eq, decide_eq_false_iff_not, wrap_w64, Bool.not_eq_true', Bool.not_eq_false', beq_iff_eq, beq_eq_false_iff_ne, AV.bool.injEq, AV.int.injEq, AV.t2.injEq, AV.t3.injEq, AV.own.injEq, List.cons.injEq, Prod.mk.injEq, Row.ints.injEq, RW, Row.nlen, scalar, imp_self, and_true, true_and, lexT, heldT, tailT, planT, nb, Int.toNat_zero, List.getD_cons_zero, List.getD_cons_succ, List.set_cons_zero, List.set_cons_succ, sp]) ?_)
  refine loop2 (fun (k : Nat) (out : List Int) => ⟨fr 62 [(0, .int .i64 n), (1, .ro (.recs 3 l)), (2, .int .i64 g), (7, .own 1 false), (8, .int .i64 k)], [.dead, .row 3 (.ints .i64 out)]⟩)
    (fun k out => 1 ≤ k ∧ k ≤ n.toNat + 1 ∧ out = stF l g (k - 1) ++ List.replicate (n.toNat + 1 - k) 0) (fun k _ => n.toNat + 1 - k) 1 (List.replicate (n + 1).toNat 0) ?_ ?_ ?_
  · (try simp only [nc] at *); subst hA hS; simp (disch := (refine KR.mk ?_; kernel_rfl)) only [alg, obP_iff, condP_iff, retP_iff, retM_iff, ofNat_cast, nc, Int.toNat_natCast, decide_eq_true_eq, decide_eq_false_iff_not, wrap_w64, Bool.not_eq_true', Bool.not_eq_false', beq_iff_eq, beq_eq_false_iff_ne, AV.bool.injEq, AV.int.injEq, AV.t2.injEq, AV.t3.injEq, AV.own.injEq, List.cons.injEq, Prod.mk.injEq, Row.ints.injEq, RW, Row.nlen, scalar, imp_self, and_true, true_and, lexT, heldT, tailT, planT, nb, Int.toNat_zero, List.getD_cons_zero, List.getD_cons_succ, List.set_cons_zero, List.set_cons_succ, sp]
    simp only [wn]
    simp [Wk_iff, fr, undefs, wkT, wkV, wkH, okid, Row.nlen, getO]
  · refine ⟨by omega, by omega, ?_⟩
    have e : (n + 1).toNat = n.toNat + 1 := by omega
    rw [e]; rfl
  · rintro k out ⟨k1, k2, ho⟩
    have hp : (stF l g (k - 1)).length = k := by rw [stF_len]; omega
    have hol : out.length = n.toNat + 1 := by rw [ho]; simp [hp]; omega
    obtain ⟨pre, hpre⟩ : ∃ pre, pre = stF l g (k - 1) := ⟨_, rfl⟩
    rw [← hpre] at ho hp
    obtain ⟨L, hL⟩ : ∃ L : Int, L = l.length := ⟨_, rfl⟩
    cbv
    refine condP.mk (fun hc => ?_) (fun hc => ?_)
    · have hk : (k : Int) ≤ n := by
        (try simp only [nc] at *); subst hA hS; simp (disch := (refine KR.mk ?_; kernel_rfl)) only [alg, obP_iff, condP_iff, retP_iff, retM_iff, ofNat_cast, nc, Int.toNat_natCast, decide_eq_true_eq, decide_eq_false_iff_not, wrap_w64, Bool.not_eq_true', Bool.not_eq_false', beq_iff_eq, beq_eq_false_iff_ne, AV.bool.injEq, AV.int.injEq, AV.t2.injEq, AV.t3.injEq, AV.own.injEq, List.cons.injEq, Prod.mk.injEq, Row.ints.injEq, RW, Row.nlen, scalar, imp_self, and_true, true_and, lexT, heldT, tailT, planT, nb, Int.toNat_zero, List.getD_cons_zero, List.getD_cons_succ, List.set_cons_zero, List.set_cons_succ, sp] at hc
        exact hc
      have w1 : w64 ((k : Int) - 1) = ((k - 1 : Nat) : Int) := by rw [w64_id (by omega)]; omega
      have g0 : out.getD (k - 1) 0 = pre.getD (k - 1) 0 := by rw [ho, app_get_lt _ _ _ _ (by omega)]
      have ho2 : out = pre ++ 0 :: List.replicate (n.toNat - k) 0 := by
        rw [ho, rep_succ _ (by omega)]
        have : n.toNat + 1 - k - 1 = n.toNat - k := by omega
        rw [this]
      refine obP.mk (by (try simp only [nc] at *); subst hA hS; simp (disch := (refine KR.mk ?_; kernel_rfl)) only [alg, obP_iff, condP_iff, retP_iff, retM_iff, ofNat_cast, nc, Int.toNat_natCast, decide_eq_true_eq, decide_eq_false_iff_not, wrap_w64, Bool.not_eq_true', Bool.not_eq_false', beq_iff_eq, beq_eq_false_iff_ne, AV.bool.injEq, AV.int.injEq, AV.t2.injEq, AV.t3.injEq, AV.own.injEq, List.cons.injEq, Prod.mk.injEq, Row.ints.injEq, RW, Row.nlen, scalar, imp_self, and_true, true_and, lexT, heldT, tailT, planT, nb, Int.toNat_zero, List.getD_cons_zero, List.getD_cons_succ, List.set_cons_zero, List.set_cons_succ, sp]; rw [w1]; omega) (obP.mk (by (try simp only [nc] at *); subst hA hS; simp (disch := (refine KR.mk ?_; kernel_rfl)) only [alg, obP_iff, condP_iff, retP_iff, retM_iff, ofNat_cast, nc, Int.toNat_natCast, decide_eq_true_eq, decide_eq_false_iff_not, wrap_w64, Bool.not_eq_true', Bool.not_eq_false', beq_iff_eq, beq_eq_false_iff_ne, AV.bool.injEq, AV.int.injEq, AV.t2.injEq, AV.t3.injEq, AV.own.injEq, List.cons.injEq, Prod.mk.injEq, Row.ints.injEq, RW, Row.nlen, scalar, imp_self, and_true, true_and, lexT, heldT, tailT, planT, nb, Int.toNat_zero, List.getD_cons_zero, List.getD_cons_succ, List.set_cons_zero, List.set_cons_succ, sp]; omega) ?_)
      refine loop3 (fun (j : Nat) (s : Int) (ou : List Int) => ⟨fr 62 [(0, .int .i64 n), (1, .ro (.recs 3 l)), (2, .int .i64 g), (7, .own 1 false), (8, .int .i64 k), (29, .ro (.recs 3 l)), (30, .int .i64 L), (31, .int .i64 j)], [.dead, .row 3 (.ints .i64 ou)]⟩)
        (fun j s ou => j ≤ l.length ∧ ou = pre ++ s :: List.replicate (n.toNat - k) 0 ∧ l.foldl (stX pre k g) (w64 (pre.getD (k - 1) 0 + g)) = (l.drop j).foldl (stX pre k g) s) (fun j _ _ => l.length - j) 0 (w64 (pre.getD (k - 1) 0 + g)) (out.set k (w64 (pre.getD (k - 1) 0 + g))) ?_ ?_ ?_
      · (try simp only [nc] at *); subst hA hS; simp (disch := (refine KR.mk ?_; kernel_rfl)) only [alg, obP_iff, condP_iff, retP_iff, retM_iff, ofNat_cast, nc, Int.toNat_natCast, decide_eq_true_eq, decide_eq_false_iff_not, wrap_w64, Bool.not_eq_true', Bool.not_eq_false', beq_iff_eq, beq_eq_false_iff_ne, AV.bool.injEq, AV.int.injEq, AV.t2.injEq, AV.t3.injEq, AV.own.injEq, List.cons.injEq, Prod.mk.injEq, Row.ints.injEq, RW, Row.nlen, scalar, imp_self, and_true, true_and, lexT, heldT, tailT, planT, nb, Int.toNat_zero, List.getD_cons_zero, List.getD_cons_succ, List.set_cons_zero, List.set_cons_succ, sp]
        simp only [w1, Int.toNat_natCast, g0]
        simp [Wk_iff, fr, undefs, wkT, wkV, wkH, okid, Row.nlen, getO, hL]
      · refine ⟨by omega, ?_, by simp⟩
        rw [ho2, app_set_eq _ _ _ _ _ hp.symm]
      · rintro j s ou ⟨j1, hou, j2⟩
        have oul : ou.length = n.toNat + 1 := by rw [hou]; simp [hp]; omega
        have g1 : ou.getD k 0 = s := by rw [hou, app_get_ge _ _ _ _ (by omega), hp]; simp
        have g2 : ∀ c, c < k → ou.getD c 0 = pre.getD c 0 := fun c hc => by rw [hou, app_get_lt _ _ _ _ (by omega)]
        have g3 : ∀ v, ou.set k v = pre ++ v :: List.replicate (n.toNat - k) 0 := fun v => by rw [hou, app_set_eq _ _ _ _ _ hp.symm]
        cbv
        (try simp only [nc] at *); subst hA hS hr hfr; simp (disch := (refine KR.mk ?_; kernel_rfl)) only [alg, obP_iff, condP_iff, retP_iff, retM_iff, ofNat_cast, nc, Int.toNat_natCast, decide_eq_true_eq, decide_eq_false_iff_not, wrap_w64, Bool.not_eq_true', Bool.not_eq_false', beq_iff_eq, beq_eq_false_iff_ne, AV.bool.injEq, AV.int.injEq, AV.t2.injEq, AV.t3.injEq, AV.own.injEq, List.cons.injEq, Prod.mk.injEq, Row.ints.injEq, RW, Row.nlen, scalar, imp_self, and_true, true_and, lexT, heldT, tailT, planT, nb, Int.toNat_zero, List.getD_cons_zero, List.getD_cons_succ, List.set_cons_zero, List.set_cons_succ, sp, sb]
        have wj : w64 ((j : Int) + 1) = ((j + 1 : Nat) : Int) := by rw [w64_id (by omega)]; omega
        have wk : w64 ((k : Int) + 1) = ((k + 1 : Nat) : Int) := by rw [w64_id (by omega)]; omega
        refine ⟨fun hj => ?_, fun hj => ?_⟩
        · have he := entB_iff ⟨n1, n2⟩ (allE_get hE (i := j) (by omega))
          have hw : w64 ((l.getD j []).getD 0 0 + (l.getD j []).getD 1 0) = (l.getD j []).getD 0 0 + (l.getD j []).getD 1 0 := w64_id (by omega)
          refine ⟨by omega, fun hq => ⟨by omega, by omega, by omega, j + 1, stX pre k g s (l.getD j []), ou.set k (stX pre k g s (l.getD j [])), ?_, ⟨by omega, g3 _, ?_⟩, by omega⟩, fun hq => ⟨j + 1, s, ou, ?_, ⟨by omega, hou, ?_⟩, by omega⟩⟩
          · have := g2 ((l.getD j []).getD 0 0).toNat (by omega)
            simp only [stX, if_pos hq, wj, this, g1, maxI, Int.toNat_natCast]
            simp [Wk_iff, fr, undefs, wkT, wkV, wkH, okid, Row.nlen, getO]
          · rw [j2, fold_drop [] _ _ _ _ (by omega)]
          · simp [Wk_iff, fr, undefs, wkT, wkV, wkH, okid, Row.nlen, getO, wj]
          · rw [j2, fold_drop [] _ _ _ _ (by omega), stX, if_neg hq]
        · have hs : l.foldl (stX pre k g) (w64 (pre.getD (k - 1) 0 + g)) = s := by rw [j2, fold_end _ _ _ _ (by omega)]
          refine ⟨k + 1, ou, ?_, ⟨by omega, by omega, ?_⟩, by omega⟩
          · simp [Wk_iff, fr, undefs, wkT, wkV, wkH, okid, Row.nlen, getO, wk]
          · have e : k + 1 - 1 = (k - 1) + 1 := by omega
            have e2 : k - 1 + 1 = k := by omega
            have e3 : n.toNat + 1 - (k + 1) = n.toNat - k := by omega
            rw [e, stF, ← hpre, e2, hs, hou, e3]; simp
    · have hk : ¬ (k : Int) ≤ n := by
        (try simp only [nc] at *); subst hA hS; simp (disch := (refine KR.mk ?_; kernel_rfl)) only [alg, obP_iff, condP_iff, retP_iff, retM_iff, ofNat_cast, nc, Int.toNat_natCast, decide_eq_true_eq, decide_eq_false_iff_not, wrap_w64, Bool.not_eq_true', Bool.not_eq_false', beq_iff_eq, beq_eq_false_iff_ne, AV.bool.injEq, AV.int.injEq, AV.t2.injEq, AV.t3.injEq, AV.own.injEq, List.cons.injEq, Prod.mk.injEq, Row.ints.injEq, RW, Row.nlen, scalar, imp_self, and_true, true_and, lexT, heldT, tailT, planT, nb, Int.toNat_zero, List.getD_cons_zero, List.getD_cons_succ, List.set_cons_zero, List.set_cons_succ, sp] at hc
        exact hc
      (try simp only [nc] at *); subst hA hS hr hfr; simp (disch := (refine KR.mk ?_; kernel_rfl)) only [alg, obP_iff, condP_iff, retP_iff, retM_iff, ofNat_cast, nc, Int.toNat_natCast, decide_eq_true_eq, decide_eq_false_iff_not, wrap_w64, Bool.not_eq_true', Bool.not_eq_false', beq_iff_eq, beq_eq_false_iff_ne, AV.bool.injEq, AV.int.injEq, AV.t2.injEq, AV.t3.injEq, AV.own.injEq, List.cons.injEq, Prod.mk.injEq, Row.ints.injEq, RW, Row.nlen, scalar, imp_self, and_true, true_and, lexT, heldT, tailT, planT, nb, Int.toNat_zero, List.getD_cons_zero, List.getD_cons_succ, List.set_cons_zero, List.set_cons_succ, sp]
      rw [ho, hpre, stL]
      have e : k - 1 = n.toNat := by omega
      have e2 : n.toNat + 1 - k = 0 := by omega
      rw [e, e2]; simp
end Go.Proofs.Ytlfioonmofkpiaa
