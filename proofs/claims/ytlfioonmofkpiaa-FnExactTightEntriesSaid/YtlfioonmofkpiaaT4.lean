/-
  Tables: widths, rooms.
-/
import Derived.Test.YtlfioonmofkpiaaT3
set_option linter.unusedSimpArgs false
set_option linter.unusedVariables false
namespace Go.Proofs.Ytlfioonmofkpiaa
open Go.Ab

def A4 (S : St0) : List (Nat × (List AV → CR)) :=
  (15, fun args => match args with | [.int .i64 n, .ro (.recs 3 l)] => .pure (S.le l) (.bool (S.tabB n l)) [] | _ => .no) ::
  (52, fun args => match args with | [.int .i64 n, .ro (.recs 3 l), .int .i64 g] => .pure (S.le l) (.bool (S.gapB n l g)) [] | _ => .no) ::
  (50, fun args => match args with | [.int .i64 n, .ro (.recs 3 l), .int .i64 g] => .pure (S.le l) (.bool (S.gapB n l g)) [] | _ => .no) ::
  (57, fun args => match args with | [.int .i64 n, .ro (.recs 3 l), .int .i64 g] => .pure (S.tb n l) (.own 0 true) [(3, .ints .i64 (S.stL n l g))] | _ => .no) ::
  (56, fun args => match args with | [.int .i64 n, .ro (.recs 3 l), .int .i64 g] => .pure (S.tb n l) (.own 0 true) [(3, .ints .i64 (S.stL n l g))] | _ => .no) ::
  (64, fun args => match args with | [.int .i64 n, .ro (.recs 3 l), .int .i64 g, .int .i64 t] => .pure (S.tb n l) (.own 0 true) [(3, .ints .i64 (S.laL n l g t))] | _ => .no) ::
  (63, fun args => match args with | [.int .i64 n, .ro (.recs 3 l), .int .i64 g, .int .i64 t] => .pure (S.tb n l) (.own 0 true) [(3, .ints .i64 (S.laA n l g t))] | _ => .no) ::
  A3 S
set_option maxRecDepth 100000 in
theorem A4_ok : TabOK Try.prog (tfind (A4 sp)) := by
  refine tab_cons (fun args => ?_) (tab_cons (fun args => ?_) (tab_cons (fun args => ?_) (tab_cons (fun args => ?_) (tab_cons (fun args => ?_) (tab_cons (fun args => ?_) (tab_cons (fun args => ?_) (A3_ok)))))))
  · split
    · exact ent_pure fun h => specTab_ok _ _ h
    · exact ent_no
  · split
    · exact ent_pure fun h => isGapped_ok _ _ _ h
    · exact ent_no
  · split
    · exact ent_pure fun h => tbAsked_ok _ _ _ h
    · exact ent_no
  · split
    · exact ent_pure fun h => starts_ok _ _ _ h
    · exact ent_no
  · split
    · exact ent_pure fun h => tbStarts_ok _ _ _ h
    · exact ent_no
  · split
    · exact ent_pure fun h => latest_ok _ _ _ _ h
    · exact ent_no
  · split
    · exact ent_pure fun h => tbLatest_ok _ _ _ _ h
    · exact ent_no

theorem width_ok (n : Int) (l : List (List Int)) (g : Int) (ht : tabB n l = true) : FC Try.prog 53 [.int .i64 n, .ro (.recs 3 l), .int .i64 g] (.int .i64 (wdV n l g)) [] := by
  refine fc_eval sp A4 A4_ok hT hm Try.func53 rfl (by kernel_rfl) rfl rfl ?_
  intro A S r0 fr0 hA hS hr hfr
  cbv
  (try simp only [nc] at *); subst hA hS hr hfr; simp (disch := (refine KR.mk ?_; kernel_rfl)) only [alg, obP_iff, condP_iff, retP_iff, retM_iff, ofNat_cast, nc, Int.toNat_natCast, decide_eq_true_eq, decide_eq_false_iff_not, wrap_w64, Bool.not_eq_true', Bool.not_eq_false', beq_iff_eq, beq_eq_false_iff_ne, AV.bool.injEq, AV.int.injEq, AV.t2.injEq, AV.t3.injEq, AV.own.injEq, List.cons.injEq, Prod.mk.injEq, Row.ints.injEq, RW, Row.nlen, scalar, imp_self, and_true, true_and, lexT, heldT, tailT, planT, nb, Int.toNat_zero, List.getD_cons_zero, List.getD_cons_succ, List.set_cons_zero, List.set_cons_succ, sp, sb]
  have hb := tabB_n ht
  rw [stL_len]
  refine ⟨ht, by omega, rfl⟩
theorem tbWidth_ok (n : Int) (l : List (List Int)) (g : Int) (ht : tabB n l = true) : FC Try.prog 51 [.int .i64 n, .ro (.recs 3 l), .int .i64 g] (.int .i64 (wdV n l g)) [] := by
  refine fc_eval sp A4 A4_ok hT hm Try.func51 rfl (by kernel_rfl) rfl rfl ?_
  intro A S r0 fr0 hA hS hr hfr
  cbv
  (try simp only [nc] at *); subst hA hS hr hfr; simp (disch := (refine KR.mk ?_; kernel_rfl)) only [alg, obP_iff, condP_iff, retP_iff, retM_iff, ofNat_cast, nc, Int.toNat_natCast, decide_eq_true_eq, decide_eq_false_iff_not, wrap_w64, Bool.not_eq_true', Bool.not_eq_false', beq_iff_eq, beq_eq_false_iff_ne, AV.bool.injEq, AV.int.injEq, AV.t2.injEq, AV.t3.injEq, AV.own.injEq, List.cons.injEq, Prod.mk.injEq, Row.ints.injEq, RW, Row.nlen, scalar, imp_self, and_true, true_and, lexT, heldT, tailT, planT, nb, Int.toNat_zero, List.getD_cons_zero, List.getD_cons_succ, List.set_cons_zero, List.set_cons_succ, sp, sb]
  have hb := tabB_n ht
  rw [stL_len]
  refine ⟨ht, by omega, rfl⟩
theorem tbWidths_ok (ss : List Int) (g : Int) (hl : ss.length ≤ 1048576) : FC Try.prog 60 [.ro (.ints .i64 ss), .int .i64 g] (.own 0 true) [(3, .ints .i64 (cwOf ss g))] := by
  refine fc_eval sp A4 A4_ok hT hm Try.func60 rfl (by kernel_rfl) rfl rfl ?_
  intro A S r0 fr0 hA hS hr hfr
  cbv
  refine loop2 (fun (k : Nat) (out : List Int) => ⟨fr 29 [(0, .ro (.ints .i64 ss)), (1, .int .i64 g), (5, .own 1 true), (6, .int .i64 k)], [.dead, .row 3 (.ints .i64 out)]⟩)
    (fun k out => 1 ≤ k ∧ (k ≤ ss.length ∨ k = 1) ∧ out = (List.range (k - 1)).map (cwC ss g)) (fun k _ => ss.length - k) 1 [] ?_ ?_ ?_
  · subst hA; simp [Wk_iff, fr, undefs, wkT, wkV, wkH, okid, Row.nlen, w64_eq, getO, alg]
  · simp
  · rintro k out ⟨k1, k2, ho⟩
    have hol : out.length = k - 1 := by rw [ho]; simp
    cbv
    (try simp only [nc] at *); subst hA hS hr hfr; simp (disch := (refine KR.mk ?_; kernel_rfl)) only [alg, obP_iff, condP_iff, retP_iff, retM_iff, ofNat_cast, nc, Int.toNat_natCast, decide_eq_true_eq, decide_eq_false_iff_not, wrap_w64, Bool.not_eq_true', Bool.not_eq_false', beq_iff_eq, beq_eq_false_iff_ne, AV.bool.injEq, AV.int.injEq, AV.t2.injEq, AV.t3.injEq, AV.own.injEq, List.cons.injEq, Prod.mk.injEq, Row.ints.injEq, RW, Row.nlen, scalar, imp_self, and_true, true_and, lexT, heldT, tailT, planT, nb, Int.toNat_zero, List.getD_cons_zero, List.getD_cons_succ, List.set_cons_zero, List.set_cons_succ, sp, sb]
    refine ⟨fun hk => ?_, fun hk => ?_⟩
    · have w1 : w64 ((k : Int) - 1) = ((k - 1 : Nat) : Int) := by rw [w64_id (by omega)]; omega
      have wk : w64 ((k : Int) + 1) = ((k + 1 : Nat) : Int) := by rw [w64_id (by omega)]; omega
      simp only [w1, wk, Int.toNat_natCast]
      have hr : out ++ [cwC ss g (k - 1)] = (List.range (k + 1 - 1)).map (cwC ss g) := by
        have e : k + 1 - 1 = (k - 1) + 1 := by omega
        rw [e, range_snoc, ← ho]
      have e : k - 1 + 1 = k := by omega
      refine ⟨by omega, by omega, ?_, ?_⟩
      all_goals
        refine ⟨by omega, by simp, k + 1, out ++ [cwC ss g (k - 1)], ?_, ⟨by omega, by omega, hr⟩, by omega⟩
        simp only [cwC, e]
        simp [Wk_iff, fr, undefs, wkT, wkV, wkH, okid, Row.nlen, getO]
    · rw [ho, cwOf]
      have : k - 1 = ss.length - 1 := by omega
      rw [this]
theorem columnWidths_ok (n : Int) (l : List (List Int)) (g : Int) (ht : tabB n l = true) : FC Try.prog 61 [.int .i64 n, .ro (.recs 3 l), .int .i64 g] (.own 0 true) [(3, .ints .i64 (cwL n l g))] := by
  refine fc_eval sp A4 A4_ok hT hm Try.func61 rfl (by kernel_rfl) rfl rfl ?_
  intro A S r0 fr0 hA hS hr hfr
  cbv
  have hb := tabB_n ht
  refine obP.mk (by subst hA hS; exact ht) ?_
  obtain ⟨ss, hss⟩ : ∃ ss, ss = S.stL n l g := ⟨_, rfl⟩
  have hss' : ss = stL n l g := by rw [hss, hS]; rfl
  have hsl : ss.length = n.toNat + 1 := by rw [hss', stL_len]
  refine loop2 (fun (k : Nat) (out : List Int) => ⟨fr 36 [(0, .int .i64 n), (2, .int .i64 g), (7, .ro (.ints .i64 ss)), (8, .own 2 true), (9, .int .i64 k)], [.dead, .dead, .row 3 (.ints .i64 out)]⟩)
    (fun k out => k ≤ n.toNat ∧ out = (List.range k).map (cwC ss g)) (fun k _ => n.toNat - k) 0 [] ?_ ?_ ?_
  · subst hA; simp [Wk_iff, fr, undefs, wkT, wkV, wkH, okid, Row.nlen, getO, hss]
  · simp
  · rintro k out ⟨k1, ho⟩
    have hol : out.length = k := by rw [ho]; simp
    cbv
    (try simp only [nc] at *); subst hA hS hr hfr; simp (disch := (refine KR.mk ?_; kernel_rfl)) only [alg, obP_iff, condP_iff, retP_iff, retM_iff, ofNat_cast, nc, Int.toNat_natCast, decide_eq_true_eq, decide_eq_false_iff_not, wrap_w64, Bool.not_eq_true', Bool.not_eq_false', beq_iff_eq, beq_eq_false_iff_ne, AV.bool.injEq, AV.int.injEq, AV.t2.injEq, AV.t3.injEq, AV.own.injEq, List.cons.injEq, Prod.mk.injEq, Row.ints.injEq, RW, Row.nlen, scalar, imp_self, and_true, true_and, lexT, heldT, tailT, planT, nb, Int.toNat_zero, List.getD_cons_zero, List.getD_cons_succ, List.set_cons_zero, List.set_cons_succ, sp, sb]
    refine ⟨fun hk => ?_, fun hk => ?_⟩
    · have wk : w64 ((k : Int) + 1) = ((k + 1 : Nat) : Int) := by rw [w64_id (by omega)]; omega
      simp only [wk, Int.toNat_natCast]
      have hr : out ++ [cwC ss g k] = (List.range (k + 1)).map (cwC ss g) := by rw [range_snoc, ← ho]
      refine ⟨by omega, by omega, ?_, ?_⟩
      all_goals
        refine ⟨by omega, by simp, k + 1, out ++ [cwC ss g k], ?_, ⟨by omega, hr⟩, by omega⟩
        simp only [cwC]
        simp [Wk_iff, fr, undefs, wkT, wkV, wkH, okid, Row.nlen, getO]
    · rw [ho, cwL, cwOf, ← hss', hsl]
      have : k = n.toNat + 1 - 1 := by omega
      rw [this]

def A5 (S : St0) : List (Nat × (List AV → CR)) :=
  (53, fun args => match args with | [.int .i64 n, .ro (.recs 3 l), .int .i64 g] => .pure (S.tb n l) (.int .i64 (S.wdV n l g)) [] | _ => .no) ::
  (51, fun args => match args with | [.int .i64 n, .ro (.recs 3 l), .int .i64 g] => .pure (S.tb n l) (.int .i64 (S.wdV n l g)) [] | _ => .no) ::
  (60, fun args => match args with | [.ro (.ints .i64 ss), .int .i64 g] => .pure (S.sm ss) (.own 0 true) [(3, .ints .i64 (S.cwOf ss g))] | _ => .no) ::
  (61, fun args => match args with | [.int .i64 n, .ro (.recs 3 l), .int .i64 g] => .pure (S.tb n l) (.own 0 true) [(3, .ints .i64 (S.cwL n l g))] | _ => .no) ::
  A4 S
set_option maxRecDepth 100000 in
theorem A5_ok : TabOK Try.prog (tfind (A5 sp)) := by
  refine tab_cons (fun args => ?_) (tab_cons (fun args => ?_) (tab_cons (fun args => ?_) (tab_cons (fun args => ?_) (A4_ok))))
  · split
    · exact ent_pure fun h => width_ok _ _ _ h
    · exact ent_no
  · split
    · exact ent_pure fun h => tbWidth_ok _ _ _ h
    · exact ent_no
  · split
    · exact ent_pure fun h => tbWidths_ok _ _ h
    · exact ent_no
  · split
    · exact ent_pure fun h => columnWidths_ok _ _ _ h
    · exact ent_no

theorem gapB_tab {n : Int} {l : List (List Int)} {g : Int} (h : gapB n l g = true) : tabB n l = true := by
  simp only [gapB, Bool.and_eq_true] at h; exact h.1
theorem isTotal_ok (n : Int) (l : List (List Int)) (g t : Int) (hl : l.length ≤ 1048577) : FC Try.prog 62 [.int .i64 n, .ro (.recs 3 l), .int .i64 g, .int .i64 t] (.bool (totB n l g t)) [] := by
  refine fc_eval sp A5 A5_ok hT hm Try.func62 rfl (by kernel_rfl) rfl rfl ?_
  intro A S r0 fr0 hA hS hr hfr
  cbv
  (try simp only [nc] at *); subst hA hS hr hfr; simp (disch := (refine KR.mk ?_; kernel_rfl)) only [alg, obP_iff, condP_iff, retP_iff, retM_iff, ofNat_cast, nc, Int.toNat_natCast, decide_eq_true_eq, decide_eq_false_iff_not, wrap_w64, Bool.not_eq_true', Bool.not_eq_false', beq_iff_eq, beq_eq_false_iff_ne, AV.bool.injEq, AV.int.injEq, AV.t2.injEq, AV.t3.injEq, AV.own.injEq, List.cons.injEq, Prod.mk.injEq, Row.ints.injEq, RW, Row.nlen, scalar, imp_self, and_true, true_and, lexT, heldT, tailT, planT, nb, Int.toNat_zero, List.getD_cons_zero, List.getD_cons_succ, List.set_cons_zero, List.set_cons_succ, sp, sb, totB]
  refine ⟨hl, fun _ => trivial, fun h => ?_⟩
  simp only [Bool.and_eq_true] at h
  exact gapB_tab h.1
theorem laA_get (n : Int) (l : List (List Int)) (g t : Int) (hn : 1 ≤ n) (i : Nat) (hi : 1 ≤ i) : (laA n l g t).getD i 0 = (laL n l g t).getD i 0 := by
  have e : n.toNat = (n.toNat - 1) + 1 := by omega
  obtain ⟨j, rfl⟩ : ∃ j, i = j + 1 := ⟨i - 1, by omega⟩
  rw [laA, laL, e, laF, List.getD_cons_succ, List.getD_cons_succ]
  rfl
theorem laL_len (n : Int) (l : List (List Int)) (g t : Int) (hn : 1 ≤ n) : (laL n l g t).length = n.toNat + 1 := by
  rw [laL, List.length_cons, laF_len]; omega
theorem laA_len (n : Int) (l : List (List Int)) (g t : Int) : (laA n l g t).length = n.toNat + 1 := by
  rw [laA, laF_len]
theorem roomOf_ok (n : Int) (l : List (List Int)) (g : Int) (x : List Int) (ht : tabB n l = true) (hx : entB n x = true) : FC Try.prog 59 [.int .i64 n, .ro (.recs 3 l), .int .i64 g, .rc 3 x] (.int .i64 (room n l g x)) [] := by
  refine fc_eval sp A5 A5_ok hT hm Try.func59 rfl (by kernel_rfl) rfl rfl ?_
  intro A S r0 fr0 hA hS hr hfr
  cbv
  (try simp only [nc] at *); subst hA hS hr hfr; simp (disch := (refine KR.mk ?_; kernel_rfl)) only [alg, obP_iff, condP_iff, retP_iff, retM_iff, ofNat_cast, nc, Int.toNat_natCast, decide_eq_true_eq, decide_eq_false_iff_not, wrap_w64, Bool.not_eq_true', Bool.not_eq_false', beq_iff_eq, beq_eq_false_iff_ne, AV.bool.injEq, AV.int.injEq, AV.t2.injEq, AV.t3.injEq, AV.own.injEq, List.cons.injEq, Prod.mk.injEq, Row.ints.injEq, RW, Row.nlen, scalar, imp_self, and_true, true_and, lexT, heldT, tailT, planT, nb, Int.toNat_zero, List.getD_cons_zero, List.getD_cons_succ, List.set_cons_zero, List.set_cons_succ, sp, sb, room]
  have hb := tabB_n ht
  have he := entB_iff ⟨hb.1, hb.2.1⟩ hx
  have w : w64 (x.getD 0 0 + x.getD 1 0) = x.getD 0 0 + x.getD 1 0 := w64_id (by omega)
  rw [w, laL_len _ _ _ _ hb.1, stL_len]
  exact ⟨ht, ht, by omega, ht, by omega, rfl⟩
set_option maxRecDepth 100000 in
theorem tbRoom_ok (n : Int) (l : List (List Int)) (g i : Int) (ht : tabB n l = true) (hi : 0 ≤ i ∧ i < l.length) : FC Try.prog 58 [.int .i64 n, .ro (.recs 3 l), .int .i64 g, .int .i64 i] (.int .i64 (room n l g (l.getD i.toNat []))) [] := by
  refine fc_eval sp A5 A5_ok hT hm Try.func58 rfl (by kernel_rfl) rfl rfl ?_
  intro A S r0 fr0 hA hS hr hfr
  cbv
  (try simp only [nc] at *); subst hA hS hr hfr; simp (disch := (refine KR.mk ?_; kernel_rfl)) only [alg, obP_iff, condP_iff, retP_iff, retM_iff, ofNat_cast, nc, Int.toNat_natCast, decide_eq_true_eq, decide_eq_false_iff_not, wrap_w64, Bool.not_eq_true', Bool.not_eq_false', beq_iff_eq, beq_eq_false_iff_ne, AV.bool.injEq, AV.int.injEq, AV.t2.injEq, AV.t3.injEq, AV.own.injEq, List.cons.injEq, Prod.mk.injEq, Row.ints.injEq, RW, Row.nlen, scalar, imp_self, and_true, true_and, lexT, heldT, tailT, planT, nb, Int.toNat_zero, List.getD_cons_zero, List.getD_cons_succ, List.set_cons_zero, List.set_cons_succ, sp, sb, room]
  have hb := tabB_n ht
  have he := entB_iff ⟨hb.1, hb.2.1⟩ (allE_get hb.2.2.2 (i := i.toNat) (by omega))
  have w : w64 ((l.getD i.toNat []).getD 0 0 + (l.getD i.toNat []).getD 1 0) = (l.getD i.toNat []).getD 0 0 + (l.getD i.toNat []).getD 1 0 := w64_id (by omega)
  rw [w, laA_len, stL_len, laA_get _ _ _ _ hb.1 _ (by omega)]
  refine ⟨hi, ht, ht, ht, by omega, by omega, ?_⟩
  simp only [w64_eq]
  omega

def A6 (S : St0) : List (Nat × (List AV → CR)) :=
  (62, fun args => match args with | [.int .i64 n, .ro (.recs 3 l), .int .i64 g, .int .i64 t] => .pure (S.le l) (.bool (S.totB n l g t)) [] | _ => .no) ::
  (59, fun args => match args with | [.int .i64 n, .ro (.recs 3 l), .int .i64 g, .rc 3 x] => .pure (S.tb n l ∧ S.en n x) (.int .i64 (S.room n l g x)) [] | _ => .no) ::
  (58, fun args => match args with | [.int .i64 n, .ro (.recs 3 l), .int .i64 g, .int .i64 i] => .pure (S.tb n l ∧ S.ix l i) (.int .i64 (S.roI n l g i)) [] | _ => .no) ::
  A5 S
set_option maxRecDepth 100000 in
theorem A6_ok : TabOK Try.prog (tfind (A6 sp)) := by
  refine tab_cons (fun args => ?_) (tab_cons (fun args => ?_) (tab_cons (fun args => ?_) (A5_ok)))
  · split
    · exact ent_pure fun h => isTotal_ok _ _ _ _ h
    · exact ent_no
  · split
    · exact ent_pure fun h => roomOf_ok _ _ _ _ h.1 h.2
    · exact ent_no
  · split
    · exact ent_pure fun h => tbRoom_ok _ _ _ _ h.1 h.2
    · exact ent_no
theorem implTW_ok (n : Int) (l : List (List Int)) (g : Int) (hl : l.length ≤ 1048577) : FC Try.prog 25 [.int .i64 n, .ro (.recs 3 l), .int .i64 g] (.t2 (.int .i64 (twV n l g)) (.bool (gapB n l g))) [] := by
  refine fc_eval sp A6 A6_ok hT hm Try.func25 rfl (by kernel_rfl) rfl rfl ?_
  intro A S r0 fr0 hA hS hr hfr
  cbv
  (try simp only [nc] at *); subst hA hS hr hfr; simp (disch := (refine KR.mk ?_; kernel_rfl)) only [alg, obP_iff, condP_iff, retP_iff, retM_iff, ofNat_cast, nc, Int.toNat_natCast, decide_eq_true_eq, decide_eq_false_iff_not, wrap_w64, Bool.not_eq_true', Bool.not_eq_false', beq_iff_eq, beq_eq_false_iff_ne, AV.bool.injEq, AV.int.injEq, AV.t2.injEq, AV.t3.injEq, AV.own.injEq, List.cons.injEq, Prod.mk.injEq, Row.ints.injEq, RW, Row.nlen, scalar, imp_self, and_true, true_and, lexT, heldT, tailT, planT, nb, Int.toNat_zero, List.getD_cons_zero, List.getD_cons_succ, List.set_cons_zero, List.set_cons_succ, sp, sb, twV]
  refine ⟨hl, fun h => by simp [h], fun h => ⟨gapB_tab h, by simp [h]⟩⟩
theorem specTW_ok (n : Int) (l : List (List Int)) (g : Int) (hl : l.length ≤ 1048577) : FC Try.prog 24 [.int .i64 n, .ro (.recs 3 l), .int .i64 g] (.t2 (.int .i64 (twV n l g)) (.bool (gapB n l g))) [] := by
  refine fc_eval sp A6 A6_ok hT hm Try.func24 rfl (by kernel_rfl) rfl rfl ?_
  intro A S r0 fr0 hA hS hr hfr
  cbv
  (try simp only [nc] at *); subst hA hS hr hfr; simp (disch := (refine KR.mk ?_; kernel_rfl)) only [alg, obP_iff, condP_iff, retP_iff, retM_iff, ofNat_cast, nc, Int.toNat_natCast, decide_eq_true_eq, decide_eq_false_iff_not, wrap_w64, Bool.not_eq_true', Bool.not_eq_false', beq_iff_eq, beq_eq_false_iff_ne, AV.bool.injEq, AV.int.injEq, AV.t2.injEq, AV.t3.injEq, AV.own.injEq, List.cons.injEq, Prod.mk.injEq, Row.ints.injEq, RW, Row.nlen, scalar, imp_self, and_true, true_and, lexT, heldT, tailT, planT, nb, Int.toNat_zero, List.getD_cons_zero, List.getD_cons_succ, List.set_cons_zero, List.set_cons_succ, sp, sb, twV]
  refine ⟨hl, fun h => by simp [h], fun h => ⟨gapB_tab h, by simp [h]⟩⟩
theorem implLS_ok (n : Int) (l : List (List Int)) (g : Int) (hl : l.length ≤ 1048577) : FC Try.prog 34 [.int .i64 n, .ro (.recs 3 l), .int .i64 g] (.t2 (.own 0 true) (.bool (gapB n l g))) [(3, .ints .i64 (lsL n l g))] := by
  refine fc_eval sp A6 A6_ok hT hm Try.func34 rfl (by kernel_rfl) rfl rfl ?_
  intro A S r0 fr0 hA hS hr hfr
  cbv
  (try simp only [nc] at *); subst hA hS hr hfr; simp (disch := (refine KR.mk ?_; kernel_rfl)) only [alg, obP_iff, condP_iff, retP_iff, retM_iff, ofNat_cast, nc, Int.toNat_natCast, decide_eq_true_eq, decide_eq_false_iff_not, wrap_w64, Bool.not_eq_true', Bool.not_eq_false', beq_iff_eq, beq_eq_false_iff_ne, AV.bool.injEq, AV.int.injEq, AV.t2.injEq, AV.t3.injEq, AV.own.injEq, List.cons.injEq, Prod.mk.injEq, Row.ints.injEq, RW, Row.nlen, scalar, imp_self, and_true, true_and, lexT, heldT, tailT, planT, nb, Int.toNat_zero, List.getD_cons_zero, List.getD_cons_succ, List.set_cons_zero, List.set_cons_succ, sp, sb]
  refine ⟨hl, fun h => by simp [h, lsL], fun h => ?_⟩
  have hb := tabB_n (gapB_tab h)
  rw [stL_len]
  refine ⟨gapB_tab h, by omega, by omega, by omega, ?_⟩
  show (0 : Nat) = 0 ∧ AV.bool true = AV.bool (gapB n l g) ∧ [(3, Row.ints .i64 (((stL n l g).take ((w64 (n - 0)).toNat)).drop 0))] = [(3, Row.ints .i64 (lsL n l g))]
  rw [h, lsL, if_pos h, w64_id (by omega)]
  simp
theorem specLS_ok (n : Int) (l : List (List Int)) (g : Int) (hl : l.length ≤ 1048577) : FC Try.prog 33 [.int .i64 n, .ro (.recs 3 l), .int .i64 g] (.t2 (.own 0 true) (.bool (gapB n l g))) [(3, .ints .i64 (lsL n l g))] := by
  refine fc_eval sp A6 A6_ok hT hm Try.func33 rfl (by kernel_rfl) rfl rfl ?_
  intro A S r0 fr0 hA hS hr hfr
  cbv
  (try simp only [nc] at *); subst hA hS hr hfr; simp (disch := (refine KR.mk ?_; kernel_rfl)) only [alg, obP_iff, condP_iff, retP_iff, retM_iff, ofNat_cast, nc, Int.toNat_natCast, decide_eq_true_eq, decide_eq_false_iff_not, wrap_w64, Bool.not_eq_true', Bool.not_eq_false', beq_iff_eq, beq_eq_false_iff_ne, AV.bool.injEq, AV.int.injEq, AV.t2.injEq, AV.t3.injEq, AV.own.injEq, List.cons.injEq, Prod.mk.injEq, Row.ints.injEq, RW, Row.nlen, scalar, imp_self, and_true, true_and, lexT, heldT, tailT, planT, nb, Int.toNat_zero, List.getD_cons_zero, List.getD_cons_succ, List.set_cons_zero, List.set_cons_succ, sp, sb]
  refine ⟨hl, fun h => by simp [h, lsL], fun h => ?_⟩
  have hb := tabB_n (gapB_tab h)
  have hs := stL_len n l g
  refine ⟨gapB_tab h, by omega, by omega, by omega, by simp; omega, h.symm, ?_⟩
  rw [lsL, if_pos h, w64_id (by omega)]
  simp
theorem implCW_ok (n : Int) (l : List (List Int)) (g : Int) (hl : l.length ≤ 1048577) : FC Try.prog 38 [.int .i64 n, .ro (.recs 3 l), .int .i64 g] (.t2 (.own 0 true) (.bool (gapB n l g))) [(3, .ints .i64 (cwR n l g))] := by
  refine fc_eval sp A6 A6_ok hT hm Try.func38 rfl (by kernel_rfl) rfl rfl ?_
  intro A S r0 fr0 hA hS hr hfr
  cbv
  (try simp only [nc] at *); subst hA hS hr hfr; simp (disch := (refine KR.mk ?_; kernel_rfl)) only [alg, obP_iff, condP_iff, retP_iff, retM_iff, ofNat_cast, nc, Int.toNat_natCast, decide_eq_true_eq, decide_eq_false_iff_not, wrap_w64, Bool.not_eq_true', Bool.not_eq_false', beq_iff_eq, beq_eq_false_iff_ne, AV.bool.injEq, AV.int.injEq, AV.t2.injEq, AV.t3.injEq, AV.own.injEq, List.cons.injEq, Prod.mk.injEq, Row.ints.injEq, RW, Row.nlen, scalar, imp_self, and_true, true_and, lexT, heldT, tailT, planT, nb, Int.toNat_zero, List.getD_cons_zero, List.getD_cons_succ, List.set_cons_zero, List.set_cons_succ, sp, sb, cwR]
  refine ⟨hl, fun h => by simp [h], fun h => ⟨gapB_tab h, by simp [h]⟩⟩
theorem specCW_ok (n : Int) (l : List (List Int)) (g : Int) (hl : l.length ≤ 1048577) : FC Try.prog 37 [.int .i64 n, .ro (.recs 3 l), .int .i64 g] (.t2 (.own 0 true) (.bool (gapB n l g))) [(3, .ints .i64 (cwR n l g))] := by
  refine fc_eval sp A6 A6_ok hT hm Try.func37 rfl (by kernel_rfl) rfl rfl ?_
  intro A S r0 fr0 hA hS hr hfr
  cbv
  (try simp only [nc] at *); subst hA hS hr hfr; simp (disch := (refine KR.mk ?_; kernel_rfl)) only [alg, obP_iff, condP_iff, retP_iff, retM_iff, ofNat_cast, nc, Int.toNat_natCast, decide_eq_true_eq, decide_eq_false_iff_not, wrap_w64, Bool.not_eq_true', Bool.not_eq_false', beq_iff_eq, beq_eq_false_iff_ne, AV.bool.injEq, AV.int.injEq, AV.t2.injEq, AV.t3.injEq, AV.own.injEq, List.cons.injEq, Prod.mk.injEq, Row.ints.injEq, RW, Row.nlen, scalar, imp_self, and_true, true_and, lexT, heldT, tailT, planT, nb, Int.toNat_zero, List.getD_cons_zero, List.getD_cons_succ, List.set_cons_zero, List.set_cons_succ, sp, sb, cwR]
  refine ⟨hl, fun h => by simp [h], fun h => ⟨gapB_tab h, ?_, h.symm, by simp [h, cwL]⟩⟩
  have hb := tabB_n (gapB_tab h)
  rw [stL_len]; omega
theorem totB_tab {n : Int} {l : List (List Int)} {g t : Int} (h : totB n l g t = true) : tabB n l = true := by
  simp only [totB, Bool.and_eq_true] at h; exact gapB_tab h.1.1
theorem implLC_ok (n : Int) (l : List (List Int)) (g t : Int) (hl : l.length ≤ 1048577) : FC Try.prog 42 [.int .i64 n, .ro (.recs 3 l), .int .i64 g, .int .i64 t] (.t2 (.own 0 true) (.bool (totB n l g t))) [(3, .ints .i64 (lcL n l g t))] := by
  refine fc_eval sp A6 A6_ok hT hm Try.func42 rfl (by kernel_rfl) rfl rfl ?_
  intro A S r0 fr0 hA hS hr hfr
  cbv
  (try simp only [nc] at *); subst hA hS hr hfr; simp (disch := (refine KR.mk ?_; kernel_rfl)) only [alg, obP_iff, condP_iff, retP_iff, retM_iff, ofNat_cast, nc, Int.toNat_natCast, decide_eq_true_eq, decide_eq_false_iff_not, wrap_w64, Bool.not_eq_true', Bool.not_eq_false', beq_iff_eq, beq_eq_false_iff_ne, AV.bool.injEq, AV.int.injEq, AV.t2.injEq, AV.t3.injEq, AV.own.injEq, List.cons.injEq, Prod.mk.injEq, Row.ints.injEq, RW, Row.nlen, scalar, imp_self, and_true, true_and, lexT, heldT, tailT, planT, nb, Int.toNat_zero, List.getD_cons_zero, List.getD_cons_succ, List.set_cons_zero, List.set_cons_succ, sp, sb]
  refine ⟨hl, fun h => by simp [h, lcL], fun h => ?_⟩
  have hb := tabB_n (totB_tab h)
  rw [laL_len _ _ _ _ hb.1]
  refine ⟨totB_tab h, by omega, by omega, by omega, ?_⟩
  show (0 : Nat) = 0 ∧ AV.bool true = AV.bool (totB n l g t) ∧ [(3, Row.ints .i64 (((laL n l g t).take ((w64 (n - 0)).toNat)).drop 0))] = [(3, Row.ints .i64 (lcL n l g t))]
  rw [h, lcL, if_pos h, w64_id (by omega)]
  simp
theorem laA_take (n : Int) (l : List (List Int)) (g t : Int) (hn : 1 ≤ n) : ((laA n l g t).take n.toNat).set 0 0 = (laL n l g t).take n.toNat := by
  have e : n.toNat = (n.toNat - 1) + 1 := by omega
  obtain ⟨N, hN⟩ : ∃ N, N = n.toNat := ⟨_, rfl⟩
  rw [laA, laL, ← hN]
  rw [← hN] at e
  obtain ⟨M, hM⟩ : ∃ M, M = N - 1 := ⟨_, rfl⟩
  rw [← hM] at e ⊢
  have : laF N l g t N = laF N l g t (M + 1) := by rw [← e]
  rw [this, laF, e, List.take_succ_cons, List.take_succ_cons, List.set_cons_zero]
theorem totB_or (n : Int) (l : List (List Int)) (g t : Int) : (!(gapB n l g && inR t 0 5000) || decide (t < wdV n l g)) = !(totB n l g t) := by
  have : decide (t < wdV n l g) = !decide (wdV n l g ≤ t) := by
    by_cases h : t < wdV n l g
    · have : ¬ wdV n l g ≤ t := by omega
      simp [h, this]
    · have : wdV n l g ≤ t := by omega
      simp [h, this]
  rw [this, nb]; rfl
theorem specLC_ok (n : Int) (l : List (List Int)) (g t : Int) (hl : l.length ≤ 1048577) : FC Try.prog 41 [.int .i64 n, .ro (.recs 3 l), .int .i64 g, .int .i64 t] (.t2 (.own 0 true) (.bool (totB n l g t))) [(3, .ints .i64 (lcL n l g t))] := by
  refine fc_eval sp A6 A6_ok hT hm Try.func41 rfl (by kernel_rfl) rfl rfl ?_
  intro A S r0 fr0 hA hS hr hfr
  cbv
  (try simp only [nc] at *); subst hA hS hr hfr; simp (disch := (refine KR.mk ?_; kernel_rfl)) only [alg, obP_iff, condP_iff, retP_iff, retM_iff, ofNat_cast, nc, Int.toNat_natCast, decide_eq_true_eq, decide_eq_false_iff_not, wrap_w64, Bool.not_eq_true', Bool.not_eq_false', beq_iff_eq, beq_eq_false_iff_ne, AV.bool.injEq, AV.int.injEq, AV.t2.injEq, AV.t3.injEq, AV.own.injEq, List.cons.injEq, Prod.mk.injEq, Row.ints.injEq, RW, Row.nlen, scalar, imp_self, and_true, true_and, lexT, heldT, tailT, planT, nb, Int.toNat_zero, List.getD_cons_zero, List.getD_cons_succ, List.set_cons_zero, List.set_cons_succ, sp, sb, totB_or]
  refine ⟨hl, fun _ => trivial, fun h => ?_, fun h => ⟨h.symm, by simp [h, lcL]⟩, fun h => ?_⟩
  · simp only [Bool.and_eq_true] at h; exact gapB_tab h.1
  · have hb := tabB_n (totB_tab h)
    have hs := laA_len n l g t
    rw [w64_id (by omega)]
    refine ⟨totB_tab h, by omega, by omega, by omega, by simp; omega, by simp; omega, h.symm, ?_⟩
    rw [lcL, if_pos h, ← laA_take _ _ _ _ hb.1]
    simp
theorem idx_iff {l : List (List Int)} {i : Int} (hl : l.length ≤ 1048577) : inR i 0 (w64 (l.length - 1)) = true ↔ 0 ≤ i ∧ i < l.length := by
  rw [w64_id (by omega), inR_iff]; omega
theorem implRo_ok (n : Int) (l : List (List Int)) (g i : Int) (hl : l.length ≤ 1048577) : FC Try.prog 36 [.int .i64 n, .ro (.recs 3 l), .int .i64 g, .int .i64 i] (.t2 (.int .i64 (roV n l g i)) (.bool (roB n l g i))) [] := by
  refine fc_eval sp A6 A6_ok hT hm Try.func36 rfl (by kernel_rfl) rfl rfl ?_
  intro A S r0 fr0 hA hS hr hfr
  cbv
  (try simp only [nc] at *); subst hA hS hr hfr; simp (disch := (refine KR.mk ?_; kernel_rfl)) only [alg, obP_iff, condP_iff, retP_iff, retM_iff, ofNat_cast, nc, Int.toNat_natCast, decide_eq_true_eq, decide_eq_false_iff_not, wrap_w64, Bool.not_eq_true', Bool.not_eq_false', beq_iff_eq, beq_eq_false_iff_ne, AV.bool.injEq, AV.int.injEq, AV.t2.injEq, AV.t3.injEq, AV.own.injEq, List.cons.injEq, Prod.mk.injEq, Row.ints.injEq, RW, Row.nlen, scalar, imp_self, and_true, true_and, lexT, heldT, tailT, planT, nb, Int.toNat_zero, List.getD_cons_zero, List.getD_cons_succ, List.set_cons_zero, List.set_cons_succ, sp, sb, roV, roB, idxB]
  refine ⟨hl, fun _ => trivial, fun h => by simp [h], fun h => ?_⟩
  have h2 := h
  simp only [Bool.and_eq_true, idx_iff hl] at h2
  refine ⟨h2.2, ⟨gapB_tab h2.1, allE_get (tabB_n (gapB_tab h2.1)).2.2.2 (by omega)⟩, by simp [h], h.symm⟩
theorem specRo_ok (n : Int) (l : List (List Int)) (g i : Int) (hl : l.length ≤ 1048577) : FC Try.prog 35 [.int .i64 n, .ro (.recs 3 l), .int .i64 g, .int .i64 i] (.t2 (.int .i64 (roV n l g i)) (.bool (roB n l g i))) [] := by
  refine fc_eval sp A6 A6_ok hT hm Try.func35 rfl (by kernel_rfl) rfl rfl ?_
  intro A S r0 fr0 hA hS hr hfr
  cbv
  (try simp only [nc] at *); subst hA hS hr hfr; simp (disch := (refine KR.mk ?_; kernel_rfl)) only [alg, obP_iff, condP_iff, retP_iff, retM_iff, ofNat_cast, nc, Int.toNat_natCast, decide_eq_true_eq, decide_eq_false_iff_not, wrap_w64, Bool.not_eq_true', Bool.not_eq_false', beq_iff_eq, beq_eq_false_iff_ne, AV.bool.injEq, AV.int.injEq, AV.t2.injEq, AV.t3.injEq, AV.own.injEq, List.cons.injEq, Prod.mk.injEq, Row.ints.injEq, RW, Row.nlen, scalar, imp_self, and_true, true_and, lexT, heldT, tailT, planT, nb, Int.toNat_zero, List.getD_cons_zero, List.getD_cons_succ, List.set_cons_zero, List.set_cons_succ, sp, sb, roV, roB, idxB]
  refine ⟨hl, fun _ => trivial, fun h => by simp [h], fun h => ?_⟩
  have h2 := h
  simp only [Bool.and_eq_true, idx_iff hl] at h2
  refine ⟨⟨gapB_tab h2.1, h2.2⟩, by simp [h], h.symm⟩
end Go.Proofs.Ytlfioonmofkpiaa
