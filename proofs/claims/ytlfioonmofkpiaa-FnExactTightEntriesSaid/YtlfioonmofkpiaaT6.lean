/-
  Tables: the laws.
-/
import Derived.Test.YtlfioonmofkpiaaT5
set_option linter.unusedSimpArgs false
set_option linter.unusedVariables false
namespace Go.Proofs.Ytlfioonmofkpiaa
open Go.Ab

def A7 (S : St0) : List (Nat × (List AV → CR)) :=
  (17, fun args => match args with | [.int .i64 n, .ro (.recs 3 l)] => .pure (S.le l) (.bool (S.tabB n l)) [] | _ => .no) ::
  (15, fun args => match args with | [.int .i64 n, .ro (.recs 3 l)] => .pure (S.le l) (.bool (S.tabB n l)) [] | _ => .no) ::
  (25, fun args => match args with | [.int .i64 n, .ro (.recs 3 l), .int .i64 g] => .pure (S.le l) (.t2 (.int .i64 (S.twV n l g)) (.bool (S.gapB n l g))) [] | _ => .no) ::
  (24, fun args => match args with | [.int .i64 n, .ro (.recs 3 l), .int .i64 g] => .pure (S.le l) (.t2 (.int .i64 (S.twV n l g)) (.bool (S.gapB n l g))) [] | _ => .no) ::
  (34, fun args => match args with | [.int .i64 n, .ro (.recs 3 l), .int .i64 g] => .pure (S.le l) (.t2 (.own 0 true) (.bool (S.gapB n l g))) [(3, .ints .i64 (S.lsL n l g))] | _ => .no) ::
  (33, fun args => match args with | [.int .i64 n, .ro (.recs 3 l), .int .i64 g] => .pure (S.le l) (.t2 (.own 0 true) (.bool (S.gapB n l g))) [(3, .ints .i64 (S.lsL n l g))] | _ => .no) ::
  (38, fun args => match args with | [.int .i64 n, .ro (.recs 3 l), .int .i64 g] => .pure (S.le l) (.t2 (.own 0 true) (.bool (S.gapB n l g))) [(3, .ints .i64 (S.cwR n l g))] | _ => .no) ::
  (37, fun args => match args with | [.int .i64 n, .ro (.recs 3 l), .int .i64 g] => .pure (S.le l) (.t2 (.own 0 true) (.bool (S.gapB n l g))) [(3, .ints .i64 (S.cwR n l g))] | _ => .no) ::
  (44, fun args => match args with | [.int .i64 n, .ro (.recs 3 l), .int .i64 g] => .pure (S.le l) (.t2 (.own 0 true) (.bool (S.gapB n l g))) [(3, .ints .i64 (S.tiL n l g))] | _ => .no) ::
  (43, fun args => match args with | [.int .i64 n, .ro (.recs 3 l), .int .i64 g] => .pure (S.le l) (.t2 (.own 0 true) (.bool (S.gapB n l g))) [(3, .ints .i64 (S.tiL n l g))] | _ => .no) ::
  (42, fun args => match args with | [.int .i64 n, .ro (.recs 3 l), .int .i64 g, .int .i64 t] => .pure (S.le l) (.t2 (.own 0 true) (.bool (S.totB n l g t))) [(3, .ints .i64 (S.lcL n l g t))] | _ => .no) ::
  (41, fun args => match args with | [.int .i64 n, .ro (.recs 3 l), .int .i64 g, .int .i64 t] => .pure (S.le l) (.t2 (.own 0 true) (.bool (S.totB n l g t))) [(3, .ints .i64 (S.lcL n l g t))] | _ => .no) ::
  (40, fun args => match args with | [.int .i64 n, .ro (.recs 3 l), .int .i64 g, .int .i64 t] => .pure (S.le l) (.t2 (.own 0 true) (.bool (S.totB n l g t))) [(3, .ints .i64 (S.spR n l g t))] | _ => .no) ::
  (39, fun args => match args with | [.int .i64 n, .ro (.recs 3 l), .int .i64 g, .int .i64 t] => .pure (S.le l) (.t2 (.own 0 true) (.bool (S.totB n l g t))) [(3, .ints .i64 (S.spR n l g t))] | _ => .no) ::
  (36, fun args => match args with | [.int .i64 n, .ro (.recs 3 l), .int .i64 g, .int .i64 i] => .pure (S.le l) (.t2 (.int .i64 (S.roV n l g i)) (.bool (S.roB n l g i))) [] | _ => .no) ::
  (35, fun args => match args with | [.int .i64 n, .ro (.recs 3 l), .int .i64 g, .int .i64 i] => .pure (S.le l) (.t2 (.int .i64 (S.roV n l g i)) (.bool (S.roB n l g i))) [] | _ => .no) ::
  (27, fun args => match args with | [.int .i64 n, .ro (.recs 3 l), .int .i64 g, .int .i64 i] => .pure (S.lm l) (.t2 (.int .i64 (S.wwV n l g i)) (.bool (S.roB n l g i))) [] | _ => .no) ::
  (26, fun args => match args with | [.int .i64 n, .ro (.recs 3 l), .int .i64 g, .int .i64 i] => .pure (S.lm l) (.t2 (.int .i64 (S.wwV n l g i)) (.bool (S.roB n l g i))) [] | _ => .no) ::
  (29, fun args => match args with | [.int .i64 n, .ro (.recs 3 l), .int .i64 c] => .pure (S.le l) (.t2 (.own 0 true) (.bool (S.eoB n l c))) [(3, .ints .i64 (S.eoL n l c))] | _ => .no) ::
  (28, fun args => match args with | [.int .i64 n, .ro (.recs 3 l), .int .i64 c] => .pure (S.le l) (.t2 (.own 0 true) (.bool (S.eoB n l c))) [(3, .ints .i64 (S.eoL n l c))] | _ => .no) ::
  (21, fun args => match args with | [.int .i64 n, .ro (.recs 3 l), .rc 3 x] => .pure (S.lm l) (.t2 (.own 0 true) (.bool (S.addB n l x))) [(33, .recs 3 (S.addL n l x))] | _ => .no) ::
  (19, fun args => match args with | [.int .i64 n, .ro (.recs 3 l), .rc 3 x] => .pure (S.lm l) (.t2 (.own 0 true) (.bool (S.addB n l x))) [(33, .recs 3 (S.addL n l x))] | _ => .no) ::
  (14, fun args => match args with | [.ro (.recs 3 l), .int .i64 k] => .pure (True) (.int .i64 (S.szV k l)) [] | _ => .no) ::
  (16, fun args => match args with | [.ro (.recs 3 l)] => .pure (S.rl l) (.own 0 false) [(33, .recs 3 l)] | _ => .no) ::
  (18, fun args => match args with | [.ro (.recs 3 a), .ro (.recs 3 b)] => .pure (S.rl a ∧ S.rl b) (.bool (S.eqRL a b)) [] | _ => .no) ::
  (22, fun args => match args with | [.ro (.recs 3 a), .int .i64 k] => .mut 0 (S.rl a ∧ S.kr k) (.int .i64 (S.upRK a k)) (.recs 3 (S.upR a k)) | _ => .no) ::
  (23, fun args => match args with | [.ro (.recs 3 a), .int .i64 k] => .pure (S.rl a ∧ S.kr k) (.int .i64 (S.heldR a k)) [] | _ => .no) ::
  A2 S
set_option maxRecDepth 100000 in
theorem A7_ok : TabOK Try.prog (tfind (A7 sp)) := by
  refine tab_cons (fun args => ?_) (tab_cons (fun args => ?_) (tab_cons (fun args => ?_) (tab_cons (fun args => ?_) (tab_cons (fun args => ?_) (tab_cons (fun args => ?_) (tab_cons (fun args => ?_) (tab_cons (fun args => ?_) (tab_cons (fun args => ?_) (tab_cons (fun args => ?_) (tab_cons (fun args => ?_) (tab_cons (fun args => ?_) (tab_cons (fun args => ?_) (tab_cons (fun args => ?_) (tab_cons (fun args => ?_) (tab_cons (fun args => ?_) (tab_cons (fun args => ?_) (tab_cons (fun args => ?_) (tab_cons (fun args => ?_) (tab_cons (fun args => ?_) (tab_cons (fun args => ?_) (tab_cons (fun args => ?_) (tab_cons (fun args => ?_) (tab_cons (fun args => ?_) (tab_cons (fun args => ?_) (tab_cons (fun args => ?_) (tab_cons (fun args => ?_) (A2_ok)))))))))))))))))))))))))))
  · split
    · exact ent_pure fun h => implTab_ok _ _ h
    · exact ent_no
  · split
    · exact ent_pure fun h => specTab_ok _ _ h
    · exact ent_no
  · split
    · exact ent_pure fun h => implTW_ok _ _ _ h
    · exact ent_no
  · split
    · exact ent_pure fun h => specTW_ok _ _ _ h
    · exact ent_no
  · split
    · exact ent_pure fun h => implLS_ok _ _ _ h
    · exact ent_no
  · split
    · exact ent_pure fun h => specLS_ok _ _ _ h
    · exact ent_no
  · split
    · exact ent_pure fun h => implCW_ok _ _ _ h
    · exact ent_no
  · split
    · exact ent_pure fun h => specCW_ok _ _ _ h
    · exact ent_no
  · split
    · exact ent_pure fun h => implTE_ok _ _ _ h
    · exact ent_no
  · split
    · exact ent_pure fun h => specTE_ok _ _ _ h
    · exact ent_no
  · split
    · exact ent_pure fun h => implLC_ok _ _ _ _ h
    · exact ent_no
  · split
    · exact ent_pure fun h => specLC_ok _ _ _ _ h
    · exact ent_no
  · split
    · exact ent_pure fun h => implSpread_ok _ _ _ _ h
    · exact ent_no
  · split
    · exact ent_pure fun h => specSpread_ok _ _ _ _ h
    · exact ent_no
  · split
    · exact ent_pure fun h => implRo_ok _ _ _ _ h
    · exact ent_no
  · split
    · exact ent_pure fun h => specRo_ok _ _ _ _ h
    · exact ent_no
  · split
    · exact ent_pure fun h => implWW_ok _ _ _ _ h
    · exact ent_no
  · split
    · exact ent_pure fun h => specWW_ok _ _ _ _ h
    · exact ent_no
  · split
    · exact ent_pure fun h => implEO_ok _ _ _ h
    · exact ent_no
  · split
    · exact ent_pure fun h => specEO_ok _ _ _ h
    · exact ent_no
  · split
    · exact ent_pure fun h => implAdd_ok _ _ _ h
    · exact ent_no
  · split
    · exact ent_pure fun h => specAdd_ok _ _ _ h
    · exact ent_no
  · split
    · exact ent_pure fun _ => szE_ok _ _
    · exact ent_no
  · split
    · exact ent_pure fun h => toES_ok _ h.1 h.2
    · exact ent_no
  · split
    · exact ent_pure fun h => eqES_ok _ _ h.1.1 h.2.1 h.1.2
    · exact ent_no
  · split
    · exact ent_mut fun h => markE_ok _ _ h.1.1 h.1.2 h.2
    · exact ent_no
  · split
    · exact ent_pure fun h => heldE_ok _ _ h.1.1 h.1.2 h.2
    · exact ent_no

theorem sz_pos {n : Nat} (hn : n ≤ 9223372036854775807) (h : ¬ szV 1048576 n < 0) : n ≤ 1048576 := by
  unfold szV at h
  rw [w64_id (by omega)] at h
  split at h <;> omega
theorem range_le {α : Type} (f : Nat → α) (n : Int) (h : n ≤ 10) : ((List.range n.toNat).map f).length ≤ 10 := by simp; omega
theorem lsL_len (n : Int) (l : List (List Int)) (g : Int) : (lsL n l g).length ≤ 10 := by
  unfold lsL; split
  · rename_i h; have := tabB_n (gapB_tab h); simp; omega
  · simp
theorem cwR_len (n : Int) (l : List (List Int)) (g : Int) : (cwR n l g).length ≤ 10 := by
  unfold cwR; split
  · rename_i h; have := tabB_n (gapB_tab h); rw [cwL_len]; omega
  · simp
theorem lcL_len (n : Int) (l : List (List Int)) (g t : Int) : (lcL n l g t).length ≤ 10 := by
  unfold lcL; split
  · rename_i h; have := tabB_n (totB_tab h); simp; omega
  · simp
theorem spR_len (n : Int) (l : List (List Int)) (g t : Int) : (spR n l g t).length ≤ 10 := by
  unfold spR; split
  · rename_i h; have := tabB_n (totB_tab h); simp [spT]; omega
  · simp
theorem tiL_len (n : Int) (l : List (List Int)) (g : Int) : (tiL n l g).length ≤ l.length := by
  unfold tiL; split
  · exact idxF_len _ _ _
  · simp
theorem eoL_len (n : Int) (l : List (List Int)) (c : Int) : (eoL n l c).length ≤ l.length := by
  unfold eoL; split
  · exact idxF_len _ _ _
  · simp
theorem addL_len (n : Int) (l : List (List Int)) (x : List Int) : (addL n l x).length ≤ 20 := by
  unfold addL; split
  · rename_i h; simp only [addB, Bool.and_eq_true, decide_eq_true_eq] at h; simp; omega
  · simp
theorem addL_rec {n : Int} {l : List (List Int)} {x : List Int} (h : rec3 l) (hx : x.length = 3) : rec3 (addL n l x) := by
  unfold addL; split
  · intro y hy
    rcases List.mem_append.1 hy with h1 | h1
    · exact h y h1
    · simp at h1; rw [h1]; exact hx
  · intro y hy; simp at hy
theorem upR_rec : ∀ (n : Nat) (k : Int), rec3 (upR n k)
  | 0, k => by intro y hy; simp [upR] at hy
  | n + 1, k => by
    intro y hy
    simp only [upR, List.mem_cons] at hy
    rcases hy with rfl | hy
    · rfl
    · exact upR_rec n _ y hy

set_option maxRecDepth 100000 in
theorem lawIsTable (n : Int) (l : List (List Int)) (h3 : rec3 l) (hmx : l.length ≤ 9223372036854775807) : FC Try.prog 3 [.int .i64 n, .ro (.recs 3 l)] (.bool true) [] := by
  refine fc_eval sp A7 A7_ok hT hm Try.func3 rfl (by kernel_rfl) rfl rfl ?_
  intro A S r0 fr0 hA hS hr hfr
  cbv
  (try simp only [nc] at *); subst hA hS hr hfr; simp (disch := (refine KR.mk ?_; kernel_rfl)) only [alg, obP_iff, condP_iff, retP_iff, retM_iff, ofNat_cast, nc, Int.toNat_natCast, decide_eq_true_eq, decide_eq_false_iff_not, wrap_w64, Bool.not_eq_true', Bool.not_eq_false', beq_iff_eq, beq_eq_false_iff_ne, AV.bool.injEq, AV.int.injEq, AV.t2.injEq, AV.t3.injEq, AV.own.injEq, List.cons.injEq, Prod.mk.injEq, Row.ints.injEq, RW, Row.nlen, scalar, imp_self, and_true, true_and, lexT, heldT, tailT, planT, nb, Int.toNat_zero, List.getD_cons_zero, List.getD_cons_succ, List.set_cons_zero, List.set_cons_succ, sp, sb, eqL, eqRL]
  refine ⟨fun _ => trivial, fun hs => ?_⟩
  have hl := sz_pos hmx hs
  have hl2 : l.length ≤ 1048577 := by omega
  simp [h3, hl, hl2, upFrom_len, upR_len, upR_rec, heldL_up, heldR_up]
  try omega
set_option maxRecDepth 100000 in
theorem lawTableWidth (n : Int) (l : List (List Int)) (g : Int) (h3 : rec3 l) (hmx : l.length ≤ 9223372036854775807) : FC Try.prog 5 [.int .i64 n, .ro (.recs 3 l), .int .i64 g] (.bool true) [] := by
  refine fc_eval sp A7 A7_ok hT hm Try.func5 rfl (by kernel_rfl) rfl rfl ?_
  intro A S r0 fr0 hA hS hr hfr
  cbv
  (try simp only [nc] at *); subst hA hS hr hfr; simp (disch := (refine KR.mk ?_; kernel_rfl)) only [alg, obP_iff, condP_iff, retP_iff, retM_iff, ofNat_cast, nc, Int.toNat_natCast, decide_eq_true_eq, decide_eq_false_iff_not, wrap_w64, Bool.not_eq_true', Bool.not_eq_false', beq_iff_eq, beq_eq_false_iff_ne, AV.bool.injEq, AV.int.injEq, AV.t2.injEq, AV.t3.injEq, AV.own.injEq, List.cons.injEq, Prod.mk.injEq, Row.ints.injEq, RW, Row.nlen, scalar, imp_self, and_true, true_and, lexT, heldT, tailT, planT, nb, Int.toNat_zero, List.getD_cons_zero, List.getD_cons_succ, List.set_cons_zero, List.set_cons_succ, sp, sb, eqL, eqRL]
  refine ⟨fun _ => trivial, fun hs => ?_⟩
  have hl := sz_pos hmx hs
  have hl2 : l.length ≤ 1048577 := by omega
  simp [h3, hl, hl2, upFrom_len, upR_len, upR_rec, heldL_up, heldR_up]
  try omega
set_option maxRecDepth 100000 in
theorem lawWidthWithout (n : Int) (l : List (List Int)) (g i : Int) (h3 : rec3 l) (hmx : l.length ≤ 9223372036854775807) : FC Try.prog 6 [.int .i64 n, .ro (.recs 3 l), .int .i64 g, .int .i64 i] (.bool true) [] := by
  refine fc_eval sp A7 A7_ok hT hm Try.func6 rfl (by kernel_rfl) rfl rfl ?_
  intro A S r0 fr0 hA hS hr hfr
  cbv
  (try simp only [nc] at *); subst hA hS hr hfr; simp (disch := (refine KR.mk ?_; kernel_rfl)) only [alg, obP_iff, condP_iff, retP_iff, retM_iff, ofNat_cast, nc, Int.toNat_natCast, decide_eq_true_eq, decide_eq_false_iff_not, wrap_w64, Bool.not_eq_true', Bool.not_eq_false', beq_iff_eq, beq_eq_false_iff_ne, AV.bool.injEq, AV.int.injEq, AV.t2.injEq, AV.t3.injEq, AV.own.injEq, List.cons.injEq, Prod.mk.injEq, Row.ints.injEq, RW, Row.nlen, scalar, imp_self, and_true, true_and, lexT, heldT, tailT, planT, nb, Int.toNat_zero, List.getD_cons_zero, List.getD_cons_succ, List.set_cons_zero, List.set_cons_succ, sp, sb, eqL, eqRL]
  refine ⟨fun _ => trivial, fun hs => ?_⟩
  have hl := sz_pos hmx hs
  have hl2 : l.length ≤ 1048577 := by omega
  simp [h3, hl, hl2, upFrom_len, upR_len, upR_rec, heldL_up, heldR_up]
  try omega
set_option maxRecDepth 100000 in
theorem lawRoomOfEntry (n : Int) (l : List (List Int)) (g i : Int) (h3 : rec3 l) (hmx : l.length ≤ 9223372036854775807) : FC Try.prog 9 [.int .i64 n, .ro (.recs 3 l), .int .i64 g, .int .i64 i] (.bool true) [] := by
  refine fc_eval sp A7 A7_ok hT hm Try.func9 rfl (by kernel_rfl) rfl rfl ?_
  intro A S r0 fr0 hA hS hr hfr
  cbv
  (try simp only [nc] at *); subst hA hS hr hfr; simp (disch := (refine KR.mk ?_; kernel_rfl)) only [alg, obP_iff, condP_iff, retP_iff, retM_iff, ofNat_cast, nc, Int.toNat_natCast, decide_eq_true_eq, decide_eq_false_iff_not, wrap_w64, Bool.not_eq_true', Bool.not_eq_false', beq_iff_eq, beq_eq_false_iff_ne, AV.bool.injEq, AV.int.injEq, AV.t2.injEq, AV.t3.injEq, AV.own.injEq, List.cons.injEq, Prod.mk.injEq, Row.ints.injEq, RW, Row.nlen, scalar, imp_self, and_true, true_and, lexT, heldT, tailT, planT, nb, Int.toNat_zero, List.getD_cons_zero, List.getD_cons_succ, List.set_cons_zero, List.set_cons_succ, sp, sb, eqL, eqRL]
  refine ⟨fun _ => trivial, fun hs => ?_⟩
  have hl := sz_pos hmx hs
  have hl2 : l.length ≤ 1048577 := by omega
  simp [h3, hl, hl2, upFrom_len, upR_len, upR_rec, heldL_up, heldR_up]
  try omega
set_option maxRecDepth 100000 in
theorem lawEntriesOver (n : Int) (l : List (List Int)) (c : Int) (h3 : rec3 l) (hmx : l.length ≤ 9223372036854775807) : FC Try.prog 7 [.int .i64 n, .ro (.recs 3 l), .int .i64 c] (.bool true) [] := by
  refine fc_eval sp A7 A7_ok hT hm Try.func7 rfl (by kernel_rfl) rfl rfl ?_
  intro A S r0 fr0 hA hS hr hfr
  cbv
  (try simp only [nc] at *); subst hA hS hr hfr; simp (disch := (refine KR.mk ?_; kernel_rfl)) only [alg, obP_iff, condP_iff, retP_iff, retM_iff, ofNat_cast, nc, Int.toNat_natCast, decide_eq_true_eq, decide_eq_false_iff_not, wrap_w64, Bool.not_eq_true', Bool.not_eq_false', beq_iff_eq, beq_eq_false_iff_ne, AV.bool.injEq, AV.int.injEq, AV.t2.injEq, AV.t3.injEq, AV.own.injEq, List.cons.injEq, Prod.mk.injEq, Row.ints.injEq, RW, Row.nlen, scalar, imp_self, and_true, true_and, lexT, heldT, tailT, planT, nb, Int.toNat_zero, List.getD_cons_zero, List.getD_cons_succ, List.set_cons_zero, List.set_cons_succ, sp, sb, eqL, eqRL]
  refine ⟨fun _ => trivial, fun hs => ?_⟩
  have hl := sz_pos hmx hs
  have hl2 : l.length ≤ 1048577 := by omega
  have hq := eoL_len n l c
  simp [h3, hl, hl2, upFrom_len, upR_len, upR_rec, heldL_up, heldR_up]
  try omega
set_option maxRecDepth 100000 in
theorem lawLeastStarts (n : Int) (l : List (List Int)) (g : Int) (h3 : rec3 l) (hmx : l.length ≤ 9223372036854775807) : FC Try.prog 8 [.int .i64 n, .ro (.recs 3 l), .int .i64 g] (.bool true) [] := by
  refine fc_eval sp A7 A7_ok hT hm Try.func8 rfl (by kernel_rfl) rfl rfl ?_
  intro A S r0 fr0 hA hS hr hfr
  cbv
  (try simp only [nc] at *); subst hA hS hr hfr; simp (disch := (refine KR.mk ?_; kernel_rfl)) only [alg, obP_iff, condP_iff, retP_iff, retM_iff, ofNat_cast, nc, Int.toNat_natCast, decide_eq_true_eq, decide_eq_false_iff_not, wrap_w64, Bool.not_eq_true', Bool.not_eq_false', beq_iff_eq, beq_eq_false_iff_ne, AV.bool.injEq, AV.int.injEq, AV.t2.injEq, AV.t3.injEq, AV.own.injEq, List.cons.injEq, Prod.mk.injEq, Row.ints.injEq, RW, Row.nlen, scalar, imp_self, and_true, true_and, lexT, heldT, tailT, planT, nb, Int.toNat_zero, List.getD_cons_zero, List.getD_cons_succ, List.set_cons_zero, List.set_cons_succ, sp, sb, eqL, eqRL]
  refine ⟨fun _ => trivial, fun hs => ?_⟩
  have hl := sz_pos hmx hs
  have hl2 : l.length ≤ 1048577 := by omega
  have hq := lsL_len n l g
  simp [h3, hl, hl2, upFrom_len, upR_len, upR_rec, heldL_up, heldR_up]
  try omega
set_option maxRecDepth 100000 in
theorem lawColumnWidths (n : Int) (l : List (List Int)) (g : Int) (h3 : rec3 l) (hmx : l.length ≤ 9223372036854775807) : FC Try.prog 10 [.int .i64 n, .ro (.recs 3 l), .int .i64 g] (.bool true) [] := by
  refine fc_eval sp A7 A7_ok hT hm Try.func10 rfl (by kernel_rfl) rfl rfl ?_
  intro A S r0 fr0 hA hS hr hfr
  cbv
  (try simp only [nc] at *); subst hA hS hr hfr; simp (disch := (refine KR.mk ?_; kernel_rfl)) only [alg, obP_iff, condP_iff, retP_iff, retM_iff, ofNat_cast, nc, Int.toNat_natCast, decide_eq_true_eq, decide_eq_false_iff_not, wrap_w64, Bool.not_eq_true', Bool.not_eq_false', beq_iff_eq, beq_eq_false_iff_ne, AV.bool.injEq, AV.int.injEq, AV.t2.injEq, AV.t3.injEq, AV.own.injEq, List.cons.injEq, Prod.mk.injEq, Row.ints.injEq, RW, Row.nlen, scalar, imp_self, and_true, true_and, lexT, heldT, tailT, planT, nb, Int.toNat_zero, List.getD_cons_zero, List.getD_cons_succ, List.set_cons_zero, List.set_cons_succ, sp, sb, eqL, eqRL]
  refine ⟨fun _ => trivial, fun hs => ?_⟩
  have hl := sz_pos hmx hs
  have hl2 : l.length ≤ 1048577 := by omega
  have hq := cwR_len n l g
  simp [h3, hl, hl2, upFrom_len, upR_len, upR_rec, heldL_up, heldR_up]
  try omega
set_option maxRecDepth 100000 in
theorem lawTightEntries (n : Int) (l : List (List Int)) (g : Int) (h3 : rec3 l) (hmx : l.length ≤ 9223372036854775807) : FC Try.prog 13 [.int .i64 n, .ro (.recs 3 l), .int .i64 g] (.bool true) [] := by
  refine fc_eval sp A7 A7_ok hT hm Try.func13 rfl (by kernel_rfl) rfl rfl ?_
  intro A S r0 fr0 hA hS hr hfr
  cbv
  (try simp only [nc] at *); subst hA hS hr hfr; simp (disch := (refine KR.mk ?_; kernel_rfl)) only [alg, obP_iff, condP_iff, retP_iff, retM_iff, ofNat_cast, nc, Int.toNat_natCast, decide_eq_true_eq, decide_eq_false_iff_not, wrap_w64, Bool.not_eq_true', Bool.not_eq_false', beq_iff_eq, beq_eq_false_iff_ne, AV.bool.injEq, AV.int.injEq, AV.t2.injEq, AV.t3.injEq, AV.own.injEq, List.cons.injEq, Prod.mk.injEq, Row.ints.injEq, RW, Row.nlen, scalar, imp_self, and_true, true_and, lexT, heldT, tailT, planT, nb, Int.toNat_zero, List.getD_cons_zero, List.getD_cons_succ, List.set_cons_zero, List.set_cons_succ, sp, sb, eqL, eqRL]
  refine ⟨fun _ => trivial, fun hs => ?_⟩
  have hl := sz_pos hmx hs
  have hl2 : l.length ≤ 1048577 := by omega
  have hq := tiL_len n l g
  simp [h3, hl, hl2, upFrom_len, upR_len, upR_rec, heldL_up, heldR_up]
  try omega
set_option maxRecDepth 100000 in
theorem lawLatestColumns (n : Int) (l : List (List Int)) (g t : Int) (h3 : rec3 l) (hmx : l.length ≤ 9223372036854775807) : FC Try.prog 12 [.int .i64 n, .ro (.recs 3 l), .int .i64 g, .int .i64 t] (.bool true) [] := by
  refine fc_eval sp A7 A7_ok hT hm Try.func12 rfl (by kernel_rfl) rfl rfl ?_
  intro A S r0 fr0 hA hS hr hfr
  cbv
  (try simp only [nc] at *); subst hA hS hr hfr; simp (disch := (refine KR.mk ?_; kernel_rfl)) only [alg, obP_iff, condP_iff, retP_iff, retM_iff, ofNat_cast, nc, Int.toNat_natCast, decide_eq_true_eq, decide_eq_false_iff_not, wrap_w64, Bool.not_eq_true', Bool.not_eq_false', beq_iff_eq, beq_eq_false_iff_ne, AV.bool.injEq, AV.int.injEq, AV.t2.injEq, AV.t3.injEq, AV.own.injEq, List.cons.injEq, Prod.mk.injEq, Row.ints.injEq, RW, Row.nlen, scalar, imp_self, and_true, true_and, lexT, heldT, tailT, planT, nb, Int.toNat_zero, List.getD_cons_zero, List.getD_cons_succ, List.set_cons_zero, List.set_cons_succ, sp, sb, eqL, eqRL]
  refine ⟨fun _ => trivial, fun hs => ?_⟩
  have hl := sz_pos hmx hs
  have hl2 : l.length ≤ 1048577 := by omega
  have hq := lcL_len n l g t
  simp [h3, hl, hl2, upFrom_len, upR_len, upR_rec, heldL_up, heldR_up]
  try omega
set_option maxRecDepth 100000 in
theorem lawSpreadTable (n : Int) (l : List (List Int)) (g t : Int) (h3 : rec3 l) (hmx : l.length ≤ 9223372036854775807) : FC Try.prog 11 [.int .i64 n, .ro (.recs 3 l), .int .i64 g, .int .i64 t] (.bool true) [] := by
  refine fc_eval sp A7 A7_ok hT hm Try.func11 rfl (by kernel_rfl) rfl rfl ?_
  intro A S r0 fr0 hA hS hr hfr
  cbv
  (try simp only [nc] at *); subst hA hS hr hfr; simp (disch := (refine KR.mk ?_; kernel_rfl)) only [alg, obP_iff, condP_iff, retP_iff, retM_iff, ofNat_cast, nc, Int.toNat_natCast, decide_eq_true_eq, decide_eq_false_iff_not, wrap_w64, Bool.not_eq_true', Bool.not_eq_false', beq_iff_eq, beq_eq_false_iff_ne, AV.bool.injEq, AV.int.injEq, AV.t2.injEq, AV.t3.injEq, AV.own.injEq, List.cons.injEq, Prod.mk.injEq, Row.ints.injEq, RW, Row.nlen, scalar, imp_self, and_true, true_and, lexT, heldT, tailT, planT, nb, Int.toNat_zero, List.getD_cons_zero, List.getD_cons_succ, List.set_cons_zero, List.set_cons_succ, sp, sb, eqL, eqRL]
  refine ⟨fun _ => trivial, fun hs => ?_⟩
  have hl := sz_pos hmx hs
  have hl2 : l.length ≤ 1048577 := by omega
  have hq := spR_len n l g t
  simp [h3, hl, hl2, upFrom_len, upR_len, upR_rec, heldL_up, heldR_up]
  try omega
set_option maxRecDepth 100000 in
theorem lawAddEntry (n : Int) (l : List (List Int)) (x : List Int) (h3 : rec3 l) (hmx : l.length ≤ 9223372036854775807) (hx : x.length = 3) : FC Try.prog 4 [.int .i64 n, .ro (.recs 3 l), .rc 3 x] (.bool true) [] := by
  refine fc_eval sp A7 A7_ok hT hm Try.func4 rfl (by kernel_rfl) rfl rfl ?_
  intro A S r0 fr0 hA hS hr hfr
  cbv
  (try simp only [nc] at *); subst hA hS hr hfr; simp (disch := (refine KR.mk ?_; kernel_rfl)) only [alg, obP_iff, condP_iff, retP_iff, retM_iff, ofNat_cast, nc, Int.toNat_natCast, decide_eq_true_eq, decide_eq_false_iff_not, wrap_w64, Bool.not_eq_true', Bool.not_eq_false', beq_iff_eq, beq_eq_false_iff_ne, AV.bool.injEq, AV.int.injEq, AV.t2.injEq, AV.t3.injEq, AV.own.injEq, List.cons.injEq, Prod.mk.injEq, Row.ints.injEq, RW, Row.nlen, scalar, imp_self, and_true, true_and, lexT, heldT, tailT, planT, nb, Int.toNat_zero, List.getD_cons_zero, List.getD_cons_succ, List.set_cons_zero, List.set_cons_succ, sp, sb, eqL, eqRL]
  refine ⟨fun _ => trivial, fun hs => ?_⟩
  have hl := sz_pos hmx hs
  have hl2 : l.length ≤ 1048577 := by omega
  have hq := addL_len n l x
  have hr := addL_rec (n := n) h3 hx
  simp [h3, hl, hl2, hx, hr, upFrom_len, upR_len, upR_rec, heldL_up, heldR_up]
  try omega
end Go.Proofs.Ytlfioonmofkpiaa
