/-
  Stocks: the laws on what a stock is, its length, its pieces, its rest.
-/
import Derived.Test.YtbnnpcfagkdobaaR1
set_option linter.unusedSimpArgs false
set_option linter.unusedVariables false
namespace Go.Proofs.Ytbnnpcfagkdobaa
open Go.Ab

def R3 (S : Sp) : List (Nat × (List AV → CR)) :=
  (15, fun args => match args with | [.ro (.recs 2 l)] => .pure (S.lm l) (.bool (S.stB l)) [] | _ => .no) ::
  (20, fun args => match args with | [.ro (.recs 2 l)] => .pure (S.lm l) (.t2 (.int .i64 (S.lenV l)) (.bool (S.stB l))) [] | _ => .no) ::
  (19, fun args => match args with | [.ro (.recs 2 l)] => .pure (S.lm l) (.t2 (.int .i64 (S.lenV l)) (.bool (S.stB l))) [] | _ => .no) ::
  (53, fun args => match args with | [.ro (.recs 2 l), .ro (.ints .i64 c)] => .pure (S.lm l ∧ S.sm c) (.bool (S.cB l c)) [] | _ => .no) ::
  (52, fun args => match args with | [.ro (.recs 2 l), .ro (.ints .i64 c)] => .pure (S.lm l ∧ S.sm c) (.bool (S.cB l c)) [] | _ => .no) ::
  (65, fun args => match args with | [.ro (.recs 2 l), .ro (.ints .i64 c)] => .pure (S.cl l c) (.own 0 true) [(57, .recs 2 (S.rsL l c))] | _ => .no) ::
  (64, fun args => match args with | [.ro (.recs 2 l), .ro (.ints .i64 c)] => .pure (S.cl l c) (.own 0 true) [(57, .recs 2 (S.rsL l c))] | _ => .no) ::
  (14, fun args => match args with | [.ro (.recs 2 l), .int .i64 k] => .pure (True) (.int .i64 (S.szV k l)) [] | _ => .no) ::
  (16, fun args => match args with | [.ro (.recs 2 l)] => .pure (S.rl l) (.own 0 false) [(57, .recs 2 l)] | _ => .no) ::
  (18, fun args => match args with | [.ro (.recs 2 a), .ro (.recs 2 b)] => .pure (S.rl a ∧ S.rl b) (.bool (S.eqRL a b)) [] | _ => .no) ::
  (27, fun args => match args with | [.ro (.recs 2 a), .int .i64 k] => .mut 0 (S.rl a ∧ S.kr k) (.int .i64 (S.upRK a k)) (.recs 2 (S.upR a k)) | _ => .no) ::
  (28, fun args => match args with | [.ro (.recs 2 a), .int .i64 k] => .pure (S.rl a ∧ S.kr k) (.int .i64 (S.heldR a k)) [] | _ => .no) ::
  R2 S
set_option maxRecDepth 100000 in
theorem R3_ok : TabOK Try.prog (tfind (R3 sp)) := by
  refine tab_cons (fun args => ?_) (tab_cons (fun args => ?_) (tab_cons (fun args => ?_) (tab_cons (fun args => ?_) (tab_cons (fun args => ?_) (tab_cons (fun args => ?_) (tab_cons (fun args => ?_) (tab_cons (fun args => ?_) (tab_cons (fun args => ?_) (tab_cons (fun args => ?_) (tab_cons (fun args => ?_) (tab_cons (fun args => ?_) (R2_ok))))))))))))
  · split
    · exact ent_pure fun h => specIsStock_ok _ h
    · exact ent_no
  · split
    · exact ent_pure fun h => implLen_ok _ h
    · exact ent_no
  · split
    · exact ent_pure fun h => specLen_ok _ h
    · exact ent_no
  · split
    · exact ent_pure fun h => implCnt_ok _ _ h.1 h.2
    · exact ent_no
  · split
    · exact ent_pure fun h => specCnt_ok _ _ h.1 h.2
    · exact ent_no
  · split
    · exact ent_pure fun h => implRest_ok _ _ h.2 h.1
    · exact ent_no
  · split
    · exact ent_pure fun h => specRest_ok _ _ h.2 h.1
    · exact ent_no
  · split
    · exact ent_pure fun _ => szS_ok _ _
    · exact ent_no
  · split
    · exact ent_pure fun h => toSS_ok _ h.1 h.2
    · exact ent_no
  · split
    · exact ent_pure fun h => eqSS_ok _ _ h.1.1 h.2.1 h.1.2
    · exact ent_no
  · split
    · exact ent_mut fun h => markS_ok _ _ h.1.1 h.1.2 h.2
    · exact ent_no
  · split
    · exact ent_pure fun h => heldS_ok _ _ h.1.1 h.1.2 h.2
    · exact ent_no
theorem implPc_ok (l : List (List Int)) (c : List Int) (hl : l.length ≤ 1048576) (hc : c.length ≤ 1048576) : FC Try.prog 23 [.ro (.recs 2 l), .ro (.ints .i64 c)] (.t3 (.int .i64 (pcN l c)) (.int .i64 (pcL l c)) (.bool (cB l c))) [] := by
  refine fc_eval sp R3 R3_ok hT hm Try.func23 rfl (by kernel_rfl) rfl rfl ?_
  intro A S r0 fr0 hA hS hr hfr
  cbv
  refine obP.mk (by subst hA hS; exact ⟨hl, hc⟩) (condP.mk (fun hc => ?_) (fun hc => ?_))
  · have hf : (!(cB l c)) = true := by subst hA hS; exact hc
    rw [Bool.not_eq_true'] at hf
    (try simp only [nc] at *); subst hA hS hr hfr; simp (disch := (refine KR.mk ?_; kernel_rfl)) only [alg, obP_iff, condP_iff, retP_iff, retM_iff, ofNat_cast, nc, Int.toNat_natCast, decide_eq_true_eq, decide_eq_false_iff_not, wrap_w64, Bool.not_eq_true', Bool.not_eq_false', beq_iff_eq, beq_eq_false_iff_ne, AV.bool.injEq, AV.int.injEq, AV.t2.injEq, AV.t3.injEq, AV.own.injEq, List.cons.injEq, Prod.mk.injEq, Row.ints.injEq, RW, Row.nlen, scalar, imp_self, and_true, true_and, lexT, heldT, tailT, planT, nb, Int.toNat_zero, List.getD_cons_zero, List.getD_cons_succ, List.set_cons_zero, List.set_cons_succ, sp, sb]
    simp [hf, pcN, pcL]
  · have hf : (!(cB l c)) = false := by subst hA hS; exact hc
    rw [Bool.not_eq_false'] at hf
    have hb := cB_len hf
    obtain ⟨L, hL⟩ : ∃ L : Int, L = c.length := ⟨_, rfl⟩
    refine loop2 (fun (i : Nat) (q : Int) => ⟨fr 34 [(0, .ro (.recs 2 l)), (1, .ro (.ints .i64 c)), (7, .int .i64 q), (14, .ro (.ints .i64 c)), (15, .int .i64 L), (16, .int .i64 i)], [.dead]⟩)
      (fun i q => i ≤ c.length ∧ q = pcF l c i) (fun i _ => c.length - i) 0 0 ?_ ?_ ?_
    · subst hA hS; simp [Wk_iff, fr, undefs, wkT, wkV, wkH, okid, Row.nlen, getO, alg, hL]
    · exact ⟨by omega, rfl⟩
    · rintro i q ⟨h1, h2⟩
      cbv
      (try simp only [nc] at *); subst hA hS hr hfr; simp (disch := (refine KR.mk ?_; kernel_rfl)) only [alg, obP_iff, condP_iff, retP_iff, retM_iff, ofNat_cast, nc, Int.toNat_natCast, decide_eq_true_eq, decide_eq_false_iff_not, wrap_w64, Bool.not_eq_true', Bool.not_eq_false', beq_iff_eq, beq_eq_false_iff_ne, AV.bool.injEq, AV.int.injEq, AV.t2.injEq, AV.t3.injEq, AV.own.injEq, List.cons.injEq, Prod.mk.injEq, Row.ints.injEq, RW, Row.nlen, scalar, imp_self, and_true, true_and, lexT, heldT, tailT, planT, nb, Int.toNat_zero, List.getD_cons_zero, List.getD_cons_succ, List.set_cons_zero, List.set_cons_succ, sp, sb]
      have wj : w64 ((i : Int) + 1) = ((i + 1 : Nat) : Int) ∨ True := .inr trivial
      refine ⟨fun hi => ⟨by omega, by omega, i + 1, pcF l c (i + 1), ?_, ⟨by omega, rfl⟩, by omega⟩, fun hi => ?_⟩
      · have wj : w64 ((i : Int) + 1) = ((i + 1 : Nat) : Int) := by rw [w64_id (by omega)]; omega
        simp only [wj, pcF_succ, ← h2, fL]
        simp [Wk_iff, fr, undefs, wkT, wkV, wkH, okid, Row.nlen, getO]
      · have : i = c.length := by omega
        subst this
        rw [pcN, pcL, if_pos hf, if_pos hf, h2, hf]
        exact ⟨by omega, rfl, rfl, rfl⟩
theorem specPc_ok (l : List (List Int)) (c : List Int) (hl : l.length ≤ 1048576) (hc : c.length ≤ 1048576) : FC Try.prog 21 [.ro (.recs 2 l), .ro (.ints .i64 c)] (.t3 (.int .i64 (pcN l c)) (.int .i64 (pcL l c)) (.bool (cB l c))) [] := by
  refine fc_eval sp R3 R3_ok hT hm Try.func21 rfl (by kernel_rfl) rfl rfl ?_
  intro A S r0 fr0 hA hS hr hfr
  cbv
  refine obP.mk (by subst hA hS; exact ⟨hl, hc⟩) (condP.mk (fun hc => ?_) (fun hc => ?_))
  · have hf : (!(cB l c)) = true := by subst hA hS; exact hc
    rw [Bool.not_eq_true'] at hf
    (try simp only [nc] at *); subst hA hS hr hfr; simp (disch := (refine KR.mk ?_; kernel_rfl)) only [alg, obP_iff, condP_iff, retP_iff, retM_iff, ofNat_cast, nc, Int.toNat_natCast, decide_eq_true_eq, decide_eq_false_iff_not, wrap_w64, Bool.not_eq_true', Bool.not_eq_false', beq_iff_eq, beq_eq_false_iff_ne, AV.bool.injEq, AV.int.injEq, AV.t2.injEq, AV.t3.injEq, AV.own.injEq, List.cons.injEq, Prod.mk.injEq, Row.ints.injEq, RW, Row.nlen, scalar, imp_self, and_true, true_and, lexT, heldT, tailT, planT, nb, Int.toNat_zero, List.getD_cons_zero, List.getD_cons_succ, List.set_cons_zero, List.set_cons_succ, sp, sb]
    simp [hf, pcN, pcL]
  · have hf : (!(cB l c)) = false := by subst hA hS; exact hc
    rw [Bool.not_eq_false'] at hf
    have hb := cB_len hf
    obtain ⟨L, hL⟩ : ∃ L : Int, L = c.length := ⟨_, rfl⟩
    refine loop3 (fun (i : Nat) (p q : Int) => ⟨fr 37 [(0, .ro (.recs 2 l)), (7, .int .i64 p), (8, .int .i64 q), (15, .ro (.ints .i64 c)), (16, .int .i64 L), (17, .int .i64 i)], [.dead]⟩)
      (fun i p q => i ≤ c.length ∧ q = pcF l c i ∧ sumF c 0 = sumF (c.drop i) p) (fun i _ _ => c.length - i) 0 0 0 ?_ ?_ ?_
    · subst hA hS; simp [Wk_iff, fr, undefs, wkT, wkV, wkH, okid, Row.nlen, getO, alg, hL]
    · exact ⟨by omega, rfl, rfl⟩
    · rintro i p q ⟨h1, h2, h3⟩
      cbv
      (try simp only [nc] at *); subst hA hS hr hfr; simp (disch := (refine KR.mk ?_; kernel_rfl)) only [alg, obP_iff, condP_iff, retP_iff, retM_iff, ofNat_cast, nc, Int.toNat_natCast, decide_eq_true_eq, decide_eq_false_iff_not, wrap_w64, Bool.not_eq_true', Bool.not_eq_false', beq_iff_eq, beq_eq_false_iff_ne, AV.bool.injEq, AV.int.injEq, AV.t2.injEq, AV.t3.injEq, AV.own.injEq, List.cons.injEq, Prod.mk.injEq, Row.ints.injEq, RW, Row.nlen, scalar, imp_self, and_true, true_and, lexT, heldT, tailT, planT, nb, Int.toNat_zero, List.getD_cons_zero, List.getD_cons_succ, List.set_cons_zero, List.set_cons_succ, sp, sb]
      refine ⟨fun hi => ⟨by omega, by omega, i + 1, w64 (p + c.getD i 0), pcF l c (i + 1), ?_, ⟨by omega, rfl, ?_⟩, by omega⟩, fun hi => ?_⟩
      · have wj : w64 ((i : Int) + 1) = ((i + 1 : Nat) : Int) := by rw [w64_id (by omega)]; omega
        simp only [wj, pcF_succ, ← h2, fL]
        simp [Wk_iff, fr, undefs, wkT, wkV, wkH, okid, Row.nlen, getO]
      · rw [h3, sumF_drop _ _ _ (by omega)]
      · have : i = c.length := by omega
        rw [pcN, pcL, if_pos hf, if_pos hf, h3, sumF_end _ _ _ (by omega), h2, hf, this]
        exact ⟨rfl, rfl, rfl⟩
theorem implRs_ok (l : List (List Int)) (c : List Int) (hl : l.length ≤ 1048576) (hc : c.length ≤ 1048576) : FC Try.prog 34 [.ro (.recs 2 l), .ro (.ints .i64 c)] (.t2 (.own 0 true) (.bool (cB l c))) [(57, .recs 2 (rsR l c))] := by
  refine fc_eval sp R3 R3_ok hT hm Try.func34 rfl (by kernel_rfl) rfl rfl ?_
  intro A S r0 fr0 hA hS hr hfr
  cbv
  (try simp only [nc] at *); subst hA hS hr hfr; simp (disch := (refine KR.mk ?_; kernel_rfl)) only [alg, obP_iff, condP_iff, retP_iff, retM_iff, ofNat_cast, nc, Int.toNat_natCast, decide_eq_true_eq, decide_eq_false_iff_not, wrap_w64, Bool.not_eq_true', Bool.not_eq_false', beq_iff_eq, beq_eq_false_iff_ne, AV.bool.injEq, AV.int.injEq, AV.t2.injEq, AV.t3.injEq, AV.own.injEq, List.cons.injEq, Prod.mk.injEq, Row.ints.injEq, RW, Row.nlen, scalar, imp_self, and_true, true_and, lexT, heldT, tailT, planT, nb, Int.toNat_zero, List.getD_cons_zero, List.getD_cons_succ, List.set_cons_zero, List.set_cons_succ, sp, sb, rsR]
  refine ⟨⟨hl, hc⟩, fun h => by simp [h], fun h => ⟨⟨?_, hl⟩, by simp [h]⟩⟩
  have := cB_len h; omega
theorem specRs_ok (l : List (List Int)) (c : List Int) (hl : l.length ≤ 1048576) (hc : c.length ≤ 1048576) : FC Try.prog 33 [.ro (.recs 2 l), .ro (.ints .i64 c)] (.t2 (.own 0 true) (.bool (cB l c))) [(57, .recs 2 (rsR l c))] := by
  refine fc_eval sp R3 R3_ok hT hm Try.func33 rfl (by kernel_rfl) rfl rfl ?_
  intro A S r0 fr0 hA hS hr hfr
  cbv
  (try simp only [nc] at *); subst hA hS hr hfr; simp (disch := (refine KR.mk ?_; kernel_rfl)) only [alg, obP_iff, condP_iff, retP_iff, retM_iff, ofNat_cast, nc, Int.toNat_natCast, decide_eq_true_eq, decide_eq_false_iff_not, wrap_w64, Bool.not_eq_true', Bool.not_eq_false', beq_iff_eq, beq_eq_false_iff_ne, AV.bool.injEq, AV.int.injEq, AV.t2.injEq, AV.t3.injEq, AV.own.injEq, List.cons.injEq, Prod.mk.injEq, Row.ints.injEq, RW, Row.nlen, scalar, imp_self, and_true, true_and, lexT, heldT, tailT, planT, nb, Int.toNat_zero, List.getD_cons_zero, List.getD_cons_succ, List.set_cons_zero, List.set_cons_succ, sp, sb, rsR]
  refine ⟨⟨hl, hc⟩, fun h => by simp [h], fun h => ⟨⟨?_, hl⟩, by simp [h]⟩⟩
  have := cB_len h; omega

def R4 (S : Sp) : List (Nat × (List AV → CR)) :=
  (23, fun args => match args with | [.ro (.recs 2 l), .ro (.ints .i64 c)] => .pure (S.lm l ∧ S.sm c) (.t3 (.int .i64 (S.pcN l c)) (.int .i64 (S.pcL l c)) (.bool (S.cB l c))) [] | _ => .no) ::
  (21, fun args => match args with | [.ro (.recs 2 l), .ro (.ints .i64 c)] => .pure (S.lm l ∧ S.sm c) (.t3 (.int .i64 (S.pcN l c)) (.int .i64 (S.pcL l c)) (.bool (S.cB l c))) [] | _ => .no) ::
  (34, fun args => match args with | [.ro (.recs 2 l), .ro (.ints .i64 c)] => .pure (S.lm l ∧ S.sm c) (.t2 (.own 0 true) (.bool (S.cB l c))) [(57, .recs 2 (S.rsR l c))] | _ => .no) ::
  (33, fun args => match args with | [.ro (.recs 2 l), .ro (.ints .i64 c)] => .pure (S.lm l ∧ S.sm c) (.t2 (.own 0 true) (.bool (S.cB l c))) [(57, .recs 2 (S.rsR l c))] | _ => .no) ::
  R3 S
set_option maxRecDepth 100000 in
theorem R4_ok : TabOK Try.prog (tfind (R4 sp)) := by
  refine tab_cons (fun args => ?_) (tab_cons (fun args => ?_) (tab_cons (fun args => ?_) (tab_cons (fun args => ?_) (R3_ok))))
  · split
    · exact ent_pure fun h => implPc_ok _ _ h.1 h.2
    · exact ent_no
  · split
    · exact ent_pure fun h => specPc_ok _ _ h.1 h.2
    · exact ent_no
  · split
    · exact ent_pure fun h => implRs_ok _ _ h.1 h.2
    · exact ent_no
  · split
    · exact ent_pure fun h => specRs_ok _ _ h.1 h.2
    · exact ent_no
theorem rsR_len (l : List (List Int)) (c : List Int) : (rsR l c).length ≤ 8 := by
  unfold rsR; split
  · rename_i h; have := cB_len h; simp [rsL]; omega
  · simp
theorem rsR_rec {l : List (List Int)} (c : List Int) (h : rec2 l) : rec2 (rsR l c) := by
  unfold rsR; split
  · rename_i hc
    have hb := cB_len hc
    intro y hy
    simp only [rsL, List.mem_append, List.mem_map, List.mem_range] at hy
    rcases hy with ⟨i, hi, rfl⟩ | hy
    · obtain ⟨a, b, e⟩ := rec2_get h (i := i) (by omega)
      rw [rsX, e]; rfl
    · exact h y (List.mem_of_mem_drop hy)
  · intro y hy; simp at hy
set_option maxRecDepth 100000 in
theorem lawIsStock (l : List (List Int)) (h2 : rec2 l) (hmx : l.length ≤ 9223372036854775807) : FC Try.prog 3 [.ro (.recs 2 l)] (.bool true) [] := by
  refine fc_eval sp R4 R4_ok hT hm Try.func3 rfl (by kernel_rfl) rfl rfl ?_
  intro A S r0 fr0 hA hS hr hfr
  cbv
  (try simp only [nc] at *); subst hA hS hr hfr; simp (disch := (refine KR.mk ?_; kernel_rfl)) only [alg, obP_iff, condP_iff, retP_iff, retM_iff, ofNat_cast, nc, Int.toNat_natCast, decide_eq_true_eq, decide_eq_false_iff_not, wrap_w64, Bool.not_eq_true', Bool.not_eq_false', beq_iff_eq, beq_eq_false_iff_ne, AV.bool.injEq, AV.int.injEq, AV.t2.injEq, AV.t3.injEq, AV.own.injEq, List.cons.injEq, Prod.mk.injEq, Row.ints.injEq, RW, Row.nlen, scalar, imp_self, and_true, true_and, lexT, heldT, tailT, planT, nb, Int.toNat_zero, List.getD_cons_zero, List.getD_cons_succ, List.set_cons_zero, List.set_cons_succ, sp, sb, eqL, eqRL]
  refine ⟨fun _ => trivial, fun hs => ?_⟩
  have hl := sz_pos hmx hs
  simp [h2, hl]
set_option maxRecDepth 100000 in
theorem lawStockLength (l : List (List Int)) (h2 : rec2 l) (hmx : l.length ≤ 9223372036854775807) : FC Try.prog 4 [.ro (.recs 2 l)] (.bool true) [] := by
  refine fc_eval sp R4 R4_ok hT hm Try.func4 rfl (by kernel_rfl) rfl rfl ?_
  intro A S r0 fr0 hA hS hr hfr
  cbv
  (try simp only [nc] at *); subst hA hS hr hfr; simp (disch := (refine KR.mk ?_; kernel_rfl)) only [alg, obP_iff, condP_iff, retP_iff, retM_iff, ofNat_cast, nc, Int.toNat_natCast, decide_eq_true_eq, decide_eq_false_iff_not, wrap_w64, Bool.not_eq_true', Bool.not_eq_false', beq_iff_eq, beq_eq_false_iff_ne, AV.bool.injEq, AV.int.injEq, AV.t2.injEq, AV.t3.injEq, AV.own.injEq, List.cons.injEq, Prod.mk.injEq, Row.ints.injEq, RW, Row.nlen, scalar, imp_self, and_true, true_and, lexT, heldT, tailT, planT, nb, Int.toNat_zero, List.getD_cons_zero, List.getD_cons_succ, List.set_cons_zero, List.set_cons_succ, sp, sb, eqL, eqRL]
  refine ⟨fun _ => trivial, fun hs => ?_⟩
  have hl := sz_pos hmx hs
  simp [h2, hl]
set_option maxRecDepth 100000 in
theorem lawPiecesOf (l : List (List Int)) (c : List Int) (h2 : rec2 l) (hmx : l.length ≤ 9223372036854775807) : FC Try.prog 5 [.ro (.recs 2 l), .ro (.ints .i64 c)] (.bool true) [] := by
  refine fc_eval sp R4 R4_ok hT hm Try.func5 rfl (by kernel_rfl) rfl rfl ?_
  intro A S r0 fr0 hA hS hr hfr
  cbv
  (try simp only [nc] at *); subst hA hS hr hfr; simp (disch := (refine KR.mk ?_; kernel_rfl)) only [alg, obP_iff, condP_iff, retP_iff, retM_iff, ofNat_cast, nc, Int.toNat_natCast, decide_eq_true_eq, decide_eq_false_iff_not, wrap_w64, Bool.not_eq_true', Bool.not_eq_false', beq_iff_eq, beq_eq_false_iff_ne, AV.bool.injEq, AV.int.injEq, AV.t2.injEq, AV.t3.injEq, AV.own.injEq, List.cons.injEq, Prod.mk.injEq, Row.ints.injEq, RW, Row.nlen, scalar, imp_self, and_true, true_and, lexT, heldT, tailT, planT, nb, Int.toNat_zero, List.getD_cons_zero, List.getD_cons_succ, List.set_cons_zero, List.set_cons_succ, sp, sb, eqL, eqRL]
  refine ⟨fun _ => trivial, fun hc => ⟨fun _ => trivial, fun hs => ?_⟩⟩
  have hl := sz_pos hmx hs
  have hc2 : c.length ≤ 1048576 := by omega
  simp [h2, hl, hc2]
  try omega
set_option maxRecDepth 100000 in
theorem lawRestOfStock (l : List (List Int)) (c : List Int) (h2 : rec2 l) (hmx : l.length ≤ 9223372036854775807) : FC Try.prog 9 [.ro (.recs 2 l), .ro (.ints .i64 c)] (.bool true) [] := by
  refine fc_eval sp R4 R4_ok hT hm Try.func9 rfl (by kernel_rfl) rfl rfl ?_
  intro A S r0 fr0 hA hS hr hfr
  cbv
  (try simp only [nc] at *); subst hA hS hr hfr; simp (disch := (refine KR.mk ?_; kernel_rfl)) only [alg, obP_iff, condP_iff, retP_iff, retM_iff, ofNat_cast, nc, Int.toNat_natCast, decide_eq_true_eq, decide_eq_false_iff_not, wrap_w64, Bool.not_eq_true', Bool.not_eq_false', beq_iff_eq, beq_eq_false_iff_ne, AV.bool.injEq, AV.int.injEq, AV.t2.injEq, AV.t3.injEq, AV.own.injEq, List.cons.injEq, Prod.mk.injEq, Row.ints.injEq, RW, Row.nlen, scalar, imp_self, and_true, true_and, lexT, heldT, tailT, planT, nb, Int.toNat_zero, List.getD_cons_zero, List.getD_cons_succ, List.set_cons_zero, List.set_cons_succ, sp, sb, eqL, eqRL]
  have hq := rsR_len l c
  have hr := rsR_rec c h2
  refine ⟨fun _ => trivial, fun hc => ⟨fun _ => trivial, fun hs => ?_⟩⟩
  have hl := sz_pos hmx hs
  have hc2 : c.length ≤ 1048576 := by omega
  simp [h2, hl, hc2, hr, upR_len, upR_rec, upFrom_len, heldR_up, heldL_up]
  try omega
end Go.Proofs.Ytbnnpcfagkdobaa
